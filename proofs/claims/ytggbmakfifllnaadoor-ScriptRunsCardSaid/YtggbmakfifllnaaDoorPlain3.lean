/- Plain: the program's. -/
import Derived.Test.YtggbmakfifllnaaDoorPlain2
namespace Go.Proofs.YtggbmakfifllnaaDoor
open Go Go.D Go.Proofs
set_option linter.unusedSimpArgs false
set_option linter.unusedVariables false
set_option maxRecDepth 8000

def smallL : List UInt8 := [97, 98, 99, 100, 101, 102, 103, 104, 105, 106, 107, 108, 109, 110, 111, 112, 113, 114, 115, 116, 117, 118, 119, 120, 121, 122]
def wordsL : List UInt8 := [97, 98, 99, 100, 101, 102, 103, 104, 105, 106, 107, 108, 109, 110, 111, 112, 113, 114, 115, 116, 117, 118, 119, 120, 121, 122, 65, 66, 67, 68, 69, 70, 71, 72, 73, 74, 75, 76, 77, 78, 79, 80, 81, 82, 83, 84, 85, 86, 87, 88, 89, 90, 48, 49, 50, 51, 52, 53, 54, 55, 56, 57, 95]

theorem byteAll {p : UInt8 → Bool} (h : (List.range 256).all (fun n => p (UInt8.ofNat n)) = true) (c : UInt8) : p c = true := by
  have hc := c.toNat_lt
  have := List.all_eq_true.1 h c.toNat (List.mem_range.2 (by omega))
  simpa using this

theorem small_mem (c : UInt8) : decide (c ∈ smallL) = isSmall c.toNat := by
  have := byteAll (p := fun c => decide (c ∈ smallL) == isSmall c.toNat) (by decide +kernel) c
  simpa using this

theorem word_mem (c : UInt8) : decide (c ∈ wordsL) = isWord c.toNat := by
  have := byteAll (p := fun c => decide (c ∈ wordsL) == isWord c.toNat) (by decide +kernel) c
  simpa using this

theorem sign_mem (c : UInt8) : decide (c ∈ signsL) = isSign c.toNat := by
  have := byteAll (p := fun c => decide (c ∈ signsL) == isSign c.toNat) (by decide +kernel) c
  simpa using this

section
variable {w : World} {l : List UInt8}

theorem prefix2_ok {K : Bool → World → Prop} (hl : l.length < 2 ^ 40) (hK : K (decide (l.take 2 = [47, 42])) w) : C_strings_HasPrefix ⟨l.toArray⟩ ⟨#[47, 42]⟩ w K := by
  apply C_strings_HasPrefix.of
  unfold F_strings_HasPrefix
  apply C_internal_stringslite_HasPrefix.of
  unfold F_internal_stringslite_HasPrefix
  have h2 : ((⟨#[47, 42]⟩ : ByteArray).size : Int) = 2 := rfl
  rw [h2]
  refine ifC (fun hc => ?_) (fun hc => ?_)
  · simp [sizeL] at hc
    refine ⟨by omega, by rw [sizeL]; omega, ?_⟩
    rw [exL]
    have e7 := strEq ⟨((l.take (2 : Int).toNat).drop 0).toArray⟩ ⟨#[47, 42]⟩
    rw [e7]
    simpa using hK
  · simp [sizeL] at hc
    rw [decide_eq_false] at hK
    · exact hK
    · intro h
      have := congrArg List.length h
      rw [List.length_take] at this
      simp at this
      omega

theorem Plain_ok {K : Bool → World → Prop} (hl : l.length < 2 ^ 40) (hK : ∀ w', Upd [] w w' → K (plainP l) w') : C_token_Plain ⟨l.toArray⟩ w K := by
  apply C_token_Plain.of
  unfold F_token_Plain
  have hst : ∀ m : List UInt8, ((⟨l.toArray⟩ : ByteArray).toList == (⟨m.toArray⟩ : ByteArray).toList) = decide (l = m) := fun m => by rw [strEq]
  have e1 := hst [33]
  have e2 := hst [59]
  have e3 := hst [91, 93]
  have e4 := hst [123, 125]
  have e5 := hst []
  have e6 := hst [46]
  rw [e1, e2, e3, e4]
  -- the three last questions
  have k1 : ¬ (l = [33] ∨ l = [59] ∨ l = [91, 93] ∨ l = [123, 125]) → ∀ t, t = decide (l = [] ∨ l = [46]) → F_token_Plain_k1 ⟨l.toArray⟩ K t w := by
    intro h0 t ht
    subst ht
    unfold plainP at hK
    rw [if_neg h0] at hK
    unfold F_token_Plain_k1 F_token_Plain_k3
    refine ifC (fun h => ?_) (fun h5 => ?_)
    · have h : l = [] ∨ l = [46] := by simpa using h
      rw [if_pos (by rcases h with h | h <;> simp [h])] at hK
      exact hK w (Upd.refl _ _)
    · have h5 : ¬ (l = [] ∨ l = [46]) := by simpa using h5
      refine prefix2_ok hl (ifC (fun h => ?_) (fun h => ?_))
      · have h : l.take 2 = [47, 42] := by simpa using h
        rw [if_pos (by simp [h])] at hK
        exact hK w (Upd.refl _ _)
      · have h : ¬ l.take 2 = [47, 42] := by simpa using h
        rw [if_neg (by rintro (a | a | a); exact h5 (.inl a); exact h5 (.inr a); exact h a)] at hK
        obtain ⟨x, r, hxr⟩ : ∃ x r, l = x :: r := by
          rcases l with _ | ⟨x, r⟩
          · exact absurd (.inl rfl) h5
          · exact ⟨x, r, rfl⟩
        have hh : l.head?.any (fun c => isSmall c.toNat) = isSmall x.toNat := by rw [hxr]; rfl
        rw [hh] at hK
        have hsg : ∀ w1, Upd [] w w1 → (isSmall x.toNat && l.all fun c => isWord c.toNat) = false → C_token_all ⟨l.toArray⟩ ⟨#[43, 45, 42, 47, 92, 94, 60, 62, 61, 126, 58, 46, 63, 64, 35, 38, 36]⟩ w1 fun t23 w1_5 => K t23 w1_5 := by
          intro w1 u1 hf
          refine all_ok (o := signsL) (by decide) hl fun w2 u2 => ?_
          have := hK w2 (u1.after u2)
          rw [hf, Bool.false_or] at this
          have e : (l.all fun c => decide (c ∈ signsL)) = l.all fun c => isSign c.toNat := by congr 1; funext c; exact sign_mem c
          rw [e]; exact this
        refine ⟨by omega, x, by rw [Int.toNat_zero, atL, hxr]; rfl, ?_⟩
        refine in_ok (o := smallL) ?_
        rw [small_mem]
        refine ifC (fun g => ?_) (fun g => ?_)
        · refine all_ok (o := wordsL) (by decide) hl fun w2 u2 => ?_
          have e : (l.all fun c => decide (c ∈ wordsL)) = l.all fun c => isWord c.toNat := by congr 1; funext c; exact word_mem c
          rw [e]
          refine ifC (fun g2 => ?_) (fun g2 => ?_)
          · have := hK w2 u2
            rw [g, g2] at this; exact this
          · exact hsg w2 u2 (by rw [g2, Bool.and_false])
        · exact hsg w (Upd.refl _ _) (by rw [g, Bool.false_and])
  have k2 : ∀ t, t = decide (l = [33] ∨ l = [59] ∨ l = [91, 93] ∨ l = [123, 125]) → F_token_Plain_k2 ⟨l.toArray⟩ K t w := by
    intro t ht
    subst ht
    unfold F_token_Plain_k2
    refine ifC (fun h => ?_) (fun h => ?_)
    · have h := of_decide_eq_true h
      have := hK w (Upd.refl _ _)
      unfold plainP at this
      rw [if_pos h] at this; exact this
    · have h := of_decide_eq_false h
      rw [e5, e6]
      refine ifC (fun h1 => ?_) (fun h1 => ?_)
      · have h1 := of_decide_eq_true h1
        exact k1 h _ (decide_eq_decide.2 (by simp [h1]))
      · have h1 := of_decide_eq_false h1
        exact k1 h _ (decide_eq_decide.2 (by simp [h1]))
  refine ifC (fun h => ?_) (fun h1 => ?_)
  · have h := of_decide_eq_true h
    exact k2 _ (decide_eq_decide.2 (by simp [h]))
  have h1 := of_decide_eq_false h1
  refine ifC (fun h => ?_) (fun h2 => ?_)
  · have h := of_decide_eq_true h
    exact k2 _ (decide_eq_decide.2 (by simp [h]))
  have h2 := of_decide_eq_false h2
  refine ifC (fun h => ?_) (fun h3 => ?_)
  · have h := of_decide_eq_true h
    exact k2 _ (decide_eq_decide.2 (by simp [h]))
  have h3 := of_decide_eq_false h3
  exact k2 _ (decide_eq_decide.2 (by simp [h1, h2, h3]))
end

end Go.Proofs.YtggbmakfifllnaaDoor
