/- Names that may stand as they are: the document's way. -/
import Derived.Test.YtggbmakfifllnaaDoorBuild2
namespace Go.Proofs.YtggbmakfifllnaaDoor
open Go Go.D Go.Proofs
set_option linter.unusedSimpArgs false
set_option linter.unusedVariables false
set_option maxRecDepth 8000

def isSmall (c : Nat) : Bool := decide (97 ≤ c) && decide (c ≤ 122)
def isWord (c : Nat) : Bool := isSmall c || (decide (65 ≤ c) && decide (c ≤ 90)) || (decide (48 ≤ c) && decide (c ≤ 57)) || decide (c = 95)
def signsL : List UInt8 := [43, 45, 42, 47, 92, 94, 60, 62, 61, 126, 58, 46, 63, 64, 35, 38, 36]
def isSign (c : Nat) : Bool := signsL.any fun x => decide (x.toNat = c)

/-- May a name stand as it is? -/
def plainP (l : List UInt8) : Bool :=
  if l = [33] ∨ l = [59] ∨ l = [91, 93] ∨ l = [123, 125] then true
  else if l = [] ∨ l = [46] ∨ l.take 2 = [47, 42] then false
  else (l.head?.any (fun c => isSmall c.toNat) && l.all (fun c => isWord c.toNat)) || l.all (fun c => isSign c.toNat)

theorem sizeL (l : List UInt8) : (⟨l.toArray⟩ : ByteArray).size = l.length := rfl

theorem exL (l : List UInt8) (i j : Nat) : (⟨l.toArray⟩ : ByteArray).extract i j = ⟨((l.take j).drop i).toArray⟩ := by
  apply ByteArray.ext
  rw [ByteArray.data_extract]
  simp [List.drop_take]

theorem atL (l : List UInt8) (i : Nat) : (⟨l.toArray⟩ : ByteArray)[i]? = l[i]? := by
  by_cases h : i < l.length
  · rw [List.getElem?_eq_getElem h, getElem?_pos (⟨l.toArray⟩ : ByteArray) i (by rw [sizeL]; exact h)]
    rfl
  · rw [List.getElem?_eq_none (by omega), getElem?_neg (⟨l.toArray⟩ : ByteArray) i (by rw [sizeL]; exact h)]

section
variable {w : World} {c : Nat} {l : List UInt8}

theorem small_ok {K : Bool → World → Prop} (hK : K (isSmall c) w) : C_ref08_small (c : Int) w K := by
  apply C_ref08_small.of
  unfold F_ref08_small
  unfold isSmall at hK
  refine ifC (fun h => ?_) (fun h => ?_)
  · simp at h
    have e : (decide (97 ≤ c) && decide (c ≤ 122)) = decide ((c : Int) ≤ 122) := by
      rw [decide_eq_true (by omega), Bool.true_and]; exact decide_eq_decide.2 (by omega)
    rw [e] at hK; exact hK
  · simp at h
    rw [decide_eq_false (by omega), Bool.false_and] at hK; exact hK

theorem word_ok {K : Bool → World → Prop} (hK : K (isWord c) w) : C_ref08_word (c : Int) w K := by
  apply C_ref08_word.of
  unfold F_ref08_word F_ref08_word_k1 F_ref08_word_k2
  refine small_ok ?_
  unfold isWord at hK
  have e95 : ((c : Int) == 95) = decide (c = 95) := by
    by_cases h : c = 95
    · subst h; rfl
    · rw [decide_eq_false h]; simp; omega
  refine ifC (fun h => ?_) (fun h => ?_)
  · rw [h] at hK; simpa using hK
  · rw [h] at hK
    simp only [Bool.false_or] at hK
    refine ifC (fun h1 => ?_) (fun h1 => ?_)
    · simp at h1
      rw [decide_eq_true (show 65 ≤ c by omega)] at hK
      refine ifC (fun h2 => ?_) (fun h2 => ?_)
      · simp at h2
        rw [decide_eq_true (show c ≤ 90 by omega)] at hK; simpa using hK
      · simp at h2
        rw [decide_eq_false (show ¬ c ≤ 90 by omega), decide_eq_false (show ¬ c ≤ 57 by omega)] at hK
        refine ifC (fun h3 => ?_) (fun h3 => ?_)
        · refine ifF (by simp; omega) ?_
          rw [e95]; simpa using hK
        · rw [e95]; simpa using hK
    · simp at h1
      rw [decide_eq_false (show ¬ 65 ≤ c by omega)] at hK
      refine ifC (fun h3 => ?_) (fun h3 => ?_)
      · simp at h3
        rw [decide_eq_true (show 48 ≤ c by omega)] at hK
        refine ifC (fun h4 => ?_) (fun h4 => ?_)
        · simp at h4
          rw [decide_eq_true (show c ≤ 57 by omega)] at hK; simpa using hK
        · simp at h4
          rw [decide_eq_false (show ¬ c ≤ 57 by omega)] at hK
          rw [e95]; simpa using hK
      · simp at h3
        rw [decide_eq_false (show ¬ 48 ≤ c by omega)] at hK
        rw [e95]; simpa using hK

theorem rsign_ok {K : Bool → World → Prop} (hK : K (isSign c) w) : C_ref08_sign (c : Int) w K := by
  apply C_ref08_sign.of
  unfold F_ref08_sign F_ref08_sign_L1
  refine ⟨fun s v => ∃ i : Nat, s.i = i ∧ i ≤ 17 ∧ v = w ∧ isSign c = (signsL.drop i).any fun x => decide (x.toNat = c), fun s _ => (17 - s.i).toNat, ⟨0, rfl, by omega, rfl, rfl⟩, ?_⟩
  rintro ⟨t⟩ v ⟨i, rfl, hi, rfl, hs⟩
  unfold B_ref08_sign_L1
  dsimp only
  have hsz : (ByteArray.size ⟨#[43, 45, 42, 47, 92, 94, 60, 62, 61, 126, 58, 46, 63, 64, 35, 38, 36]⟩ : Int) = 17 := rfl
  have hl : signsL.length = 17 := rfl
  rw [hsz]
  refine ifC (fun hc => ?_) (fun hc => ?_)
  · simp at hc
    have hi2 : i < signsL.length := by omega
    refine ⟨by omega, signsL[i], ?_, ?_⟩
    · rw [Int.toNat_natCast]
      have := atL signsL i
      rw [List.getElem?_eq_getElem hi2] at this
      exact this
    · rw [List.drop_eq_getElem_cons hi2, List.any_cons] at hs
      refine ifC (fun h => ?_) (fun h => ?_)
      · simp at h
        rw [decide_eq_true (by omega), Bool.true_or] at hs
        rw [hs] at hK; exact hK
      · simp at h
        rw [decide_eq_false (by omega), Bool.false_or] at hs
        exact ⟨⟨i + 1, by rw [i64id (by omega) (by omega)]; simp, by omega, rfl, hs⟩, by rw [i64id (by omega) (by omega)]; simp; omega⟩
  · simp at hc
    obtain rfl : i = 17 := by omega
    have : (signsL.drop 17) = [] := rfl
    rw [this] at hs
    rw [hs] at hK; exact hK

theorem RPlain_ok {K : Bool → World → Prop} (hl : l.length < 2 ^ 40) (hK : K (plainP l) w) : C_ref08_Plain ⟨l.toArray⟩ w K := by
  apply C_ref08_Plain.of
  unfold F_ref08_Plain F_ref08_Plain_k1 F_ref08_Plain_k2
  have hst : ∀ m : List UInt8, ((⟨l.toArray⟩ : ByteArray).toList == (⟨m.toArray⟩ : ByteArray).toList) = decide (l = m) := fun m => by rw [strEq]
  have e1 := hst [33]
  have e2 := hst [59]
  have e3 := hst [91, 93]
  have e4 := hst [123, 125]
  have e5 := hst []
  have e6 := hst [46]
  rw [e1, e2, e3, e4, e5, e6]
  unfold plainP at hK
  refine ifC (fun h => ?_) (fun h1 => ?_)
  · simp at h; rw [if_pos (.inl h)] at hK; exact hK
  refine ifC (fun h => ?_) (fun h2 => ?_)
  · simp at h; rw [if_pos (.inr (.inl h))] at hK; exact hK
  refine ifC (fun h => ?_) (fun h3 => ?_)
  · simp at h; rw [if_pos (.inr (.inr (.inl h)))] at hK; exact hK
  refine ifC (fun h => ?_) (fun h4 => ?_)
  · simp at h; rw [if_pos (.inr (.inr (.inr h)))] at hK; exact hK
  simp at h1 h2 h3 h4
  rw [if_neg (by simp [h1, h2, h3, h4])] at hK
  refine ifC (fun h => ?_) (fun h5 => ?_)
  · simp at h; rw [if_pos (.inl h)] at hK; exact hK
  refine ifC (fun h => ?_) (fun h6 => ?_)
  · simp at h; rw [if_pos (.inr (.inl h))] at hK; exact hK
  simp at h5 h6
  have k3 : l.take 2 ≠ [47, 42] → F_ref08_Plain_k3 ⟨l.toArray⟩ K w := by
    intro h7
    rw [if_neg (by simp [h5, h6, h7])] at hK
    unfold F_ref08_Plain_k3
    obtain ⟨x, r, hxr⟩ : ∃ x r, l = x :: r := by
      rcases l with _ | ⟨x, r⟩
      · exact absurd rfl h5
      · exact ⟨x, r, rfl⟩
    refine ⟨by omega, x, by rw [Int.toNat_zero, atL, hxr]; rfl, small_ok ?_⟩
    have hh : l.head?.any (fun c => isSmall c.toNat) = isSmall x.toNat := by rw [hxr]; rfl
    rw [hh] at hK
    unfold F_ref08_Plain_L1
    refine ⟨fun s v => ∃ i : Nat, s.i = i ∧ i ≤ l.length ∧ v = w ∧ (isSmall x.toNat && l.all (fun c => isWord c.toNat)) = (s.words && (l.drop i).all (fun c => isWord c.toNat)) ∧ l.all (fun c => isSign c.toNat) = (s.signs && (l.drop i).all (fun c => isSign c.toNat)), fun s _ => (l.length - s.i).toNat, ⟨0, rfl, by omega, rfl, by simp, by simp⟩, ?_⟩
    rintro ⟨wo, sg, t⟩ v ⟨i, rfl, hi, rfl, hw, hs⟩
    unfold B_ref08_Plain_L1
    dsimp only at hw hs ⊢
    rw [sizeL]
    refine ifC (fun hc => ?_) (fun hc => ?_)
    · simp at hc
      have hget : (⟨l.toArray⟩ : ByteArray)[((i : Int)).toNat]? = some l[i] := by rw [Int.toNat_natCast, atL, List.getElem?_eq_getElem hc]
      rw [List.drop_eq_getElem_cons hc, List.all_cons] at hw hs
      have nx : ∀ (a b : Bool), (wo && (isWord l[i].toNat && (l.drop (i + 1)).all fun c => isWord c.toNat)) = (a && (l.drop (i + 1)).all fun c => isWord c.toNat) → (sg && (isSign l[i].toNat && (l.drop (i + 1)).all fun c => isSign c.toNat)) = (b && (l.drop (i + 1)).all fun c => isSign c.toNat) →
          (∃ j : Nat, (IntKind.i64.wrap ((i : Int) + 1)) = j ∧ j ≤ l.length ∧ v = v ∧ (isSmall x.toNat && l.all (fun c => isWord c.toNat)) = (a && (l.drop j).all (fun c => isWord c.toNat)) ∧ l.all (fun c => isSign c.toNat) = (b && (l.drop j).all (fun c => isSign c.toNat))) ∧ (l.length - IntKind.i64.wrap ((i : Int) + 1)).toNat < (l.length - (i : Int)).toNat := by
        intro a b ha hb
        refine ⟨⟨i + 1, by rw [i64id (by omega) (by omega)]; simp, by omega, rfl, hw.trans ha, hs.trans hb⟩, by rw [i64id (by omega) (by omega)]; omega⟩
      refine ifC (fun g1 => ?_) (fun g1 => ?_)
      · refine ⟨by omega, _, hget, word_ok ?_⟩
        refine ifC (fun g2 => ?_) (fun g2 => ?_)
        · exact ⟨by omega, _, hget, rsign_ok (nx _ _ (by rw [g1, Bool.true_and]) (by rw [g2, Bool.true_and]))⟩
        · exact nx _ _ (by rw [g1, Bool.true_and]) (by rw [g2]; simp)
      · refine ifC (fun g2 => ?_) (fun g2 => ?_)
        · exact ⟨by omega, _, hget, rsign_ok (nx _ _ (by rw [g1]; simp) (by rw [g2, Bool.true_and]))⟩
        · exact nx _ _ (by rw [g1]; simp) (by rw [g2]; simp)
    · simp at hc
      obtain rfl : i = l.length := by omega
      simp only [List.drop_length, List.all_nil, Bool.and_true] at hw hs
      rw [hw, hs] at hK
      refine ifC (fun g => ?_) (fun g => ?_)
      · rw [g] at hK; simpa using hK
      · rw [g] at hK; simpa using hK
  refine ifC (fun hc => ?_) (fun hc => ?_)
  · simp [sizeL] at hc
    refine ⟨by omega, by rw [sizeL]; omega, ?_⟩
    rw [exL]
    have e7 := strEq ⟨((l.take (2 : Int).toNat).drop 0).toArray⟩ ⟨#[47, 42]⟩
    rw [e7]
    refine ifC (fun h => ?_) (fun h => ?_)
    · simp at h
      rw [if_pos (.inr (.inr (by simpa using h)))] at hK; exact hK
    · simp at h
      exact k3 (by simpa using h)
  · simp [sizeL] at hc
    refine k3 fun h => ?_
    have := congrArg List.length h
    rw [List.length_take] at this
    simp at this
    omega
end

end Go.Proofs.YtggbmakfifllnaaDoor
