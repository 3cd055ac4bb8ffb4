/- How a name is quoted; the program's way. -/
import Derived.Test.YtggbmakfifllnaaDoorForm
import Derived.Test.YtggbmakfifllnaaDoorBuild2
import Derived.Test.YtggbmakfifllnaaDoorOwn16
namespace Go.Proofs.YtggbmakfifllnaaDoor
open Go Go.D Go.Proofs
set_option linter.unusedSimpArgs false
set_option linter.unusedVariables false
set_option maxRecDepth 8000

section
variable {w : World} {l : List UInt8}

theorem one_str {c : UInt8} {K : ByteArray → World → Prop} (hK : ∀ w', Upd [] w w' → K ⟨#[c]⟩ w') :
    BSl Tryd.prog 28 1 [(0, .int .u8 (c.toNat : Int))] w fun tP tN tC w1 => Run Tryd.prog (convert 28 9 (.slice tP tN tC)) w1 fun v w1_1 => ∃ t18 : ByteArray, v = (.string t18) ∧ K t18 w1_1 := by
  refine BSl_rule (cs := bc [c]) eS_28 (fill_one rfl) (by rfl) (by omega) fun w1 hs1 hu1 => ?_
  exact Str_rule (e := 5) rfl rfl rfl hs1.rd ⟨_, rfl, hK w1 hu1⟩

theorem sign_ok {c : UInt8} {K : ByteArray → World → Prop} (h : Tab w) (hK : ∀ w', Upd [] w w' → K ⟨(signP c).toArray⟩ w') : C_token_sign (c.toNat : Int) w K := by
  have hc := c.toNat_lt
  have h1 : ∀ m : Nat, (hexP m).length ≤ 2 := by intro m; unfold hexP; split <;> simp
  apply C_token_sign.of
  unfold F_token_sign
  have eu : IntKind.u64.wrap (c.toNat : Int) = (c.toNat : Int) := by rw [u64w']; omega
  rw [eu]
  unfold signP at hK
  refine ifC (fun g => ?_) (fun g1 => ?_)
  · simp at g; rw [if_neg (by omega), if_pos (by omega)] at hK; exact hK w (Upd.refl _ _)
  simp at g1
  refine ifC (fun g => ?_) (fun g2 => ?_)
  · simp at g; rw [if_neg (by omega), if_neg (by omega), if_pos (by omega)] at hK; exact hK w (Upd.refl _ _)
  simp at g2
  refine ifC (fun g => ?_) (fun g3 => ?_)
  · simp at g; rw [if_pos (by omega)] at hK
    refine one_str fun w' u' => ⟨by rw [maxI64]; exact (by decide : (((1 : Nat) + 1 : Nat) : Int) ≤ 2 ^ 63 - 1), ?_⟩
    exact hK w' u'
  simp at g3
  refine ifC (fun g => ?_) (fun g4 => ?_)
  · simp at g; rw [if_pos (by omega)] at hK
    refine one_str fun w' u' => ⟨by rw [maxI64]; exact (by decide : (((1 : Nat) + 1 : Nat) : Int) ≤ 2 ^ 63 - 1), ?_⟩
    exact hK w' u'
  simp at g4
  rw [if_neg (by omega), if_neg (by omega), if_neg (by omega)] at hK
  have hex : ∀ {w'}, Upd [] w w' → (c.toNat < 32 ∨ c.toNat = 127) → (((⟨#[92, 120]⟩ : ByteArray).size + (⟨(hexP c.toNat).toArray⟩ : ByteArray).size : Nat) : Int) ≤ IntKind.i64.max ∧
      ((((⟨#[92, 120]⟩ : ByteArray) ++ ⟨(hexP c.toNat).toArray⟩).size + (⟨#[92]⟩ : ByteArray).size : Nat) : Int) ≤ IntKind.i64.max ∧ K (((⟨#[92, 120]⟩ : ByteArray) ++ ⟨(hexP c.toNat).toArray⟩) ++ (⟨#[92]⟩ : ByteArray)) w' := by
    intro w' u' hcc
    have h2 := h1 c.toNat
    show (((⟨([92, 120] : List UInt8).toArray⟩ : ByteArray).size + _ : Nat) : Int) ≤ _ ∧ ((((⟨([92, 120] : List UInt8).toArray⟩ : ByteArray) ++ _).size + (⟨([92] : List UInt8).toArray⟩ : ByteArray).size : Nat) : Int) ≤ _ ∧ K (((⟨([92, 120] : List UInt8).toArray⟩ : ByteArray) ++ _) ++ (⟨([92] : List UInt8).toArray⟩ : ByteArray)) w'
    rw [appL, appL, sizeL, sizeL, sizeL, sizeL, maxI64]
    refine ⟨by simp only [List.length_cons, List.length_nil]; omega, by simp only [List.length_append, List.length_cons, List.length_nil]; omega, ?_⟩
    have e : ([92, 120] ++ hexP c.toNat ++ [92] : List UInt8) = (if (16 ≤ c.toNat ∧ c.toNat < 32) ∨ c.toNat = 127 then [92, 120, hexO (c.toNat / 16), hexO (c.toNat % 16), 92] else if c.toNat < 16 then [92, 120, hexO c.toNat, 92] else [c]) := by
      unfold hexP
      by_cases h16 : c.toNat < 16
      · rw [if_pos h16, if_neg (by omega), if_pos h16]; rfl
      · rw [if_neg h16, if_pos (by omega)]; rfl
    rw [e]
    exact hK w' u'
  refine ifC (fun g => ?_) (fun g5 => ?_)
  · simp at g
    exact FormatUint_ok h fun w' u' => hex u' (.inl (by omega))
  simp at g5
  refine ifC (fun g => ?_) (fun g6 => ?_)
  · simp at g
    exact FormatUint_ok h fun w' u' => hex u' (.inr (by omega))
  simp at g6
  rw [if_neg (by omega), if_neg (by omega)] at hK
  exact one_str fun w' u' => hK w' u'

/-- A builder that is new: all of its blocks are new since w0. -/
def BuS (w0 w : World) (b : Nat) (l : List UInt8) : Prop := ∃ F, BuAt w b l F ∧ Upd [] w0 w ∧ Since F w0

theorem BuS.upd {w0 : World} {b : Nat} (h : BuS w0 w b l) : Upd [] w0 w := by obtain ⟨F, _, u, _⟩ := h; exact u

theorem BuS.keep {w0 w' : World} {b : Nat} (h : BuS w0 w b l) (u : Upd [] w w') : BuS w0 w' b l := by
  obtain ⟨F, h1, u1, s⟩ := h
  exact ⟨F, h1.upd u (by intro k _ h; cases h), u1.after u, s⟩

theorem BuS.str {w0 : World} {b : Nat} {s : List UInt8} {K : Int → Value → World → Prop} (h : BuS w0 w b l) (hl : l.length + s.length < 2 ^ 45) (hK : ∀ w', BuS w0 w' b (l ++ s) → K s.length .nilIface w') : C_strings_Builder_WriteString (some ⟨b, 0, none⟩) ⟨s.toArray⟩ w K := by
  obtain ⟨F, h1, u1, sn⟩ := h
  refine BWriteString_ok h1 (by rw [sizeL]; exact hl) fun w' F' h2 u2 s2 => ?_
  have : BuS w0 w' b (l ++ s) := ⟨F', h2, u1.fresh u2 sn, sn.step s2 u1.size⟩
  exact hK w' this

theorem BuS.byte {w0 : World} {b : Nat} {x : UInt8} {K : Value → World → Prop} (h : BuS w0 w b l) (hl : l.length < 2 ^ 45) (hK : ∀ w', BuS w0 w' b (l ++ [x]) → K .nilIface w') : C_strings_Builder_WriteByte (some ⟨b, 0, none⟩) (x.toNat : Int) w K := by
  obtain ⟨F, h1, u1, sn⟩ := h
  exact BWriteByte_ok h1 hl fun w' F' h2 u2 s2 => hK w' ⟨F', h2, u1.fresh u2 sn, sn.step s2 u1.size⟩

theorem BuS.text {w0 : World} {b : Nat} {K : ByteArray → World → Prop} (h : BuS w0 w b l) (h0 : l ≠ []) (hl : l.length < 2 ^ 45) (hK : ∀ w', Upd [] w0 w' → K ⟨l.toArray⟩ w') : C_strings_Builder_String (some ⟨b, 0, none⟩) w K := by
  obtain ⟨F, h1, u1, sn⟩ := h
  exact BString_ok h1 h0 hl fun w' u2 => hK w' (u1.fresh u2 sn)

theorem BuS.new {K : Nat → World → Prop} (hK : ∀ b w', BuS w w' b [] → K b w') : New w (.cells #[.pointer none, .slice none 0 0] 76) K := by
  refine New_ruleT fun b w' hb u hB hT => hK b w' ⟨[b], ⟨.pointer none, none, 0, 0, [], hB, hT, .inl rfl, SlAt.nil _ _, (by intro x hx; cases hx), rfl, (by simp)⟩, u, ?_⟩
  intro k hk
  simp at hk; omega

theorem Quote_ok {K : ByteArray → World → Prop} (h : Tab w) (hl : l.length < 2 ^ 38) (hK : ∀ w', Upd [] w w' → K ⟨(quoteP l).toArray⟩ w') : C_token_Quote ⟨l.toArray⟩ w K := by
  apply C_token_Quote.of
  unfold F_token_Quote
  refine Plain_ok (by omega) fun w0 u0 => ?_
  unfold quoteP at hK
  refine ifC (fun g => ?_) (fun g => ?_)
  · rw [if_pos g] at hK; exact hK w0 u0
  rw [if_neg (by simp [g])] at hK
  refine BuS.new fun b w1 B1 => ?_
  refine BuS.byte (x := 39) B1 (by simp) fun w2 B2 => ?_
  refine Byt_rule (e := 5) rfl rfl rfl fun c w3 u3 hrd hlt => ⟨_, _, _, rfl, ?_⟩
  have hrd' : Rd w3 1 (some ⟨w2.heap.size, 0, none⟩) l.length (bc l) := hrd
  obtain ⟨F3, hF3, uF3, sn3⟩ := B2
  have hx3 : w2.heap.size ∉ F3 := fun hm => by have := hF3.inn _ hm; omega
  have hlt3 : w2.heap.size < w3.heap.size := hlt
  unfold F_token_Quote_L1
  refine ⟨fun s v => ∃ (i : Nat) (F : List Nat), s.t13 = i ∧ i ≤ l.length ∧ BuAt v b (39 :: (l.take i).flatMap signP) F ∧ Upd [] w0 v ∧ Since F w0 ∧ w2.heap.size ∉ F ∧ w2.heap.size < v.heap.size ∧ Rd v 1 (some ⟨w2.heap.size, 0, none⟩) l.length (bc l), fun s _ => (l.length - s.t13).toNat, ⟨0, F3, rfl, by omega, by simpa using hF3.upd u3 (by intro k _ h; cases h), uF3.after u3, sn3, hx3, hlt3, hrd'⟩, ?_⟩
  rintro ⟨t⟩ v ⟨i, F, rfl, hi, B, uv, sn, hxF, hxv, hrv⟩
  unfold B_token_Quote_L1
  dsimp only at B ⊢
  have htl := flat_sign_len (l.take i)
  rw [List.length_take] at htl
  refine ifC (fun hc => ?_) (fun hc => ?_)
  · rw [sizeL] at hc ⊢
    simp at hc
    obtain ⟨x, hx, hcell⟩ := hrv.at (i := i) (by omega)
    cases hx
    have hcell' : v.cell? (Addr.add ⟨w2.heap.size, 0, none⟩ (((i : Int)).toNat * 1)) = some (.int .u8 (l[i].toNat : Int)) := by
      rw [Int.toNat_natCast, Nat.mul_one, hcell]; simp [bc, hc]
    refine ⟨by omega, by omega, _, rfl, _, hcell', ?_⟩
    refine sign_ok ((h.keep u0).keep uv) fun w4 u4 => ?_
    have hsl := signP_len l[i]
    refine BWriteString_ok (B.upd u4 (by intro k _ h; cases h)) (by rw [sizeL]; simp only [List.length_cons]; omega) fun w5 F5 B5 u5 s5 => ?_
    refine ⟨⟨i + 1, F5, by rw [i64id (by omega) (by omega)]; simp, by omega, ?_, (uv.after u4).fresh u5 sn, (sn.step s5 (uv.after u4).size), ?_, ?_, ?_⟩, by rw [i64id (by omega) (by omega)]; omega⟩
    · have htk : (l.take (i + 1)).flatMap signP = (l.take i).flatMap signP ++ signP l[i] := by
        rw [List.take_add_one, List.getElem?_eq_getElem hc]
        simp only [List.flatMap_append, Option.toList_some, List.flatMap_cons, List.flatMap_nil, List.append_nil]
      rw [htk]; exact B5
    · intro hm
      rcases s5 _ hm with h' | h'
      · exact hxF h'
      · have := u4.size; omega
    · have := u4.size; have := u5.size; omega
    · refine (hrv.keep u4).upd u5 fun y hy _ => ?_
      cases hy; exact hxF
  · rw [sizeL] at hc
    simp at hc
    obtain rfl : i = l.length := by omega
    rw [List.take_length] at B
    have := flat_sign_len l
    refine BuS.byte (x := 39) (w0 := w0) ⟨F, B, uv, sn⟩ (by simp only [List.length_cons]; omega) fun w4 B4 => ?_
    refine B4.text (by simp) (by simp only [List.length_cons, List.length_append, List.length_nil]; omega) fun w5 u5 => ?_
    have := hK w5 (u0.after u5)
    simpa using this
end

end Go.Proofs.YtggbmakfifllnaaDoor
