/- The readers: counts, texts, rows. -/
import Derived.Test.YtggbmakfifllnaaDoorRead
namespace Go.Proofs.YtggbmakfifllnaaDoor
open Go Go.D Go.Proofs
set_option linter.unusedSimpArgs false
set_option linter.unusedVariables false
set_option maxRecDepth 8000

/-- How many follow. -/
def dcount (most : Int) (l : List UInt8) : Option (Int × List UInt8) := match dnum l with
  | none => none
  | some (n, r) => if n < 0 ∨ most < n then none else some (n, r)

theorem dgo_len : ∀ (l : List UInt8) (k u x : Nat) (r : List UInt8), dgo k u l = some (x, r) → r.length < l.length
  | [], k, u, x, r, h => by unfold dgo at h; cases h
  | c :: l, k, u, x, r, h => by
    unfold dgo at h
    split at h
    · cases h
    · split at h
      · split at h
        · cases h
        · simp at h; rw [← h.2]; simp
      · have := dgo_len l _ _ _ _ h; simp; omega

theorem dnum_len {l r : List UInt8} {n : Int} (h : dnum l = some (n, r)) : r.length < l.length := by
  unfold dnum at h
  obtain ⟨⟨x, r'⟩, h1, h2⟩ := Option.map_eq_some_iff.1 h
  simp only [Prod.mk.injEq] at h2
  rw [← h2.2]
  exact dgo_len _ _ _ _ _ h1

theorem CallV_mono {P : Program} {v : Value} {args : List Value} {w : World} {K K' : Value → World → Prop} (h : CallV P v args w K) (hk : ∀ x w', K x w' → K' x w') : CallV P v args w K' := by
  obtain ⟨f, first, caps, h1, h2, h3⟩ := h
  exact ⟨f, first, caps, h1, h2, Calls.mono h3 fun e w2 ⟨u, hu, hk'⟩ => ⟨u, hu, hk _ _ hk'⟩⟩

theorem minI_eq (a b : Int) : minI a b = min a b := by unfold minI; split <;> omega

section
variable {N : Nat} {w : World} {b : Nat} {l : List UInt8} {bad : Bool}

theorem rd_bad {K : World → Prop} (h : RdAt N w b l bad) (hK : ∀ w', RdAt N w' b l true → Upd [b] w w' → K w') : NN (some ⟨b, 0, none⟩) fun a => St w ((a.add 1).add 0) (.bool true) K := by
  obtain ⟨p, n, c, z1, z2, z3, z4⟩ := h
  simp only [NN_some, addN, drw_cell, drw_heap, exS, exI, exB, exP, exM, exStr, exV, a0, a1, a2, a3, a4, a5, a6, a7, a8, a9, a10, a11, a12, a13, maxI_eq, Nat.zero_add, Nat.add_zero, Nat.mul_one, Option.isNone_some, Option.isNone_none]
  exact rd_set z1 z2 z3 z4 hK

theorem count_bad {most : Int} {K : Int → World → Prop} (hm : 0 ≤ most) (h : RdAt N w b l true) (hK : ∀ w', RdAt N w' b l true → Upd [b] w w' → K 0 w') : C_script_reader_count (some ⟨b, 0, none⟩) most w K := by
  apply C_script_reader_count.of
  unfold F_script_reader_count
  exact number_bad h fun w1 h1 u1 => ifF (by simp) (ifF (by simp; omega) (hK w1 h1 u1))

theorem count_ok {most : Int} {K : Int → World → Prop} (h : RdAt N w b l false)
    (hg : ∀ x r w', dcount most l = some (x, r) → RdAt N w' b r false → Upd [b] w w' → K x w')
    (hb : ∀ l' w', dcount most l = none → RdAt N w' b l' true → Upd [b] w w' → K 0 w') (hm : 0 ≤ most) : C_script_reader_count (some ⟨b, 0, none⟩) most w K := by
  apply C_script_reader_count.of
  unfold F_script_reader_count
  refine number_ok h (fun x r w1 hd h1 u1 => ?_) (fun l' w1 hd h1 u1 => ifF (by simp) (ifF (by simp; omega) (hb l' w1 (by unfold dcount; rw [hd]) h1 u1)))
  have e : dcount most l = if x < 0 ∨ most < x then none else some (x, r) := by unfold dcount; rw [hd]
  refine ifC (fun hc => ?_) (fun hc => ?_)
  · simp at hc
    exact rd_bad h1 fun w2 h2 u2 => hb r w2 (by rw [e, if_pos (.inl hc)]) h2 (u1.both u2)
  · simp at hc
    refine ifC (fun hc2 => ?_) (fun hc2 => ?_)
    · simp at hc2
      exact rd_bad h1 fun w2 h2 u2 => hb r w2 (by rw [e, if_pos (.inr hc2)]) h2 (u1.both u2)
    · simp at hc2
      exact hg x r w1 (by rw [e, if_neg (by omega)]) h1 u1

theorem rtext_bad {K : ByteArray → World → Prop} (h : RdAt N w b l true) (hK : ∀ w', RdAt N w' b l true → Upd [b] w w' → K ⟨#[]⟩ w') : C_script_reader_text (some ⟨b, 0, none⟩) w K := by
  apply C_script_reader_text.of
  unfold F_script_reader_text
  have h' := h
  obtain ⟨p, n, c, z1, z2, z3, z4⟩ := h
  simp only [NN_some, addN, drw_cell, drw_heap, exS, exI, exB, exP, exM, exStr, exV, a0, a1, a2, a3, a4, a5, a6, a7, a8, a9, a10, a11, a12, a13, maxI_eq, Nat.zero_add, Nat.add_zero, Nat.mul_one, Option.isNone_some, Option.isNone_none, z1.cell]
  refine count_bad (by rw [minI_eq]; omega) h' fun w1 h1 u1 => ?_
  have h1' := h1
  obtain ⟨p, n, c, z1, z2, z3, z4⟩ := h1
  simp only [NN_some, addN, drw_cell, drw_heap, exS, exI, exB, exP, exM, exStr, exV, a0, a1, a2, a3, a4, a5, a6, a7, a8, a9, a10, a11, a12, a13, maxI_eq, Nat.zero_add, Nat.add_zero, Nat.mul_one, Option.isNone_some, Option.isNone_none, z1.cell]
  exact ifT rfl (rd_set z1 z2 z3 z4 fun w2 h2 u2 => hK w2 h2 (u1.both u2))

theorem rtext_ok {K : ByteArray → World → Prop} (h : RdAt N w b l false)
    (hg : ∀ s r w', dtext l = some (s, r) → RdAt N w' b r false → Upd [b] w w' → K ⟨s.toArray⟩ w')
    (hb : ∀ l' w', dtext l = none → RdAt N w' b l' true → Upd [b] w w' → K ⟨#[]⟩ w') : C_script_reader_text (some ⟨b, 0, none⟩) w K := by
  apply C_script_reader_text.of
  unfold F_script_reader_text
  have h' := h
  obtain ⟨p, n, c, z1, z2, z3, z4⟩ := h
  have hn : n = l.length := by have := z2.1; rw [bc_len] at this; omega
  simp only [NN_some, addN, drw_cell, drw_heap, exS, exI, exB, exP, exM, exStr, exV, a0, a1, a2, a3, a4, a5, a6, a7, a8, a9, a10, a11, a12, a13, maxI_eq, Nat.zero_add, Nat.add_zero, Nat.mul_one, Option.isNone_some, Option.isNone_none, z1.cell]
  rw [minI_eq]
  refine count_ok h' (fun x r w1 hd h1 u1 => ?_) (fun l' w1 hd h1 u1 => ?_) (by omega)
  · have hdl : dnum l = some (x, r) ∧ 0 ≤ x ∧ x ≤ min 65536 (n : Int) := by
      unfold dcount at hd
      split at hd
      · cases hd
      · rename_i n' r' hn'
        split at hd
        · cases hd
        · simp at hd; obtain ⟨rfl, rfl⟩ := hd; exact ⟨hn', by omega, by omega⟩
    obtain ⟨hd1, hd2, hd3⟩ := hdl
    have e : dtext l = if x < 0 ∨ 65536 < x ∨ (r.length : Nat) < x then none else some (r.take x.toNat, r.drop x.toNat) := by unfold dtext; rw [hd1]
    have h1' := h1
    obtain ⟨q, m, d, y1, y2, y3, y4⟩ := h1
    have hm : m = r.length := by have := y2.1; rw [bc_len] at this; omega
    simp only [NN_some, addN, drw_cell, drw_heap, exS, exI, exB, exP, exM, exStr, exV, a0, a1, a2, a3, a4, a5, a6, a7, a8, a9, a10, a11, a12, a13, maxI_eq, Nat.zero_add, Nat.add_zero, Nat.mul_one, Option.isNone_some, Option.isNone_none, y1.cell]
    refine ifF rfl (ifC (fun hc => ?_) (fun hc => ?_))
    · simp at hc
      exact rd_set y1 y2 y3 y4 fun w2 h2 u2 => hb r w2 (by rw [e, if_pos (by omega)]) h2 (u1.both u2)
    · simp at hc
      refine ⟨hd2, by omega, ?_⟩
      have hrd : Rd w1 1 q x.toNat (bc (r.take x.toNat)) := by
        refine ⟨by rw [bc_len, List.length_take]; omega, ?_⟩
        rcases y2.2 with h0 | ⟨a, ha, hcc⟩
        · left; omega
        · right
          refine ⟨a, ha, fun i hi => ?_⟩
          rw [hcc i (by omega)]
          simp only [bc, List.getElem?_map]
          rw [List.getElem?_take_of_lt (by omega)]
      refine Str_rule (e := 5) rfl rfl rfl hrd ⟨_, rfl, ?_⟩
      simp only [NN_some, addN, drw_cell, drw_heap, exS, exI, exB, exP, exM, exStr, exV, a0, a1, a2, a3, a4, a5, a6, a7, a8, a9, a10, a11, a12, a13, maxI_eq, Nat.zero_add, Nat.add_zero, Nat.mul_one, Option.isNone_some, Option.isNone_none, y1.cell]
      refine ⟨hd2, by omega, ?_⟩
      refine St_rule y1 (by simp) rfl fun w2 u2 hb2 => hg (r.take x.toNat) (r.drop x.toNat) w2 (by rw [e, if_neg (by omega)]) ⟨_, _, _, by simpa using hb2, ?_, by omega, Lo_adv y4 (by omega)⟩ (u1.both u2)
      exact (Rd_drop (k := x.toNat) y2 y3 (by omega)).upd u2 (Clear_adv y4.clear (by omega))
  · have e : dtext l = none := by
      unfold dcount at hd
      unfold dtext
      split at hd
      · rename_i hn'; rw [hn']
      · rename_i n' r' hn'
        split at hd
        · rename_i hc
          have := dnum_len hn'
          rw [hn']; simp only
          rw [if_pos (by omega)]
        · cases hd
    have h1' := h1
    obtain ⟨q, m, d, y1, y2, y3, y4⟩ := h1
    simp only [NN_some, addN, drw_cell, drw_heap, exS, exI, exB, exP, exM, exStr, exV, a0, a1, a2, a3, a4, a5, a6, a7, a8, a9, a10, a11, a12, a13, maxI_eq, Nat.zero_add, Nat.add_zero, Nat.mul_one, Option.isNone_some, Option.isNone_none, y1.cell]
    exact ifT rfl (rd_set y1 y2 y3 y4 fun w2 h2 u2 => hb l' w2 e h2 (u1.both u2))

theorem whole_ok {K : Bool → World → Prop} (h : RdAt N w b l bad) (hK : K (!bad && decide (l = [])) w) : C_script_reader_whole (some ⟨b, 0, none⟩) w K := by
  apply C_script_reader_whole.of
  unfold F_script_reader_whole
  obtain ⟨p, n, c, z1, z2, z3, z4⟩ := h
  have hn : n = l.length := by have := z2.1; rw [bc_len] at this; omega
  simp only [NN_some, addN, drw_cell, drw_heap, exS, exI, exB, exP, exM, exStr, exV, a0, a1, a2, a3, a4, a5, a6, a7, a8, a9, a10, a11, a12, a13, maxI_eq, Nat.zero_add, Nat.add_zero, Nat.mul_one, Option.isNone_some, Option.isNone_none, z1.cell]
  refine ifC (fun hc => ?_) (fun hc => ?_)
  · simp at hc
    have e : ((n : Int) == 0) = (!bad && decide (l = [])) := by
      rw [hc, hn]
      rcases l with _ | ⟨x, r⟩ <;> simp <;> omega
    rw [e]; exact hK
  · simp at hc
    rw [hc] at hK; exact hK

/-- Things, one behind the other. -/
theorem row_ok {most : Int} {one : Value} {K : World → Prop} {S : Nat → World → Prop} {good : Nat → Bool} (h : RdAt N w b l false) (hm : 0 ≤ most) (hm2 : most < 2 ^ 40)
    (hS : ∀ i v, S i v → ∃ l', RdAt N v b l' (!good i))
    (hstep : ∀ i v, good i = true → S i v → CallV Tryd.prog one [] v fun x v' => x = .tuple #[] ∧ S (i + 1) v')
    (h0 : ∀ x r w', dcount most l = some (x, r) → RdAt N w' b r false → Upd [b] w w' → S 0 w' ∧ ∀ i v, S i v → i ≤ x.toNat → (i = x.toNat ∨ good i = false) → K v)
    (hb : ∀ l' w', dcount most l = none → RdAt N w' b l' true → Upd [b] w w' → K w') : C_script_reader_row (some ⟨b, 0, none⟩) most one w K := by
  apply C_script_reader_row.of
  unfold F_script_reader_row F_script_reader_row_L1
  refine count_ok h (fun x r w1 hd h1 u1 => ?_) (fun l' w1 hd h1 u1 => ?_) hm
  · obtain ⟨hS0, hK⟩ := h0 x r w1 hd h1 u1
    have hx : 0 ≤ x ∧ x ≤ most := by
      unfold dcount at hd
      split at hd
      · cases hd
      · split at hd
        · cases hd
        · simp at hd; omega
    refine ⟨fun s v => ∃ i : Nat, s.i = i ∧ i ≤ x.toNat ∧ S i v, fun s _ => (x - s.i).toNat, ⟨0, rfl, by omega, hS0⟩, ?_⟩
    rintro ⟨t⟩ v ⟨i, rfl, hi, hs⟩
    unfold B_script_reader_row_L1
    dsimp only
    refine ifC (fun hc => ?_) (fun hc => ?_)
    · simp at hc
      obtain ⟨l', q, m, d, y1, y2, y3, y4⟩ := hS i v hs
      simp only [NN_some, addN, drw_cell, drw_heap, exS, exI, exB, exP, exM, exStr, exV, a0, a1, a2, a3, a4, a5, a6, a7, a8, a9, a10, a11, a12, a13, maxI_eq, Nat.zero_add, Nat.add_zero, Nat.mul_one, Option.isNone_some, Option.isNone_none, y1.cell]
      refine ifC (fun hg => ?_) (fun hg => ?_)
      · simp at hg
        have hstep' := hstep i v hg hs
        refine CallV_mono hstep' fun x' v' ⟨hx', hs'⟩ => ⟨hx', ⟨i + 1, by rw [i64id (by omega) (by omega)]; simp, by omega, hs'⟩, by rw [i64id (by omega) (by omega)]; omega⟩
      · simp at hg
        exact hK i v hs hi (.inr hg)
    · simp at hc
      exact hK i v hs hi (.inl (by omega))
  · refine ⟨fun s v => s.i = 0 ∧ v = w1, fun _ _ => 0, ⟨rfl, rfl⟩, ?_⟩
    rintro ⟨t⟩ v ⟨rfl, rfl⟩
    unfold B_script_reader_row_L1
    exact ifF (by simp) (hb l' v hd h1 u1)
end

end Go.Proofs.YtggbmakfifllnaaDoor
