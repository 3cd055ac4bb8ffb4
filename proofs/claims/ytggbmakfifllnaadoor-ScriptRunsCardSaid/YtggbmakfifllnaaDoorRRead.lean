/- The document's reader. -/
import Derived.Test.YtggbmakfifllnaaDoorDec4
namespace Go.Proofs.YtggbmakfifllnaaDoor
open Go Go.D Go.Proofs
set_option linter.unusedSimpArgs false
set_option linter.unusedVariables false
set_option maxRecDepth 8000

theorem more2_ok {u c k : Nat} (hu : u < 128 ^ k) (hk : k ≤ 9) (hc : c < 256) (h9 : k = 9 → c ≤ 1) :
    IntKind.u64.wrap ((u : Int) + shlI .u64 (IntKind.u64.wrap ((c : Int).tmod 128)) (IntKind.i64.wrap (7 * (k : Int)))) = ((u + (c % 128) * 128 ^ k : Nat) : Int) := by
  obtain ⟨_, h2, _⟩ := more_ok (c := c) hu hk hc h9
  have et : ((c : Int).tmod 128) = ((c % 128 : Nat) : Int) := by rw [Int.tmod_eq_emod_of_nonneg (by omega)]; omega
  have e : IntKind.u64.wrap ((c % 128 : Nat) : Int) = ((c % 128 : Nat) : Int) := by rw [u64w']; omega
  rw [et, e, i64id (by omega) (by omega), shl7 hk (by omega), u64w']
  omega

section
variable {N : Nat} {w : World} {b : Nat} {l : List UInt8} {bad : Bool} {st : Option (List UInt8)}

/-- Bad, and nothing left. -/
theorem rd_none {p : Option Addr} {n c : Nat} {K : World → Prop} (h : Blk w b #[.slice p n c, .bool bad]) (hl : N ≤ b) (hK : ∀ w', RdAt N w' b [] true → Upd [b] w w' → K w') :
    St w ⟨b, 1, none⟩ (.bool true) fun w1 => St w1 ⟨b, 0, none⟩ (.slice none 0 0) K := by
  refine St_rule h (by simp) rfl fun w1 u1 h1 => St_rule h1 (by simp) rfl fun w2 u2 h2 => hK w2 ⟨none, 0, 0, by simpa using h2, ⟨rfl, .inl rfl⟩, by omega, hl, by simp⟩ (u1.both u2)

theorem rnumber_ok {K : Int → World → Prop} (h : RdAt N w b l bad)
    (hg : ∀ x r w', dnum l = some (x, r) → RdAt N w' b r bad → Upd [b] w w' → K x w')
    (hb : ∀ w', dnum l = none → RdAt N w' b [] true → Upd [b] w w' → K 0 w') : C_ref27_reader_number (some ⟨b, 0, none⟩) w K := by
  apply C_ref27_reader_number.of
  unfold F_ref27_reader_number F_ref27_reader_number_L1
  simp only [NN_some, addN, drw_cell, drw_heap, exS, exI, exB, exP, exM, exStr, exV, a0, a1, a2, a3, a4, a5, a6, a7, a8, a9, a10, a11, a12, a13, maxI_eq, Nat.zero_add, Nat.add_zero, Nat.mul_one, Option.isNone_some, Option.isNone_none]
  refine ⟨fun s v => ∃ (k u : Nat) (l' : List UInt8), s.k = k ∧ s.u = u ∧ k ≤ 9 ∧ u < 128 ^ k ∧ RdAt N v b l' bad ∧ dgo k u l' = dgo 0 0 l ∧ Upd [b] w v, fun s _ => (10 - s.k).toNat, ⟨0, 0, l, rfl, rfl, by omega, by simp, h, rfl, Upd.refl _ _⟩, ?_⟩
  rintro s v ⟨k, u, l', hk, hsu, hk9, hu, hr, hd, hup⟩
  obtain ⟨p, n, c, z1, z2, z3, z4⟩ := hr
  have hnone : dgo k u l' = none → ∀ {p n c v1}, Blk v1 b #[.slice p n c, .bool bad] → Upd [b] v v1 → St v1 ⟨b, 1, none⟩ (.bool true) fun w1 => St w1 ⟨b, 0, none⟩ (.slice none 0 0) (fun w1_6 => K 0 w1_6) := fun h p n c v1 h1 u1 =>
    rd_none h1 z4.1 fun w' h' u' => hb w' (by unfold dnum; rw [← hd, h]; rfl) h' (hup.both (u1.both u'))
  have hsome : ∀ x r, dgo k u l' = some (x, r) → dnum l = some (unzig x, r) := fun x r h => by unfold dnum; rw [← hd, h]; rfl
  unfold B_ref27_reader_number_L1
  dsimp only
  rw [hk]
  refine ifT (by simp; omega) ?_
  simp only [NN_some, addN, drw_cell, drw_heap, exS, exI, exB, exP, exM, exStr, exV, a0, a1, a2, a3, a4, a5, a6, a7, a8, a9, a10, a11, a12, a13, maxI_eq, Nat.zero_add, Nat.add_zero, Nat.mul_one, Option.isNone_some, Option.isNone_none, z1.cell]
  rcases l' with _ | ⟨x, r⟩
  · have hn : n = 0 := by have := z2.1; simp [bc] at this; omega
    refine ifT (by simp [hn]) (hnone (by unfold dgo; rfl) z1 (Upd.refl _ _))
  · have hn : n = r.length + 1 := by have := z2.1; simp [bc] at this; omega
    obtain ⟨a, ha, hc⟩ := z2.at (i := 0) (by omega)
    have hc0 : v.cell? (a.add ((0 : Int).toNat * 1)) = some (.int .u8 (x.toNat : Int)) := by simpa [bc] using hc
    have hx := x.toNat_lt
    simp only [NN_some, addN, drw_cell, drw_heap, exS, exI, exB, exP, exM, exStr, exV, a0, a1, a2, a3, a4, a5, a6, a7, a8, a9, a10, a11, a12, a13, maxI_eq, Nat.zero_add, Nat.add_zero, Nat.mul_one, Option.isNone_some, Option.isNone_none, ha]
    refine ifF (by simp; omega) ⟨by omega, by omega, _, hc0, by omega, by omega, ?_⟩
    refine St_rule z1 (by simp) rfl fun w1 u1 hb1 => ?_
    have hb1' : Blk w1 b #[.slice (adv (some a) c (1 : Int).toNat 1) (n - (1 : Int).toNat) (c - (1 : Int).toNat), .bool bad] := by simpa using hb1
    have hr1 : RdAt N w1 b r bad := by
      refine ⟨_, _, _, hb1', ?_, ?_, ?_⟩
      · rw [← ha]
        exact (Rd_drop (k := 1) z2 z3 (by omega)).upd u1 (Clear_adv z4.clear (by omega))
      · have : (1 : Int).toNat = 1 := rfl
        omega
      · rw [← ha]; exact Lo_adv (k := 1) z4 (by omega)
    have hdg : dgo k u (x :: r) = if k = 9 ∧ 1 < x.toNat then none else if x.toNat < 128 then (if x.toNat = 0 ∧ 0 < k then none else some (u + x.toNat * 128 ^ k, r)) else dgo (k + 1) (u + (x.toNat % 128) * 128 ^ k) r := by rw [dgo]
    -- a number is told
    have k1 : ∀ (g1 : ¬ (k = 9 ∧ 1 < x.toNat)) (g2 : x.toNat < 128) (g3 : ¬ (x.toNat = 0 ∧ 0 < k)), F_ref27_reader_number_k1 s (fun t2_1 w1_4 => K t2_1 w1_4) (x.toNat : Int) w1 := by
      intro g1 g2 g3
      obtain ⟨_, m2, _⟩ := more_ok (c := x.toNat) hu hk9 (by omega) (fun h => by omega)
      have m1 := more2_ok (c := x.toNat) hu hk9 (by omega) (fun h => by omega)
      have hm : x.toNat % 128 = x.toNat := by omega
      rw [hm] at m1 m2
      rw [if_neg g1, if_pos g2, if_neg g3] at hdg
      have hkk := hg _ r w1 (hsome _ _ hdg) hr1 (hup.both u1)
      unfold F_ref27_reader_number_k1
      rw [hk, hsu, m1]
      generalize u + x.toNat * 128 ^ k = U at *
      have et : ((U : Int).tmod 2) = ((U % 2 : Nat) : Int) := by rw [Int.tmod_eq_emod_of_nonneg (by omega)]; omega
      have ed : ((U : Int).tdiv 2) = ((U / 2 : Nat) : Int) := by rw [Int.tdiv_eq_ediv_of_nonneg (by omega)]; omega
      have e1 : IntKind.u64.wrap ((U / 2 : Nat) : Int) = ((U / 2 : Nat) : Int) := by rw [u64w']; omega
      have e2 : IntKind.i64.wrap ((U / 2 : Nat) : Int) = ((U / 2 : Nat) : Int) := i64id (by omega) (by omega)
      rw [et, ed, e1, e2]
      unfold unzig at hkk
      refine ⟨by omega, ifC (fun hc => ?_) (fun hc => ?_)⟩
      · rw [if_pos (by simp at hc; omega)] at hkk
        refine ⟨by omega, ?_⟩
        rw [i64id (by omega) (by omega)]; exact hkk
      · rw [if_neg (by simp at hc; omega)] at hkk
        exact ⟨by omega, hkk⟩
    have k2 : ∀ (g1 : ¬ (k = 9 ∧ 1 < x.toNat)), F_ref27_reader_number_k2 s (fun s' w' => (∃ (k u : Nat) (l' : List UInt8), s'.k = k ∧ s'.u = u ∧ k ≤ 9 ∧ u < 128 ^ k ∧ RdAt N w' b l' bad ∧ dgo k u l' = dgo 0 0 l ∧ Upd [b] w w') ∧ (10 - s'.k).toNat < (10 - (k : Int)).toNat) (fun w1_3 => St w1_3 ⟨b, 1, none⟩ (.bool true) fun w1 => St w1 ⟨b, 0, none⟩ (.slice none 0 0) (fun w1_6 => K 0 w1_6)) (fun t2_1 w1_4 => K t2_1 w1_4) (x.toNat : Int) w1 := by
      intro g1
      have m1 := more2_ok (c := x.toNat) hu hk9 (by omega) (fun h => by omega)
      obtain ⟨_, _, m3⟩ := more_ok (c := x.toNat) hu hk9 (by omega) (fun h => by omega)
      unfold F_ref27_reader_number_k2
      rw [hk, hsu]
      refine ⟨by omega, by rw [i64id (by omega) (by omega)]; omega, ifC (fun hc => ?_) (fun hc => ?_)⟩
      · simp at hc
        refine ifC (fun h1 => ?_) (fun h1 => ?_)
        · simp at h1
          refine ifC (fun h2 => ?_) (fun h2 => ?_)
          · simp at h2
            rw [if_neg g1, if_pos (by omega), if_pos (by omega)] at hdg
            exact hnone hdg hb1' u1
          · simp at h2
            exact k1 g1 (by omega) (by omega)
        · simp at h1
          exact k1 g1 (by omega) (by omega)
      · simp at hc
        rw [if_neg g1, if_neg (by omega)] at hdg
        rw [m1]
        refine ⟨⟨k + 1, u + x.toNat % 128 * 128 ^ k, r, by rw [i64id (by omega) (by omega)]; simp, rfl, by omega, m3 (by omega), hr1, by rw [← hdg, hd], hup.both u1⟩, by dsimp only; rw [i64id (by omega) (by omega)]; omega⟩
    refine ifC (fun h9 => ?_) (fun h9 => ?_)
    · simp at h9
      refine ifC (fun h1 => ?_) (fun h1 => ?_)
      · simp at h1
        rw [if_pos (by omega)] at hdg
        exact hnone hdg hb1' u1
      · simp at h1
        exact k2 (by omega)
    · simp at h9
      exact k2 (by omega)

theorem RdO.next {bd : Bool} {l' : List UInt8} (h : RdAt N w b l' bd) (hs : st = if bd then none else some l') : RdO N w b st := by
  cases bd
  · simp at hs; subst hs; exact h
  · simp at hs; subst hs; exact ⟨l', h⟩

/-- A number, whatever comes: if it is bad, it may be any. -/
theorem rnumberO {K : Int → World → Prop} (h : RdO N w b st) (hK : ∀ x w', ((onum st).2.isSome = true → x = (onum st).1) → RdO N w' b (onum st).2 → Upd [b] w w' → K x w') : C_ref27_reader_number (some ⟨b, 0, none⟩) w K := by
  rcases st with _ | l
  · obtain ⟨l, h⟩ := h
    exact rnumber_ok h (fun x r w' _ h' u => hK x w' (by simp [onum]) ⟨r, h'⟩ u) (fun w' _ h' u => hK 0 w' (by simp [onum]) ⟨[], h'⟩ u)
  · refine rnumber_ok h (fun x r w' hd h' u => ?_) (fun w' hd h' u => ?_)
    · have e : onum (some l) = (x, some r) := by simp [onum, hd]
      rw [e] at hK; exact hK x w' (fun _ => rfl) h' u
    · have e : onum (some l) = (0, none) := by simp [onum, hd]
      rw [e] at hK; exact hK 0 w' (fun _ => rfl) ⟨[], h'⟩ u

theorem rset_bad {K : World → Prop} (h : RdAt N w b l bad) (hK : ∀ w', RdAt N w' b l true → Upd [b] w w' → K w') : NN (some ⟨b, 0, none⟩) fun a => St w ((a.add 1).add 0) (.bool true) K := by
  obtain ⟨p, n, c, z1, z2, z3, z4⟩ := h
  simp only [NN_some, addN, drw_cell, drw_heap, exS, exI, exB, exP, exM, exStr, exV, a0, a1, a2, a3, a4, a5, a6, a7, a8, a9, a10, a11, a12, a13, maxI_eq, Nat.zero_add, Nat.add_zero, Nat.mul_one, Option.isNone_some, Option.isNone_none]
  exact rd_set z1 z2 z3 z4 hK

theorem rcountO {most : Int} {K : Int → World → Prop} (h : RdO N w b st)
    (hg : ∀ x r w', st.bind (dcount most) = some (x, r) → RdAt N w' b r false → Upd [b] w w' → K x w')
    (hb : ∀ x w', st.bind (dcount most) = none → RdO N w' b none → Upd [b] w w' → K x w') : C_ref27_reader_count (some ⟨b, 0, none⟩) most w K := by
  apply C_ref27_reader_count.of
  unfold F_ref27_reader_count
  -- a number that may be
  have core : ∀ (x : Int) (w1 : World) (l' : List UInt8) (bd : Bool), RdAt N w1 b l' bd → Upd [b] w w1 → ((x < 0 ∨ most < x) → st.bind (dcount most) = none) → (bd = true → st.bind (dcount most) = none) → (bd = false → ¬ (x < 0 ∨ most < x) → st.bind (dcount most) = some (x, l')) →
      If (decide (x < (0 : Int))) (NN (some ⟨b, 0, none⟩) fun a => St w1 ((a.add 1).add 0) (.bool true) fun w1_1 => K (0 : Int) w1_1) (If (decide (x > most)) (NN (some ⟨b, 0, none⟩) fun a_1 => St w1 ((a_1.add 1).add 0) (.bool true) fun w1_2 => K (0 : Int) w1_2) (K x w1)) := by
    intro x w1 l' bd h1 u1 e1 e2 e3
    refine ifC (fun hc => ?_) (fun hc => ?_)
    · simp at hc
      exact rset_bad h1 fun w2 h2 u2 => hb 0 w2 (e1 (.inl hc)) ⟨l', h2⟩ (u1.both u2)
    · simp at hc
      refine ifC (fun hc2 => ?_) (fun hc2 => ?_)
      · simp at hc2
        exact rset_bad h1 fun w2 h2 u2 => hb 0 w2 (e1 (.inr hc2)) ⟨l', h2⟩ (u1.both u2)
      · simp at hc2
        cases bd
        · exact hg x l' w1 (e3 rfl (by omega)) h1 u1
        · exact hb x w1 (e2 rfl) ⟨l', h1⟩ u1
  rcases st with _ | l
  · obtain ⟨l, h⟩ := h
    exact rnumber_ok h (fun x r w' _ h' u => core x w' r true h' u (fun _ => rfl) (fun _ => rfl) (fun h => by cases h)) (fun w' _ h' u => core 0 w' [] true h' u (fun _ => rfl) (fun _ => rfl) (fun h => by cases h))
  · refine rnumber_ok h (fun x r w' hd h' u => core x w' r false h' u (fun hc => ?_) (fun h => by cases h) (fun _ hc => ?_)) (fun w' hd h' u => core 0 w' [] true h' u (fun _ => ?_) (fun _ => ?_) (fun h => by cases h))
    · simp only [Option.bind_some, dcount, hd]; rw [if_pos hc]
    · simp only [Option.bind_some, dcount, hd]; rw [if_neg hc]
    · simp only [Option.bind_some, dcount, hd]
    · simp only [Option.bind_some, dcount, hd]

theorem rrtextO {K : ByteArray → World → Prop} (h : RdO N w b st) (hK : ∀ w', RdO N w' b (otext st).2 → Upd [b] w w' → K ⟨(otext st).1.toArray⟩ w') : C_ref27_reader_text (some ⟨b, 0, none⟩) w K := by
  apply C_ref27_reader_text.of
  unfold F_ref27_reader_text F_ref27_reader_text_k1
  have hlow := h.low
  -- it is bad
  have bad' : otext st = ([], none) → ∀ {p n c bd w1}, Blk w1 b #[.slice p n c, .bool bd] → Upd [b] w w1 → St w1 ⟨b, 1, none⟩ (.bool true) fun w2 => St w2 ⟨b, 0, none⟩ (.slice none 0 0) (fun w3 => K ⟨#[]⟩ w3) := by
    intro e p n c bd w1 h1 u1
    rw [e] at hK
    exact rd_none h1 hlow fun w' h' u' => hK w' ⟨[], h'⟩ (u1.both u')
  rcases st with _ | l
  · obtain ⟨l, h⟩ := h
    have fin : ∀ (x : Int) (w1 : World) (l' : List UInt8), RdAt N w1 b l' true → Upd [b] w w1 → _ := fun x w1 l' h1 u1 => h1
    refine rnumber_ok h (fun x r w1 _ h1 u1 => ?_) (fun w1 _ h1 u1 => ?_)
    · obtain ⟨p, n, c, z1, z2, z3, z4⟩ := h1
      simp only [NN_some, addN, drw_cell, drw_heap, exS, exI, exB, exP, exM, exStr, exV, a0, a1, a2, a3, a4, a5, a6, a7, a8, a9, a10, a11, a12, a13, maxI_eq, Nat.zero_add, Nat.add_zero, Nat.mul_one, Option.isNone_some, Option.isNone_none, z1.cell]
      exact ifT rfl (bad' (by simp [otext]) z1 u1)
    · obtain ⟨p, n, c, z1, z2, z3, z4⟩ := h1
      simp only [NN_some, addN, drw_cell, drw_heap, exS, exI, exB, exP, exM, exStr, exV, a0, a1, a2, a3, a4, a5, a6, a7, a8, a9, a10, a11, a12, a13, maxI_eq, Nat.zero_add, Nat.add_zero, Nat.mul_one, Option.isNone_some, Option.isNone_none, z1.cell]
      exact ifT rfl (bad' (by simp [otext]) z1 u1)
  · refine rnumber_ok h (fun x r w1 hd h1 u1 => ?_) (fun w1 hd h1 u1 => ?_)
    · have e : dtext l = if x < 0 ∨ 65536 < x ∨ (r.length : Nat) < x then none else some (r.take x.toNat, r.drop x.toNat) := by unfold dtext; rw [hd]
      obtain ⟨q, m, d, y1, y2, y3, y4⟩ := h1
      have hm : m = r.length := by have := y2.1; rw [bc_len] at this; omega
      simp only [NN_some, addN, drw_cell, drw_heap, exS, exI, exB, exP, exM, exStr, exV, a0, a1, a2, a3, a4, a5, a6, a7, a8, a9, a10, a11, a12, a13, maxI_eq, Nat.zero_add, Nat.add_zero, Nat.mul_one, Option.isNone_some, Option.isNone_none, y1.cell]
      refine ifF rfl (ifC (fun hc => ?_) (fun hc => ?_))
      · simp at hc
        exact bad' (by simp [otext, e, hc]) y1 u1
      simp at hc
      refine ifC (fun hc2 => ?_) (fun hc2 => ?_)
      · simp at hc2
        exact bad' (by simp [otext, e, hc2]) y1 u1
      simp at hc2
      refine ifC (fun hc3 => ?_) (fun hc3 => ?_)
      · simp at hc3
        have : (r.length : Int) < x := by omega
        exact bad' (by simp [otext, e, this]) y1 u1
      simp at hc3
      have hrd : Rd w1 1 q x.toNat (bc (r.take x.toNat)) := by
        refine ⟨by rw [bc_len, List.length_take]; omega, ?_⟩
        rcases y2.2 with h0 | ⟨a, ha, hcc⟩
        · left; omega
        · right
          refine ⟨a, ha, fun i hi => ?_⟩
          rw [hcc i (by omega)]
          simp only [bc, List.getElem?_map]
          rw [List.getElem?_take_of_lt (by omega)]
      have eo : otext (some l) = (r.take x.toNat, some (r.drop x.toNat)) := by
        have : ¬ (x < 0 ∨ 65536 < x ∨ (r.length : Nat) < x) := by omega
        simp [otext, e, this]
      rw [eo] at hK
      refine ⟨by omega, by omega, ?_⟩
      refine Str_rule (e := 5) rfl rfl rfl hrd ⟨_, rfl, ?_⟩
      simp only [NN_some, addN, drw_cell, drw_heap, exS, exI, exB, exP, exM, exStr, exV, a0, a1, a2, a3, a4, a5, a6, a7, a8, a9, a10, a11, a12, a13, maxI_eq, Nat.zero_add, Nat.add_zero, Nat.mul_one, Option.isNone_some, Option.isNone_none, y1.cell]
      refine ⟨by omega, by omega, ?_⟩
      refine St_rule y1 (by simp) rfl fun w2 u2 hb2 => hK w2 ⟨_, _, _, by simpa using hb2, ?_, by omega, Lo_adv y4 (by omega)⟩ (u1.both u2)
      exact (Rd_drop (k := x.toNat) y2 y3 (by omega)).upd u2 (Clear_adv y4.clear (by omega))
    · obtain ⟨p, n, c, z1, z2, z3, z4⟩ := h1
      simp only [NN_some, addN, drw_cell, drw_heap, exS, exI, exB, exP, exM, exStr, exV, a0, a1, a2, a3, a4, a5, a6, a7, a8, a9, a10, a11, a12, a13, maxI_eq, Nat.zero_add, Nat.add_zero, Nat.mul_one, Option.isNone_some, Option.isNone_none, z1.cell]
      exact ifT rfl (bad' (by simp [otext, dtext, hd]) z1 u1)
end

end Go.Proofs.YtggbmakfifllnaaDoor
