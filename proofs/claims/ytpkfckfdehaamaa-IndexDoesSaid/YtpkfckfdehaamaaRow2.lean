/- Rows of entries: slices.Insert, slices.Delete; what is put in, cut, and told. -/
import Derived.Test.YtpkfckfdehaamaaRow1
namespace Go.Proofs.Ytpkfckfdehaamaa
open Go Go.D Go.Proofs
set_option linter.unusedSimpArgs false
set_option linter.unusedVariables false
set_option maxRecDepth 8000

theorem zero2 (n : Nat) : zeroL #[.int .i64 0, .int .i64 0] n = (List.replicate n ((0 : Int), (0 : Int))).flatMap eC := by
  unfold zeroL Builtin.zeroCells
  apply List.ext_getElem?
  intro i
  by_cases hi : i < n * 2
  · rw [Array.getElem?_toList]
    have h2 : i = i / 2 * 2 + i % 2 := by omega
    have h3 : i / 2 < (List.replicate n ((0 : Int), (0 : Int))).length := by simp; omega
    rw [show ((List.replicate n ((0 : Int), (0 : Int))).flatMap eC)[i]? = (eC (List.replicate n ((0 : Int), (0 : Int)))[i / 2])[i % 2]? from by rw [← flat_at eC_len h3 (show i % 2 < 2 by omega), ← h2]]
    have h4 : i % 2 = 0 ∨ i % 2 = 1 := by omega
    rcases h4 with h | h <;> simp [hi, h, eC]
  · rw [List.getElem?_eq_none (by simp; omega), List.getElem?_eq_none (by rw [flat_len eC_len]; simp; omega)]

section
variable {w : World}

theorem Insert_ok {p : Option Addr} {n c i vb : Nat} {E : List (Int × Int)} {e : Int × Int} {F : List Nat} {K : Option Addr → Nat → Nat → World → Prop} (h : RowAt w p n c E F) (hi : i ≤ E.length) (hl : E.length ≤ 2 ^ 30)
    (hv : RowAt w (some ⟨vb, 0, none⟩) 1 1 [e] [vb]) (hpl : Plain w vb) (hvF : vb ∉ F)
    (hK : ∀ p' c' F' w', RowAt w' p' (n + 1) c' (E.take i ++ e :: E.drop i) F' → Upd F w w' → Sub F' F w → K p' (n + 1) c' w') : C_slices_Insert p n c i (some ⟨vb, 0, none⟩) 1 1 w K := by
  apply C_slices_Insert.of
  unfold F_slices_Insert
  have hn := h.len
  have hnc := h.2.1
  have hone := eC_one (E := [e])
  have hxl : (E.flatMap eC).length = n * 2 := h.1
  have key : (E.take i ++ e :: E.drop i).flatMap eC = (E.flatMap eC).take (i * 2) ++ (eC e ++ (E.flatMap eC).drop (i * 2)) := by
    rw [flat_take eC_len, flat_drop eC_len, List.flatMap_append, List.flatMap_cons]
  refine ⟨by omega, by omega, ifF rfl ?_⟩
  by_cases hin : i = n
  · refine ifT (by simp; omega) ?_
    refine App2_rule (hE := eS_58) (by rfl) h hv hone (by omega) fun p' c' F' w' hs u s => hK p' c' F' w' ?_ u s
    show SlAt w' 2 p' (n + 1) c' _ F'
    rw [key, hin, List.take_of_length_le (by omega), List.drop_of_length_le (by omega)]
    simpa using hs
  · refine ifF (by simp; omega) ?_
    rw [i64id (x := (n : Int) + ((1 : Nat) : Int)) (by omega) (by omega), i64id (x := (i : Int) + ((1 : Nat) : Int)) (by omega) (by omega)]
    rw [i64id (x := (n : Int) + ((1 : Nat) : Int) - (i : Int)) (by omega) (by omega)]
    have e1 : ((i : Int) + ((1 : Nat) : Int)).toNat = i + 1 := by omega
    have e2 : ((n : Int) + ((1 : Nat) : Int)).toNat = n + 1 := by omega
    have e3 : (i : Int).toNat = i := by omega
    have e4 : (n : Int).toNat = n := by omega
    rw [e1, e2, e3]
    refine ifC (fun hc => ?_) (fun hc => ?_)
    · -- anew
      simp at hc
      refine ⟨by omega, by omega, ?_⟩
      have ht := h.take (k := i) (by omega)
      have em : ((n : Int) + ((1 : Nat) : Int) - (i : Int)).toNat = n + 1 - i := by omega
      refine AppZ_grow (hE := eS_58) (I := 3) ⟨_, by rfl⟩ ht (by omega) (by rw [em]; omega) (by rw [em]; omega) fun c1 w1 hs1 u1 => ?_
      rw [em] at hs1 ⊢
      have en : i + (n + 1 - i) = n + 1 := by omega
      rw [en] at hs1 ⊢
      have hv1 : RowAt w1 (some ⟨vb, 0, none⟩) 1 1 [e] [vb] := hv.upd u1 (by intro k _ h; cases h)
      refine ⟨by omega, by omega, CpyAt_rule (hE := eS_58) hs1 (k := i) (m := 1) (by omega) hv1 hone fun w2 hs2 u2 => ?_⟩
      have U2 : Upd [] w w2 := u1.fresh u2 (by intro k hk; simp at hk; omega)
      have h2 := (h.upd U2 (by intro k _ h; cases h)).drw
      refine ⟨by omega, by omega, by omega, by omega, CpyAt_rule (hE := eS_58) hs2.drw (k := i + 1) (m := n - i) (by omega) (h2.drop (k := i) (by omega)) (fun v hv => eC_one v (List.mem_of_mem_drop hv)) fun w3 hs3 u3 => ?_⟩
      have U3 : Upd [] w w3 := (U2.after (drw_upd w2)).fresh u3 (by intro k hk; simp at hk; omega)
      refine hK _ c1 [w.heap.size] w3 ?_ (U3.mono (by simp)) (by intro k hk; simp at hk; right; omega)
      show SlAt w3 2 _ (n + 1) c1 _ _
      rw [key]
      have hzl : (zeroL #[Value.int IntKind.i64 0, Value.int IntKind.i64 0] (n + 1 - i)).length = (n + 1 - i) * 2 := by rw [zeroL_length]; rfl
      have e5 : ((((E.flatMap eC).take (i * 2) ++ zeroL #[Value.int IntKind.i64 0, Value.int IntKind.i64 0] (n + 1 - i)).take (i * 2) ++ [e].flatMap eC ++ ((E.flatMap eC).take (i * 2) ++ zeroL #[Value.int IntKind.i64 0, Value.int IntKind.i64 0] (n + 1 - i)).drop ((i + 1) * 2)).take ((i + 1) * 2) ++ (E.flatMap eC).drop (i * 2) ++ (((E.flatMap eC).take (i * 2) ++ zeroL #[Value.int IntKind.i64 0, Value.int IntKind.i64 0] (n + 1 - i)).take (i * 2) ++ [e].flatMap eC ++ ((E.flatMap eC).take (i * 2) ++ zeroL #[Value.int IntKind.i64 0, Value.int IntKind.i64 0] (n + 1 - i)).drop ((i + 1) * 2)).drop ((i + 1 + (n - i)) * 2)) = (E.flatMap eC).take (i * 2) ++ (eC e ++ (E.flatMap eC).drop (i * 2)) := by
        have hA : ((E.flatMap eC).take (i * 2)).length = i * 2 := by rw [List.length_take, hxl]; omega
        have hB : ([e].flatMap eC) = eC e := by simp
        rw [hB]
        have hC : (((E.flatMap eC).take (i * 2) ++ zeroL #[Value.int IntKind.i64 0, Value.int IntKind.i64 0] (n + 1 - i)).take (i * 2)) = (E.flatMap eC).take (i * 2) := by
          rw [List.take_append_of_le_length (by omega), List.take_of_length_le (by omega)]
        rw [hC]
        have hD : ((E.flatMap eC).take (i * 2) ++ eC e).length = (i + 1) * 2 := by rw [List.length_append, hA, eC_len]; omega
        rw [List.take_append_of_le_length (by omega), List.take_of_length_le (by omega)]
        rw [List.drop_of_length_le (l := (E.flatMap eC).take (i * 2) ++ eC e ++ _) (by rw [List.length_append, hD, List.length_drop, List.length_append, hA, hzl]; omega)]
        simp
      rw [← e5]
      exact hs3
    · -- moved on
      simp at hc
      refine ⟨by omega, by omega, by omega, by omega, ?_⟩
      rcases h.2.2 with ⟨hp, hc0, _⟩ | ⟨b, off, arr, rfl, rfl, hblk, hsz, hcell⟩
      · omega
      have hadv : adv (some ⟨b, off, none⟩) c (i + 1) 2 = some ⟨b, off + (i + 1) * 2, none⟩ := by unfold adv; rw [if_neg (by omega)]; simp [addN]
      rw [hadv]
      refine overlaps_ok hpl hblk (by simpa using hvF) (by omega) ⟨_, rfl, ifT rfl ?_⟩
      rw [← hadv]
      obtain ⟨xs, hw, hxs⟩ := h.widen (k := n + 1) (by omega) (by omega)
      have hxl1 : (E.flatMap eC ++ xs).length = (n + 1) * 2 := hw.1
      have hxs1 : xs.length = 2 := by omega
      -- the source is longer than the place: what fits is copied
      have hsrc := hw.drop (k := i) (by omega)
      have hmin : Nat.min (n + 1 - i) (n + 1 - (i + 1)) = n - i := by
        rw [show n + 1 - (i + 1) = n - i by omega]; exact Nat.min_eq_right (by omega)
      have hpart : ((E.flatMap eC ++ xs).drop (i * 2)).take ((n - i) * 2) = (E.flatMap eC).drop (i * 2) := by
        rw [List.drop_append_of_le_length (by omega), List.take_append_of_le_length (by rw [List.length_drop]; omega), List.take_of_length_le (by rw [List.length_drop]; omega)]
      refine ⟨by omega, by omega, by omega, by omega, CpyMin_rule (hE := eS_58) (n - i) (k := i + 1) hw.drw (by omega) hmin hsrc.drw (fun v hv => by rw [hpart] at hv; exact eC_one v (List.mem_of_mem_drop hv)) fun w1 hs1 u1 => ?_⟩
      have U1 : Upd [b] w w1 := (drw_upd w).after u1
      rw [hpart] at hs1
      have hv1 : RowAt w1 (some ⟨vb, 0, none⟩) 1 1 [e] [vb] := hv.upd U1 (by intro k hk; simp at hk; subst hk; exact hvF)
      refine ⟨by omega, by omega, CpyAt_rule (hE := eS_58) hs1 (k := i) (m := 1) (by omega) hv1 hone fun w2 hs2 u2 => ?_⟩
      refine hK _ c [b] w2 ?_ (U1.both u2) (Sub.refl _ _)
      show SlAt w2 2 _ (n + 1) c _ _
      rw [key]
      have hB : ([e].flatMap eC) = eC e := by simp
      rw [hB] at hs2
      have e5 : ((E.flatMap eC ++ xs).take ((i + 1) * 2) ++ (E.flatMap eC).drop (i * 2) ++ (E.flatMap eC ++ xs).drop ((i + 1 + (n - i)) * 2)).take (i * 2) ++ eC e ++ ((E.flatMap eC ++ xs).take ((i + 1) * 2) ++ (E.flatMap eC).drop (i * 2) ++ (E.flatMap eC ++ xs).drop ((i + 1 + (n - i)) * 2)).drop ((i + 1) * 2) = (E.flatMap eC).take (i * 2) ++ (eC e ++ (E.flatMap eC).drop (i * 2)) := by
        have hA : ((E.flatMap eC ++ xs).take ((i + 1) * 2)).length = (i + 1) * 2 := by rw [List.length_take]; omega
        have hZ : (E.flatMap eC ++ xs).drop ((i + 1 + (n - i)) * 2) = [] := List.drop_of_length_le (by omega)
        rw [hZ, List.append_nil, List.drop_append_of_le_length (by omega), List.drop_of_length_le (l := (E.flatMap eC ++ xs).take ((i + 1) * 2)) (by omega), List.take_append_of_le_length (by omega), List.take_take, List.take_append_of_le_length (by omega)]
        rw [show min (i * 2) ((i + 1) * 2) = i * 2 by omega]
        simp
      rw [← e5]
      exact hs2

theorem Delete_ok {p : Option Addr} {n c i : Nat} {E : List (Int × Int)} {F : List Nat} {K : Option Addr → Nat → Nat → World → Prop} (h : RowAt w p n c E F) (hi : i < E.length) (hl : E.length ≤ 2 ^ 30)
    (hK : ∀ p' c' F' w', RowAt w' p' (n - 1) c' (E.take i ++ E.drop (i + 1)) F' → Upd F w w' → Sub F' F w → K p' (n - 1) c' w') : C_slices_Delete p n c i ((i : Int) + 1) w K := by
  apply C_slices_Delete.of
  unfold F_slices_Delete
  have hn := h.len
  have hnc := h.2.1
  have hxl : (E.flatMap eC).length = n * 2 := h.1
  have e1 : ((i : Int) + 1).toNat = i + 1 := by omega
  have e2 : (i : Int).toNat = i := by omega
  refine ⟨by omega, by omega, by omega, by omega, ifF (by simp; omega) ⟨by omega, by omega, by omega, by omega, ?_⟩⟩
  rw [e1, e2]
  have hin : i + (n - (i + 1)) = n - 1 := by omega
  refine AppIn_rule (hE := eS_58) h.drw (n := i) (by omega) (h.drop (k := i + 1) (by omega)).drw (fun v hv => eC_one v (List.mem_of_mem_drop hv)) fun w1 hs1 u1 => ?_
  rw [hin] at hs1 ⊢
  have U1 : Upd F w w1 := (drw_upd w).after u1
  have e3 : ((n - 1 : Nat) : Int).toNat = n - 1 := by omega
  have e4 : (n : Int).toNat = n := by omega
  rw [e3, e4]
  refine ⟨by omega, by omega, by omega, Clr_rule (hE := eS_58) hs1 (k := n - 1) (by omega) fun v w2 hs2 u2 => ?_⟩
  have hs3 := hs2.take (k := n - 1) (by omega)
  refine hK p c F w2 ?_ (U1.both u2) (Sub.refl _ _)
  have key : (E.take i ++ E.drop (i + 1)).flatMap eC = (E.flatMap eC).take (i * 2) ++ (E.flatMap eC).drop ((i + 1) * 2) := by
    rw [flat_take eC_len, flat_drop eC_len, List.flatMap_append]
  show SlAt w2 2 p (n - 1) c _ F
  rw [key]
  have hlen : ((E.flatMap eC).take (i * 2) ++ (E.flatMap eC).drop ((i + 1) * 2)).length = (n - 1) * 2 := by rw [List.length_append, List.length_take, List.length_drop]; omega
  rw [List.take_append_of_le_length (l₁ := (E.flatMap eC).take (i * 2) ++ (E.flatMap eC).drop ((i + 1) * 2)) (by omega), List.take_of_length_le (l := (E.flatMap eC).take (i * 2) ++ (E.flatMap eC).drop ((i + 1) * 2)) (by omega), List.take_append_of_le_length (by omega), List.take_of_length_le (by omega)] at hs3
  exact hs3

/-! ## What is put in, cut, told -/

theorem put_ok {p : Option Addr} {n c : Nat} {E : List (Int × Int)} {rank id : Int} {F : List Nat} {K : Option Addr → Nat → Nat → World → Prop} (h : RowAt w p n c E F) (hr : Rising E) (hl : E.length ≤ 2 ^ 30)
    (hK : ∀ (i : Nat) p' c' F' w', i ≤ E.length → (∀ j (hj : j < E.length), j < i → E[j].1 < rank) → (∀ j (hj : j < E.length), i ≤ j → rank ≤ E[j].1) → RowAt w' p' (n + 1) c' (E.take i ++ (rank, id) :: E.drop i) F' → Upd F w w' → Sub F' F w → K p' (n + 1) c' w') :
    C_index_put p n c rank id w K := by
  apply C_index_put.of
  unfold F_index_put F_index_put_k1
  refine New_rule fun r w1 hr1 u1 hb1 => ?_
  have h1 := h.upd u1 (by intro k _ h; cases h)
  simp only [NN_some, addN, drw_cell, drw_heap, exS, exI, exB, exP, exM, exStr, exV, a0, a1, a2, a3, a4, a5, a6, a7, a8, a9, a10, a11, a12, a13, maxI_eq, Nat.zero_add, Nat.add_zero, Nat.mul_one, Option.isNone_some, Option.isNone_none, hb1.cell]
  constructor
  · refine place_ok h1.drw hr (by omega) fun i w2 hi hlt hge u2 => ?_
    have hb2 := hb1.drw.upd u2 (by simp)
    have h2 : RowAt w2 p n c E F := h1.drw.upd u2 (by intro k _ h; cases h)
    refine ⟨fun i hi => by rw [hb2.cell], BSlP_rule eS_57 [.agg #[.int .i64 rank, .int .i64 id]] (by rfl) (by simp [Value.cells]) (by rfl) (by omega) fun w3 hs3 hp3 u3 => ?_⟩
    have h3 : RowAt w3 p n c E F := h2.upd u3 (by intro k _ h; cases h)
    have U3 : Upd [] w w3 := ((u1.after (drw_upd w1)).after u2).after u3
    have hs3' : RowAt w3 (some ⟨w2.heap.size, 0, none⟩) 1 1 [(rank, id)] [w2.heap.size] := by simpa [Value.cells, RowAt, eC] using hs3
    refine Insert_ok h3 hi hl hs3' hp3 (fun hx => by have := h2.inn _ hx; omega) fun p' c' F' w4 hs4 u4 s4 => hK i p' c' F' w4 hi hlt hge hs4 (U3.after u4) (s4.old U3.size)
  · refine BSlP_rule eS_57 [.agg #[.int .i64 rank, .int .i64 id]] (by rfl) (by simp [Value.cells]) (by rfl) (by omega) fun w2 hs2 hp2 u2 => ?_
    have hb2 := hb1.drw.upd u2 (by simp)
    have h2 : RowAt w2 p n c E F := h1.drw.upd u2 (by intro k _ h; cases h)
    simp only [NN_some, addN, drw_cell, drw_heap, exS, exI, exB, exP, exM, exStr, exV, a0, a1, a2, a3, a4, a5, a6, a7, a8, a9, a10, a11, a12, a13, maxI_eq, Nat.zero_add, Nat.add_zero, Nat.mul_one, Option.isNone_some, Option.isNone_none, hb2.cell, hb1.cell]
    refine ⟨trivial, place_ok h2 hr (by omega) fun i w3 hi hlt hge u3 => ?_⟩
    have h3 : RowAt w3 p n c E F := h2.upd u3 (by intro k _ h; cases h)
    have U3 : Upd [] w w3 := ((u1.after (drw_upd w1)).after u2).after u3
    have hs3' : RowAt w3 (some ⟨w1.heap.size, 0, none⟩) 1 1 [(rank, id)] [w1.heap.size] := by
      have := hs2.upd u3 (by intro k _ h; cases h)
      simpa [Value.cells, RowAt, eC] using this
    refine Insert_ok h3 hi hl hs3' (hp2.upd u3 (by simp)) (fun hx => by have := h1.inn _ hx; omega) fun p' c' F' w4 hs4 u4 s4 => hK i p' c' F' w4 hi hlt hge hs4 (U3.after u4) (s4.old U3.size)

theorem cut_ok {p : Option Addr} {n c i : Nat} {E : List (Int × Int)} {rank : Int} {F : List Nat} {K : Option Addr → Nat → Nat → World → Prop} (h : RowAt w p n c E F) (hr : Rising E) (hl : E.length ≤ 2 ^ 30) (hi : i < E.length) (hrk : E[i].1 = rank)
    (hK : ∀ p' c' F' w', RowAt w' p' (n - 1) c' (E.take i ++ E.drop (i + 1)) F' → Upd F w w' → Sub F' F w → K p' (n - 1) c' w') : C_index_cut p n c rank w K := by
  apply C_index_cut.of
  unfold F_index_cut
  refine place_ok h hr (by omega) fun j w1 hj hlt hge u1 => ?_
  have hji : j = i := by
    by_cases h1 : j < i
    · have := hge j (by omega) (Nat.le_refl _)
      have := hr.lt hi h1
      omega
    · by_cases h2 : i < j
      · have := hlt i hi h2; omega
      · omega
  subst hji
  rw [i64id (by omega) (by omega)]
  exact Delete_ok (h.upd u1 (by intro k _ h; cases h)) hi hl fun p' c' F' w2 hs u s => hK p' c' F' w2 hs (u1.after u) (s.old u1.size)

/-- The first one behind a rank. -/
def behindR (E : List (Int × Int)) (rank : Int) : Option (Int × Int) := E.find? fun e => decide (rank < e.1)

theorem after_ok {p : Option Addr} {n c : Nat} {E : List (Int × Int)} {rank : Int} {F : List Nat} {K : Int → Int → Bool → World → Prop} (h : RowAt w p n c E F) (hr : Rising E) (hl : E.length ≤ 2 ^ 30) (h0 : -2 ^ 62 ≤ rank) (h1 : rank < 2 ^ 62)
    (hK : ∀ w', Upd [] w w' → K ((behindR E rank).getD (0, 0)).1 ((behindR E rank).getD (0, 0)).2 (behindR E rank).isSome w') : C_index_row_after p n c rank w K := by
  apply C_index_row_after.of
  unfold F_index_row_after
  refine New_rule fun r w1 hr1 u1 hb1 => ?_
  have hn := h.len
  have hv1 : RowAt w1 p n c E F := h.upd u1 (by intro k _ h; cases h)
  rw [i64id (by omega) (by omega)]
  refine place_ok hv1 hr (by omega) fun i w2 hi hlt hge u2 => ?_
  have hb2 := hb1.upd u2 (by simp)
  have hv2 : RowAt w2 p n c E F := hv1.upd u2 (by intro k _ h; cases h)
  by_cases hin : i = n
  · have hnone : behindR E rank = none := by
      unfold behindR
      rw [List.find?_eq_none]
      intro e he
      obtain ⟨j, hj, rfl⟩ := List.getElem_of_mem he
      have := hlt j hj (by omega)
      simp; omega
    rw [hnone] at hK
    refine ifT (by simp; omega) ?_
    simp only [NN_some, addN, drw_cell, drw_heap, exS, exI, exB, exP, exM, exStr, exV, a0, a1, a2, a3, a4, a5, a6, a7, a8, a9, a10, a11, a12, a13, maxI_eq, Nat.zero_add, Nat.add_zero, Nat.mul_one, Option.isNone_some, Option.isNone_none]
    refine St_acc (Upd.refl _ _) hb2 (by simp) rfl fun w3 u3 hb3 => St_acc u3 hb3 (by simp) rfl fun w4 u4 hb4 => ?_
    simp at hb4
    simp only [NN_some, addN, drw_cell, drw_heap, exS, exI, exB, exP, exM, exStr, exV, a0, a1, a2, a3, a4, a5, a6, a7, a8, a9, a10, a11, a12, a13, maxI_eq, Nat.zero_add, Nat.add_zero, Nat.mul_one, Option.isNone_some, Option.isNone_none, hb4.cell]
    exact hK w4 ((u1.after u2).fresh u4 (by intro k hk; simp at hk; omega))
  · have hil : i < E.length := by omega
    have hsome : behindR E rank = some E[i] := by
      unfold behindR
      rw [List.find?_eq_some_iff_append]
      refine ⟨by have := hge i hil (Nat.le_refl _); simp; omega, E.take i, E.drop (i + 1), by simp, fun e he => ?_⟩
      obtain ⟨j, hj, rfl⟩ := List.getElem_of_mem he
      rw [List.length_take] at hj
      rw [List.getElem_take]
      have := hlt j (by omega) (by omega)
      simp; omega
    rw [hsome] at hK
    refine ifF (by simp; omega) ?_
    obtain ⟨b, off, hp, c1, c2⟩ := hv2.get hil
    simp only [NN_some, addN, drw_cell, drw_heap, exS, exI, exB, exP, exM, exStr, exV, a0, a1, a2, a3, a4, a5, a6, a7, a8, a9, a10, a11, a12, a13, maxI_eq, Nat.zero_add, Nat.add_zero, Nat.mul_one, Option.isNone_some, Option.isNone_none, hp, Int.toNat_natCast, c1, c2]
    refine ⟨by omega, by omega, St_acc (Upd.refl _ _) hb2 (by simp) rfl fun w3 u3 hb3 => St_acc u3 hb3 (by simp) rfl fun w4 u4 hb4 => ?_⟩
    simp at hb4
    simp only [NN_some, addN, drw_cell, drw_heap, exS, exI, exB, exP, exM, exStr, exV, a0, a1, a2, a3, a4, a5, a6, a7, a8, a9, a10, a11, a12, a13, maxI_eq, Nat.zero_add, Nat.add_zero, Nat.mul_one, Option.isNone_some, Option.isNone_none, hb4.cell]
    exact hK w4 ((u1.after u2).fresh u4 (by intro k hk; simp at hk; omega))

end

end Go.Proofs.Ytpkfckfdehaamaa
