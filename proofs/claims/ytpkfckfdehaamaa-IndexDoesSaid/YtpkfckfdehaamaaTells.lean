/- Head, and Next of what was told, tell all: the law. -/
import Derived.Test.YtpkfckfdehaamaaLives
namespace Go.Proofs.Ytpkfckfdehaamaa
open Go Go.D Go.Proofs
set_option linter.unusedSimpArgs false
set_option linter.unusedVariables false
set_option maxRecDepth 8000

/-- A call. -/
structure OpV where
  kind : Int
  id : Int
  k : Key
  front : Bool

def OpV.cells (o : OpV) : List Value := [.int .i64 o.kind, .int .i64 o.id, .int .i64 o.k.1, .string o.k.2.1, .int .i64 o.k.2.2, .bool o.front]

/-- The calls of a row. -/
def Ops (cs : List Value) (n : Nat) : Prop := ∀ i, i < n → ∃ o : OpV, (cs.drop (i * 6)).take 6 = o.cells

theorem Ops.get {w : World} {p : Option Addr} {n : Nat} {cs : List Value} (hr : Rd w 6 p n cs) (ho : Ops cs n) {i : Nat} (hi : i < n) : ∃ (x : Addr) (o : OpV), p = some x ∧ (cs.drop (i * 6)).take 6 = o.cells ∧ ∀ j, j < 6 → w.cell? (x.add (i * 6 + j)) = o.cells[j]? := by
  obtain ⟨x, hx, hc⟩ := hr.elem hi
  obtain ⟨o, h⟩ := ho i hi
  refine ⟨x, o, hx, h, fun j hj => ?_⟩
  rw [hc j hj, ← h, List.getElem?_take, if_pos hj, List.getElem?_drop]

theorem insE_len (front : Bool) (E : List En) (e : En) : (insE front E e).length = E.length + 1 := by unfold insE; cases front <;> simp

theorem IndexTells_law {w : World} {p : Option Addr} {n c : Nat} {ls : List Value} {k : Key} (hl : Rd w 6 p n ls) (ho : Ops ls n) : C_law18_IndexTells p n c k.1 k.2.1 k.2.2 w fun r w' => r = true ∧ Upd [] w w' := by
  apply C_law18_IndexTells.of
  unfold F_law18_IndexTells F_law18_IndexTells_L1
  refine New_rule fun r w1 hr u1 hb1 => New_ok fun w2 d h2 ok2 hE2 u2 n2 => lives_ok fun w3 u3 => ifF rfl (ifF rfl ?_)
  have h3 := h2.keep u3
  have hb3 := (hb1.upd u2 (by simp)).upd u3 (by simp)
  have hrF : r ∉ d.FT := fun hx => by have := n2 r hx; have := hb1.lt; omega
  have U3 := (u1.after u2).after u3
  have N2 : Since d.FT w := fun x hx => by have := n2 x hx; have := u1.size; omega
  refine ⟨fun s v => 0 ≤ s.i ∧ s.i ≤ 60 ∧ ∃ d', d'.a = d.a ∧ Tb v d' ∧ TbOk d' s.i ∧ (d'.E.length : Int) ≤ s.i ∧ Blk v r #[.int .i64 k.1, .string k.2.1, .int .i64 k.2.2] ∧ r ∉ d'.FT ∧ Upd [] w v ∧ Since d'.FT w, fun s _ => (60 - s.i).toNat, ⟨by simp, by simp, d, rfl, h3, ok2, by rw [hE2]; simp, hb3, hrF, U3, N2⟩, ?_⟩
  rintro ⟨i⟩ v ⟨hi0, hi1, d', ha, ht, ok, hlen, hbv, hrF', U, N⟩
  dsimp only at hi0 hi1 hlen
  replace ok : TbOk d' i := ok
  unfold B_law18_IndexTells_L1 F_law18_IndexTells_k1
  dsimp only
  rw [← ha]
  have wide : TbOk d' (i + 1) := ⟨ok.rising, ok.ids, ok.norm, ok.lo, ok.hi, by have := ok.b0; omega, ok.b1, by have := ok.b2; omega, ok.len⟩
  -- behind the calls
  have tail : ∃ t600 : Int, v.cell? ((⟨r, 0, none⟩ : Addr).add 0) = some (.int .i64 t600) ∧
      ∃ t601 : ByteArray, v.cell? ((⟨r, 0, none⟩ : Addr).add 1) = some (.string t601) ∧
      ∃ t602 : Int, v.cell? ((⟨r, 0, none⟩ : Addr).add 2) = some (.int .i64 t602) ∧
      C_index_Table_Head d'.a t600 t601 t602 v fun t610 t611 w1_7 =>
      F_law18_IndexTells_L2 ⟨r, 0, none⟩ d'.a ⟨none, 0, 0, t610, t611, (0 : Int)⟩ w1_7
      (fun outP_2 outN_2 outC_2 isx_2 w1_11 =>
      If (!isx_2)
      (∃ t870 : Int, w1_11.cell? ((⟨r, 0, none⟩ : Addr).add 0) = some (.int .i64 t870) ∧
      ∃ t871 : ByteArray, w1_11.cell? ((⟨r, 0, none⟩ : Addr).add 1) = some (.string t871) ∧
      ∃ t872 : Int, w1_11.cell? ((⟨r, 0, none⟩ : Addr).add 2) = some (.int .i64 t872) ∧
      C_index_Table_All d'.a t870 t871 t872 w1_11 fun t88P t88N t88C w1_12 =>
      C_ref15_SameInts outP_2 outN_2 outC_2 t88P t88N t88C w1_12 fun t89 w1_13 =>
      (fun r w' => r = true ∧ Upd [] w w') t89 w1_13)
      ((fun r w' => r = true ∧ Upd [] w w') false w1_11)) := by
    simp only [NN_some, addN, drw_cell, drw_heap, exS, exI, exB, exP, exM, exStr, exV, a0, a1, a2, a3, a4, a5, a6, a7, a8, a9, a10, a11, a12, a13, maxI_eq, Nat.zero_add, Nat.add_zero, Nat.mul_one, Option.isNone_some, Option.isNone_none, hbv.cell]
    refine Head_ok ht ok (by omega) fun w5 u5 => ?_
    have hhead : d'.E.find? (fun e => meets e.key k) = (metE d'.E k)[0]? := by
      unfold metE; rw [← List.head?_eq_getElem?, List.head?_filter]
    rw [hhead]
    have hml : (metE d'.E k).length ≤ d'.E.length := List.length_filter_le _ _
    unfold F_law18_IndexTells_L2
    refine ⟨fun s v' => ∃ (j : Nat) (F : List Nat), s.i_1 = j ∧ j ≤ (metE d'.E k).length ∧ SlAt v' 1 s.outP s.outN s.outC ((((metE d'.E k).take j).map (·.id)).map (.int .i64)) F ∧ Upd [] v v' ∧ Since F v ∧ s.isx = ((metE d'.E k)[j]?).isSome ∧ s.idx = (((metE d'.E k)[j]?).map (·.id)).getD 0, fun s _ => (metE d'.E k).length - s.outN, ⟨0, [], rfl, Nat.zero_le _, SlAt.nil w5 1, u5, (fun k hk => by cases hk), rfl, rfl⟩, ?_⟩
    rintro ⟨p, n, c, idx, is, i1⟩ v' ⟨j, F, hij, hj, hs, u, hF, his, hid⟩
    dsimp only at hij hs his hid
    subst hij his hid
    unfold B_law18_IndexTells_L2
    dsimp only
    have hn : n = j := by have := hs.1; simp at this; omega
    refine ifC (fun hc1 => ifC (fun hc => ?_) (fun hc => ?_)) (fun hc1 => by simp at hc1; omega)
    · have hjl : j < (metE d'.E k).length := by simpa using hc
      rw [List.getElem?_eq_getElem hjl]
      simp only [Option.map_some, Option.getD_some]
      refine BSlL_rule eS_43 [.int .i64 (metE d'.E k)[j].id] (by rfl) (by simp [Value.cells]) (by rfl) (by omega) fun w6 hs6 u6 => ?_
      refine App_rule (hE := eS_43) (hs.upd u6 (by intro k _ h; cases h)) hs6 (by simp [Value.cells, Value.oneCell']) (by omega) fun p' c' F' w7 hs7 u7 s7 => ?_
      have hsz := u.size
      have hbr : Blk w7 r #[.int .i64 k.1, .string k.2.1, .int .i64 k.2.2] := ((hbv.upd u (by simp)).upd u6 (by simp)).upd u7 fun hx => by have := hF r hx; have := hbv.lt; omega
      have U7 : Upd [] v w7 := (u.after u6).fresh u7 hF
      have t7 := ht.keep U7
      simp only [NN_some, addN, drw_cell, drw_heap, exS, exI, exB, exP, exM, exStr, exV, a0, a1, a2, a3, a4, a5, a6, a7, a8, a9, a10, a11, a12, a13, maxI_eq, Nat.zero_add, Nat.add_zero, Nat.mul_one, Option.isNone_some, Option.isNone_none, hbr.cell]
      refine Next_ok t7 ok (by omega) fun w8 u8 => ?_
      have hmem : (metE d'.E k)[j] ∈ d'.E := (List.mem_filter.1 (List.getElem_mem hjl)).1
      rw [find_id ok.ids hmem, Option.bind_some, nextE_met ok.rising hjl, i64id (by omega) (by omega)]
      refine ⟨⟨j + 1, F', by simp, by omega, ?_, U7.after u8, hF.step s7 (Nat.le_trans hsz u6.size), rfl, rfl⟩, by omega⟩
      have := hs7.upd u8 (by intro k _ h; cases h)
      rw [List.take_succ_eq_append_getElem hjl, List.map_append, List.map_append]
      exact this
    · have hjl : (metE d'.E k).length ≤ j := by simpa using hc
      rw [List.take_of_length_le hjl] at hs
      have hnone : (metE d'.E k)[j]? = none := List.getElem?_eq_none hjl
      rw [hnone]
      have hbr := hbv.upd u (by simp)
      refine ifT rfl ?_
      simp only [NN_some, addN, drw_cell, drw_heap, exS, exI, exB, exP, exM, exStr, exV, a0, a1, a2, a3, a4, a5, a6, a7, a8, a9, a10, a11, a12, a13, maxI_eq, Nat.zero_add, Nat.add_zero, Nat.mul_one, Option.isNone_some, Option.isNone_none, hbr.cell]
      refine All_ok (ht.keep u) ok (by omega) fun p7 n7 c7 F7 w7 hs7 u7 nF7 => ?_
      have hs8 := hs.upd u7 (by intro k _ h; cases h)
      exact SameInts_ok hs8.rd hs7.rd (by rw [List.length_map]; omega) fun w9 u9 => ⟨rfl, ((U.after u).after u7).after u9⟩
  refine ifC (fun hc => ifC (fun hc2 => ?_) (fun _ => tail)) (fun _ => tail)
  simp at hc hc2
  obtain ⟨x, o, hx, _, hcell⟩ := Ops.get (hl.keep U) ho (i := i.toNat) (by omega)
  subst hx
  have c0 := hcell 0 (by omega)
  have c1 := hcell 1 (by omega)
  have c2 := hcell 2 (by omega)
  have c3 := hcell 3 (by omega)
  have c4 := hcell 4 (by omega)
  have c5 := hcell 5 (by omega)
  simp only [OpV.cells, List.getElem?_cons_zero, List.getElem?_cons_succ] at c0 c1 c2 c3 c4 c5
  simp only [NN_some, drw_cell, addA, Nat.add_assoc, Nat.reduceAdd, c0, c1, c2, c3, c4, c5, exI, exStr, exB]
  refine ⟨hi0, hc, ifC (fun hk => ⟨hi0, hc, ?_⟩) (fun hk => ⟨hi0, hc, hi0, hc, hi0, hc, ?_⟩)⟩
  · by_cases hm : o.id ∈ d'.E.map (·.id)
    · obtain ⟨e, he, he5⟩ := List.mem_map.1 hm
      have hdr := @Drop_ok v d' i e
      rw [he5] at hdr
      refine hdr ht ok he fun w5 d5 h5 ok5 ha5 hE5 u5 s5 => ?_
      rw [i64id (by omega) (by omega)]
      have ok6 : TbOk d5 (i + 1) := ⟨ok5.rising, ok5.ids, ok5.norm, ok5.lo, ok5.hi, by have := ok5.b0; omega, ok5.b1, by have := ok5.b2; omega, ok5.len⟩
      have hl5 : d5.E.length ≤ d'.E.length := by rw [hE5]; exact List.length_filter_le _ _
      refine ⟨⟨by omega, by omega, d5, ha5, h5, ok6, by omega, hbv.upd u5 hrF', ?_, U.fresh u5 N, N.step s5 U.size⟩, by omega⟩
      intro hx
      rcases s5 r hx with h | h
      · exact hrF' h
      · have := hbv.lt; omega
    · refine Drop_no ht hm fun w5 h5 u5 => ?_
      rw [i64id (by omega) (by omega)]
      exact ⟨⟨by omega, by omega, d', rfl, h5, wide, by omega, hbv.upd u5 (by simp), hrF', U.after u5, N⟩, by omega⟩
  · have same : ∀ w5, Tb w5 d' → Upd [] (drw v) w5 → (0 ≤ IntKind.i64.wrap (i + 1) ∧ IntKind.i64.wrap (i + 1) ≤ 60 ∧ ∃ d'_1, d'_1.a = d'.a ∧ Tb w5 d'_1 ∧ TbOk d'_1 (IntKind.i64.wrap (i + 1)) ∧ (d'_1.E.length : Int) ≤ IntKind.i64.wrap (i + 1) ∧ Blk w5 r #[.int .i64 k.1, .string k.2.1, .int .i64 k.2.2] ∧ r ∉ d'_1.FT ∧ Upd [] w w5 ∧ Since d'_1.FT w) ∧ (60 - IntKind.i64.wrap (i + 1)).toNat < (60 - i).toNat := by
      intro w5 h5 u5
      rw [i64id (by omega) (by omega)]
      exact ⟨⟨by omega, by omega, d', rfl, h5, wide, by omega, hbv.drw.upd u5 (by simp), hrF', (U.after (drw_upd v)).after u5, N⟩, by omega⟩
    refine Add_ask (k := o.k) (front := o.front) (ht.keep (drw_upd v)) ok (by omega) (fun _ w5 h5 u5 => same w5 h5 u5) (fun _ _ w5 h5 u5 => same w5 h5 u5) (fun _ _ w5 d5 h5 ok5 ha5 hE5 u5 s5 => ?_)
    rw [i64id (by omega) (by omega)]
    have hl5 : d5.E.length = d'.E.length + 1 := by rw [hE5, insE_len]
    refine ⟨⟨by omega, by omega, d5, ha5, h5, ok5, by omega, hbv.drw.upd u5 hrF', ?_, (U.after (drw_upd v)).fresh u5 N, N.step s5 U.size⟩, by omega⟩
    intro hx
    rcases s5 r hx with h | h
    · exact hrF' h
    · have h7 : v.heap.size ≤ r := h
      have := hbv.lt; omega

end Go.Proofs.Ytpkfckfdehaamaa
