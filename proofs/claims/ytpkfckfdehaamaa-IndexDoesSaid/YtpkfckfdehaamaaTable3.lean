/- A table of entries: Add, Drop, New. -/
import Derived.Test.YtpkfckfdehaamaaTable2
namespace Go.Proofs.Ytpkfckfdehaamaa
open Go Go.D Go.Proofs
set_option linter.unusedSimpArgs false
set_option linter.unusedVariables false
set_option maxRecDepth 8000

/-- Without one. -/
def outE (E : List En) (id : Int) : List En := E.filter fun e => !decide (e.id = id)

theorem erase_eq : ∀ {E : List En} (h : (E.map (·.id)).Nodup) {i : Nat} (hi : i < E.length), E.take i ++ E.drop (i + 1) = outE E E[i].id
  | x :: E, h, 0, hi => by
    rw [List.map_cons, List.nodup_cons] at h
    simp only [List.take_zero, List.nil_append, List.drop_succ_cons, List.drop_zero, List.getElem_cons_zero]
    unfold outE
    rw [List.filter_cons_of_neg (by simp)]
    symm
    rw [List.filter_eq_self]
    intro y hy
    have : ¬ y.id = x.id := fun e => h.1 (by rw [← e]; exact List.mem_map.2 ⟨y, hy, rfl⟩)
    simp [this]
  | x :: E, h, i + 1, hi => by
    rw [List.map_cons, List.nodup_cons] at h
    have hi' : i < E.length := by simpa using hi
    have ih := erase_eq h.2 hi'
    simp only [List.take_succ_cons, List.cons_append, List.drop_succ_cons, List.getElem_cons_succ]
    rw [ih]
    unfold outE
    have : ¬ x.id = E[i].id := fun e => h.1 (by rw [e]; exact List.mem_map.2 ⟨_, List.getElem_mem hi', rfl⟩)
    rw [List.filter_cons_of_pos (by simp [this])]

theorem erase_rk {E : List En} (h : (E.map (·.id)).Nodup) {i : Nat} (hi : i < E.length) : (E.map rk).take i ++ (E.map rk).drop (i + 1) = (outE E E[i].id).map rk := by
  rw [← erase_eq h hi, List.map_append, List.map_take, List.map_drop]

theorem id_eq {E : List En} (h : (E.map (·.id)).Nodup) {x y : En} (hx : x ∈ E) (hy : y ∈ E) (e : x.id = y.id) : x = y := by
  have h1 := find_id h hx
  have h2 := find_id h hy
  rw [e] at h1
  exact Option.some.inj (h1.symm.trans h2)

theorem outE_key {E : List En} (h : (E.map (·.id)).Nodup) {e : En} (he : e ∈ E) (k : Key) : ofKey k (outE E e.id) = if k = e.key then outE (ofKey k E) e.id else ofKey k E := by
  have e1 : ofKey k (outE E e.id) = outE (ofKey k E) e.id := by
    unfold ofKey outE
    rw [List.filter_filter, List.filter_filter]
    congr 1; funext x; rw [Bool.and_comm]
  rw [e1]
  split
  · rfl
  · rename_i hk
    unfold outE
    rw [List.filter_eq_self]
    intro x hx
    have hx' := List.mem_filter.1 hx
    by_cases hxe : x.id = e.id
    · have := id_eq h hx'.1 he hxe
      subst this
      simp at hx'
      exact absurd hx'.2.symm hk
    · simp [hxe]

theorem key_ids {E : List En} (h : (E.map (·.id)).Nodup) (k : Key) : ((ofKey k E).map (·.id)).Nodup := List.Nodup.sublist (List.Sublist.map _ List.filter_sublist) h

theorem outE_find {E : List En} {id j : Int} : (outE E id).find? (fun x => decide (x.id = j)) = if j = id then none else E.find? fun x => decide (x.id = j) := by
  unfold outE
  rw [List.find?_filter]
  split
  · rename_i hj
    subst hj
    rw [List.find?_eq_none]
    intro x _
    simp
  · rename_i hj
    apply findCongr
    intro x _
    by_cases hx : x.id = j
    · simp [hx, hj]
    · simp [hx]

section
variable {w : World} {d : TbD} {B : Int}

theorem New_ok {K : Option Addr → World → Prop} (hK : ∀ w' d', Tb w' d' → TbOk d' 0 → d'.E = [] → Upd [] w w' → Since d'.FT w → K d'.a w') : C_index_New w K := by
  apply C_index_New.of
  unfold F_index_New
  refine New_map fun r w1 hr u1 hm1 => New_map fun m w2 hm u2 hm2 => New_rule fun b w3 hb u3 hb3 => ?_
  have hrl : r < w1.heap.size := (Array.getElem?_eq_some_iff.1 hm1).1
  have hml : m < w2.heap.size := (Array.getElem?_eq_some_iff.1 hm2).1
  have s1 := u1.size
  have s2 := u2.size
  have s3 := u3.size
  have hlt := hb3.lt
  have h1 := ((MapAt.new kV hm1).upd u2 (by simp)).upd u3 (by simp)
  have h2 := (MapAt.new (fun a : Int => Value.int .i64 a) hm2).upd u3 (by simp)
  refine hK w3 { b := b, r := r, m := m, ap := none, an := 0, ac := 0, first := 0, last := 0, E := [], RM := [], AM := [], G := [], F := fun _ => [], FT := [b, r, m] } ?_ ?_ rfl ((u1.after u2).after u3) ?_
  · refine ⟨hb3, h1, List.nodup_nil, h2, List.nodup_nil, SlAt.nil _ _, fun k => ⟨none, 0, 0, rfl, SlAt.nil _ _⟩, fun _ => rfl, by show b ≠ r; omega, by show b ≠ m; omega, by show r ≠ m; omega, by simp, by simp, by simp, by simp, by simp, by simp, ?_, ?_, by simp, by simp, by simp, by simp, by simp, ?_⟩
    · intro k x hx; cases hx
    · intro k k' _ x hx; cases hx
    · intro x hx
      simp at hx
      rcases hx with rfl | rfl | rfl <;> omega
  · exact ⟨List.Pairwise.nil, List.nodup_nil, by simp, by simp, by simp, by simp, by simp, by simp, by simp⟩
  · intro x hx
    simp at hx
    rcases hx with rfl | rfl | rfl <;> omega

/-- What Add asks first. -/
theorem Add_ask {id : Int} {k : Key} {front : Bool} {K : Int → World → Prop} (h : Tb w d) (ok : TbOk d B) (hB : B < 2 ^ 60)
    (h5 : id ∈ d.E.map (·.id) → ∀ w', Tb w' d → Upd [] w w' → K 5 w') (h2 : id ∉ d.E.map (·.id) → 4096 ≤ d.E.length → ∀ w', Tb w' d → Upd [] w w' → K 2 w')
    (hK : id ∉ d.E.map (·.id) → d.E.length < 4096 → ∀ w' d', Tb w' d' → TbOk d' (B + 1) → d'.a = d.a → d'.E = insE front d.E ⟨if front then d.first - 1 else d.last + 1, id, nk k⟩ → Upd d.FT w w' → Sub d'.FT d.FT w → K 0 w') : C_index_Table_Add d.a id k.1 k.2.1 k.2.2 front w K := by
  apply C_index_Table_Add.of
  unfold F_index_Table_Add
  have b0 := ok.b0
  have b1 := ok.b1
  have b2 := ok.b2
  refine New_rule fun r w1 hr u1 hb1 => ?_
  have t1 := h.keep u1
  refine made_ok t1 (ifF rfl ?_)
  simp only [TbD.a, NN_some, addN, drw_cell, drw_heap, exS, exI, exB, exP, exM, exStr, exV, a0, a1, a2, a3, a4, a5, a6, a7, a8, a9, a10, a11, a12, a13, maxI_eq, Nat.zero_add, Nat.add_zero, Nat.mul_one, Option.isNone_some, Option.isNone_none, t1.blk.cell]
  refine Lookup2_rule (κ := Int) (kt := 3) (et := 64) (inj := fun a : Int => Value.int .i64 a) (z := .agg #[.int .i64 0, .string ⟨#[]⟩, .int .i64 0, .int .i64 0]) keyId (by rfl) ⟨_, rfl, rfl⟩ t1.amap ?_
  rw [h.spots]
  rcases hf : d.E.find? (fun e => decide (e.id = id)) with _ | e
  · rw [hf]
    have hid := find_none.1 hf
    refine ⟨_, _, _, _, _, rfl, New_rule fun q w2 hq u2 hb2 => ?_⟩
    refine St_acc (Upd.refl _ _) hb2 (by simp) rfl fun w3 u3 hb3 => St_acc u3 hb3 (by simp) rfl fun w4 u4 hb4 => St_acc u4 hb4 (by simp) rfl fun w5 u5 hb5 => St_acc u5 hb5 (by simp) rfl fun w6 u6 hb6 => ?_
    have U6 : Upd [] w w6 := (u1.after u2).fresh u6 (by intro k hk; simp at hk; have := u1.size; omega)
    have hne : r ≠ q := by have := hb1.lt; omega
    have hbr := (hb1.upd u2 (by simp)).upd u6 (by simpa using hne)
    have t6 := h.keep U6
    refine ifF rfl ?_
    simp only [NN_some, addN, drw_cell, drw_heap, exS, exI, exB, exP, exM, exStr, exV, a0, a1, a2, a3, a4, a5, a6, a7, a8, a9, a10, a11, a12, a13, maxI_eq, Nat.zero_add, Nat.add_zero, Nat.mul_one, Option.isNone_some, Option.isNone_none, t6.blk.cell]
    rw [h.an]
    refine ifC (fun hc => ?_) (fun hc => ?_)
    · simp at hc
      exact h2 hid (by omega) w6 t6 U6
    · simp at hc
      have hk1 := @Add_k1 w d B r id k front w6 K h ok hB U6 (by omega) hbr hid (by omega) (fun w' d' => hK hid (by omega) w' d')
      cases front with
      | true =>
        refine ifT rfl ?_
        rw [i64id (by omega) (by omega)]
        exact hk1
      | false =>
        refine ifF rfl ?_
        rw [i64id (by omega) (by omega)]
        exact hk1
  · rw [hf]
    have he := List.mem_of_find?_eq_some hf
    have hid : id ∈ d.E.map (·.id) := by
      have := List.find?_some hf
      simp at this
      exact List.mem_map.2 ⟨e, he, this⟩
    refine ⟨e.key.1, e.key.2.1, e.key.2.2, e.rank, true, rfl, New_rule fun q w2 hq u2 hb2 => ?_⟩
    refine St_acc (Upd.refl _ _) hb2 (by simp) rfl fun w3 u3 hb3 => St_acc u3 hb3 (by simp) rfl fun w4 u4 hb4 => St_acc u4 hb4 (by simp) rfl fun w5 u5 hb5 => St_acc u5 hb5 (by simp) rfl fun w6 u6 hb6 => ?_
    have U6 : Upd [] w w6 := (u1.after u2).fresh u6 (by intro k hk; simp at hk; have := u1.size; omega)
    exact ifT rfl (h5 hid w6 (h.keep U6) U6)

theorem TbOk.out {d' : TbD} (ok : TbOk d B) {id : Int} (hE : d'.E = outE d.E id) (hf : d'.first = d.first) (hl : d'.last = d.last) : TbOk d' B := by
  have hs : ∀ e ∈ outE d.E id, e ∈ d.E := fun e he => (List.mem_filter.1 he).1
  refine ⟨by rw [hE]; exact ok.rising.filter _, by rw [hE]; exact List.Nodup.sublist (List.Sublist.map _ List.filter_sublist) ok.ids, ?_, ?_, ?_, by rw [hf]; exact ok.b0, by rw [hf, hl]; exact ok.b1, by rw [hl]; exact ok.b2, ?_⟩
  · rw [hE]; exact fun e he => ok.norm e (hs e he)
  · rw [hE, hf]; exact fun e he => ok.lo e (hs e he)
  · rw [hE, hl]; exact fun e he => ok.hi e (hs e he)
  · rw [hE]; exact Nat.le_trans (List.length_filter_le _ _) ok.len

theorem Drop_no {id : Int} {K : Int → World → Prop} (h : Tb w d) (hid : id ∉ d.E.map (·.id)) (hK : ∀ w', Tb w' d → Upd [] w w' → K 4 w') : C_index_Table_Drop d.a id w K := by
  apply C_index_Table_Drop.of
  unfold F_index_Table_Drop
  refine made_ok h (ifF rfl ?_)
  simp only [TbD.a, NN_some, addN, drw_cell, drw_heap, exS, exI, exB, exP, exM, exStr, exV, a0, a1, a2, a3, a4, a5, a6, a7, a8, a9, a10, a11, a12, a13, maxI_eq, Nat.zero_add, Nat.add_zero, Nat.mul_one, Option.isNone_some, Option.isNone_none, h.blk.cell]
  refine Lookup2_rule (κ := Int) (kt := 3) (et := 64) (inj := fun a : Int => Value.int .i64 a) (z := .agg #[.int .i64 0, .string ⟨#[]⟩, .int .i64 0, .int .i64 0]) keyId (by rfl) ⟨_, rfl, rfl⟩ h.amap ?_
  rw [h.spots, find_none.2 hid]
  refine ⟨_, _, _, _, _, rfl, New_rule fun q w2 hq u2 hb2 => ?_⟩
  refine St_acc (Upd.refl _ _) hb2 (by simp) rfl fun w3 u3 hb3 => St_acc u3 hb3 (by simp) rfl fun w4 u4 hb4 => St_acc u4 hb4 (by simp) rfl fun w5 u5 hb5 => St_acc u5 hb5 (by simp) rfl fun w6 u6 hb6 => ?_
  have U6 : Upd [] w w6 := u2.fresh u6 (by intro k hk; simp at hk; omega)
  exact ifT rfl (hK w6 (h.keep U6) U6)

theorem Drop_ok {e : En} {K : Int → World → Prop} (h : Tb w d) (ok : TbOk d B) (he : e ∈ d.E)
    (hK : ∀ w' d', Tb w' d' → TbOk d' B → d'.a = d.a → d'.E = outE d.E e.id → Upd d.FT w w' → Sub d'.FT d.FT w → K 0 w') : C_index_Table_Drop d.a e.id w K := by
  apply C_index_Table_Drop.of
  unfold F_index_Table_Drop
  have hlen := ok.len
  refine made_ok h (ifF rfl ?_)
  simp only [TbD.a, NN_some, addN, drw_cell, drw_heap, exS, exI, exB, exP, exM, exStr, exV, a0, a1, a2, a3, a4, a5, a6, a7, a8, a9, a10, a11, a12, a13, maxI_eq, Nat.zero_add, Nat.add_zero, Nat.mul_one, Option.isNone_some, Option.isNone_none, h.blk.cell]
  refine Lookup2_rule (κ := Int) (kt := 3) (et := 64) (inj := fun a : Int => Value.int .i64 a) (z := .agg #[.int .i64 0, .string ⟨#[]⟩, .int .i64 0, .int .i64 0]) keyId (by rfl) ⟨_, rfl, rfl⟩ h.amap ?_
  rw [h.spots, find_id ok.ids he]
  refine ⟨e.key.1, e.key.2.1, e.key.2.2, e.rank, true, rfl, New_rule fun q w2 hq u2 hb2 => ?_⟩
  refine St_acc (Upd.refl _ _) hb2 (by simp) rfl fun w3 u3 hb3 => St_acc u3 hb3 (by simp) rfl fun w4 u4 hb4 => St_acc u4 hb4 (by simp) rfl fun w5 u5 hb5 => St_acc u5 hb5 (by simp) rfl fun w6 u6 hb6 => ?_
  simp at hb6
  have U6 : Upd [] w w6 := u2.fresh u6 (by intro k hk; simp at hk; omega)
  have hqFT : q ∉ d.FT := fun hx => by have := h.inn q hx; omega
  have t6 := (h.keep U6).keep (drw_upd w6)
  refine ifF rfl ?_
  simp only [NN_some, addN, drw_cell, drw_heap, exS, exI, exB, exP, exM, exStr, exV, a0, a1, a2, a3, a4, a5, a6, a7, a8, a9, a10, a11, a12, a13, maxI_eq, Nat.zero_add, Nat.add_zero, Nat.mul_one, Option.isNone_some, Option.isNone_none, t6.blk.cell, (h.keep U6).blk.cell, hb6.cell]
  have hFw : ∀ x ∈ d.F e.key, x < w.heap.size := fun x hx => h.inn x (h.iF _ x hx)
  have hGw : ∀ x ∈ d.G, x < w.heap.size := fun x hx => h.inn x (h.iG x hx)
  have hbw := h.inn _ h.ib
  have hrw2 := h.inn _ h.ir
  have hmw := h.inn _ h.im
  -- out of the row of all
  obtain ⟨i, hi, hie⟩ := List.getElem_of_mem he
  refine cut_ok t6.all (rising_map ok.rising) (i := i) (by rw [List.length_map]; omega) (by rw [List.length_map]; exact hi) (by rw [List.getElem_map, hie]; rfl) fun pA cA G' wA hsA uA sA => ?_
  rw [erase_rk ok.ids hi, hie] at hsA
  have hbA := t6.blk.upd uA h.bG
  have hqA := hb6.drw.upd uA (fun hx => by have := hGw _ hx; omega)
  refine St_acc (Upd.refl _ _) hbA (by simp) rfl fun wB uB hbB => ?_
  simp at hbB
  have hqb : q ≠ d.b := by omega
  have hqB := hqA.upd uB (by simpa using hqb)
  simp only [NN_some, addN, drw_cell, drw_heap, exS, exI, exB, exP, exM, exStr, exV, a0, a1, a2, a3, a4, a5, a6, a7, a8, a9, a10, a11, a12, a13, maxI_eq, Nat.zero_add, Nat.add_zero, Nat.mul_one, Option.isNone_some, Option.isNone_none, hbB.cell, hqB.cell]
  have UB : Upd (d.b :: d.G) w wB := (((U6.after (drw_upd w6)).after uA).trans uB (fun x hx => .inl (by simp [hx])) (fun x hx => by simp at hx; simp [hx]))
  have hrmB := (h.rmap.upd UB (by simp; exact ⟨h.br.symm, h.rG⟩)).upd (drw_upd wB) (by simp)
  refine Lookup_rule (κ := Key) (kt := 26) (et := 58) (inj := kV) (z := .slice none 0 0) (k := e.key) keyKey (by rfl) ⟨_, rfl, rfl⟩ hrmB ?_
  obtain ⟨p, n, c, hl, hrow⟩ := h.rows e.key
  have hrowB : RowAt (drw wB) p n c ((ofKey e.key d.E).map rk) (d.F e.key) := SlAt.drw (SlAt.upd hrow UB fun x hx hy => by
    simp at hy
    rcases hy with rfl | hy
    · exact h.bF _ hx
    · exact h.GF _ x hy hx)
  have hnl := RowAt.len hrowB
  rw [List.length_map] at hnl
  refine ⟨p, n, c, hl, by simp [hqB.cell], fun i hi => by simp [hqB.cell], by simp [hbB.cell], ?_⟩
  -- out of its row
  have hek : e ∈ ofKey e.key d.E := List.mem_filter.2 ⟨he, by simp⟩
  obtain ⟨j, hj, hje⟩ := List.getElem_of_mem hek
  have hkl := ofKey_len e.key d.E
  refine cut_ok hrowB (rising_key ok.rising _) (i := j) (by rw [List.length_map]; omega) (by rw [List.length_map]; exact hj) (by rw [List.getElem_map, hje]; rfl) fun p1 c1 F1 wC hsC uC sC => ?_
  rw [erase_rk (key_ids ok.ids _) hj, hje] at hsC
  have hbC := hbB.drw.upd uC (h.bF _)
  have hqC := hqB.drw.upd uC (fun hx => by have := hFw _ hx; omega)
  have hrmC := hrmB.upd uC (h.rF _)
  simp only [NN_some, addN, drw_cell, drw_heap, exS, exI, exB, exP, exM, exStr, exV, a0, a1, a2, a3, a4, a5, a6, a7, a8, a9, a10, a11, a12, a13, maxI_eq, Nat.zero_add, Nat.add_zero, Nat.mul_one, Option.isNone_some, Option.isNone_none, hbC.cell, hqC.cell, hbB.cell, hqB.cell]
  refine ⟨fun i hi => by simp [hqC.cell], trivial, ?_⟩
  refine MUp_rule (κ := Key) (kt := 26) (et := 58) (inj := kV) (k := e.key) keyKey (by rfl) hrmC fun wD hrmD uD => ?_
  have hbD := hbC.upd uD (by simpa using h.br)
  have hqr : q ≠ d.r := by omega
  have hqD := hqC.upd uD (by simpa using hqr)
  simp only [NN_some, addN, drw_cell, drw_heap, exS, exI, exB, exP, exM, exStr, exV, a0, a1, a2, a3, a4, a5, a6, a7, a8, a9, a10, a11, a12, a13, maxI_eq, Nat.zero_add, Nat.add_zero, Nat.mul_one, Option.isNone_some, Option.isNone_none, hbD.cell, hqD.cell]
  refine Lookup_rule (κ := Key) (kt := 26) (et := 58) (inj := kV) (z := .slice none 0 0) (k := e.key) keyKey (by rfl) ⟨_, rfl, rfl⟩ (hrmD.upd (drw_upd wD) (by simp)) ?_
  rw [look_put, if_pos rfl]
  refine ⟨p1, n - 1, c1, rfl, ?_⟩
  have UD : Upd (d.b :: d.r :: (d.F e.key ++ d.G)) w (drw wD) := ((((UB.before (drw_upd wB)).trans uC (H := d.b :: (d.F e.key ++ d.G)) (fun x hx => by simp at hx; rcases hx with h1 | h1 <;> simp [h1]) (fun x hx => .inl (by simp [hx])))).trans uD (fun x hx => by simp at hx; rcases hx with h1 | h1 | h1 <;> simp [h1]) (fun x hx => by simp at hx; simp [hx])).before (drw_upd wD)
  -- where the new parts lie
  have hsz6 : w.heap.size ≤ (drw w6).heap.size := U6.size
  have hszA := uA.size
  have hszB := uB.size
  have hszB' : wA.heap.size ≤ (drw wB).heap.size := uB.size
  have hszC := uC.size
  have hG1 : ∀ x ∈ G', x ∈ d.G ∨ ((drw w6).heap.size ≤ x ∧ x < wA.heap.size) := fun x hx => by
    have h5 := SlAt.inn hsA x hx
    rcases sA x hx with h1 | h1
    · exact .inl h1
    · exact .inr ⟨h1, h5⟩
  have hF1 : ∀ x ∈ F1, x ∈ d.F e.key ∨ (drw wB).heap.size ≤ x := fun x hx => sC x hx
  have nF1 : ∀ y, y < w.heap.size → y ∉ d.F e.key → y ∉ F1 := fun y hy hn hx => by
    rcases hF1 y hx with h1 | h1
    · exact hn h1
    · omega
  have nG1 : ∀ y, y < w.heap.size → y ∉ d.G → y ∉ G' := fun y hy hn hx => by
    rcases hG1 y hx with h1 | h1
    · exact hn h1
    · omega
  have GF1 : Dis G' F1 := fun x hx hy => by
    rcases hG1 x hx with h1 | h1
    · rcases hF1 x hy with h2 | h2
      · exact h.GF _ x h1 h2
      · have := hGw x h1; omega
    · rcases hF1 x hy with h2 | h2
      · have := hFw x h2; omega
      · omega
  have uCD : Upd [d.r] wC (drw wD) := uD.before (drw_upd wD)
  have uAD : Upd (d.b :: d.r :: d.F e.key) wA (drw wD) := (((uB.before (drw_upd wB)).trans uC (H := d.b :: d.F e.key) (fun x hx => by simp at hx; simp [hx]) (fun x hx => .inl (by simp [hx])))).trans uCD (fun x hx => by simp at hx; rcases hx with h1 | h1 <;> simp [h1]) (fun x hx => by simp at hx; simp [hx])
  -- the rest, whatever became of the rows
  have fin : ∀ (wE : World) (RM : List (Key × Value)) (Fk : List Nat) (pk : Option Addr) (nk' ck : Nat), Upd [d.r] (drw wD) wE → MapAt wE d.r kV RM → Once RM → (∀ k, k ≠ e.key → (Go.D.look k RM).getD (.slice none 0 0) = (Go.D.look k d.RM).getD (.slice none 0 0)) → (Go.D.look e.key RM).getD (.slice none 0 0) = .slice pk nk' ck → RowAt wE pk nk' ck ((outE (ofKey e.key d.E) e.id).map rk) Fk → (∀ x ∈ Fk, x ∈ F1) →
      F_index_Table_Drop_k1 (some ⟨d.b, 0, none⟩) e.id K wE := by
    intro wE RM Fk pk nk' ck uE hrmE hon hlo hlk hrowE hFk
    unfold F_index_Table_Drop_k1
    have hbE := hbD.drw.upd uE (by simpa using h.br)
    simp only [NN_some, addN, drw_cell, drw_heap, exS, exI, exB, exP, exM, exStr, exV, a0, a1, a2, a3, a4, a5, a6, a7, a8, a9, a10, a11, a12, a13, maxI_eq, Nat.zero_add, Nat.add_zero, Nat.mul_one, Option.isNone_some, Option.isNone_none, hbE.cell]
    have UE : Upd (d.b :: d.r :: (d.F e.key ++ d.G)) w wE := UD.trans uE (fun x hx => .inl hx) (fun x hx => by simp at hx; simp [hx])
    have hmE := h.amap.upd UE (by simp; exact ⟨h.bm.symm, h.rm.symm, h.mF _, h.mG⟩)
    refine Del_rule (κ := Int) (kt := 3) (et := 64) (inj := fun a : Int => Value.int .i64 a) (k := e.id) keyId (by rfl) hmE fun v wF hmF uF => ?_
    have UF : Upd (d.b :: d.r :: d.m :: (d.F e.key ++ d.G)) w wF := UE.trans uF (fun x hx => by simp at hx; rcases hx with h1 | h1 | h1 | h1 <;> simp [h1]) (fun x hx => by simp at hx; simp [hx])
    have nFk : ∀ y, y < w.heap.size → y ∉ d.F e.key → y ∉ Fk := fun y hy hn hx => nF1 y hy hn (hFk y hx)
    have hsE : RowAt wE pA (d.an - 1) cA ((outE d.E e.id).map rk) G' := SlAt.upd (SlAt.upd hsA uAD fun x hx hy => by
      simp at hy
      rcases hy with rfl | rfl | hy
      · exact nG1 _ hbw h.bG hx
      · exact nG1 _ hrw2 h.rG hx
      · exact nG1 x (hFw x hy) (fun hz => h.GF _ x hz hy) hx) uE fun x hx hy => by
      simp at hy; subst hy; exact nG1 _ hrw2 h.rG hx
    refine hK wF { b := d.b, r := d.r, m := d.m, ap := pA, an := d.an - 1, ac := cA, first := d.first, last := d.last, E := outE d.E e.id, RM := RM, AM := drop1 e.id d.AM, G := G', F := fun x => if x = e.key then Fk else d.F x, FT := d.FT ++ (F1 ++ G') } ?_ (ok.out rfl rfl rfl) rfl rfl (UF.mono fun x hx => ?_) ?_
    · refine ⟨hbE.upd uF (by simpa using h.bm), hrmE.upd uF (by simpa using h.rm), hon, hmF, h.aon.drop1, ?_, ?_, ?_, h.br, h.bm, h.rm, nG1 _ hbw h.bG, nG1 _ hrw2 h.rG, nG1 _ hmw h.mG, ?_, ?_, ?_, ?_, ?_, ?_, ?_, ?_, ?_, ?_, ?_⟩
      · exact SlAt.upd hsE uF fun x hx hy => by simp at hy; subst hy; exact nG1 _ hmw h.mG hx
      · intro k'
        dsimp only
        rw [outE_key ok.ids he]
        by_cases hk' : k' = e.key
        · subst hk'
          rw [if_pos rfl, if_pos rfl]
          exact ⟨pk, nk', ck, hlk, SlAt.upd hrowE uF fun x hx hy => by simp at hy; subst hy; exact nFk _ hmw (h.mF _) hx⟩
        · obtain ⟨p', n', c', hl', hr'⟩ := h.rows k'
          rw [if_neg hk', if_neg hk']
          refine ⟨p', n', c', (hlo k' hk').trans hl', SlAt.upd hr' UF fun x hx hy => ?_⟩
          simp at hy
          rcases hy with rfl | rfl | rfl | hy | hy
          · exact h.bF _ hx
          · exact h.rF _ hx
          · exact h.mF _ hx
          · exact h.FF _ _ hk' x hx hy
          · exact h.GF _ x hy hx
      · intro j
        dsimp only
        rw [look_drop1 _ _ _ h.aon, outE_find]
        split
        · rfl
        · exact h.spots j
      · intro k'; dsimp only; split
        · exact nFk _ hbw (h.bF _)
        · exact h.bF _
      · intro k'; dsimp only; split
        · exact nFk _ hrw2 (h.rF _)
        · exact h.rF _
      · intro k'; dsimp only; split
        · exact nFk _ hmw (h.mF _)
        · exact h.mF _
      · intro k'; dsimp only; split
        · exact fun x hx hy => GF1 x hx (hFk x hy)
        · intro x hx hy
          exact nG1 x (h.inn x (h.iF _ x hy)) (fun hz => h.GF _ x hz hy) hx
      · intro k1 k2 hne
        dsimp only
        split
        · rename_i e1
          split
          · rename_i e2; exact absurd (e1.trans e2.symm) hne
          · rename_i e2
            intro x hx hy
            exact nFk x (h.inn x (h.iF _ x hy)) (fun hz => h.FF _ _ (fun e => e2 e.symm) x hz hy) hx
        · rename_i e1
          split
          · rename_i e2
            intro x hx hy
            exact nFk x (h.inn x (h.iF _ x hx)) (fun hz => h.FF _ _ e1 x hx hz) hy
          · exact h.FF _ _ hne
      · simp [h.ib]
      · simp [h.ir]
      · simp [h.im]
      · intro x hx; simp [hx]
      · intro k' x hx
        dsimp only at hx
        split at hx
        · simp [hFk x hx]
        · simp [h.iF _ x hx]
      · intro x hx
        simp at hx
        rcases hx with hx | hx | hx
        · exact h.inn.upd UF x hx
        · have := SlAt.inn hsC x hx; have := uCD.size; have := uE.size; have := uF.size; omega
        · have := SlAt.inn hsE x hx; have := uF.size; omega
    · simp at hx
      rcases hx with rfl | rfl | rfl | hx | hx
      · exact .inl h.ib
      · exact .inl h.ir
      · exact .inl h.im
      · exact .inl (h.iF _ x hx)
      · exact .inl (h.iG x hx)
    · intro x hx
      simp at hx
      rcases hx with hx | hx | hx
      · exact .inl hx
      · rcases hF1 x hx with h1 | h1
        · exact .inl (h.iF _ x h1)
        · right; omega
      · rcases hG1 x hx with h1 | h1
        · exact .inl (h.iG x h1)
        · right; omega
  have hrowD : RowAt (drw wD) p1 (n - 1) c1 ((outE (ofKey e.key d.E) e.id).map rk) F1 := SlAt.upd hsC uCD fun x hx hy => by
    simp at hy; subst hy; exact nF1 _ hrw2 (h.rF _) hx
  refine ifC (fun hc => ?_) (fun hc => ?_)
  · simp at hc
    simp only [NN_some, addN, drw_cell, drw_heap, exS, exI, exB, exP, exM, exStr, exV, a0, a1, a2, a3, a4, a5, a6, a7, a8, a9, a10, a11, a12, a13, maxI_eq, Nat.zero_add, Nat.add_zero, Nat.mul_one, Option.isNone_some, Option.isNone_none, hbD.cell, hqD.cell]
    have hempty : (outE (ofKey e.key d.E) e.id).map rk = [] := List.eq_nil_of_length_eq_zero (by have := RowAt.len hrowD; omega)
    refine Del_rule (κ := Key) (kt := 26) (et := 58) (inj := kV) (k := e.key) keyKey (by rfl) ((hrmD.upd (drw_upd wD) (by simp)).upd (drw_upd _) (by simp)) fun v wE hrmE uE => ?_
    refine fin wE _ [] none 0 0 ((drw_upd _).after uE) hrmE (h.ron.put.drop1) (fun k hk => ?_) ?_ ?_ (by simp)
    · rw [look_drop1 _ _ _ h.ron.put, if_neg hk, look_put, if_neg hk]
    · rw [look_drop1 _ _ _ h.ron.put, if_pos rfl]; rfl
    · rw [hempty]; exact SlAt.nil _ _
  · refine fin (drw wD) _ F1 p1 (n - 1) c1 (Upd.refl _ _) (hrmD.upd (drw_upd wD) (by simp)) h.ron.put (fun k hk => ?_) ?_ hrowD (fun x hx => hx)
    · rw [look_put, if_neg hk]
    · rw [look_put, if_pos rfl]; rfl

end

end Go.Proofs.Ytpkfckfdehaamaa
