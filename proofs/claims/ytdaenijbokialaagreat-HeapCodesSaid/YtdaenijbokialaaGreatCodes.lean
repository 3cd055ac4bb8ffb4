import Derived.Test.YtdaenijbokialaaGreatAny
namespace Go.Proofs.YtdaenijbokialaaGreat
open Go Go.D Go.Proofs
set_option linter.unusedSimpArgs false
set_option linter.unusedVariables false
set_option maxRecDepth 8000
theorem see_tms {w : World} {f : Nat} {cs : List Value} (h : Sees Tryz.prog w f 22 cs) : ∃ (l : List Tm) (p : Option Addr) (c : Nat), cs = [.slice p l.length c] ∧ RdA w (List.range w.heap.size) l p 0 ∧ l.length < 2 ^ 63 := by
  obtain ⟨p, m, c, cs', g', hg, e3, hmc, hcm, hrd, hrow⟩ := see_slice (by rfl) (sz := 4) (by kernel_rfl) h
  obtain ⟨l, hl, hp⟩ := pick (n := m) (p := fun i (t : Tm) => ∃ (q : Option Addr) (c : Nat), (cs'.drop (i * 4)).take 4 = [.int .i64 t.kind, .int .i64 t.n, .string t.s, .slice q t.l.length c] ∧ tmIn w t q) fun i hi => see_tm g' (hrow i hi)
  have hmax : maxLen < 2 ^ 63 := by decide
  refine ⟨l, p, c, by rw [hl]; exact e3, RdA.of fun i hi => ?_, by omega⟩
  obtain ⟨q, cc, hq, hin, hsz, _, _⟩ := hp i hi
  obtain ⟨x, hx, hc⟩ := hrd.elem (i := i) (by omega)
  have hc : ∀ j, j < 4 → w.cell? (x.add (i * 4 + j)) = ([.int .i64 l[i].kind, .int .i64 l[i].n, .string l[i].s, .slice q l[i].l.length cc] : List Value)[j]? := fun j hj => by
    rw [hc j hj, ← hq, List.getElem?_take, if_pos hj, List.getElem?_drop]
  have c0 := hc 0 (by omega)
  have c1 := hc 1 (by omega)
  have c2 := hc 2 (by omega)
  have c3 := hc 3 (by omega)
  simp only [List.getElem?_cons_zero, List.getElem?_cons_succ, Nat.add_zero] at c0 c1 c2 c3
  have hbl := cell_block c0
  rw [add_block] at hbl
  refine ⟨x, q, cc, hx, by simpa using hbl, ?_⟩
  simp only [Nat.zero_add]
  exact ⟨c0, c1, c2, c3, hsz, hin⟩
section
variable {w : World}
theorem row_of {v : World} {p : Option Addr} {n c : Nat} {zs : List Int} {G E : List Nat} (h : SlAt v 1 p n c (zs.map (.int .u64)) G) (hn : n = zs.length) : WRow v (G ++ E) p zs := by
  subst hn
  refine ⟨h.rd, fun x hx _ => ?_⟩
  rcases h.2.2 with ⟨e, _, _⟩ | ⟨b, off, arr, e, eG, _⟩
  · rw [e] at hx; cases hx
  · rw [e] at hx; cases hx
    rw [eG]; simp
end
end Go.Proofs.YtdaenijbokialaaGreat
namespace Go.Proofs.YtdaenijbokialaaGreat
open Go Go.D Go.Proofs
set_option linter.unusedSimpArgs false
set_option linter.unusedVariables false
set_option maxRecDepth 8000
theorem decE_all : ∀ {l : List Tm}, (∀ t ∈ l, t.size ≤ 4096 ∧ t.depth ≤ 200) → decE l = 0
  | [], _ => rfl
  | t :: l, h => by
    have h0 := h t (by simp)
    rw [decE, if_neg (by omega), if_neg (by omega)]
    exact decE_all fun u hu => h u (by simp [hu])
theorem key_ren (f : Int → Int) (t : Tm) : keyOfT (t.ren f).kind (t.ren f).n (t.ren f).s (t.ren f).l.length = keyOfT t.kind t.n t.s t.l.length := by
  rw [ren_kind, ren_s, ren_n, ren_l]
  by_cases h : t.kind = 1
  · unfold keyOfT
    rw [if_neg (by omega), if_neg (by omega), if_neg (by omega), if_neg (by omega), if_neg (by omega), if_neg (by omega)]
  · rw [if_neg h, if_neg h, List.length_map]
section
variable {w : World}
theorem HeapCodes_law {l : List Tm} {p : Option Addr} {c : Nat} (ra : RdA w (List.range w.heap.size) l p 0) (hl63 : l.length < 2 ^ 63) : C_law20_HeapCodes p l.length c w fun r w' => r = true ∧ Upd [] w w' := by
  apply C_law20_HeapCodes.of
  unfold F_law20_HeapCodes
  have iF : In (List.range w.heap.size) w := fun k hk => List.mem_range.1 hk
  refine large20_ok ra iF hl63 (fun w1 u1 => ifT rfl (lives_ok fun z' u => ⟨rfl, u1.after u⟩)) fun hl20 hz w1 u1 => ifF rfl ?_
  refine HNew_ok (Upd.refl [] w1) (by omega) (by omega) (by omega) (by omega) fun v1 d1 h1 fr u5 _ => ?_
  refine lives_ok fun v2 u6 => ifF rfl (ifF rfl (ifF rfl ?_))
  have h2 := (h1.keep u6).base
  rw [List.nil_append] at h2
  have V2 := u5.after u6
  have sub : ∀ k ∈ List.range w.heap.size, k ∈ List.range w1.heap.size := fun k hk => by
    have := u1.size
    simp only [List.mem_range] at hk ⊢; omega
  have ra2 := RdA.keep (u1.after V2) ra
  have lz : ∀ i (h : i < l.length), l[i].size ≤ 8000 := fun i h => by have := sizeL_le (List.getElem_mem h); omega
  refine ⟨fun q v => ∃ i : Nat, q.i = i ∧ i ≤ l.length ∧ Upd [] v2 v ∧ ∀ t ∈ l.take i, checkT t = 0, fun q _ => (l.length - q.i).toNat, ⟨0, rfl, by omega, Upd.refl _ _, by simp⟩, ?_⟩
  rintro ⟨qi⟩ v ⟨i, rfl, hi, uv, hck⟩
  unfold B_law20_HeapCodes_L1
  have rav := RdA.keep uv ra2
  refine ifC (fun g => ?_) (fun g => ?_)
  · simp only [decide_eq_true_eq] at g
    have gi : i < l.length := by omega
    obtain ⟨x, q, cq, f1, f2, f3, f4, f5, f6, f7, f8⟩ := rav.at i gi
    simp only [Nat.zero_add] at f3 f4 f5 f6
    refine ⟨by show (0 : Int) ≤ (i : Int); omega, by show (i : Int) < _; omega, ?_⟩
    simp only [f1, NN_some, addN, drw_cell, drw_heap, exS, exI, exB, exP, exM, exStr, exV, a0, a1, a2, a3, a4, a5, a6, a7, a8, a9, a10, a11, a12, a13, maxI_eq, Nat.zero_add, Nat.add_zero, Nat.mul_one, Option.isNone_some, Option.isNone_none, addA, Int.toNat_natCast, f3, f4, f5, f6]
    refine rCheck_ok l[i] f8 (by have := lz i gi; omega) fun z u => ifC (fun g => ?_) (fun g => ?_)
    · have gz := u.cell f3 (by simp)
      have g4 := u.cell f4 (by simp)
      have g5 := u.cell f5 (by simp)
      have g6 := u.cell f6 (by simp)
      refine ⟨by omega, by omega, ?_⟩
      simp only [f1, NN_some, addN, drw_cell, drw_heap, exS, exI, exB, exP, exM, exStr, exV, a0, a1, a2, a3, a4, a5, a6, a7, a8, a9, a10, a11, a12, a13, maxI_eq, Nat.zero_add, Nat.add_zero, Nat.mul_one, Option.isNone_some, Option.isNone_none, addA, Int.toNat_natCast, gz, g4, g5, g6]
      refine Encode_no (E := List.range w1.heap.size) l[i] (RdA.keep u f8) sub (by have := lz i gi; omega) (h2.keep (uv.after u)) (by simpa using g) fun z' hz' _ => ⟨by simp, u1.after hz'.U⟩
    · rw [i64id (by omega) (by omega)]
      refine ⟨⟨i + 1, by simp, by omega, uv.after u, fun t ht => ?_⟩, by show ((l.length : Int) - ((i : Int) + 1)).toNat < ((l.length : Int) - (i : Int)).toNat; omega⟩
      rw [take_step gi] at ht
      rcases List.mem_append.1 ht with e | e
      · exact hck t e
      · simp at e; subst e; simpa using g
  simp only [decide_eq_false_iff_not] at g
  obtain rfl : i = l.length := by omega
  rw [List.take_length] at hck
  have h2v := h2.keep uv
  refine New_map fun r v3 hm u7 hm3 => ?_
  have hm3 : MapAt v3 r (fun a : Int => Value.int .i64 a) (vmM []) := MapAt.new _ hm3
  have h3 := h2v.watch u7 (Y := [r]) (fun k hk => by simp at hk; omega) (fun k hk => by simp at hk; subst hk; exact hm3.lt)
  have V3 := V2.after uv
  have rE : r ∉ List.range w1.heap.size := by have := V3.size; simp; omega
  have hrw : w1.heap.size ≤ r := by have := V3.size; omega
  refine encode_ok (S := fun _ => False) (V := []) (RdA.keep (uv.after u7) ra2) sub hck h3 fr.hi (by omega) (by rw [fr.lim]; simp; omega) hrw rE hm3 ⟨by simp, by simp, by simp⟩ (fun j hj => hj.elim) fun v5 d5 C5 V5 xs wp wc G h5 cd hs5 hG5 _ hm5 f5 => ?_
  have hn5 := cd.n
  refine ifF (by simp) ?_
  rw [← cd.kin.a]
  obtain ⟨EE, hEE⟩ : ∃ EE, EE = r :: (G ++ List.range w1.heap.size) := ⟨_, rfl⟩
  rw [← hEE] at h5
  have subE : ∀ k ∈ List.range w1.heap.size, k ∈ EE := fun k hk => by rw [hEE]; simp [List.mem_range.1 hk]
  have wr5 : WRow v5 EE wp (xs.map Wd.enc) := by
    have := row_of (E := List.range w1.heap.size) hs5 (by rw [List.length_map, hn5])
    exact ⟨this.1, fun x hx hn => by rw [hEE]; exact List.mem_cons_of_mem _ (this.2 x hx hn)⟩
  have lrt : ∀ k (hk : k < l.length), l[k].right = true := fun k hk => (checkT_0 (hck _ (List.getElem_mem hk))).1
  have vmo := cd.vm.once
  have ev : ∀ i (h1 : i < (l.map (Tm.ren (cellOf V5))).length) (h2 : i < xs.length), Ev C5 d5.L d5.FL (l.map (Tm.ren (cellOf V5)))[i] xs[i] := fun i h1 h2 => by
    rw [List.getElem_map]
    rw [List.length_map] at h1
    exact Rep.ev vmo _ (cd.rep i h1 h2) (lrt i h1)
  have xsr : ∀ i (h : i < xs.length), Der C5 xs[i] xs[i] ∧ rightW C5 d5.L xs[i] = true := fun i h => (cd.rep i (by omega) h).self (lrt i (by omega))
  have keys : V5.map (·.1) = varsL l [] := cd.keys
  have inj := cellOf_inj vmo cd.vm.two
  rw [keys] at inj
  have e2 := numL_ren (l := l) inj
  have dec0 : decE (l.map (Tm.ren (cellOf V5))) = 0 := decE_all fun t ht => by
    obtain ⟨u, hu, rfl⟩ := List.mem_map.1 ht
    obtain ⟨_, a, b⟩ := checkT_0 (hck u hu)
    rw [ren_size, ren_depth]; exact ⟨b, a⟩
  have elen : (l.map (Tm.ren (cellOf V5))).length = l.length := List.length_map _
  have F5 : Far (List.range w1.heap.size) v2 v5 := (Far.keep (uv.after u7)).then f5
  rw [show l.length = xs.length from hn5.symm]
  refine Decode_ok (xs := xs) (ts := l.map (Tm.ren (cellOf V5))) h5 cd.hi wr5 (by omega) cd.fits (fun x hx => by obtain ⟨i, h, rfl⟩ := List.getElem_of_mem hx; exact (xsr i h).2) (by rw [elen, hn5]) ev (fun hb => absurd dec0 hb) fun _ v6 p6 c6 vp6 vc6 Y RL h6 ra6 wr6 hRL hroots sY inY f6 => ?_
  rw [e2] at ra6
  have F6 := F5.then (f6.less subE)
  have rav6 := RdA.far F6 sub ra2
  have in6 : In (List.range w.heap.size) v6 := fun k hk => h6.inn k (by simp [subE k (sub k hk)])
  rw [hn5]
  refine Renamed_ok rav6 in6 ⟨fun t ht => right_pv t (checkT_0 (hck t ht)).1, by omega⟩ fun v7 p7 c7 F7 ra7 in7 _ u8 => ifF rfl ?_
  have zn : sizeL (l.map (numT (varsL l []))) = sizeL l := sizeL_map fun t _ => by unfold numT; exact ren_size _ t
  have same := fun {K : Bool → World → Prop} (hK : ∀ w', Upd [] v7 w' → K true w') => Same_ok (c := c6) (e := c7) (RdA.keep u8 ra6) ra7 (by rw [zn]; omega) hK
  rw [List.length_map] at same
  rw [elen]
  refine same fun v8 u9 => ifF rfl ?_
  have U9 := u8.after u9
  have h8 : Hp w1 v8 d5 EE := (h6.keep U9).less fun k hk => by simp [hk]
  have wr8 := (wr5.far f6).far (Far.keep U9)
  have ra8 := RdA.keep U9 rav6
  have vrow : ∀ {z : World}, Far (Y ++ EE) v8 z → WRow z (Y ++ EE) vp6 (RL.map fun i => (Wd.ref i).enc) := fun {z} fz => by
    have a : WRow v6 (Y ++ EE) vp6 (RL.map fun i => (Wd.ref i).enc) := ⟨wr6.1, fun x hx hn => List.mem_append_left _ (wr6.2 x hx hn)⟩
    exact (a.far (Far.keep U9)).far fz
  have h8Y : Hp w1 v8 d5 (Y ++ EE) := h6.keep U9
  refine ⟨fun q v => ∃ i : Nat, q.i_1 = i ∧ i ≤ l.length ∧ Hp w1 v d5 (Y ++ EE) ∧ Far (Y ++ EE) v8 v, fun q _ => (l.length - q.i_1).toNat, ⟨0, rfl, by omega, h8Y, Far.refl _ _⟩, ?_⟩
  rintro ⟨qi⟩ v ⟨i, rfl, hi, hv, fv⟩
  unfold B_law20_HeapCodes_L2
  refine ifC (fun g => ?_) (fun g => ?_)
  · simp only [decide_eq_true_eq] at g
    have gi : i < l.length := by omega
    have gx : i < xs.length := by omega
    have ew : IntKind.i64.wrap ((i : Int) + 1) = ((i + 1 : Nat) : Int) := by rw [i64id (by omega) (by omega)]; simp
    have next : ∀ {z : World}, Hp w1 z d5 (Y ++ EE) → Far (Y ++ EE) v8 z → F_law20_HeapCodes_k3 ⟨(i : Int)⟩ (fun s' w' => (∃ i : Nat, s'.i_1 = i ∧ i ≤ l.length ∧ Hp w1 w' d5 (Y ++ EE) ∧ Far (Y ++ EE) v8 w') ∧ ((l.length : Int) - s'.i_1).toNat < ((l.length : Int) - (i : Int)).toNat) z := fun {z} hz fz => by
      unfold F_law20_HeapCodes_k3
      dsimp only
      rw [ew]
      exact ⟨⟨i + 1, rfl, by omega, hz, fz⟩, by omega⟩
    have trm : ∀ {z : World}, Far (Y ++ EE) v8 z → RdA z (List.range w.heap.size) l p 0 := fun fz => RdA.far fz (fun k hk => by simp [subE k (sub k hk)]) ra8
    have wcell : ∀ {z : World}, Far (Y ++ EE) v8 z → ∃ x, wp = some x ∧ z.cell? (x.add i) = some (.int .u64 xs[i].enc) := fun fz => by
      have := (wr8.far (fz.less fun k hk => by simp [hk])).at (i := i) (by rw [List.length_map]; exact gx)
      simpa using this
    obtain ⟨x, ex, hx⟩ := wcell fv
    obtain ⟨y, q, cq, f1, f2, f3, f4, f5, f6', f7, f8⟩ := (trm fv).at i gi
    simp only [Nat.zero_add] at f3 f4 f5 f6'
    have xf := cd.fits _ (List.getElem_mem gx)
    obtain ⟨xd, xr⟩ := xsr i gx
    have evi := ev i (by rw [elen]; exact gi) gx
    rw [List.getElem_map] at evi
    have ud := drw_upd v
    refine ⟨by show (0 : Int) ≤ (i : Int); omega, by show (i : Int) < _; omega, ?_⟩
    rw [ex, f1]
    simp only [NN_some, addN, drw_cell, drw_heap, exS, exI, exB, exP, exM, exStr, exV, a0, a1, a2, a3, a4, a5, a6, a7, a8, a9, a10, a11, a12, a13, maxI_eq, Nat.zero_add, Nat.add_zero, Nat.mul_one, Option.isNone_some, Option.isNone_none, addA, Int.toNat_natCast, hx, f3, f4, f5, f6']
    refine ⟨by omega, by omega, Key_ok (hv.keep ud) cd.hi xf xr xd fun z1 hz1 fz1 => ?_⟩
    have F1 := (fv.after ud).then fz1
    obtain ⟨y', q', cq', g1, g2, g3, g4, g5, g6, g7, g8⟩ := (trm F1).at i gi
    rw [f1] at g1
    cases g1
    simp only [Nat.zero_add] at g3 g4 g5 g6
    refine ⟨fun j hj => ?_, ?_⟩
    · match j, hj with
      | 0, _ => exact g3.trans f3.symm
      | 1, _ => exact g4.trans f4.symm
      | 2, _ => exact g5.trans f5.symm
      | 3, _ =>
        obtain ⟨X, ux, dx⟩ := (Far.keep (X := Y ++ EE) ud).then fz1
        exact (ux.cell f6' (by rw [add_block]; exact fun hx => dx _ (List.mem_append_right _ (subE _ (sub _ f2))) hx)).trans f6'.symm
    refine RKeyOf_ok fun z2 u2 => keyEq ?_
    rw [keyW_ev evi xd, key_ren]
    refine ifF (by simp) ?_
    have F2 := F1.after u2
    have hz2 := hz1.keep u2
    obtain ⟨y2, q2, cq2, k1, k2, k3, k4, k5, k6, k7, k8⟩ := (trm F2).at i gi
    rw [f1] at k1
    cases k1
    simp only [Nat.zero_add] at k3 k4 k5 k6
    refine ⟨by omega, by omega, ?_⟩
    simp only [k3, NN_some, addN, drw_cell, drw_heap, exS, exI, exB, exP, exM, exStr, exV, a0, a1, a2, a3, a4, a5, a6, a7, a8, a9, a10, a11, a12, a13, maxI_eq, Nat.zero_add, Nat.add_zero, Nat.mul_one, Option.isNone_some, Option.isNone_none, addA]
    refine ifC (fun g => ?_) (fun g => next hz2 F2)
    have kn1 : l[i].kind ≠ 1 := by simpa using g
    obtain ⟨x2, ex2, hx2⟩ := wcell F2
    rw [ex] at ex2; cases ex2
    simp only [hx2, NN_some, addN, drw_cell, drw_heap, exS, exI, exB, exP, exM, exStr, exV, a0, a1, a2, a3, a4, a5, a6, a7, a8, a9, a10, a11, a12, a13, maxI_eq, Nat.zero_add, Nat.add_zero, Nat.mul_one, Option.isNone_some, Option.isNone_none, k3, k5, k6]
    refine ⟨by omega, by omega, by omega, by omega, by omega, by omega, ?_⟩
    have done : ∀ {z : World}, Hp w1 z d5 (Y ++ EE) → Far (Y ++ EE) v8 z → F_law20_HeapCodes_k2 ⟨(i : Int)⟩ (fun s' w' => (∃ i : Nat, s'.i_1 = i ∧ i ≤ l.length ∧ Hp w1 w' d5 (Y ++ EE) ∧ Far (Y ++ EE) v8 w') ∧ ((l.length : Int) - s'.i_1).toNat < ((l.length : Int) - (i : Int)).toNat) z := fun {z} hz fz => by
      unfold F_law20_HeapCodes_k2
      exact next hz fz
    obtain ⟨y5, hd5, hs5, evi⟩ := Ev.eq.1 evi
    obtain rfl := hd5.uniq xd
    rw [ren_kind, ren_s, ren_n, ren_l, if_neg kn1, if_neg kn1, if_neg kn1] at evi
    by_cases kn2 : l[i].kind = 2
    · refine hIs_any hz2 cd.hi (Wd.enc_bnd _) fun b z3 hz3 fz3 => ?_
      have F3 := F2.then fz3
      refine ifC (fun _ => ?_) (fun _ => done hz3 F3)
      obtain ⟨y3, q3, cq3, k1, _, k3, _⟩ := (trm F3).at i gi
      rw [f1] at k1
      cases k1
      simp only [Nat.zero_add] at k3
      simp only [k3, NN_some, addN, drw_cell, drw_heap, exS, exI, exB, exP, exM, exStr, exV, a0, a1, a2, a3, a4, a5, a6, a7, a8, a9, a10, a11, a12, a13, maxI_eq, Nat.zero_add, Nat.add_zero, Nat.mul_one, Option.isNone_some, Option.isNone_none, kn2]
      exact ⟨by omega, by omega, ifF rfl (next hz3 F3)⟩
    rw [if_neg kn2] at evi
    by_cases kn3 : l[i].kind = 3
    · rw [if_pos kn3] at evi
      obtain ⟨_, e0, id, m, ey, ha⟩ := evi
      have e0 : l[i].l = [] := by simpa using e0
      rw [e0]
      exact hIs_atom (i := id) hz2 cd.hi xf xr (by rw [← ey]; exact xd) ha fun z3 hz3 fz3 => ifF rfl (done hz3 (F2.then fz3.sub))
    rw [if_neg kn3] at evi
    obtain ⟨_, _, j, id, ey, hc, hat, _⟩ := evi
    simp only [List.length_map] at hat
    exact hIs_str (i := j) hz2 cd.hi xf xr (by rw [← ey]; exact xd) hc hat fun z3 hz3 fz3 => ifF rfl (done hz3 (F2.then fz3.sub))
  · refine ⟨fun q z => ∃ i : Nat, q.i_2 = i ∧ i ≤ RL.length ∧ Hp w1 z d5 (Y ++ EE) ∧ Far (Y ++ EE) v8 z, fun q _ => (RL.length - q.i_2).toNat, ⟨0, rfl, by omega, hv, fv⟩, ?_⟩
    rintro ⟨qi⟩ z ⟨j, rfl, hj, hz, fz⟩
    have e3 := varsL_ren (f := cellOf V5) l [] inj
    rw [List.map_nil] at e3
    have hrl := congrArg List.length hRL
    rw [List.length_map, e3, List.length_map, ← keys, List.length_map] at hrl
    have hvl : V5.length ≤ sizeL l := by
      have := vars_bnd l []
      rw [← keys, List.length_map] at this
      simpa using this
    unfold B_law20_HeapCodes_L3
    refine ifC (fun g => ?_) (fun g => ?_)
    · simp only [decide_eq_true_eq] at g
      have gj : j < RL.length := by omega
      have ew : IntKind.i64.wrap ((j : Int) + 1) = ((j + 1 : Nat) : Int) := by rw [i64id (by omega) (by omega)]; simp
      obtain ⟨x, ex, hx⟩ := (vrow fz).at (i := j) (by rw [List.length_map]; exact gj)
      rw [List.getElem_map, Nat.mul_one] at hx
      have hroot := hroots RL[j] (List.getElem_mem gj)
      refine ⟨by show (0 : Int) ≤ (j : Int); omega, by show (j : Int) < _; omega, ?_⟩
      rw [ex]
      simp only [NN_some, addN, drw_cell, drw_heap, exS, exI, exB, exP, exM, exStr, exV, a0, a1, a2, a3, a4, a5, a6, a7, a8, a9, a10, a11, a12, a13, maxI_eq, Nat.zero_add, Nat.add_zero, Nat.mul_one, Option.isNone_some, Option.isNone_none, Int.toNat_natCast, hx]
      have rjl := (List.getElem?_eq_some_iff.1 hroot).1
      have hbd := cd.hi.ok.bound hz
      refine ⟨by omega, by omega, Deref_ok (x := .ref RL[j]) (hz.keep (drw_upd z)) cd.hi (ref_fits (by omega)) (rightW_ref.2 ⟨_, hroot, by simp [Wd.tag]⟩) ⟨0, .root hroot⟩ fun z1 hz1 fz1 => ?_⟩
      have F1 := (fz.after (drw_upd z)).then fz1.sub
      obtain ⟨x', ex', hx'⟩ := (vrow F1).at (i := j) (by rw [List.length_map]; exact gj)
      rw [ex] at ex'; cases ex'
      rw [List.getElem_map, Nat.mul_one] at hx'
      refine ⟨hx', ifF (by simp) ?_⟩
      rw [ew]
      exact ⟨⟨j + 1, rfl, by omega, hz1, F1⟩, by show ((RL.length : Int) - ((j + 1 : Nat) : Int)).toNat < ((RL.length : Int) - (j : Int)).toNat; omega⟩
    · have hmz : MapAt z r (fun a : Int => Value.int .i64 a) (vmM V5) := by
        have m6 := MapAt.far hm5 f6 (by rw [hEE]; simp)
        have m8 := m6.upd U9 (by simp)
        exact MapAt.far m8 fz (by rw [hEE]; simp)
      refine MLen_rule (by rfl) hmz ⟨?_, u1.after hz.U⟩
      have : (vmM V5).length = V5.length := by unfold vmM; rw [List.length_map]
      rw [this, hrl]; simp
end
end Go.Proofs.YtdaenijbokialaaGreat
