import Derived.Test.YtdaenijbokialaaGreatAny
namespace Go.Proofs.YtdaenijbokialaaGreat
open Go Go.D Go.Proofs
set_option linter.unusedSimpArgs false
set_option linter.unusedVariables false
set_option maxRecDepth 8000
theorem see_tms {w : World} {f : Nat} {cs : List Value} (h : Sees Tryz.prog w f 22 cs) : ∃ (l : List Tm) (p : Option Addr) (c : Nat), cs = [.slice p l.length c] ∧ RdA w (List.range w.heap.size) l p 0 ∧ l.length < 2 ^ 63 := by
  obtain ⟨p, m, c, cs', g', hg, e3, hmc, hcm, hrd, hrow⟩ := see_slice (by rfl) (sz := 4) (by kernel_rfl) h
  obtain ⟨l, hl, hp⟩ := pick (n := m) (p := fun i (t : Tm) => ∃ (q : Option Addr) (c : Nat), (cs'.drop (i * 4)).take 4 = [.int .i64 t.kind, .int .i64 t.n, .string t.s, .slice q t.l.length c] ∧ tmIn w t q) fun i hi => see_tm g' (hrow i hi)
  have hmax : maxLen < 2 ^ 63 := by decide
  refine ⟨l, p, c, by rw [hl]; exact e3, RdA.of fun i hi => ?_, by omega⟩
  obtain ⟨q, cc, hq, hin, hsz, _, _⟩ := hp i hi
  obtain ⟨x, hx, hc⟩ := hrd.elem (i := i) (by omega)
  have hc : ∀ j, j < 4 → w.cell? (x.add (i * 4 + j)) = ([.int .i64 l[i].kind, .int .i64 l[i].n, .string l[i].s, .slice q l[i].l.length cc] : List Value)[j]? := fun j hj => by
    rw [hc j hj, ← hq, List.getElem?_take, if_pos hj, List.getElem?_drop]
  have c0 := hc 0 (by omega)
  have c1 := hc 1 (by omega)
  have c2 := hc 2 (by omega)
  have c3 := hc 3 (by omega)
  simp only [List.getElem?_cons_zero, List.getElem?_cons_succ, Nat.add_zero] at c0 c1 c2 c3
  have hbl := cell_block c0
  rw [add_block] at hbl
  refine ⟨x, q, cc, hx, by simpa using hbl, ?_⟩
  simp only [Nat.zero_add]
  exact ⟨c0, c1, c2, c3, hsz, hin⟩
structure Made (C C' : List Wd) (xs : List Wd) (m i : Nat) : Prop where
  len : C'.length = C.length
  old : ∀ j, (j = 0 ∨ i < j) → C'[j]? = C[j]?
  new : ∀ k, k < i → C'[1 + k]? = xs[k]?
section
variable {w : World}
theorem row_of {v : World} {p : Option Addr} {n c : Nat} {zs : List Int} {G E : List Nat} (h : SlAt v 1 p n c (zs.map (.int .u64)) G) (hn : n = zs.length) : WRow v (G ++ E) p zs := by
  subst hn
  refine ⟨h.rd, fun x hx _ => ?_⟩
  rcases h.2.2 with ⟨e, _, _⟩ | ⟨b, off, arr, e, eG, _⟩
  · rw [e] at hx; cases hx
  · rw [e] at hx; cases hx
    rw [eG]; simp
theorem HeapParts_law {s : ByteArray} {l : List Tm} {p : Option Addr} {c : Nat} (ra : RdA w (List.range w.heap.size) l p 0) (hl63 : l.length < 2 ^ 63) : C_law20_HeapParts s p l.length c w fun r w' => r = true ∧ Upd [] w w' := by
  apply C_law20_HeapParts.of
  unfold F_law20_HeapParts F_law20_HeapParts_k1
  have iF : In (List.range w.heap.size) w := fun k hk => List.mem_range.1 hk
  have bad : ∀ {z : World}, Upd [] w z → C_law20_lives z fun t30 w1_7 => t30 = true ∧ Upd [] w w1_7 := fun U => lives_ok fun z' u => ⟨rfl, U.after u⟩
  refine large20_ok ra iF hl63 (fun w1 u1 => ifT rfl (bad u1)) fun hl20 hz w1 u1 => ifF rfl ?_
  refine may20_ok (RdA.keep u1 ra) hz (fun hck w2 u2 => ifF rfl ?_) fun w2 u2 => ifT rfl (bad (u1.after u2))
  have U2 := u1.after u2
  refine ifC (fun _ => bad U2) fun g1 => ifC (fun _ => bad U2) fun g2 => ifC (fun _ => bad U2) fun g3 => ?_
  have g1 := of_decide_eq_false g1
  have g2 := of_decide_eq_false g2
  have g3 := of_decide_eq_false g3
  have hne : l ≠ [] := fun e => by rw [e] at g2; simp at g2
  refine rComp_ok (RdA.keep U2 ra) (iF.upd U2) (by omega) hne fun w3 p3 c3 G3 ra3 in3 _ u3 => ?_
  have U3 := U2.after u3
  refine rCheck_ok (Tm.mk 4 0 s l) ra3 (by rw [size_mk]; omega) fun w4 u4 => ifC (fun _ => bad (U3.after u4)) fun g => ?_
  have ck : checkT (Tm.mk 4 0 s l) = 0 := by simpa using g
  obtain ⟨hrt, hdp, hsz⟩ := checkT_0 ck
  have U4 := U3.after u4
  refine HNew_ok (Upd.refl [] w4) (by omega) (by omega) (by omega) (by omega) fun v1 d1 h1 fr u5 _ => ?_
  refine lives_ok fun v2 u6 => ifF rfl (ifF rfl (ifF rfl ?_))
  have h2 := (h1.keep u6).base
  rw [List.nil_append] at h2
  have V2 := u5.after u6
  have sub : ∀ k ∈ List.range w.heap.size, k ∈ List.range w4.heap.size := fun k hk => by
    have := U4.size
    simp only [List.mem_range] at hk ⊢; omega
  refine New_map fun r v3 hm u7 hm3 => ?_
  have hm3 : MapAt v3 r (fun a : Int => Value.int .i64 a) (vmM []) := MapAt.new _ hm3
  have h3 := h2.watch u7 (Y := [r]) (fun k hk => by simp at hk; omega) (fun k hk => by simp at hk; subst hk; exact hm3.lt)
  have rE : r ∉ List.range w4.heap.size := by have := V2.size; simp; omega
  have hrw : w4.heap.size ≤ r := by have := V2.size; omega
  have W3 := (U4.after V2).after u7
  have e1 : ((l.length : Nat) : Int) = (l.length : Int) := rfl
  refine Struct_ok (m := l.length) h3 fr.hi (by omega) (by omega) (by omega) (by omega) (fun hl => ?_) fun hl v4 d4 id h4 hi4 hat4 kin4 hL4 hF4 f4 => ?_
  · rw [fr.lim] at hl
    simp at hl
    omega
  have lim4 : d4.pd.limit = 131072 := by rw [kin4.limit, fr.lim]
  rw [← kin4.a]
  have len4 : (([] : List Wd) ++ .fn id :: refs (([] : List Wd).length + 1) l.length).length = l.length + 1 := by simp [refs_len]
  obtain ⟨C4, hC4⟩ : ∃ C4, C4 = ([] : List Wd) ++ .fn id :: refs (([] : List Wd).length + 1) l.length := ⟨_, rfl⟩
  rw [← hC4] at hi4 len4
  have c40 : C4[0]? = some (.fn id) := by rw [hC4]; rfl
  have c4k : ∀ k, k < l.length → C4[1 + k]? = some (.ref (1 + k)) := fun k hk => by
    rw [hC4, Nat.add_comm 1 k]
    show (refs 1 l.length)[k]? = _
    rw [refs_get 1 l.length k hk, Nat.add_comm 1 k]
  have F4 : Far (List.range w4.heap.size) v3 v4 := f4.less fun k hk => by simp only [List.singleton_append, List.mem_cons]; exact .inr hk
  refine encode_ok (S := fun j => j < l.length + 1) (V := []) (RdA.far F4 sub (RdA.keep W3 ra)) sub hck h4 hi4 (by omega) (by rw [lim4]; omega) hrw rE (MapAt.far hm3 f4 (by simp)) ⟨by simp, by simp, by simp⟩ (fun j hj => by rw [len4]; exact hj) fun v5 d5 C5 V5 xs wp wc G h5 cd hs5 hG5 _ _ f5 => ?_
  have F5 : Far (List.range w4.heap.size) v3 v5 := F4.then f5
  have hn5 := cd.n
  refine ifF rfl (ifF (by simp) ?_)
  rw [← cd.kin.a]
  have wr5 : WRow v5 (r :: (G ++ List.range w4.heap.size)) wp (xs.map Wd.enc) := by
    have := row_of (E := List.range w4.heap.size) hs5 (by rw [List.length_map, hn5])
    exact ⟨this.1, fun x hx hn => List.mem_cons_of_mem _ (this.2 x hx hn)⟩
  have len5 : C5.length ≥ l.length + 1 := by rw [cd.len, len4]; omega
  have st5 : d5.starts = [0] := by rw [cd.kin.starts, kin4.starts, fr.starts]
  have mono : ∀ {C' : List Wd} {L' : List Slot} {FL' : List Fn.Slot} {i : Nat}, L' = d5.L → FL' = d5.FL → Made C5 C' xs l.length i → i ≤ l.length → Kn.le ⟨fun j => j < l.length + 1, C5, d5.L, d5.FL, V5⟩ ⟨fun j => j < l.length + 1, C', L', FL', V5⟩ := fun {C' L' FL' i} e1 e2 hm hi => by
    subst e1 e2
    refine ⟨fun j x hj hx => ?_, fun j hj _ => hj, StayL.refl _, StayF.refl _, fun x hx => hx⟩
    have hj : ¬ j < l.length + 1 := hj
    show C'[j]? = some x
    rw [hm.old j (.inr (by omega))]; exact hx
  have c50 : C5[0]? = some (.fn id) := by rw [cd.old 0 (by omega)]; exact c40
  have c5k : ∀ k, k < l.length → C5[1 + k]? = some (.ref (1 + k)) := fun k hk => by rw [cd.old (1 + k) (by omega)]; exact c4k k hk
  have hat5 : At d5.L d5.FL id s (l.length : Int) := hat4.stay cd.L cd.FL
  have s0f : (Wd.str 0).fits := ⟨by show -2 ^ 60 ≤ ((0 : Nat) : Int); omega, by show ((0 : Nat) : Int) < 2 ^ 60; omega⟩
  have s0d : ∀ C' : List Wd, Der C' (.str 0) (.str 0) := fun C' => ⟨0, .stop (by simp [Wd.tag])⟩
  have lm := l.length
  refine ⟨fun q v => ∃ (i : Nat) (d' : HpD) (C' : List Wd), q.i = i ∧ i ≤ l.length ∧ Hp w4 v d' (r :: (G ++ List.range w4.heap.size)) ∧ HI d' C' (0 + 1 + sizeL l) ∧ KinS d5 d' ∧ KinH d5 d' ∧ Made C5 C' xs l.length i ∧ Far (r :: (G ++ List.range w4.heap.size)) v5 v, fun q _ => (l.length - q.i).toNat, ⟨0, d5, C5, rfl, by omega, h5, cd.hi, KinS.refl _, KinH.refl _, ⟨rfl, fun _ _ => rfl, fun k hk => absurd hk (by omega)⟩, Far.refl _ _⟩, ?_⟩
  rintro ⟨qi⟩ v ⟨i, d', C', rfl, hi, hh, hhi, ks, kh, hmd, fv⟩
  unfold B_law20_HeapParts_L1
  have c0 : C'[0]? = some (.fn id) := by rw [hmd.old 0 (.inl rfl)]; exact c50
  have hat : At d'.L d'.FL id s (l.length : Int) := by rw [ks.L, ks.FL]; exact hat5
  have s0r : rightW C' d'.L (.str 0) = true := rightW_str.2 ⟨id, c0⟩
  have st : d'.starts[d'.starts.length - 1]? = some ((0 : Nat) : Int) := by rw [kh.starts, st5]; rfl
  have rx : ∀ k (hk : k < xs.length), Rep ⟨fun j => j < l.length + 1, C', d'.L, d'.FL, V5⟩ l[k] xs[k] := fun k hk => Rep.mono (mono ks.L ks.FL hmd hi) _ (cd.rep k (by omega) hk)
  have lrt : ∀ k (hk : k < l.length), l[k].right = true := fun k hk => (checkT_0 (hck _ (List.getElem_mem hk))).1
  rw [← ks.a]
  refine ifC (fun g => ?_) (fun g => ?_)
  · simp only [decide_eq_true_eq] at g
    have gi : i < l.length := by omega
    have gx : i < xs.length := by omega
    have ew : IntKind.i64.wrap ((i : Int) + 1) = ((i + 1 : Nat) : Int) := by rw [i64id (by omega) (by omega)]; simp
    dsimp only
    rw [ew]
    have ci : C'[i + 1]? = some (.ref (i + 1)) := by rw [hmd.old (i + 1) (.inr (by omega)), Nat.add_comm i 1]; exact c5k i gi
    have rf : (Wd.ref (i + 1)).fits := ref_fits (by omega)
    have rr : rightW C' d'.L (.ref (i + 1)) = true := rightW_ref.2 ⟨_, ci, by simp [Wd.tag]⟩
    have dr : Der C' (.ref (i + 1)) (.ref (i + 1)) := ⟨0, .root ci⟩
    have xf := cd.fits _ (List.getElem_mem gx)
    obtain ⟨xd, xr⟩ := (rx i gx).self (lrt i gi)
    have xd : Der C' xs[i] xs[i] := xd
    have xr : rightW C' d'.L xs[i] = true := xr
    have xne : xs[i] ≠ .ref (i + 1) := fun e => by
      have := rx i gx
      rw [Rep.eq, e] at this
      split at this
      · obtain ⟨j, ej, _, hj, _⟩ := this
        cases ej
        exact hj (by omega)
      · split at this
        · cases this
        · split at this
          · obtain ⟨_, _, h, _⟩ := this; cases h
          · obtain ⟨_, _, h, _⟩ := this; cases h
    refine Arg_ok (i := 0) hh hhi s0f s0r (s0d C') c0 hat (by omega) (fun hb => absurd ⟨by omega, by omega⟩ hb) fun _ _ v6 h6 f6 => ifF rfl ?_
    have f6 := fv.then f6.sub
    have e7 : (0 : Nat) + ((i + 1 : Nat) : Int).toNat = i + 1 := by omega
    rw [e7]
    refine Deref_ok (h6.keep (drw_upd v6)) hhi rf rr dr fun v7 h7 f7 => ifF (by simp) ?_
    have f7 := (f6.after (drw_upd v6)).then f7.sub
    have cell : ∀ {z : World}, Far (r :: (G ++ List.range w4.heap.size)) v5 z → ∃ x, wp = some x ∧ z.cell? (x.add i) = some (.int .u64 xs[i].enc) := fun fz => by
      have := (wr5.far fz).at (i := i) (by rw [List.length_map]; exact gx)
      simpa using this
    obtain ⟨x, ex, hc7⟩ := cell f7
    refine ⟨by show (0 : Int) ≤ (i : Int); omega, by show (i : Int) < _; omega, ?_⟩
    rw [ex]
    simp only [NN_some, addN, drw_cell, drw_heap, exS, exI, exB, exP, exM, exStr, exV, a0, a1, a2, a3, a4, a5, a6, a7, a8, a9, a10, a11, a12, a13, maxI_eq, Nat.zero_add, Nat.add_zero, Nat.mul_one, Option.isNone_some, Option.isNone_none, Int.toNat_natCast, hc7]
    have hput : PutAt C' d'.L d'.FL (Wd.str 0).enc xs[i].enc ((i + 1 : Nat) : Int) 0 0 xs[i] := ⟨⟨.str 0, id, s, l.length, rfl, s0f, s0r, s0d C', c0, hat, by omega, by rw [hmd.len]; omega, by omega, by omega⟩, ⟨xs[i], rfl, xf, xr, xd⟩, by rw [e7]; exact ci, by omega⟩
    refine Put_any h7 hhi (Wd.enc_bnd _) (Wd.enc_bnd _) st (fun hno => absurd hput (hno _ _)) fun i' y hg yf yr v8 d8 h8 hi8 ks8 kh8 f8 => ifF rfl ?_
    obtain rfl : i' = 0 := hg.1.uniq hput.1
    obtain rfl : y = xs[i] := by
      obtain ⟨_, ⟨x', ex', xf', _, hd'⟩, _⟩ := hg
      obtain rfl := Wd.enc_inj xf xf' ex'
      exact hd'.uniq xd
    rw [e7] at hi8
    have f8 := f7.then f8
    obtain ⟨x', ex', hc8⟩ := cell f8
    rw [ex] at ex'; cases ex'
    simp only [hc8, NN_some, addN, drw_cell, drw_heap, exS, exI, exB, exP, exM, exStr, exV, a0, a1, a2, a3, a4, a5, a6, a7, a8, a9, a10, a11, a12, a13, maxI_eq, Nat.zero_add, Nat.add_zero, Nat.mul_one, Option.isNone_some, Option.isNone_none]
    obtain ⟨d1', d2'⟩ := Der.set ci xd xne
    have rw8 := (hhi.wf.set ci xr xd).2
    rw [← ks8.a]
    refine ⟨by show (0 : Int) ≤ (i : Int); omega, by show (i : Int) < _; omega, ?_⟩
    refine Deref_ok h8 hi8 rf (by rw [ks8.L, rw8]; exact rr) d2' fun v9 h9 f9 => ?_
    have f9 := f8.then f9.sub
    obtain ⟨x', ex', hc9⟩ := cell f9
    rw [ex] at ex'; cases ex'
    refine ⟨by rw [hc9], ?_⟩
    refine Deref_ok h9 hi8 xf (by rw [ks8.L, rw8]; exact xr) d1' fun v10 h10 f10 => ifF (by simp) ?_
    refine ⟨⟨i + 1, d8, C'.set (i + 1) xs[i], rfl, by omega, h10, hi8, ks.trans ks8, kh.trans kh8, ⟨by rw [List.length_set]; exact hmd.len, fun j hj => ?_, fun k hk => ?_⟩, f9.then f10.sub⟩, by show ((l.length : Int) - ((i + 1 : Nat) : Int)).toNat < ((l.length : Int) - (i : Int)).toNat; omega⟩
    · rw [List.getElem?_set_ne (by omega)]
      exact hmd.old j (by omega)
    · have hil : i + 1 < C'.length := by rw [hmd.len]; omega
      by_cases e : k = i
      · subst e
        rw [Nat.add_comm 1 k, List.getElem?_set_self hil, List.getElem?_eq_getElem gx]
      · rw [List.getElem?_set_ne (by omega)]
        exact hmd.new k (by omega)
  simp only [decide_eq_false_iff_not] at g
  obtain rfl : i = l.length := by omega
  have e1 : IntKind.i64.wrap ((l.length : Int) + 1) = ((l.length + 1 : Nat) : Int) := by rw [i64id (by omega) (by omega)]; simp
  rw [e1]
  refine Arg_ok (i := 0) hh hhi s0f s0r (s0d C') c0 hat (by omega) (fun _ v6 h6 f6 => ?_) fun _ hb => absurd hb (by omega)
  have f6 := fv.then f6.sub
  have rep : Rep ⟨fun _ => False, C', d'.L, d'.FL, V5⟩ (.mk 4 0 s l) (.str 0) := by
    rw [Rep.eq, if_neg (by show ¬ (4 : Int) = 1; decide), if_neg (by show ¬ (4 : Int) = 2; decide), if_neg (by show ¬ (4 : Int) = 3; decide)]
    refine ⟨0, id, rfl, fun h => h, c0, hat, RepL.at.2 fun k hk => ?_⟩
    have hk : k < l.length := hk
    have hkx : k < xs.length := by omega
    refine ⟨xs[k], fun h => h, ?_, ?_⟩
    · show C'[0 + 1 + k]? = _
      rw [Nat.zero_add, hmd.new k hk, List.getElem?_eq_getElem hkx]
    · exact Rep.mono (q := ⟨fun j => j < l.length + 1, C', d'.L, d'.FL, V5⟩) (r := ⟨fun _ => False, C', d'.L, d'.FL, V5⟩) ⟨fun _ _ _ h => h, fun _ _ _ h => h, StayL.refl _, StayF.refl _, fun x hx => hx⟩ _ (rx k hkx)
  have vmo := cd.vm.once
  have ev := Rep.ev vmo _ rep hrt
  refine one_word h6 fun v7 p7 b7 h7 wr7 u7 => ?_
  refine Decode_ok (xs := [.str 0]) (ts := [(Tm.mk 4 0 s l).ren (cellOf V5)]) h7 hhi wr7 (by show 1 < 2 ^ 16; omega) (by simpa using s0f) (by simpa using s0r) rfl (fun k h1 h2 => by
    have : k = 0 := by have : k < 1 := h1; omega
    subst this; exact ev) (fun hb => absurd (decE_one (by rw [ren_size]; exact hsz) (by rw [ren_depth]; exact hdp)) hb) fun _ v8 p8 c8 vp8 vc8 Y RL h8 ra8 _ _ _ sY inY f8 => ?_
  have keys : V5.map (·.1) = (Tm.mk 4 0 s l).vars [] := by
    rw [cd.keys, Tm.vars_eq, if_neg (by show ¬ (4 : Int) = 1; decide)]; rfl
  rw [List.map_singleton, told_one keys vmo cd.vm.two] at ra8
  have F8 : Far (r :: (G ++ List.range w4.heap.size)) v5 v8 := (f6.after u7).then (f8.less fun k hk => List.mem_cons_of_mem _ hk)
  have g0x : 0 < xs.length := by omega
  have hw := (wr5.far F8).at (i := 0) (by rw [List.length_map]; exact g0x)
  obtain ⟨x, ex, hc⟩ := hw
  refine ifT rfl ⟨by omega, by omega, ?_⟩
  rw [ex]
  simp only [NN_some, addN, drw_cell, drw_heap, exS, exI, exB, exP, exM, exStr, exV, a0, a1, a2, a3, a4, a5, a6, a7, a8, a9, a10, a11, a12, a13, maxI_eq, Nat.zero_add, Nat.add_zero, Nat.mul_one, Option.isNone_some, Option.isNone_none, Int.toNat_zero, hc]
  have h8' := h8.less (E' := Y ++ (r :: (G ++ List.range w4.heap.size))) fun k hk => by
    simp only [List.mem_append, List.mem_cons] at hk ⊢
    rcases hk with g | g
    · exact .inl g
    · exact .inr (.inr g)
  refine Put_any h8' hhi (Wd.enc_bnd _) (by rw [List.getElem_map]; exact Wd.enc_bnd _) st (fun _ v9 h9 f9 => ifT rfl (ifT rfl ?_)) fun i' y hg => by
    obtain ⟨⟨_, _, _, _, _, _, _, _, _, _, _, _, hq, _⟩, _⟩ := hg
    omega
  have F9 : Far (List.range w4.heap.size) v3 v9 := (F5.then (F8.less fun k hk => by simp [List.mem_range.1 hk])).then (f9.less fun k hk => by simp [List.mem_range.1 hk])
  have ra9 := RdA.far F9 sub (RdA.keep W3 ra)
  have in9 : In (List.range w.heap.size) v9 := fun k hk => by
    have := List.mem_range.1 (sub k hk)
    exact h9.inn k (by simp [this])
  have ra8' := RdA.far f9 (fun k hk => by simp [hk]) ra8
  refine rComp_ok ra9 in9 (by omega) hne fun v10 p10 c10 G10 ra10 in10 _ u10 => ?_
  refine one_tm (t := .mk 4 0 s l) ra10 (by show s.size < 2 ^ 63; omega) in10 fun v11 q11 ra11 in11 u11 => ?_
  refine Renamed_ok (l := [.mk 4 0 s l]) ra11 in11 ⟨by simpa using right_pv _ hrt, by simp only [sizeL]; omega⟩ fun v12 q12 c12 F12 ra12 in12 _ u12 => ?_
  have U12 := (u10.after u11).after u12
  refine Same_ok (l := [numT (varsL [.mk 4 0 s l] []) (.mk 4 0 s l)]) (RdA.keep U12 ra8') (by simpa using ra12) (by simp only [sizeL, numT, ren_size]; omega) fun v13 u13 => ?_
  exact ⟨rfl, U4.after ((h9.keep (U12.after u13)).U)⟩
end
end Go.Proofs.YtdaenijbokialaaGreat
namespace Go.Proofs.YtdaenijbokialaaGreat
open Go Go.D Go.Proofs
set_option linter.unusedSimpArgs false
set_option linter.unusedVariables false
set_option maxRecDepth 8000
section
variable {w : World}
end
end Go.Proofs.YtdaenijbokialaaGreat
