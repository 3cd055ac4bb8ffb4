import Derived.Test.YtdaenijbokialaaGreatAny
import Derived.Test.YtdaenijbokialaaGreatForget4
namespace Go.Proofs.YtdaenijbokialaaGreat
open Go Go.D Go.Proofs
set_option linter.unusedSimpArgs false
set_option linter.unusedVariables false
set_option maxRecDepth 8000
section
variable {w : World}
theorem row_of {v : World} {p : Option Addr} {n c : Nat} {zs : List Int} {G E : List Nat} (h : SlAt v 1 p n c (zs.map (.int .u64)) G) (hn : n = zs.length) : WRow v (G ++ E) p zs := by
 subst hn
 refine ⟨h.rd, fun x hx _ => ?_⟩
 rcases h.2.2 with ⟨e, _, _⟩ | ⟨b, off, arr, e, eG, _⟩
 ·rw [e] at hx; cases hx
 ·rw [e] at hx; cases hx
  rw [eG]; simp
end
abbrev OpT := Int × Tm × Tm
def opC (o : OpT) (qa : Option Addr) (ca : Nat) (qb : Option Addr) (cb : Nat) : List Value := [.int .i64 o.1, .int .i64 o.2.1.kind, .int .i64 o.2.1.n, .string o.2.1.s, .slice qa o.2.1.l.length ca, .int .i64 o.2.2.kind, .int .i64 o.2.2.n, .string o.2.2.s, .slice qb o.2.2.l.length cb]
def OpsA (w : World) (F : List Nat) (l : List OpT) (p : Option Addr) : Prop := ∀ i (hi : i < l.length), ∃ x qa ca qb cb, p = some x ∧ x.block ∈ F ∧ (∀ j, j < 9 → w.cell? (x.add (i * 9 + j)) = (opC l[i] qa ca qb cb)[j]?) ∧ l[i].2.1.s.size < 2 ^ 63 ∧ RdA w F l[i].2.1.l qa 0 ∧ l[i].2.2.s.size < 2 ^ 63 ∧ RdA w F l[i].2.2.l qb 0
def opTs (l : List OpT) : List Tm := l.flatMap fun o => [o.2.1, o.2.2]
theorem opTs_snoc (l : List OpT) (o : OpT) : opTs (l ++ [o]) = opTs l ++ [o.2.1, o.2.2] := by simp [opTs]
theorem opTs_len : ∀ l : List OpT, (opTs l).length = 2 * l.length
 | [] => rfl
 | o :: l => by
  have := opTs_len l
  show ([o.2.1, o.2.2] ++ opTs l).length = _
  rw [List.length_append, this, List.length_cons, List.length_cons, List.length_cons, List.length_nil]; omega
theorem see_ops {w : World} {f : Nat} {cs : List Value} (h : Sees Tryz.prog w f 73 cs) : ∃ (l : List OpT) (p : Option Addr) (c : Nat), cs = [.slice p l.length c] ∧ OpsA w (List.range w.heap.size) l p ∧ l.length < 2 ^ 63 := by
 obtain ⟨p, m, c, cs', g', hg, e3, hmc, hcm, hrd, hrow⟩ := see_slice (by rfl) (sz := 9) (by kernel_rfl) h
 obtain ⟨l, hl, hp⟩ := pick (n := m) (p := fun i (o : OpT) => ∃ (qa : Option Addr) (ca : Nat) (qb : Option Addr) (cb : Nat), (cs'.drop (i * 9)).take 9 = opC o qa ca qb cb ∧ tmIn w o.2.1 qa ∧ tmIn w o.2.2 qb) fun i hi => by
  have hr := hrow i hi
  obtain ⟨g, rfl, hl, hf⟩ := see_struct (fs := _) (by rfl) (sz := 9) (by kernel_rfl) hr
  obtain ⟨cc, hcc⟩ : ∃ cc, cc = (cs'.drop (i * 9)).take 9 := ⟨_, rfl⟩
  rw [← hcc] at hl hf ⊢
  match cc, hl with
  | [c0, c1, c2, c3, c4, c5, c6, c7, c8], _ =>
   have h0 : Sees Tryz.prog w g 3 [c0] := hf 0 _ rfl
   obtain ⟨k, e0, k0⟩ := see_int (by rfl) h0
   simp only [List.cons.injEq, and_true] at e0
   obtain rfl := e0
   have h1 : Sees Tryz.prog w g 31 [c1, c2, c3, c4] := hf 1 _ rfl
   obtain ⟨t, qa, ca, ea, ha⟩ := see_tm g h1
   simp only [List.cons.injEq, and_true] at ea
   obtain ⟨rfl, rfl, rfl, rfl⟩ := ea
   have h2 : Sees Tryz.prog w g 31 [c5, c6, c7, c8] := hf 2 _ rfl
   obtain ⟨u, qb, cb, eb, hb⟩ := see_tm g h2
   simp only [List.cons.injEq, and_true] at eb
   obtain ⟨rfl, rfl, rfl, rfl⟩ := eb
   exact ⟨(k, t, u), qa, ca, qb, cb, rfl, ha, hb⟩
 have hmax : maxLen < 2 ^ 63 := by decide
 refine ⟨l, p, c, by rw [hl]; exact e3, fun i hi => ?_, by omega⟩
 obtain ⟨qa, ca, qb, cb, hq, ha, hb⟩ := hp i hi
 obtain ⟨x, hx, hc⟩ := hrd.elem (i := i) (by omega)
 have hc : ∀ j, j < 9 → w.cell? (x.add (i * 9 + j)) = (opC l[i] qa ca qb cb)[j]? := fun j hj => by
  rw [hc j hj, ← hq, List.getElem?_take, if_pos hj, List.getElem?_drop]
 have c0 : w.cell? (x.add (i * 9 + 0)) = some (.int .i64 l[i].1) := hc 0 (by omega)
 have hbl := cell_block c0
 rw [add_block] at hbl
 exact ⟨x, qa, ca, qb, cb, hx, by simpa using hbl, hc, ha.2.1, ha.1, hb.2.1, hb.1⟩
theorem OpsA.far {v z : World} {F E : List Nat} (f : Far E v z) (hFE : ∀ k ∈ F, k ∈ E) {l : List OpT} {p : Option Addr} (h : OpsA v F l p) : OpsA z F l p := fun i hi => by
 obtain ⟨x, qa, ca, qb, cb, e, hx, hc, a1, a2, b1, b2⟩ := h i hi
 refine ⟨x, qa, ca, qb, cb, e, hx, fun j hj => ?_, a1, RdA.far f hFE a2, b1, RdA.far f hFE b2⟩
 rw [← hc j hj]
 obtain ⟨X, u, dd⟩ := f
 have hbl : x.block < v.heap.size := by
  have c0 : v.cell? (x.add (i * 9 + 0)) = some (.int .i64 l[i].1) := hc 0 (by omega)
  have := cell_block c0
  rwa [add_block] at this
 obtain ⟨val, hval⟩ : ∃ val, v.cell? (x.add (i * 9 + j)) = some val := by
  rw [hc j hj]
  exact ⟨(opC l[i] qa ca qb cb)[j]'(by simpa [opC] using hj), List.getElem?_eq_getElem _⟩
 rw [hval]
 exact u.cell hval (by rw [add_block]; exact fun hh => dd _ (hFE _ hx) hh)
theorem OpsA.keep {v z : World} {F : List Nat} (u : Upd [] v z) {l : List OpT} {p : Option Addr} (h : OpsA v F l p) : OpsA z F l p := h.far (Far.keep (X := F) u) fun _ h => h
section
variable {w : World}
theorem TmsAt.push2 {t u : Tm} {p q1 : Option Addr} {n c m1 : Nat} {l : List Tm} {G F : List Nat} {qa qb : Option Addr} {ca cb : Nat} {G1 : List Nat} {K : Option Addr → Nat → Nat → World → Prop} (h : TmsAt w p n c l G F) (h1 : SlAt w 4 q1 2 m1 (tmC (t, qa, ca) ++ tmC (u, qb, cb)) G1) (ht : t.s.size < 2 ^ 63) (hu : u.s.size < 2 ^ 63) (rt : RdA w F t.l qa 0) (ru : RdA w F u.l qb 0) (hGF : Dis G F) (hl : l.length < 2 ^ 30)
  (hK : ∀ p' c' G' w', TmsAt w' p' (n + 2) c' (l ++ [t, u]) G' F → Upd G w w' → Sub G' G w → K p' (n + 2) c' w') :
  App Tryz.prog #[22, 22] 22 #[.slice p n c, .slice q1 2 m1] w K := by
 have hn := h.len
 obtain ⟨L, e1, e2, e3, e4⟩ := h
 refine App_rule (hE := eS_22) e2 h1 (by simp [tmC, Value.oneCell']) (by omega) fun p' c' G' w' hs' u' s => ?_
 refine hK p' c' G' w' ⟨L ++ [(t, qa, ca), (u, qb, cb)], by rw [List.map_append, e1]; rfl, by rw [List.flatMap_append]; simpa using hs', fun x hx => ?_, e4.upd u'⟩ u' s
 rcases List.mem_append.1 hx with g | g
 ·obtain ⟨a, b⟩ := e3 x g
  exact ⟨a, RdA.upd' u' hGF.symm b⟩
 ·simp at g
  rcases g with rfl | rfl
  ·exact ⟨ht, RdA.upd' u' hGF.symm rt⟩
  ·exact ⟨hu, RdA.upd' u' hGF.symm ru⟩
theorem terms_ok {F : List Nat} {l : List OpT} {p : Option Addr} {c : Nat} {K : Option Addr → Nat → Nat → World → Prop} (h : OpsA w F l p) (hF : In F w) (hl : l.length < 2 ^ 20)
  (hK : ∀ w' p' c' G, RdA w' (G ++ F) (opTs l) p' 0 → In (G ++ F) w' → Since G w → Upd [] w w' → K p' (opTs l).length c' w') : C_law20_terms p l.length c w K := by
 apply C_law20_terms.of
 unfold F_law20_terms F_law20_terms_L1
 refine ⟨fun s v => ∃ (i : Nat) (G : List Nat), s.i = i ∧ i ≤ l.length ∧ TmsAt v s.outP s.outN s.outC (opTs (l.take i)) G F ∧ Since G w ∧ Upd [] w v, fun s _ => (l.length - s.i).toNat, ⟨0, [], rfl, by omega, ⟨[], rfl, SlAt.nil _ _, (by intro x hx; cases hx), hF⟩, (by intro k hk; cases hk), Upd.refl _ _⟩, ?_⟩
 rintro ⟨op, on, oc, si⟩ v ⟨i, G, rfl, hi, ht, hG, u⟩
 unfold B_law20_terms_L1
 dsimp only at ht ⊢
 have hav := h.keep u
 refine ifC (fun g => ?_) (fun g => ?_)
 ·simp only [decide_eq_true_eq] at g
  have gi : i < l.length := by omega
  obtain ⟨x, qa, ca, qb, cb, rfl, hx, hc, a1, a2, b1, b2⟩ := hav i gi
  have c1 := hc 1 (by omega); have c2 := hc 2 (by omega); have c3 := hc 3 (by omega); have c4 := hc 4 (by omega)
  have c5 := hc 5 (by omega); have c6 := hc 6 (by omega); have c7 := hc 7 (by omega); have c8 := hc 8 (by omega)
  simp only [opC, List.getElem?_cons_zero, List.getElem?_cons_succ] at c1 c2 c3 c4 c5 c6 c7 c8
  have ud := drw_upd v
  refine ⟨by omega, by omega, ?_⟩
  simp only [NN_some, addN, drw_cell, drw_heap, exS, exI, exB, exP, exM, exStr, exV, a0, a1, a2, a3, a4, a5, a6, a7, a8, a9, a10, a11, a12, a13, maxI_eq, Nat.zero_add, Nat.add_zero, Nat.mul_one, Option.isNone_some, Option.isNone_none, addA, Int.toNat_natCast, Nat.add_assoc, Nat.reduceAdd, c1, c2, c3, c4]
  refine ⟨by omega, by omega, ?_⟩
  simp only [NN_some, addN, drw_cell, drw_heap, exS, exI, exB, exP, exM, exStr, exV, a0, a1, a2, a3, a4, a5, a6, a7, a8, a9, a10, a11, a12, a13, maxI_eq, Nat.zero_add, Nat.add_zero, Nat.mul_one, Option.isNone_some, Option.isNone_none, addA, Int.toNat_natCast, Nat.add_assoc, Nat.reduceAdd, c5, c6, c7, c8]
  refine BSlL_rule eS_22 [.agg #[.int .i64 l[i].2.1.kind, .int .i64 l[i].2.1.n, .string l[i].2.1.s, .slice qa l[i].2.1.l.length ca], .agg #[.int .i64 l[i].2.2.kind, .int .i64 l[i].2.2.n, .string l[i].2.2.s, .slice qb l[i].2.2.l.length cb]] (by rfl) (by simp [Value.cells]) (by rfl) (by omega) fun v1 hs1 u1 => ?_
  have U1 := ud.after u1
  have hs1' : SlAt v1 4 (some ⟨(drw v).heap.size, 0, none⟩) 2 2 (tmC (l[i].2.1, qa, ca) ++ tmC (l[i].2.2, qb, cb)) [(drw v).heap.size] := by
   simpa [tmC, Value.cells] using hs1
  have ht1 := ht.keep U1
  have hdis : Dis G F := fun k hk hk2 => by
   have := hG k hk; have := hF k hk2; omega
  have hol : (opTs (l.take i)).length < 2 ^ 30 := by rw [opTs_len, List.length_take]; omega
  refine TmsAt.push2 ht1 hs1' a1 b1 (RdA.keep U1 a2) (RdA.keep U1 b2) hdis hol fun p' c' G' v2 ht2 u2 s2 => ?_
  rw [i64id (by omega) (by omega)]
  have hsz := (u.after U1).size
  refine ⟨⟨i + 1, G', by simp, by omega, by rw [take_step gi, opTs_snoc]; exact ht2, fun k hk => ?_, (u.after U1).fresh u2 hG⟩, by show ((l.length : Int) - ((i : Int) + 1)).toNat < ((l.length : Int) - (i : Int)).toNat; omega⟩
  rcases s2 k hk with e | e
  ·exact hG k e
  ·omega
 ·simp only [decide_eq_false_iff_not] at g
  obtain rfl : i = l.length := by omega
  rw [List.take_length] at ht
  have hn := ht.len
  rw [hn]
  exact hK v op oc G ht.rd (fun k hk => by
   rcases List.mem_append.1 hk with e | e
   ·exact ht.inn.1 k e
   ·exact ht.inn.2 k e) hG u
end
abbrev Snp := List Wd × List Int
theorem chain_bnd : ∀ {r : List Snp} {C : List Wd} {T : List Int}, ChainOk r C T → ∀ x ∈ T, 0 ≤ x ∧ x < C.length
 | [], _, _, h => h.elim
 | [(C0, T0)], C, T, h => fun x hx => by
  obtain ⟨sn, e1, e2⟩ := h
  obtain ⟨hle, N, rfl, _, _, hN⟩ := sn
  have e2 : T0 = [] := e2
  rw [e2] at hx
  exact hN x (by simpa using hx)
 | (C0, T0) :: q :: r, C, T, h => fun x hx => by
  obtain ⟨sn, hr⟩ := h
  obtain ⟨hle, N, rfl, _, _, hN⟩ := sn
  rcases List.mem_append.1 hx with g | g
  ·have := chain_bnd (r := q :: r) hr x g
   omega
  ·exact hN x g
theorem chain_len : ∀ {r : List Snp} {C : List Wd} {T : List Int}, ChainOk r C T → ∀ q ∈ r, q.2.length ≤ T.length
 | [], _, _, h => h.elim
 | [(C0, T0)], C, T, h => fun q hq => by
  obtain ⟨sn, _, e2⟩ := h
  simp at hq
  subst hq
  have e2 : T0 = [] := e2
  rw [e2]; simp
 | (C0, T0) :: p :: r, C, T, h => fun q hq => by
  obtain ⟨sn, hr⟩ := h
  obtain ⟨hle, N, rfl, _⟩ := sn
  rw [List.length_append]
  rcases List.mem_cons.1 hq with g | g
  ·rw [g]; show T0.length ≤ _; omega
  ·have := chain_len (r := p :: r) hr q g
   omega
structure ChI (d5 : HpD) (k B : Nat) (d : HpD) (C : List Wd) (r : List Snp) : Prop where
 hi : HI d C k
 a : d.a = d5.a
 tlim : d.tlim = d5.tlim
 L : d.L = d5.L
 FL : d.FL = d5.FL
 ch : ChainOk r C d.TL
 st : d.starts = (r.map fun q => (q.1.length : Int)).reverse
 mrk : d.marks = (r.map fun q => (q.2.length : Int)).reverse
 wf : ∀ q ∈ r, WF q.1 d5.L d5.FL ∧ q.2.length + unbC q.1 ≤ B
 room : d.TL.length + unbC C ≤ B
theorem rev_last {α : Type} {l : List α} {x : α} : ((x :: l).reverse)[(x :: l).reverse.length - 1]? = some x := by
 rw [List.reverse_cons]
 exact last_app
section
variable {w v : World} {d5 d : HpD} {E : List Nat} {C : List Wd} {k B : Nat} {r : List Snp}
theorem ChI.top (h : ChI d5 k B d C r) : ∃ C0 T0 r', r = (C0, T0) :: r' ∧ Snap C0 T0 C d.TL ∧ d.starts[d.starts.length - 1]? = some (C0.length : Int) ∧ d.marks[d.marks.length - 1]? = some (T0.length : Int) := by
 match r, h with
 | [], h => exact h.ch.elim
 | (C0, T0) :: r', h =>
  refine ⟨C0, T0, r', rfl, h.ch.top, ?_, ?_⟩
  ·rw [h.st]; exact rev_last
  ·rw [h.mrk]; exact rev_last
theorem ChI.unify {z u : Int} {K : Bool → Int → World → Prop} (hc : ChI d5 k B d C r) (h : Hp w v d E) (hB : (B : Int) ≤ d5.tlim ∧ d5.tlim ≤ 1048576) (hz : 0 ≤ z ∧ z < 2 ^ 64) (hu : 0 ≤ u ∧ u < 2 ^ 64)
  (hK : ∀ ok e v' d' C', Hp w v' d' E → ChI d5 k B d' C' r → Far E v v' → K ok e v') : C_heap_Heap_Unify d5.a z u v K := by
 rw [← hc.a]
 obtain ⟨C0, T0, r', rfl, sn, hs, _⟩ := hc.top
 rcases right_both (C := C) (d := d) (z := z) (u := u) with e | ⟨e1, e2⟩
 ·exact Unify_no h hc.hi hz hu e fun v1 h1 f1 => hK _ _ v1 d C h1 hc f1
 ·obtain ⟨x, rfl, xf, xr⟩ := rightI_word hz.1 hz.2 e1
  obtain ⟨y, rfl, yf, yr⟩ := rightI_word hu.1 hu.2 e2
  have hroom := hc.room
  refine Unify_ok h hc.hi xf yf xr yr hs (.inr ⟨by rw [hc.tlim]; omega, by rw [hc.tlim]; exact hB.2⟩) fun ok v1 d1 C1 h1 hi1 bd _ _ f1 => hK ok 0 v1 d1 C1 h1 ⟨hi1, bd.a.trans hc.a, bd.tlim.trans hc.tlim, bd.L.trans hc.L, bd.FL.trans hc.FL, hc.ch.step (bd.snap C0 T0 rfl sn), bd.starts.trans hc.st, bd.marks.trans hc.mrk, hc.wf, by have := bd.room; omega⟩ f1
theorem ChI.open_ {K : Int → Int → World → Prop} (hc : ChI d5 k B d C r) (h : Hp w v d E) (hB : (B : Int) ≤ d5.tlim ∧ d5.tlim ≤ 1048576) (hr : r.length < 4096)
  (hK : ∀ x v' d', Hp w v' d' E → ChI d5 k B d' C ((C, d.TL) :: r) → Far E v v' → K x 0 v') : C_heap_Heap_Open d5.a v K := by
 rw [← hc.a]
 have hroom := hc.room
 refine Open_ok h hc.hi (by rw [hc.st, List.length_reverse, List.length_map]; exact hr) (by omega) fun v1 d1 h1 hi1 kin eT est emk f1 => hK _ v1 d1 h1 ⟨hi1, kin.a.trans hc.a, kin.tlim.trans hc.tlim, kin.L.trans hc.L, kin.FL.trans hc.FL, by rw [eT]; exact hc.ch.open_, by rw [est, hc.st]; simp, by rw [emk, hc.mrk]; simp, fun q hq => ?_, by rw [eT]; exact hroom⟩ f1
 rcases List.mem_cons.1 hq with g | g
 ·rw [g, ← hc.L, ← hc.FL]
  exact ⟨hc.hi.wf, hroom⟩
 ·exact hc.wf q g
theorem ChI.back {K : Int → World → Prop} (hc : ChI d5 k B d C r) (h : Hp w v d E) (hB : (B : Int) ≤ d5.tlim ∧ d5.tlim ≤ 1048576)
  (hK : ∀ v' d' C0 T0 r', r = (C0, T0) :: r' → d'.TL = T0 → Hp w v' d' E → ChI d5 k B d' C0 r → Far E v v' → K 0 v') : C_heap_Heap_Back d5.a v K := by
 rw [← hc.a]
 obtain ⟨C0, T0, r', rfl, sn, hs, hm⟩ := hc.top
 have hroom := hc.room
 obtain ⟨w0, b0⟩ := hc.wf (C0, T0) (by simp)
 refine Back_ok h hc.hi hs hm sn (by rw [hc.L, hc.FL]; exact w0) (by omega) fun v1 d1 h1 hi1 kin eT est emk f1 => hK v1 d1 C0 T0 r' rfl eT h1 ⟨hi1, kin.a.trans hc.a, kin.tlim.trans hc.tlim, kin.L.trans hc.L, kin.FL.trans hc.FL, by rw [eT]; exact hc.ch.back, est.trans hc.st, emk.trans hc.mrk, hc.wf, by rw [eT]; exact b0⟩ f1
end
open Ro (kp)
section
variable {w v : World} {d : HpD} {E : List Nat} {C : List Wd} {k0 : Nat}
theorem topO_ok {K : Int → World → Prop} (h : Hp w v d E) (ok : HOk d C) (hK : K C.length v) : C_pool_Pool_Top d.pd.a v K :=
 Po.Top_ok h.pl h.plok.ne (by rw [← ok.len]; exact hK)
theorem CellO_ok {t : Int} {x : Wd} {K : Int → World → Prop} (h : Hp w v d E) (ok : HOk d C) (h0 : 0 ≤ t) (hx : C[t.toNat]? = some x) (hK : ∀ v', Hp w v' d E → Upd [] v v' → K x.enc v') : C_heap_Heap_Cell d.a t v K := by
 apply C_heap_Heap_Cell.of
 unfold F_heap_Heap_Cell
 have hcl := ok.cl
 have hil := (List.getElem?_eq_some_iff.1 hx).1
 refine hmade_ok h (ifF rfl (taken_ok h ok fun v1 h1 u1 => ifF (by simp; omega) ?_))
 obtain ⟨b, off, hp, _, hc⟩ := h1.word ok hil
 simp only [HpD.a, NN_some, addN, drw_cell, drw_heap, exS, exI, exB, exP, exM, exStr, exV, a0, a1, a2, a3, a4, a5, a6, a7, a8, a9, a10, a11, a12, a13, maxI_eq, Nat.zero_add, Nat.add_zero, Nat.mul_one, Option.isNone_some, Option.isNone_none, h1.blk.cell, hp, hc]
 rw [List.getElem?_eq_getElem hil] at hx
 have hx : C[t.toNat] = x := by simpa using hx
 rw [hx]
 exact ⟨by omega, by omega, hK v1 h1 u1⟩
theorem less_ok {n m i : Nat} {M : List Int} {p q h : Option Addr} {N c qn qc : Nat} {G : List Nat} {at_ : Int} {K : Int → World → Prop} (hn : 1 ≤ n) (hn20 : n ≤ 20) (hs : SlAt v 1 p N c (M.map (.int .i64)) G) (hi : i < M.length) (hm : M[i] = m) (hm2 : m < 2 ^ 40) (hK : K (gone n m).length v) : F_law20_HeapForgets_L3 (n : Int) at_ h p N c q qn qc (i : Int) ⟨0, 0⟩ v K := by
 unfold F_law20_HeapForgets_L3
 have hN : N = M.length := by have := hs.1; rw [List.length_map] at this; omega
 obtain ⟨b, off, hp, hc⟩ := int_cell hs hi
 rw [hm] at hc
 refine ⟨fun s z => z = v ∧ ∃ j : Nat, s.j = j ∧ j ≤ m ∧ s.less = (gone n j).length, fun s _ => (m - s.j).toNat, ⟨rfl, 0, rfl, by omega, rfl⟩, ?_⟩
 rintro ⟨sl, sj⟩ z ⟨rfl, j, rfl, hj, rfl⟩
 unfold B_law20_HeapForgets_L3 F_law20_HeapForgets_k6
 subst hp
 dsimp only
 refine ⟨by omega, by omega, ?_⟩
 simp only [NN_some, addN, drw_cell, drw_heap, exS, exI, exB, exP, exM, exStr, exV, a0, a1, a2, a3, a4, a5, a6, a7, a8, a9, a10, a11, a12, a13, maxI_eq, Nat.zero_add, Nat.add_zero, Nat.mul_one, Option.isNone_some, Option.isNone_none, Int.toNat_natCast, Nat.mul_one, hc]
 refine ifC (fun g => ?_) (fun g => ?_)
 ·have g := of_decide_eq_true g
  have hgl := gone_len n j
  have em : ((j : Int).tmod (n : Int) == 0) = decide (j % n = 0) := by
   rw [Int.tmod_eq_emod_of_nonneg (by omega), Bool.eq_iff_iff]
   simp
   omega
  have gs := gone_succ n j
  rw [em, i64id (x := (j : Int) + 1) (by omega) (by omega)]
  refine ⟨by omega, ifC (fun g2 => ?_) (fun g2 => ?_)⟩
  ·have e : kf n j = false := by unfold kf; rw [g2]; rfl
   rw [e] at gs
   rw [i64id (by omega) (by omega)]
   refine ⟨⟨trivial, j + 1, by simp, by omega, ?_⟩, by omega⟩
   rw [gs]; simp
  ·have e : kf n j = true := by unfold kf; rw [g2]; rfl
   rw [e] at gs
   refine ⟨⟨trivial, j + 1, by simp, by omega, ?_⟩, by omega⟩
   rw [gs]; simp
 ·have g := of_decide_eq_false g
  obtain rfl : j = m := by omega
  exact hK
theorem HeapForgets_law {w : World} {l : List OpT} {p : Option Addr} {c : Nat} {n t : Int} (ho : OpsA w (List.range w.heap.size) l p) (hl63 : l.length < 2 ^ 63) (ht63 : -2 ^ 63 ≤ t ∧ t < 2 ^ 63) : C_law20_HeapForgets p l.length c n t w fun r w' => r = true ∧ Upd [] w w' := by
 apply C_law20_HeapForgets.of
 unfold F_law20_HeapForgets F_law20_HeapForgets_k1
 have iF : In (List.range w.heap.size) w := fun k hk => List.mem_range.1 hk
 have bad : ∀ {z : World}, Upd [] w z → C_law20_lives z fun t30 w1_7 => t30 = true ∧ Upd [] w w1_7 := fun U => lives_ok fun z' u => ⟨rfl, U.after u⟩
 refine ifC (fun _ => bad (Upd.refl _ _)) (fun g9 => ?_)
 have g9 := of_decide_eq_false g9
 have ol := opTs_len l
 refine terms_ok ho iF (by omega) fun w1 p1 c1 G1 ra1 in1 _ u1 => ?_
 refine large20_ok ra1 in1 (by omega) (fun w2 u2 => ifT rfl (bad (u1.after u2))) fun _ hz w2 u2 => ifF rfl ?_
 have U2 := u1.after u2
 refine terms_ok (ho.keep U2) (iF.upd U2) (by omega) fun w3 p3 c3 G3 ra3 in3 _ u3 => ?_
 have U3 := U2.after u3
 refine may20_ok ra3 hz (fun hck w4 u4 => ifF rfl ?_) fun w4 u4 => ifT rfl (bad (U3.after u4))
 have U4 := U3.after u4
 refine ifC (fun _ => bad U4) fun gn1 => ifC (fun _ => bad U4) fun gn20 => ?_
 have gn1 := of_decide_eq_false gn1
 have gn20 := of_decide_eq_false gn20
 obtain ⟨n, rfl⟩ : ∃ q : Nat, n = q := ⟨n.toNat, by omega⟩
 have n1 : 1 ≤ n := by omega
 have n20 : n ≤ 20 := by omega
 refine HNew_ok (Upd.refl [] w4) (by omega) (by omega) (by omega) (by omega) fun v1 d1 h1 fr u5 _ => ?_
 refine lives_ok fun v2 u6 => ifF rfl (ifF rfl (ifF rfl ?_))
 have h2 := (h1.keep u6).base
 rw [List.nil_append] at h2
 have V2 := u5.after u6
 have sub : ∀ k ∈ List.range w.heap.size, k ∈ List.range w4.heap.size := fun k hk => by
  have := U4.size
  simp only [List.mem_range] at hk ⊢; omega
 have W2 := U4.after V2
 refine terms_ok (ho.keep W2) (iF.upd W2) (by omega) fun v3 p4 c4 G4 ra4 in4 hG4 u7 => ?_
 have h3 := h2.watch u7 (Y := G4) hG4 (fun k hk => in4 k (by simp [hk]))
 refine New_map fun r v4 hm u8 hm4 => ?_
 have hm4 : MapAt v4 r (fun a : Int => Value.int .i64 a) (vmM []) := MapAt.new _ hm4
 have h4 := h3.watch u8 (Y := [r]) (fun k hk => by simp at hk; omega) (fun k hk => by simp at hk; subst hk; exact hm4.lt)
 have rE : r ∉ G4 ++ List.range w4.heap.size := fun hx => by
  have := h3.inn r (by simp at hx ⊢; rcases hx with g | g <;> simp [g]); omega
 have hrw : w4.heap.size ≤ r := by have := (V2.after u7).size; omega
 have hk : 0 + sizeL (opTs l) < 16000 := by omega
 refine encode_ok (S := fun _ => False) (V := []) (E := G4 ++ List.range w4.heap.size) (RdA.keep u8 ra4) (fun k hk => by
  rcases List.mem_append.1 hk with g | g
  ·simp [g]
  ·have := List.mem_range.1 (sub k g); simp [this]) hck h4 fr.hi hk (by rw [fr.lim]; simp; omega) hrw rE hm4 ⟨by simp, by simp, by simp⟩ (fun j hj => hj.elim) fun v5 d5 C5 V5 xs wp wc G h5 cd hs5 hG5 _ hm5 f5 => ?_
 have hn5 := cd.n
 rw [i64id (by omega) (by omega)]
 refine ifF (by simp; omega) ?_
 rw [← cd.kin.a]
 obtain ⟨EE, hEE⟩ : ∃ EE, EE = r :: (G ++ (G4 ++ List.range w4.heap.size)) := ⟨_, rfl⟩
 rw [← hEE] at h5
 have subE : ∀ k ∈ List.range w.heap.size, k ∈ EE := fun k hk => by rw [hEE]; have := List.mem_range.1 (sub k hk); simp [this]
 have wr5 : WRow v5 EE wp (xs.map Wd.enc) := by
  have := row_of (E := List.range w4.heap.size) hs5 (by rw [List.length_map, hn5])
  exact ⟨this.1, fun x hx hn => by
   have := this.2 x hx hn
   rw [hEE]
   simp only [List.mem_append, List.mem_cons] at this ⊢
   rcases this with g | g <;> simp [g]⟩
 have ho5 : OpsA v5 (List.range w.heap.size) l p := by
  have a := (ho.keep (W2.after u7)).keep u8
  exact a.far f5 fun k hk => by have := List.mem_range.1 (sub k hk); simp [this]
 have lim5 : d5.tlim = 65536 := by rw [cd.kin.tlim, fr.tlim]
 have hC5 : C5.length ≤ 24000 := by
  have := cd.len
  have := needL_bnd (opTs l) []
  simp at *
  omega
 obtain ⟨kk, hkk⟩ : ∃ kk, kk = 0 + sizeL (opTs l) := ⟨_, rfl⟩
 have hi5 := cd.hi
 rw [← hkk] at hi5
 have ci5 : ChI d5 kk C5.length d5 C5 [([], [])] := by
  have eT : d5.TL = [] := by rw [cd.kin.TL, fr.TL]
  refine ⟨hi5, rfl, rfl, rfl, rfl, by rw [eT]; exact ChainOk.first C5, by rw [cd.kin.starts, fr.starts]; rfl, by rw [cd.kin.marks, fr.marks]; rfl, fun q hq => ?_, by rw [eT]; have := unbC_le C5; simpa using this⟩
  simp at hq
  rw [hq]
  exact ⟨WF.nil _ _, by simp [unbC]⟩
 have hB : ((C5.length : Nat) : Int) ≤ d5.tlim ∧ d5.tlim ≤ 1048576 := by rw [lim5]; omega
 refine ⟨fun s z => ∃ (i : Nat) (d : HpD) (C : List Wd) (q : List Snp), s.i = i ∧ i ≤ l.length ∧ Hp w4 z d EE ∧ ChI d5 kk C5.length d C q ∧ q.length ≤ i + 1 ∧ Far EE v5 z, fun s _ => (l.length - s.i).toNat, ⟨0, d5, C5, _, rfl, by omega, h5, ci5, by simp, Far.refl _ _⟩, ?_⟩
 rintro ⟨si⟩ z ⟨i, d, C, q, rfl, hi, hz, ci, hq, fz⟩
 unfold B_law20_HeapForgets_L1
 have next : ∀ {z' : World} {d' : HpD} {C' : List Wd} {q' : List Snp}, i < l.length → Hp w4 z' d' EE → ChI d5 kk C5.length d' C' q' → q'.length ≤ i + 1 + 1 → Far EE v5 z' → F_law20_HeapForgets_k4 ⟨(i : Int)⟩ (fun s' w' => (∃ (i : Nat) (d : HpD) (C : List Wd) (q : List Snp), s'.i = i ∧ i ≤ l.length ∧ Hp w4 w' d EE ∧ ChI d5 kk C5.length d C q ∧ q.length ≤ i + 1 ∧ Far EE v5 w') ∧ ((l.length : Int) - s'.i).toNat < ((l.length : Int) - (i : Int)).toNat) z' := fun {z' d' C' q'} gi hz' ci' hq' fz' => by
  unfold F_law20_HeapForgets_k4
  dsimp only
  rw [i64id (by omega) (by omega)]
  exact ⟨⟨i + 1, d', C', q', by simp, by omega, hz', ci', hq', fz'⟩, by omega⟩
 refine ifC (fun g => ?_) (fun g => ?_)
 ·simp only [decide_eq_true_eq] at g
  have gi : i < l.length := by omega
  obtain ⟨x, qa, ca, qb, cb, ex, hx, hc, _⟩ := (ho5.far fz subE) i gi
  have c0 : z.cell? (x.add (i * 9)) = some (.int .i64 l[i].1) := hc 0 (by omega)
  have wcell : ∀ {z' : World} (j : Nat) (hj : j < xs.length), Far EE v5 z' → ∃ y, wp = some y ∧ z'.cell? (y.add j) = some (.int .u64 xs[j].enc) := fun j hj fz' => by
   have := (wr5.far fz').at (i := j) (by rw [List.length_map]; exact hj)
   simpa using this
  refine ⟨by show (0 : Int) ≤ (i : Int); omega, by show (i : Int) < _; omega, ?_⟩
  rw [ex]
  simp only [NN_some, addN, drw_cell, drw_heap, exS, exI, exB, exP, exM, exStr, exV, a0, a1, a2, a3, a4, a5, a6, a7, a8, a9, a10, a11, a12, a13, maxI_eq, Nat.zero_add, Nat.add_zero, Nat.mul_one, Option.isNone_some, Option.isNone_none, addA, Nat.add_zero, Int.toNat_natCast, c0]
  have k3 : ∀ {b : Bool}, F_law20_HeapForgets_k3 d5.a ⟨(i : Int)⟩ (fun s' w' => (∃ (i : Nat) (d : HpD) (C : List Wd) (q : List Snp), s'.i = i ∧ i ≤ l.length ∧ Hp w4 w' d EE ∧ ChI d5 kk C5.length d C q ∧ q.length ≤ i + 1 ∧ Far EE v5 w') ∧ ((l.length : Int) - s'.i).toNat < ((l.length : Int) - (i : Int)).toNat) l[i].1 b z := fun {b} => by
   unfold F_law20_HeapForgets_k3
   refine ifC (fun _ => ?_) (fun _ => ifC (fun _ => ?_) (fun _ => ?_))
   ·exact ci.open_ hz hB (by omega) fun _ z' d' hz' ci' f' => next gi hz' ci' (by simp; omega) (fz.then f')
   ·exact ci.back hz hB fun z' d' C0 T0 r' _ _ hz' ci' f' => next gi hz' ci' (by omega) (fz.then f')
   ·exact next gi hz ci (by omega) fz
  refine ifC (fun _ => ?_) (fun _ => ifC (fun _ => k3) (fun _ => k3))
  rw [i64id (x := 2 * (i : Int)) (by omega) (by omega), i64id (by omega) (by omega)]
  obtain ⟨j, hj⟩ : ∃ j, j = 2 * i := ⟨_, rfl⟩
  have ej : 2 * (i : Int) = (j : Int) := by omega
  have jx : j + 1 < xs.length := by omega
  obtain ⟨y, ey, y0⟩ := wcell j (by omega) fz
  obtain ⟨y', ey', y1⟩ := wcell (j + 1) jx fz
  rw [ey] at ey'; cases ey'
  have ej1 : (j : Int) + 1 = ((j + 1 : Nat) : Int) := by simp
  rw [ej, ej1, ey]
  simp only [NN_some, addN, drw_cell, drw_heap, exS, exI, exB, exP, exM, exStr, exV, a0, a1, a2, a3, a4, a5, a6, a7, a8, a9, a10, a11, a12, a13, maxI_eq, Nat.zero_add, Nat.add_zero, Nat.mul_one, Option.isNone_some, Option.isNone_none, Int.toNat_natCast, y0, y1]
  refine ⟨by omega, by omega, by omega, by omega, ?_⟩
  exact ci.unify (hz.keep (drw_upd z)) hB (Wd.enc_bnd _) (Wd.enc_bnd _) fun _ _ z' d' C' hz' ci' f' => next gi hz' ci' (by omega) ((fz.after (drw_upd z)).then f')
 simp only [decide_eq_false_iff_not] at g
 rw [← ci.a]
 have hroom := ci.room
 have bnd := chain_bnd ci.ch
 have hbd := ci.hi.ok.bound hz
 have mbd : ∀ m ∈ d.marks, 0 ≤ m ∧ m ≤ d.TL.length := fun m hm => by
  rw [ci.mrk] at hm
  obtain ⟨q', hq', rfl⟩ := List.mem_map.1 (List.mem_reverse.1 hm)
  have := chain_len ci.ch q' hq'
  omega
 have ml : 1 ≤ d.marks.length ∧ d.marks.length < 2 ^ 20 := by
  rw [ci.mrk, List.length_reverse, List.length_map]
  obtain ⟨_, _, _, rfl, _⟩ := ci.top
  rw [List.length_cons] at hq ⊢
  omega
 refine (getters hz).2.1 ?_
 refine Ro.Words_ok hz.tr (by omega) fun wsp wsn wsc GW v6 hw6 u9 sw => ?_
 have h6 := hz.watch u9 (Y := GW) sw hw6.inn
 have ewn := Ro.len_n hw6
 refine New_rule fun rk v7 hrk u10 b7 => ?_
 have h7 := h6.watch u10 (Y := [rk]) (by intro k hk; simp at hk; omega) (by intro k hk; simp at hk; subst hk; exact b7.lt)
 refine Marks_ok h7 ml.1 ml.2 fun mp mn mc GM v8 h8 hm8 sm u11 => ?_
 have h8' := h8.less (E' := rk :: (GW ++ (GM ++ EE))) fun k hk => by
  simp only [List.mem_cons, List.mem_append, List.not_mem_nil, or_false] at hk ⊢
  rcases hk with g | g | g | g <;> simp [g]
 have b8 := b7.upd u11 (by simp)
 have hw8 := (hw6.upd u10 (by intro k _ h; cases h)).upd u11 (by intro k _ h; cases h)
 have zsz := hz.U.size
 have s9 := u9.size
 have s10 := u10.size
 have rkl := b7.lt
 have EEl : ∀ k ∈ EE, k < z.heap.size := fun k hk => hz.inn k (by simp [hk])
 refine Forget_ok h8' ci.hi n1 n20 (by omega) (fun x hx => by have := bnd x hx; omega) mbd (by simpa using b8) hw8 (fun hx => by have := hw6.inn _ hx; omega) (by omega) (fun k hk => by have := sw k hk; omega) (fun hx => ?_) (fun k hk hx => ?_) fun v9 d9 lp lc GL h9 hi9 kin9 eT9 est9 emk9 b9 hl9 f9 => ?_
 ·rcases List.mem_append.1 hx with g | g
  ·have := sm _ g; omega
  ·have := EEl _ g; omega
 ·have k1 := sw k hk
  have k2 := hw6.inn k hk
  rcases List.mem_append.1 hx with g | g
  ·have := sm _ g; omega
  ·have := EEl _ g; omega
 have hkl := Ro.kp_len (kf n) d.TL 0
 simp only [NN_some, addN, drw_cell, drw_heap, exS, exI, exB, exP, exM, exStr, exV, a0, a1, a2, a3, a4, a5, a6, a7, a8, a9, a10, a11, a12, a13, maxI_eq, Nat.zero_add, Nat.add_zero, Nat.mul_one, Option.isNone_some, Option.isNone_none, b9.cell]
 refine ifF rfl ?_
 rw [ewn, i64id (by omega) (by omega)]
 refine ifF (by simp) ?_
 rw [← kin9.a]
 have ud9 := drw_upd v9
 have h9d := h9.keep ud9
 refine (getters h9d).2.1 ⟨by simp only [NN_some, addN, drw_cell, drw_heap, exS, exI, exB, exP, exM, exStr, exV, a0, a1, a2, a3, a4, a5, a6, a7, a8, a9, a10, a11, a12, a13, maxI_eq, Nat.zero_add, Nat.add_zero, Nat.mul_one, Option.isNone_some, Option.isNone_none, b9.cell], ?_⟩
 refine Ro.Words_ok h9d.tr (by rw [eT9]; omega) fun p10 n10 c10 F10 v10 hw10 u12 s12 => ?_
 have h10 := h9d.keep u12
 have b10 := (b9.upd ud9 (by simp)).upd u12 (by simp)
 rw [eT9] at hw10
 refine ⟨by simp only [NN_some, addN, drw_cell, drw_heap, exS, exI, exB, exP, exM, exStr, exV, a0, a1, a2, a3, a4, a5, a6, a7, a8, a9, a10, a11, a12, a13, maxI_eq, Nat.zero_add, Nat.add_zero, Nat.mul_one, Option.isNone_some, Option.isNone_none, b10.cell], ?_⟩
 refine Ro.Same_ok hw10 ((hl9.upd ud9 (by intro k _ h; cases h)).upd u12 (by intro k _ h; cases h)) (by omega) fun v11 u13 => ifF rfl ?_
 have h11 := h10.keep u13
 have eml : d9.marks.length = d.marks.length := by rw [emk9, List.length_map]
 refine Marks_ok h11 (by omega) (by omega) fun np nn nc GN v12 h12 hn12 sn u14 => ?_
 have hm9 : SlAt v9 1 mp mn mc ((d.marks.drop 1).map (.int .i64)) GM := by
  obtain ⟨X, u, dd⟩ := f9
  exact hm8.upd u fun x hx => dd x (by simp [hx])
 have U12 := ((ud9.after u12).after u13).after u14
 have hm12 := hm9.upd U12 (by intro k _ h; cases h)
 rw [emk9, ← List.map_drop] at hn12
 obtain ⟨M, hM⟩ : ∃ M, M = d.marks.drop 1 := ⟨_, rfl⟩
 rw [← hM] at hm12 hn12
 have Ml : M.length = d.marks.length - 1 := by rw [hM, List.length_drop]
 have emn : mn = M.length := by have := hm12.1; rw [List.length_map] at this; omega
 have enn : nn = M.length := by have := hn12.1; rw [List.length_map, List.length_map] at this; omega
 have Mb : ∀ m ∈ M, 0 ≤ m ∧ m ≤ d.TL.length := fun m hm => mbd m (by rw [hM] at hm; exact List.mem_of_mem_drop hm)
 refine ⟨fun s z' => ∃ i : Nat, s.i_1 = i ∧ i ≤ M.length ∧ Upd [] v12 z', fun s _ => (M.length - s.i_1).toNat, ⟨0, rfl, by omega, Upd.refl _ _⟩, ?_⟩
 rintro ⟨sj⟩ z' ⟨j, rfl, hj, uz⟩
 unfold B_law20_HeapForgets_L2
 refine ifC (fun g2 => ?_) (fun g2 => ?_)
 ·simp only [decide_eq_true_eq] at g2
  have gj : j < M.length := by omega
  obtain ⟨m, em⟩ : ∃ m : Nat, M[j] = m := ⟨M[j].toNat, by have := Mb _ (List.getElem_mem gj); omega⟩
  have hmb := Mb _ (List.getElem_mem gj)
  have hmz := hm12.upd uz (by intro k _ h; cases h)
  have hnz := hn12.upd uz (by intro k _ h; cases h)
  have hgl := gone_len n m
  refine less_ok n1 n20 hmz gj em (by omega) ?_
  obtain ⟨b, off, e1, e2⟩ := int_cell hnz (i := j) (by rw [List.length_map]; exact gj)
  obtain ⟨b', off', e3, e4⟩ := int_cell hmz gj
  rw [List.getElem_map, em] at e2
  rw [em] at e4
  refine ⟨by show (0 : Int) ≤ (j : Int); omega, by show (j : Int) < _; omega, ?_⟩
  rw [e1]
  simp only [NN_some, addN, drw_cell, drw_heap, exS, exI, exB, exP, exM, exStr, exV, a0, a1, a2, a3, a4, a5, a6, a7, a8, a9, a10, a11, a12, a13, maxI_eq, Nat.zero_add, Nat.add_zero, Nat.mul_one, Option.isNone_some, Option.isNone_none, Int.toNat_natCast, Nat.mul_one, e2]
  refine ⟨by omega, by omega, ?_⟩
  rw [e3]
  simp only [NN_some, addN, drw_cell, drw_heap, exS, exI, exB, exP, exM, exStr, exV, a0, a1, a2, a3, a4, a5, a6, a7, a8, a9, a10, a11, a12, a13, maxI_eq, Nat.zero_add, Nat.add_zero, Nat.mul_one, Option.isNone_some, Option.isNone_none, Int.toNat_natCast, Nat.mul_one, e4]
  rw [i64id (x := (m : Int) - ((gone n m).length : Int)) (by omega) (by omega), i64id (x := (j : Int) + 1) (by omega) (by omega)]
  have el : lessM n (m : Int) = (m : Int) - ((gone n m).length : Int) := by unfold lessM; rw [Int.toNat_natCast]
  refine ifF (by rw [el]; simp) ⟨⟨j + 1, by simp, by omega, uz.after (drw_upd z')⟩, by omega⟩
 simp only [decide_eq_false_iff_not] at g2
 have h13 := h12.keep uz
 have enm : ((nn : Int) == (mn : Int)) = true := by rw [enn, emn]; simp
 refine Loose_ok h13 hi9 (fun hno v14 h14 f14 => ?_) fun h0 hlt v14 d14 h14 ea ok14 epd f14 => ?_
 ·have res : (((1 : Int) == 1) = true ∧ Upd [] w v14) := ⟨rfl, U4.after h14.U⟩
  refine ifC (fun _ => ifT enm res) (fun g3 => ?_)
  have g3 := of_decide_eq_false g3
  refine (getters h14).1 (topO_ok h14 hi9.ok (ifT (by simp; omega) (ifT enm res)))
 ·obtain ⟨j, rfl⟩ : ∃ j : Nat, t = j := ⟨t.toNat, by omega⟩
  have ee : orI .u64 (shlI .u64 (IntKind.u64.wrap (j : Int)) 3) 1 = (Wd.ref j).enc := mkW_or (tag := 1) (n := (j : Int)) (by omega) (by omega)
  rw [ee]
  refine ifF (by simp) ?_
  rw [← ea]
  refine (getters h14).1 (topO_ok h14 ok14 (ifF (by rw [List.length_set]; simp; omega) (ifT enm (ifT rfl ?_))))
  have jl : j < C.length := by omega
  exact CellO_ok (x := .ref j) h14 ok14 (by omega) (by rw [Int.toNat_natCast, List.getElem?_set_self jl]) fun v15 h15 u15 => ⟨by omega, by simp, U4.after h15.U⟩
end
end Go.Proofs.YtdaenijbokialaaGreat
