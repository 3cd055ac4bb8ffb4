/- Every call of a pool, in every order: the law. -/
import Derived.Test.YtcgnligpjfhjlaaDoes
namespace Go.Proofs.Ytcgnligpjfhjlaa
open Go Go.D Go.Proofs
set_option linter.unusedSimpArgs false
set_option linter.unusedVariables false
set_option maxRecDepth 8000

section
variable {w v v' : World} {p xa : Option Addr} {d d' : PlD} {x x' : RxD}

theorem Runs_no {s : Int} {K : Option Addr → Nat → Nat → World → Prop} (h : Pl w d) (h0 : 0 < d.L.length) (hs : s < 0 ∨ (d.L.length : Int) ≤ s) (hK : K none 0 0 w) : C_pool_Pool_Runs d.a s w K := by
  apply C_pool_Pool_Runs.of
  unfold F_pool_Pool_Runs F_pool_Pool_Runs_k1
  have hn := h.len
  refine made_ok h h0 (ifF rfl (ifC (fun _ => hK) fun hc => ?_))
  simp at hc
  have hL : w.cell? ⟨d.b, 0, none⟩ = some (.slice d.p d.n d.c) := by rw [h.blk.cell]; rfl
  simp only [PlD.a, NN_some, addN, Nat.zero_add, Nat.add_zero, hL, exS]
  exact ifT (by simp; omega) hK

theorem do_ok {o : OpV} {K : Bool → World → Prop} (b : Bo w v p xa d x) (sim : Sim d x) (hk : small o.n) (hK : ∀ v' d' x', Bo w v' p xa d' x' → Sim d' x' → K true v') : C_law03_do p xa o.kind o.pos o.n v K := by
  apply C_law03_do.of
  unfold F_law03_do
  refine New_rule fun r w1 hr u1 hb1 => ?_
  have b1 := b.keep u1
  have hrd : r ∉ d.FT := fun hx => by have := b.pl.inn r hx; omega
  have hpa := b.pa
  have hxa := b.xa
  have hq0 : ∀ {w'}, Blk w' r #[.int .i64 o.kind, .int .i64 o.pos, .int .i64 o.n] → w'.cell? ⟨r, 0, none⟩ = some (.int .i64 o.kind) := fun h => by rw [h.cell]; rfl
  have hq1 : ∀ {w'}, Blk w' r #[.int .i64 o.kind, .int .i64 o.pos, .int .i64 o.n] → w'.cell? ⟨r, 1, none⟩ = some (.int .i64 o.pos) := fun h => by rw [h.cell]; rfl
  have hq2 : ∀ {w'}, Blk w' r #[.int .i64 o.kind, .int .i64 o.pos, .int .i64 o.n] → w'.cell? ⟨r, 2, none⟩ = some (.int .i64 o.n) := fun h => by rw [h.cell]; rfl
  simp only [addN, Nat.zero_add, hq0 hb1, exI]
  have ok := b.ok
  have hne := ok.ne
  have htop := sim.top
  have hsl := sim.sl
  have h3 := ok.top
  have h4 := ok.lim
  have hlen := ok.len
  obtain ⟨s, hse⟩ : ∃ s, s + 1 = d.L.length := ⟨d.L.length - 1, by omega⟩
  have hs : s < d.L.length := by omega
  refine ifC (fun _ => ?_) (fun _ => ifC (fun _ => ?_) (fun _ => ifC (fun _ => ?_) (fun _ => ifC (fun _ => ?_) (fun _ => ifC (fun _ => ?_) (fun _ => ifC (fun _ => ?_) (fun _ => hK _ _ _ b1 sim))))))
  · -- Take
    have tk : ∀ n : Int, small n → F_law03_do_k1 p xa K n w1 := fun n hn => by
      unfold F_law03_do_k1
      subst hpa hxa
      have bad : ∀ {a : Int} {e : Int} {w2 : World}, (If (a == a) (K (e == e) w2) (K false w2)) = (If (a == a) (K (e == e) w2) (K false w2)) := fun {_ _ _} => rfl
      refine Take6 b1.pl ok hn hs hse (fun hlt w2 q2 u2 => ?_) (fun i hi hil w2 d2 q2 t2 et u2 s2 => ?_) (fun hn1 hf hfl w2 q2 u2 => ?_) (fun hf w2 d2 q2 t2 et u2 s2 => ?_)
      · have b2 := b1.keep u2
        refine RTake_ok b2.rx sim ok hn hs hse (fun _ => ifT rfl (hK _ _ _ b2 sim)) (fun hh => by omega) (fun hh => by omega) (fun hh => by omega)
      · have b2 := b1.pool q2 t2.ok t2.a u2 s2
        have hn1 := t2.one
        refine RTake_ok b2.rx sim ok hn hs hse (fun hh => by omega) (fun _ j hj hjl w3 x3 u3 => ?_) (fun _ hh => by rw [hi] at hh; cases hh) (fun _ hh => by rw [hi] at hh; cases hh)
        rw [hi] at hj
        obtain rfl := Option.some.inj hj
        refine ifT (by simp) ?_
        exact hK _ _ _ (b2.ref x3 rfl u3 (Sub.refl _ _)) (sim.tk_hit t2 et)
      · have b2 := b1.keep u2
        refine RTake_ok b2.rx sim ok hn hs hse (fun hh => by omega) (fun _ i hi => by rw [hf] at hi; cases hi) (fun _ _ _ w3 x3 u3 => ifT rfl (hK _ _ _ (b2.keep u3) sim)) (fun _ _ hh => by omega)
      · have b2 := b1.pool q2 t2.ok t2.a u2 s2
        have hn1 := t2.one
        have e1 := t2.ok.top
        have e2 := t2.limit
        refine RTake_ok b2.rx sim ok hn hs hse (fun hh => by omega) (fun _ i hi => by rw [hf] at hi; cases hi) (fun _ _ hh => by omega) (fun _ _ _ w3 x3 q3 to3 u3 s3 => ifT (by simp) ?_)
        exact hK _ _ _ (b2.ref q3 to3.a u3 s3) (sim.tk_top t2 et ok to3)
    simp only [hq2 hb1, exI]
    refine ifC (fun _ => ifC (fun _ => tk 1000 ⟨by omega, by omega⟩) (fun _ => tk _ hk)) (fun _ => tk _ hk)
  · -- Give
    have hbd := hb1.drw
    have bd := b1.keep (drw_upd w1)
    simp only [hq1 hbd, hq2 hbd, exI]
    subst hpa hxa
    refine Give6 bd.pl ok hk (fun hno w2 q2 u2 => ?_) (fun a ha w2 d2 q2 g2 u2 s2 => ?_)
    · have b2 := bd.keep u2
      have hb2 := hbd.upd u2 (by simp)
      refine ⟨hq2 hb2, hq1 hb2, RGive_ok b2.rx sim ok hk (fun _ w3 x3 u3 => ?_) (fun a ha => absurd ha (hno a))⟩
      exact hK _ _ _ (b2.keep u3) sim
    · have b2 := bd.pool q2 g2.ok g2.a u2 s2
      have hb2 := hbd.upd u2 hrd
      refine ⟨hq2 hb2, hq1 hb2, RGive_ok b2.rx sim ok hk (fun hno => absurd ha (hno a)) (fun a' ha' w3 x3 u3 => ?_)⟩
      exact hK _ _ _ (b2.ref x3 rfl (u3.mono fun k hk => .inl (by simp [RxD.FT, hk])) (Sub.refl _ _)) (sim.gv g2)
  · -- Open
    subst hpa hxa
    refine Open6 b1.pl ok (fun hf w2 q2 u2 => ?_) (fun hf w2 d2 q2 g2 e2 u2 s2 => ?_)
    · have b2 := b1.keep u2
      exact ROpen_ok b2.rx (by omega) (fun _ => hK _ _ _ b2 sim) (fun hh => by omega)
    · have b2 := b1.pool q2 g2.ok g2.a u2 s2
      refine ROpen_ok b2.rx (by omega) (fun hh => by omega) (fun _ w3 x3 q3 to3 u3 s3 => hK _ _ _ (b2.ref q3 to3.a u3 s3) (sim.sg g2 ⟨to3.a, to3.Fl, ?_, to3.lim⟩))
      rw [to3.Ss, e2, List.map_append, sim.Ss, htop]; rfl
  · -- Close
    subst hpa hxa
    refine Close6 b1.pl ok (fun hf w2 q2 u2 => ?_) (fun q hq hq2 w2 d2 q2 g2 e2 u2 s2 => ?_)
    · have b2 := b1.keep u2
      exact RClose_ok b2.rx (by omega) (by omega) (fun _ => hK _ _ _ b2 sim) (fun hh => by omega)
    · have b2 := b1.pool q2 g2.ok g2.a u2 s2
      refine RClose_ok b2.rx (by omega) (by omega) (fun hh => by omega) (fun _ w3 q3 u3 => hK _ _ _ (b2.ref q3 rfl u3 (Sub.refl _ _)) (sim.sg g2 ⟨rfl, rfl, ?_, rfl⟩))
      obtain ⟨sl, e2⟩ := e2
      show x.Ss.take (x.Ss.length - 1) = _
      rw [e2, List.map_set, sim.Ss, show (d.L.map (·.start)).length - 1 = q + 1 by rw [List.length_map]; omega, ← List.map_take]
      apply List.ext_getElem?
      intro j
      by_cases hj : q = j
      · subst hj
        rw [List.getElem?_set_self (by rw [List.length_map, List.length_take]; omega), List.getElem?_map, List.getElem?_take_of_lt (by omega), List.getElem?_eq_getElem (by omega)]; rfl
      · rw [List.getElem?_set_ne hj]
  · -- Back
    subst hpa hxa
    have hsx : s < x.Ss.length := by omega
    have eg : x.Ss[s] = d.L[s].start := sim.get hs
    have h0 := ok.start0 hs
    have h1 := ok.le _ (List.getElem_mem hs)
    refine RBack_ok b1.rx hsx (by omega) (by omega) (by omega) (by omega) fun w2 q2 u2 => ?_
    have b2 := b1.ref q2 rfl u2 (Sub.refl _ _)
    refine Back6 b2.pl ok hs hse fun w3 d3 q3 ok3 a3' t3' l3' e3' f3' u3 s3 => ?_
    have b3 := b2.pool q3 ok3 a3' u3 s3
    refine hK _ _ _ b3 ⟨sim.Ss.trans e3'.symm, ?_, sim.lim.trans l3'.symm, fun k hk => ?_⟩
    · show ((x.Fl.take x.Ss[s].toNat).length : Int) = _
      rw [List.length_take, t3']; omega
    · have hk : k < (x.Fl.take x.Ss[s].toNat).length := hk
      rw [List.length_take] at hk
      show at? (x.Fl.take x.Ss[s].toNat) k = true ↔ _
      rw [at_iff, List.getElem?_take_of_lt (by omega), ← at_iff, sim.free k (by omega), f3']
      constructor
      · exact fun e => ⟨e, by omega⟩
      · exact fun e => e.1
  · -- Sweep
    simp only [hq2 hb1, exI]
    apply C_law03_sweep.of
    unfold F_law03_sweep
    refine ifC (fun _ => sweepB_ok b1 sim (by omega) hK) (fun hc => ifC (fun _ => sweepB_ok b1 sim (by omega) hK) (fun _ => sweepB_ok b1 sim (by simp at hc; omega) hK))

theorem alike_ok {t : Int} {K : Bool → World → Prop} (b : Bo w v p xa d x) (sim : Sim d x) (hK : ∀ v', Upd [] v v' → K true v') : C_law03_alike p xa t v K := by
  apply C_law03_alike.of
  unfold F_law03_alike F_law03_alike_k1
  have hpa := b.pa
  have hxa := b.xa
  subst hpa hxa
  have ok := b.ok
  have hne := ok.ne
  have htop := sim.top
  have hlm := sim.lim
  have hsl := sim.sl
  have h3 := ok.top
  have h4 := ok.lim
  have hlen := ok.len
  have hfn := b.rx.fl
  have hsn := b.rx.sl
  have hff : ∀ {z}, Rx z x → z.cell? ⟨x.b, 0, none⟩ = some (.slice x.fp x.fn x.fc) := fun h => by rw [h.blk.cell]; rfl
  have hss : ∀ {z}, Rx z x → z.cell? ⟨x.b, 1, none⟩ = some (.slice x.sp x.sn x.sc) := fun h => by rw [h.blk.cell]; rfl
  have hll : ∀ {z}, Rx z x → z.cell? ⟨x.b, 2, none⟩ = some (.int .i64 x.lim) := fun h => by rw [h.blk.cell]; rfl
  have b1 := b.keep (drw_upd v)
  have eN : NN x.a = NN (some ⟨x.b, 0, none⟩) := rfl
  rw [eN]
  simp only [NN_some, addN, Nat.zero_add, Nat.add_zero, hff b1.rx, hll b1.rx, exS, exI]
  refine Top_ok b1.pl hne ⟨hff b1.rx, ifF (by simp; omega) ?_⟩
  simp only [hll b1.rx, exI]
  refine Limit_ok b1.pl hne ⟨hll b1.rx, ifF (by simp; omega) (Left_ok b1.pl ok fun v2 u2 => ?_)⟩
  have b2 := b1.keep u2
  refine RLeft_ok b2.rx sim ok fun v3 u3 => ifF (by simp) ?_
  have b3 := b2.keep u3
  simp only [hss b3.rx, exS]
  refine Starts_ok b3.pl ok fun p4 n4 c4 F4 v4 hs4 u4 f4 => ?_
  have b4 := b3.keep u4
  refine ⟨hss b4.rx, ?_⟩
  rw [← sim.Ss] at hs4
  refine SameInts_ok hs4.rd b4.rx.s.rd (by omega) fun v5 u5 => ifF rfl ?_
  have b5 := b4.keep u5
  have U5 : Upd [] v v5 := ((((drw_upd v).after u2).after u3).after u4).after u5
  -- where it is
  have seg : ∀ (Q : World → Prop), (∀ z, Upd [] v5 z → Q z) → C_pool_Pool_Segment d.a t v5 fun t45 w1_6 => C_ref03_Pool_Segment x.a t w1_6 fun t48 w1_7 => If (t45 != t48) (K false w1_7) (Q w1_7) := fun Q hQ => by
    by_cases hin : 0 ≤ t ∧ t < d.top
    · refine Segment_ok b5.pl ok hin.1 hin.2 fun s6 v6 hs6 hs61 hs62 u6 => ?_
      refine RSegment_ok (b5.keep u6).rx sim ok hin.1 hin.2 fun s7 v7 hs7 hs71 hs72 u7 => ?_
      obtain rfl : s6 = s7 := seg_unique ok hs6 hs7 (hs61 hs6) hs62 (hs71 hs7) hs72
      exact ifF (by simp) (hQ _ (u6.after u7))
    · refine Segment_no b5.pl ok (by omega) (RSegment_no b5.rx (by omega) (ifF rfl (hQ _ (Upd.refl _ _))))
  refine seg _ fun v7 u7 => ?_
  have b7 := b5.keep u7
  -- all runs
  have fin : ∀ {z : World}, Upd [] v z → F_law03_alike_k2 d.a x.a K false z := by
    intro z uz
    unfold F_law03_alike_k2 F_law03_alike_L1
    refine ifF rfl ⟨fun s z' => -1 ≤ s.sx ∧ s.sx ≤ x.Ss.length + 1 ∧ Upd [] v z', fun s _ => (x.Ss.length + 1 - s.sx).toNat, ⟨by simp, by simp; omega, uz⟩, ?_⟩
    rintro ⟨i⟩ z' ⟨hi0, hi1, uz'⟩
    dsimp only at hi0 hi1
    unfold B_law03_alike_L1
    dsimp only
    have bz := b.keep uz'
    rw [eN]
    simp only [NN_some, addN, Nat.zero_add, Nat.add_zero, hss bz.rx, exS]
    refine ifC (fun hc => ?_) (fun _ => hK z' uz')
    simp at hc
    have go : ∀ {z2 : World}, Upd [] v z2 → (-1 ≤ IntKind.i64.wrap (i + 1) ∧ IntKind.i64.wrap (i + 1) ≤ x.Ss.length + 1 ∧ Upd [] v z2) ∧ (x.Ss.length + 1 - IntKind.i64.wrap (i + 1)).toNat < (x.Ss.length + 1 - i).toNat := by
      intro z2 uz2
      rw [i64id (by omega) (by omega)]
      exact ⟨⟨by omega, by omega, uz2⟩, by omega⟩
    by_cases hin : 0 ≤ i ∧ i < x.Ss.length
    · refine Runs_ok bz.pl ok hin.1 (by omega) fun p8 n8 c8 F8 z8 hs8 u8 f8 => ?_
      have bz8 := bz.keep u8
      obtain ⟨s, rfl⟩ : ∃ s : Nat, i = s := ⟨i.toNat, by omega⟩
      refine RRuns_ok bz8.rx sim ok (by omega) fun p9 n9 c9 F9 z9 hs9 u9 f9 => ?_
      have hrl := ok.rlen (i := s) (by omega)
      refine SameRuns_ok (L := (d.L[s]'(by omega)).runs) (SlAt.upd hs8 u9 (by intro k _ h; cases h)) hs9 (by omega) fun z10 u10 => ifF rfl (go (((uz'.after u8).after u9).after u10))
    · refine Runs_no bz.pl hne (by omega) (RRuns_no bz.rx (by omega) (SameRuns_ok (L := []) (F := []) (G := []) (SlAt.nil _ _) (SlAt.nil _ _) (by simp) fun z10 u10 => ifF rfl (go (uz'.after u10))))
  refine Free_ok b7.pl ok fun fb v8 hfb u8 => ?_
  have b8 := b7.keep u8
  have U8 := (U5.after u7).after u8
  simp only [hff b8.rx, exS]
  have no : ¬ (0 ≤ t ∧ t < d.top) → fb = false := fun h => by
    cases fb with
    | false => rfl
    | true => have := hfb.1 rfl; exact absurd ⟨this.1, this.2.1⟩ h
  refine ifC (fun hc => ifC (fun hc2 => ?_) (fun hc2 => ?_)) (fun hc => ?_)
  · simp at hc hc2
    have hin : t.toNat < x.Fl.length := by omega
    obtain ⟨bf, offf, hpf, hcf⟩ := b8.rx.cellF hin
    have epf : ∀ Q, NN x.fp Q = NN (some ⟨bf, offf, none⟩) Q := fun Q => by rw [hpf]
    simp only [epf, NN_some, addN, Nat.mul_one, hcf, exB]
    refine ⟨hc, hc2, ?_⟩
    have e : fb = at? x.Fl t.toNat := by
      rw [Bool.eq_iff_iff, hfb, sim.free _ hin, show ((t.toNat : Nat) : Int) = t by omega]
      constructor
      · exact fun h => h.2.2
      · exact fun h => ⟨hc, by omega, h⟩
    rw [e]
    simpa using fin U8
  · simp at hc hc2
    rw [no (by omega)]
    simpa using fin U8
  · simp at hc
    rw [no (by omega)]
    simpa using fin U8

end

theorem PoolDoes_law {w : World} {limit : Int} {p : Option Addr} {n c : Nat} {ls : List Value} (hl : Rd w 3 p n ls) (ho : Ops ls n) : C_law03_PoolDoes limit p n c w fun r w' => r = true ∧ Upd [] w w' := by
  apply C_law03_PoolDoes.of
  unfold F_law03_PoolDoes
  have main : ∀ lim : Int, F_law03_PoolDoes_k4 p n c (fun r w' => r = true ∧ Upd [] w w') lim w := fun lim => by
    unfold F_law03_PoolDoes_k4 F_law03_PoolDoes_k1 F_law03_PoolDoes_k3 F_law03_PoolDoes_L1
    by_cases hb : lim < 0 ∨ 1048576 < lim
    · refine New_bad hb (RNew_bad hb (lives_ok fun w1 u1 => ifF rfl (ifF rfl (ifF rfl (ifT rfl (ifF rfl ?_))))))
      refine ⟨fun s v => s.i = 0 ∧ Upd [] w v, fun _ _ => 0, ⟨rfl, u1⟩, ?_⟩
      rintro ⟨i⟩ v ⟨rfl, u⟩
      unfold B_law03_PoolDoes_L1 F_law03_PoolDoes_k2
      exact ifC (fun _ => ifC (fun _ => ifF rfl ⟨rfl, u⟩) (fun _ => ⟨rfl, u⟩)) (fun _ => ⟨rfl, u⟩)
    · refine New_ok (by omega) (by omega) fun w1 d h1 ok1 et1 el1 hL1 u1 n1 => RNew_ok (by omega) (by omega) fun w2 x h2 xl2 xf2 xs2 u2 n2 => lives_ok fun w3 u3 => ifF rfl (ifF rfl (ifF rfl (ifF rfl ?_)))
      have hsim : Sim d x := by
        obtain ⟨sl, hL⟩ := hL1
        refine ⟨by rw [xs2, hL]; rfl, by rw [xf2, et1]; rfl, by rw [xl2, el1], fun k hk => ?_⟩
        rw [xf2] at hk
        exact absurd hk (Nat.not_lt_zero k)
      have hbo : Bo w w3 d.a x.a d x := ⟨rfl, rfl, (h1.keep u2).keep u3, ok1, h2.keep u3, fun k hk hx => by have := n2 k hx; have := h1.inn k hk; omega, (u1.after u2).after u3, fun k hk => by
        rcases List.mem_append.1 hk with hk | hk
        · exact n1 k hk
        · have := n2 k hk; have := u1.size; omega⟩
      obtain ⟨pa, hpa⟩ : ∃ pa, pa = d.a := ⟨_, rfl⟩
      obtain ⟨xa, hxa⟩ : ∃ xa, xa = x.a := ⟨_, rfl⟩
      have hxs : xa.isNone = false := by rw [hxa]; rfl
      rw [← hpa, ← hxa] at hbo ⊢
      refine ⟨fun s v => 0 ≤ s.i ∧ s.i ≤ 50 ∧ ∃ d x, Bo w v pa xa d x ∧ Sim d x, fun s _ => (50 - s.i).toNat, ⟨by simp, by simp, d, x, hbo, hsim⟩, ?_⟩
      clear hbo hsim hpa hxa
      rintro ⟨i⟩ v ⟨hi0, hi1, d', x', b, sim⟩
      dsimp only at hi0 hi1
      unfold B_law03_PoolDoes_L1 F_law03_PoolDoes_k2
      dsimp only
      refine ifC (fun hc => ifC (fun hc2 => ifT (by rw [hxs]; rfl) ?_) (fun _ => ⟨rfl, b.U⟩)) (fun _ => ⟨rfl, b.U⟩)
      simp at hc hc2
      obtain ⟨y, o, hx, k1, k2, k3, hcell⟩ := Ops.get hl ho (i := i.toNat) (by omega)
      subst hx
      obtain ⟨c0, c1, c2⟩ := hcell v (hl.keep b.U)
      simp only [NN_some, addA, Nat.add_zero, c0, c1, c2, exI]
      refine ⟨hi0, hc, do_ok (o := o) b sim k3 fun v4 d4 x4 b4 sim4 => ifF rfl ?_⟩
      obtain ⟨c0, c1, c2⟩ := hcell v4 (hl.keep b4.U)
      simp only [NN_some, addA, c1, exI]
      refine ⟨hi0, hc, alike_ok b4 sim4 fun v5 u5 => ifF rfl ?_⟩
      rw [i64id (by omega) (by omega)]
      exact ⟨⟨by omega, by omega, d4, x4, b4.keep u5, sim4⟩, by omega⟩
  exact ifC (fun _ => ifC (fun _ => main _) (fun _ => main _)) (fun _ => main _)

end Go.Proofs.Ytcgnligpjfhjlaa
