/- A pool and the document's, side by side: each call. -/
import Derived.Test.YtcgnligpjfhjlaaSweep3
namespace Go.Proofs.Ytcgnligpjfhjlaa
open Go Go.D Go.Proofs
set_option linter.unusedSimpArgs false
set_option linter.unusedVariables false
set_option maxRecDepth 8000

/-- Both. -/
structure Bo (w v : World) (p xa : Option Addr) (d : PlD) (x : RxD) : Prop where
  pa : d.a = p
  xa : x.a = xa
  pl : Pl v d
  ok : PlOk d
  rx : Rx v x
  dis : Dis d.FT x.FT
  U : Upd [] w v
  N : Since (d.FT ++ x.FT) w

section
variable {w v v' : World} {p xa : Option Addr} {d d' : PlD} {x x' : RxD}

theorem Bo.keep (b : Bo w v p xa d x) (u : Upd [] v v') : Bo w v' p xa d x := ⟨b.pa, b.xa, b.pl.keep u, b.ok, b.rx.keep u, b.dis, b.U.after u, b.N⟩

theorem Bo.pool (b : Bo w v p xa d x) (h' : Pl v' d') (ok' : PlOk d') (ha : d'.a = d.a) (u : Upd d.FT v v') (s : Sub d'.FT d.FT v) : Bo w v' p xa d' x := by
  refine ⟨ha.trans b.pa, b.xa, h', ok', b.rx.upd u b.dis.symm, fun k hk hx => ?_, b.U.fresh u fun k hk => b.N k (List.mem_append.2 (.inl hk)), fun k hk => ?_⟩
  · rcases s k hk with e | e
    · exact b.dis k e hx
    · have := b.rx.inn k hx; omega
  · rcases List.mem_append.1 hk with hk | hk
    · rcases s k hk with e | e
      · exact b.N k (List.mem_append.2 (.inl e))
      · have := b.U.size; omega
    · exact b.N k (List.mem_append.2 (.inr hk))

theorem Bo.ref (b : Bo w v p xa d x) (h' : Rx v' x') (ha : x'.a = x.a) (u : Upd x.FT v v') (s : Sub x'.FT x.FT v) : Bo w v' p xa d x' := by
  refine ⟨b.pa, ha.trans b.xa, b.pl.upd u b.dis, b.ok, h', fun k hk hx => ?_, b.U.fresh u fun k hk => b.N k (List.mem_append.2 (.inr hk)), fun k hk => ?_⟩
  · rcases s k hx with e | e
    · exact b.dis k hk e
    · have := b.pl.inn k hk; omega
  · rcases List.mem_append.1 hk with hk | hk
    · exact b.N k (List.mem_append.2 (.inl hk))
    · rcases s k hk with e | e
      · exact b.N k (List.mem_append.2 (.inr e))
      · have := b.U.size; omega

theorem Sim.sg (sim : Sim d x) (g : Sg6 d d') (to : To x x' x.Fl (d'.L.map (·.start))) : Sim d' x' :=
  ⟨to.Ss, by rw [to.Fl, g.top]; exact sim.top, to.lim.trans (sim.lim.trans g.limit.symm), fun k hk => by rw [to.Fl] at hk ⊢; rw [sim.free k hk, g.free]⟩

/-- The sweep of both. -/
theorem sweepB_ok {n : Int} {K : Bool → World → Prop} (b : Bo w v p xa d x) (sim : Sim d x) (hn : 1 ≤ n)
    (hK : ∀ v' d' x', Bo w v' p xa d' x' → Sim d' x' → K true v') : F_law03_sweep_k2 p xa K n v := by
  have hpa := b.pa
  have hxa := b.xa
  subst hpa hxa
  unfold F_law03_sweep_k2 F_law03_sweep_L1
  refine New_rule fun r w1 hr u1 hb1 => ?_
  have b1 := b.keep u1
  have hsw1 : Sw w1 r n [] [] := ⟨⟨none, 0, 0, hb1, SlAt.nil _ _⟩, by simp⟩
  have hrd : r ∉ d.FT := fun hx => by have := b.pl.inn r hx; omega
  have hrx : r ∉ x.FT := fun hx => by have := b.rx.inn r hx; omega
  have htop := sim.top
  have ht1 := b.ok.top
  have ht2 := b.ok.lim
  refine Sweep_ok (Fl := x.Fl) b1.pl b1.ok hn hsw1 (by intro k hk hx; simp at hk; subst hk; exact hrd hx) (fun k hk => sim.free k (by omega)) fun w2 d2 G q2 ok2 a2' t2' l2' es2 ef2 hw2 u2 s2 g2 dg2 => ?_
  have hG : ∀ k ∈ r :: G, k = r ∨ w1.heap.size ≤ k := fun k hk => by
    rcases g2 k hk with e | e
    · simp at e; exact .inl e
    · exact .inr e
  have hx2 : Rx w2 x := b1.rx.upd u2 fun k hk hx => by
    rcases List.mem_append.1 hx with hx | hx
    · exact b.dis k hx hk
    · simp at hx; subst hx; exact hrx hk
  have hGx : Dis (r :: G) x.FT := fun k hk hx => by
    rcases hG k hk with e | e
    · subst e; exact hrx hx
    · have := b1.rx.inn k hx; omega
  rw [show d.top.toNat = x.Fl.length by omega] at hw2 ⊢
  refine ⟨fun t z => 0 ≤ t.i ∧ t.i ≤ x.Fl.length ∧ ∃ Fl' F2, Rx z { x with Fl := Fl' } ∧ Fl'.length = x.Fl.length ∧ (∀ k, k < x.Fl.length → at? Fl' k = (at? x.Fl k || (decide ((k : Int) < t.i) && decide ((k : Int).tmod n = 0)))) ∧ SlAt z 1 t.askedP t.askedN t.askedC ((askI x.Fl 0 t.i.toNat).map (.int .i64)) F2 ∧
      t.count = cnt (goes x.Fl n) 0 t.i.toNat ∧ Upd x.FT w2 z ∧ Since F2 w2, fun t _ => (x.Fl.length - t.i).toNat, ⟨by simp, by simp, x.Fl, [], hx2, rfl, fun k hk => ?_, SlAt.nil _ _, rfl, Upd.refl _ _, by intro k hk; cases hk⟩, ?_⟩
  · have : ¬ ((k : Int) < 0) := by omega
    simp [this]
  rintro ⟨ap, an, ac, c, i⟩ z ⟨hi0, hi1, Fl', F2, hz, hfl, hat, hs, hcn, uz, f2⟩
  dsimp only at hi0 hi1 hat hs hcn
  unfold B_law03_sweep_L1 F_law03_sweep_k1
  dsimp only
  have hfn := hz.fl
  have hfn : x.fn = x.Fl.length := by rw [← hfl]; exact hfn
  have hff : ∀ z' Fl'', Rx z' { x with Fl := Fl'' } → z'.cell? ⟨x.b, 0, none⟩ = some (.slice x.fp x.fn x.fc) := fun z' Fl'' h => by rw [h.blk.cell]; rfl
  have eN : NN x.a = NN (some ⟨x.b, 0, none⟩) := rfl
  rw [eN]
  simp only [NN_some, addN, Nat.add_zero, hff _ _ hz, exS]
  refine ifC (fun hc => ?_) (fun hc => ?_)
  · simp at hc
    have hin : i.toNat < x.Fl.length := by omega
    obtain ⟨bf, offf, hpf, hcf⟩ := hz.cellF (k := i.toNat) (by show i.toNat < Fl'.length; omega)
    have hpf : x.fp = some ⟨bf, offf, none⟩ := hpf
    have hcf : z.cell? ⟨bf, offf + i.toNat, none⟩ = some (.bool (at? Fl' i.toNat)) := hcf
    have epf : ∀ Q, NN x.fp Q = NN (some ⟨bf, offf, none⟩) Q := fun Q => by rw [hpf]
    have e1 : at? Fl' i.toNat = at? x.Fl i.toNat := by
      rw [hat _ hin]
      have : ¬ (((i.toNat : Nat) : Int) < i) := by omega
      rw [decide_eq_false this]; simp
    rw [e1] at hcf
    simp only [epf, NN_some, addN, Nat.mul_one, hcf, exB]
    have eA : askI x.Fl 0 (i + 1).toNat = askI x.Fl 0 i.toNat ++ if at? x.Fl i.toNat then [] else [i] := by
      rw [show (i + 1).toNat = i.toNat + 1 by omega]
      simp only [askI, Nat.zero_add]
      rw [show ((i.toNat : Nat) : Int) = i by omega]
    have eC' : cnt (goes x.Fl n) 0 (i + 1).toNat = c + if goes x.Fl n i.toNat then 1 else 0 := by
      rw [show (i + 1).toNat = i.toNat + 1 by omega, hcn]
      simp only [cnt, Nat.zero_add]
    have egoes : goes x.Fl n i.toNat = (!at? x.Fl i.toNat && decide (i.tmod n = 0)) := by
      unfold goes
      rw [show ((i.toNat : Nat) : Int) = i by omega]
    have hcb := cnt_le (goes x.Fl n) 0 i.toNat
    have hal := askI_len x.Fl 0 i.toNat
    have hnl : an = (askI x.Fl 0 i.toNat).length := by have := hs.1; simp at this; exact this.symm
    rw [i64id (x := i + 1) (by omega) (by omega)]
    -- who does not change
    have same : ∀ {Fl'' : List Bool}, (∀ k, k < x.Fl.length → k ≠ i.toNat → at? Fl'' k = at? Fl' k) → at? Fl'' i.toNat = (at? x.Fl i.toNat || decide (i.tmod n = 0)) → ∀ k, k < x.Fl.length → at? Fl'' k = (at? x.Fl k || (decide ((k : Int) < i + 1) && decide ((k : Int).tmod n = 0))) := by
      intro Fl'' h1 h2 k hk
      by_cases hki : k = i.toNat
      · subst hki
        have : ((i.toNat : Nat) : Int) < i + 1 := by omega
        rw [h2, decide_eq_true this, show ((i.toNat : Nat) : Int) = i by omega]; simp
      · rw [h1 k hk hki, hat k hk]
        have : ((k : Int) < i + 1) ↔ ((k : Int) < i) := by omega
        simp only [this]
    refine ⟨hi0, by omega, ifC (fun hc2 => ?_) (fun hc2 => ?_)⟩
    · rw [hc2] at eA egoes
      simp only [if_true, List.append_nil, Bool.not_true, Bool.false_and] at eA egoes
      refine ⟨⟨by omega, by omega, Fl', F2, hz, hfl, same (fun _ _ _ => rfl) (by rw [e1, hc2]; rfl), by rw [eA]; exact hs, by rw [eC', egoes]; simp, uz, f2⟩, by omega⟩
    · have hc2 : at? x.Fl i.toNat = false := by simpa using hc2
      rw [hc2] at eA egoes
      simp only [Bool.false_eq_true, if_false, Bool.not_false, Bool.true_and] at eA egoes
      refine BSlL_rule eS_33 [.int .i64 i] (by rfl) (by simp [Value.cells]) (by rfl) (by omega) fun z1 hs1 uz1 => ?_
      refine App_rule (hE := eS_33) (hs.upd uz1 (by intro k _ h; cases h)) hs1 (by simp [Value.cells, Value.oneCell']) (by omega) fun p' c' F3 z2 hs2 uz2 s3 => ?_
      have D2 : Dis x.FT F2 := fun k hk hx => by have := f2 k hx; have := hx2.inn k hk; omega
      have hz2 := (hz.keep uz1).upd uz2 D2
      have hs3 : SlAt z2 1 p' (an + 1) c' ((askI x.Fl 0 (i + 1).toNat).map (.int .i64)) F3 := by
        rw [eA, List.map_append]
        simpa [Value.cells] using hs2
      have f3 : Since F3 w2 := f2.step s3 (Nat.le_trans uz.size uz1.size)
      have uz3 : Upd x.FT w2 z2 := uz.trans (uz1.after uz2) (fun k hk => .inl hk) (fun k hk => .inr (f2 k hk))
      refine ⟨by omega, ifC (fun hc3 => ?_) (fun hc3 => ?_)⟩
      · have hc3 : i.tmod n = 0 := by simpa using hc3
        simp only [hff _ _ hz2, exS, epf, NN_some, addN, Nat.mul_one, Nat.add_zero]
        refine ⟨hi0, by omega, hz2.setF hpf (by show i.toNat < Fl'.length; omega) fun z3 hz3 uz4 => ?_⟩
        have D3 : Dis F3 x.GF := fun k hk hx => by have := f3 k hk; have := hx2.inn k (by simp [RxD.FT, hx]); omega
        rw [i64id (by omega) (by omega)]
        refine ⟨⟨by omega, by omega, Fl'.set i.toNat true, F3, hz3, by simp [hfl], same (fun k hk hki => ?_) ?_, hs3.upd uz4 D3, by rw [eC', egoes, decide_eq_true hc3]; simp, uz3.both (uz4.mono fun k hk => .inl (by simp [RxD.FT]; exact .inr (.inl hk))), f3⟩, by omega⟩
        · unfold at?
          rw [List.getElem?_set_ne (by omega)]
        · unfold at?
          rw [List.getElem?_set_self (by omega), decide_eq_true hc3]; simp
      · have hc3 : ¬ i.tmod n = 0 := by simpa using hc3
        refine ⟨⟨by omega, by omega, Fl', F3, hz2, hfl, same (fun _ _ _ => rfl) (by rw [e1, hc2, decide_eq_false hc3]; rfl), hs3, by rw [eC', egoes, decide_eq_false hc3]; simp, uz3, f3⟩, by omega⟩
  · simp at hc
    have hi : i.toNat = x.Fl.length := by omega
    rw [hi] at hs hcn
    refine ifC (fun _ => ?_) (fun hc2 => absurd hcn.symm (by simpa using hc2))
    have hwz := hw2.upd uz hGx
    obtain ⟨sp, sm, sc, hbs, hss⟩ := hwz.ex
    have hb1' : z.cell? ⟨r, 1, none⟩ = some (.slice sp sm sc) := by rw [hbs.cell]; rfl
    simp only [addN, Nat.zero_add, hb1', exS]
    have hal := askI_len x.Fl 0 x.Fl.length
    refine SameInts_ok hss.rd hs.rd (by omega) fun z2 uz2 => hK z2 d2 { x with Fl := Fl' } ?_ ?_
    · have hd2 : Dis d2.FT x.FT := fun k hk hx => by
        rcases s2 k hk with e | e
        · exact b.dis k e hx
        · have := b1.rx.inn k hx; omega
      have hUt : Upd [] w z2 := by
        refine ((b1.U.fresh u2 fun k hk => ?_).fresh uz fun k hk => b.N k (List.mem_append.2 (.inr hk))).after uz2
        rcases List.mem_append.1 hk with hk | hk
        · exact b.N k (List.mem_append.2 (.inl hk))
        · simp at hk; subst hk; have := b.U.size; omega
      refine ⟨a2', rfl, (q2.upd uz hd2).keep uz2, ok2, hz.keep uz2, hd2, hUt, fun k hk => ?_⟩
      rcases List.mem_append.1 hk with hk | hk
      · rcases s2 k hk with e | e
        · exact b.N k (List.mem_append.2 (.inl e))
        · have := b1.U.size; omega
      · exact b.N k (List.mem_append.2 (.inr hk))
    · refine ⟨sim.Ss.trans es2.symm, by rw [t2']; show (Fl'.length : Int) = _; rw [hfl]; exact htop, sim.lim.trans l2'.symm, fun k hk => ?_⟩
      have hk : k < x.Fl.length := by rw [← hfl]; exact hk
      show at? Fl' k = true ↔ _
      rw [hat k hk, Bool.or_eq_true, Bool.and_eq_true, decide_eq_true_eq, decide_eq_true_eq, sim.free k hk, ef2]
      constructor
      · rintro (e | e)
        · exact .inl e
        · exact .inr ⟨by omega, by omega, e.2⟩
      · rintro (e | e)
        · exact .inl e
        · exact .inr ⟨by omega, e.2.2⟩

end

end Go.Proofs.Ytcgnligpjfhjlaa
