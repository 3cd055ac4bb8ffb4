/- The document's pool. -/
import Derived.Test.YtcgnligpjfhjlaaSame
namespace Go.Proofs.Ytcgnligpjfhjlaa
open Go Go.D Go.Proofs
set_option linter.unusedSimpArgs false
set_option linter.unusedVariables false
set_option maxRecDepth 8000

structure RxD where
  b : Nat
  fp : Option Addr
  fn : Nat
  fc : Nat
  sp : Option Addr
  sn : Nat
  sc : Nat
  lim : Int
  Fl : List Bool
  Ss : List Int
  GF : List Nat
  GS : List Nat

def RxD.a (x : RxD) : Option Addr := some ⟨x.b, 0, none⟩
def RxD.FT (x : RxD) : List Nat := x.b :: (x.GF ++ x.GS)

structure Rx (w : World) (x : RxD) : Prop where
  blk : Blk w x.b #[.slice x.fp x.fn x.fc, .slice x.sp x.sn x.sc, .int .i64 x.lim]
  f : SlAt w 1 x.fp x.fn x.fc (x.Fl.map .bool) x.GF
  s : SlAt w 1 x.sp x.sn x.sc (x.Ss.map (.int .i64)) x.GS
  bF : x.b ∉ x.GF
  bS : x.b ∉ x.GS
  FS : Dis x.GF x.GS

/-- The document's pool and this one tell the same. -/
structure Sim (d : PlD) (x : RxD) : Prop where
  Ss : x.Ss = d.L.map (·.start)
  top : (x.Fl.length : Int) = d.top
  lim : x.lim = d.limit
  free : ∀ k : Nat, k < x.Fl.length → (at? x.Fl k = true ↔ freeP d k)

/-- It has become. -/
structure To (x x' : RxD) (Fl : List Bool) (Ss : List Int) : Prop where
  a : x'.a = x.a
  Fl : x'.Fl = Fl
  Ss : x'.Ss = Ss
  lim : x'.lim = x.lim

section
variable {w : World} {x : RxD} {d : PlD}

theorem Rx.upd {w' : World} {F : List Nat} (h : Rx w x) (u : Upd F w w') (hd : Dis x.FT F) : Rx w' x :=
  ⟨h.blk.upd u (hd _ (by simp [RxD.FT])), h.f.upd u (fun k hk => hd k (by simp [RxD.FT, hk])), h.s.upd u (fun k hk => hd k (by simp [RxD.FT, hk])), h.bF, h.bS, h.FS⟩

theorem Rx.keep {w' : World} (h : Rx w x) (u : Upd [] w w') : Rx w' x := h.upd u (by intro k _ h; cases h)

theorem Rx.inn (h : Rx w x) : In x.FT w := fun k hk => by
  rcases List.mem_cons.1 hk with rfl | hk
  · exact h.blk.lt
  · rcases List.mem_append.1 hk with hk | hk
    · exact h.f.inn k hk
    · exact h.s.inn k hk

theorem Rx.fl (h : Rx w x) : x.fn = x.Fl.length := by have := h.f.1; simp at this; exact this.symm
theorem Rx.sl (h : Rx w x) : x.sn = x.Ss.length := by have := h.s.1; simp at this; exact this.symm
theorem Sim.sl (s : Sim d x) : x.Ss.length = d.L.length := by rw [s.Ss]; simp

theorem at_get {l : List Bool} {k : Nat} (hk : k < l.length) : l[k]? = some (at? l k) := by
  unfold at?
  rw [List.getElem?_eq_getElem hk]
  cases l[k] <;> rfl

theorem Rx.cellF (h : Rx w x) {k : Nat} (hk : k < x.Fl.length) : ∃ b off, x.fp = some ⟨b, off, none⟩ ∧ w.cell? ⟨b, off + k, none⟩ = some (.bool (at? x.Fl k)) := by
  have := h.fl
  obtain ⟨b, off, hp, hc⟩ := h.f.cell (i := k) (by omega)
  refine ⟨b, off, hp, ?_⟩
  rw [hc, List.getElem?_map, at_get hk]; rfl

theorem Rx.cellS (h : Rx w x) {k : Nat} (hk : k < x.Ss.length) : ∃ b off, x.sp = some ⟨b, off, none⟩ ∧ w.cell? ⟨b, off + k, none⟩ = some (.int .i64 x.Ss[k]) := by
  have := h.sl
  obtain ⟨b, off, hp, hc⟩ := h.s.cell (i := k) (by omega)
  refine ⟨b, off, hp, ?_⟩
  rw [hc, List.getElem?_map, List.getElem?_eq_getElem hk]; rfl

theorem Sim.get (s : Sim d x) {k : Nat} (hk : k < d.L.length) : x.Ss[k]'(by rw [s.sl]; exact hk) = d.L[k].start := by
  have : x.Ss[k]? = (d.L.map (·.start))[k]? := by rw [s.Ss]
  rw [List.getElem?_eq_getElem (by rw [s.sl]; exact hk), List.getElem?_map, List.getElem?_eq_getElem hk] at this
  exact Option.some.inj this

theorem RNew_bad {lim : Int} {K : Option Addr → World → Prop} (h : lim < 0 ∨ 1048576 < lim) (hK : K none w) : C_ref03_New lim w K := by
  apply C_ref03_New.of
  unfold F_ref03_New
  by_cases h0 : lim < 0
  · exact ifT (by simpa using h0) hK
  · exact ifF (by simpa using h0) (ifT (by simp; omega) hK)

theorem RNew_ok {lim : Int} {K : Option Addr → World → Prop} (h0 : 0 ≤ lim) (h1 : lim ≤ 1048576) (hK : ∀ w' x', Rx w' x' → x'.lim = lim → x'.Fl = [] → x'.Ss = [0] → Upd [] w w' → Since x'.FT w → K x'.a w') : C_ref03_New lim w K := by
  apply C_ref03_New.of
  unfold F_ref03_New
  refine ifF (by simp; omega) (ifF (by simp; omega) (BSlL_rule eS_33 [.int .i64 0] (by rfl) (by simp [Value.cells]) (by rfl) (by omega) fun w1 hs1 u1 => New_rule fun b w2 hb u2 hb2 => ?_))
  have hs2 := hs1.upd u2 (by intro k _ h; cases h)
  have hsz := u1.size
  have hin := hs1.inn w.heap.size (by simp)
  refine hK w2 ⟨b, none, 0, 0, some ⟨w.heap.size, 0, none⟩, 1, 1, lim, [], [0], [], [w.heap.size]⟩ ⟨hb2, SlAt.nil _ _, by simpa [Value.cells] using hs2, by simp, by simp; omega, by intro k hk; cases hk⟩ rfl rfl rfl (u1.after u2) ?_
  intro k hk
  simp [RxD.FT] at hk
  omega

theorem REnd_ok {s : Nat} {K : Int → World → Prop} (hx : Rx w x) (sim : Sim d x) (ok : PlOk d) (hs : s < d.L.length) (hK : K (endOf d.L d.top s) w) : C_ref03_Pool_end x.a s w K := by
  apply C_ref03_Pool_end.of
  unfold F_ref03_Pool_end
  have h1 := hx.sl
  have h2 := sim.sl
  have h3 := hx.fl
  have h4 := ok.len
  simp only [RxD.a, NN_some, addN, drw_cell, drw_heap, exS, exI, exB, exP, exM, exStr, exV, a0, a1, a2, a3, a4, a5, a6, a7, a8, a9, a10, a11, a12, a13, maxI_eq, Nat.zero_add, Nat.add_zero, Nat.mul_one, Option.isNone_some, Option.isNone_none, hx.blk.cell]
  rw [i64id (x := (s : Int) + 1) (by omega) (by omega)]
  refine ifC (fun hc => ?_) (fun hc => ?_)
  · simp at hc
    obtain ⟨b, off, hp, hc0⟩ := hx.cellS (k := s + 1) (by omega)
    have et : ((s : Int) + 1).toNat = s + 1 := by omega
    simp only [NN_some, addN, drw_cell, drw_heap, exS, exI, exB, exP, exM, exStr, exV, a0, a1, a2, a3, a4, a5, a6, a7, a8, a9, a10, a11, a12, a13, maxI_eq, Nat.zero_add, Nat.add_zero, Nat.mul_one, Option.isNone_some, Option.isNone_none, hp, et, Nat.mul_one, hc0]
    refine ⟨by omega, by omega, ?_⟩
    rw [sim.get (by omega)]
    unfold endOf at hK
    rw [List.getElem?_eq_getElem (by omega)] at hK
    exact hK
  · simp at hc
    unfold endOf at hK
    rw [List.getElem?_eq_none (by omega)] at hK
    rw [h3, sim.top]; exact hK

theorem RRuns_no {s : Int} {K : Option Addr → Nat → Nat → World → Prop} (hx : Rx w x) (hs : s < 0 ∨ (x.Ss.length : Int) ≤ s) (hK : K none 0 0 w) : C_ref03_Pool_Runs x.a s w K := by
  apply C_ref03_Pool_Runs.of
  unfold F_ref03_Pool_Runs
  have h1 := hx.sl
  refine ifC (fun _ => hK) (fun hc => ?_)
  simp at hc
  simp only [RxD.a, NN_some, addN, drw_cell, drw_heap, exS, exI, exB, exP, exM, exStr, exV, a0, a1, a2, a3, a4, a5, a6, a7, a8, a9, a10, a11, a12, a13, maxI_eq, Nat.zero_add, Nat.add_zero, Nat.mul_one, Option.isNone_some, Option.isNone_none, hx.blk.cell]
  exact ifT (by simp; omega) hK

theorem RRuns_ok {s : Nat} {K : Option Addr → Nat → Nat → World → Prop} (hx : Rx w x) (sim : Sim d x) (ok : PlOk d) (hs : s < d.L.length)
    (hK : ∀ p' n' c' F' w', RowAt w' p' n' c' d.L[s].runs F' → Upd [] w w' → Since F' w → K p' n' c' w') : C_ref03_Pool_Runs x.a s w K := by
  apply C_ref03_Pool_Runs.of
  unfold F_ref03_Pool_Runs F_ref03_Pool_Runs_L1
  have h1 := hx.sl
  have h2 := sim.sl
  have h3 := hx.fl
  have h4 := ok.len
  have ht := ok.top
  have hl := ok.lim
  have hst := sim.top
  have hse := start_endOf ok hs
  have hel := endOf_le ok s
  have h0 := ok.start0 hs
  refine ifF (by simp) ?_
  have hst0 : w.cell? ⟨x.b, 1, none⟩ = some (.slice x.sp x.sn x.sc) := by rw [hx.blk.cell]; rfl
  simp only [RxD.a, NN_some, addN, Nat.zero_add, hst0, exS]
  refine ifF (by simp; omega) ?_
  obtain ⟨b, off, hp, hc0⟩ := hx.cellS (k := s) (by omega)
  simp only [NN_some, addN, hp, Int.toNat_natCast, Nat.mul_one, hc0, exI]
  refine ⟨by omega, by omega, ?_⟩
  rw [sim.get hs]
  refine ⟨fun t v => d.L[s].start ≤ t.i ∧ t.i ≤ endOf d.L d.top s ∧ ∃ rs F, RowAt v t.outP t.outN t.outC rs F ∧ RunsOk d.L[s].start t.i rs ∧ (∀ k : Int, isFree rs k ↔ d.L[s].start ≤ k ∧ k < t.i ∧ at? x.Fl k.toNat = true) ∧ (rs.length : Int) ≤ t.i ∧ Upd [] w v ∧ Since F w, fun t _ => (endOf d.L d.top s - t.i).toNat, ⟨by simp, by simpa using hse, [], [], SlAt.nil _ _, RunsOk.nil _ _, fun k => Iff.intro (fun hf => by obtain ⟨r, hr, _⟩ := hf; cases hr) (fun hf => by obtain ⟨h, h', _⟩ := hf; dsimp only at h'; omega), by simp; omega, Upd.refl _ _, by intro k hk; cases hk⟩, ?_⟩
  rintro ⟨op, on, oc, i⟩ v ⟨hi0, hi1, rs, F, hr, hro, hfr, hrl, u, hF⟩
  dsimp only at hi0 hi1 hr hro hfr hrl
  unfold B_ref03_Pool_Runs_L1 F_ref03_Pool_Runs_k1
  dsimp only
  have hv := hx.keep u
  refine REnd_ok hv sim ok hs (ifC (fun hc => ?_) (fun hc => ?_))
  · simp at hc
    have hin : i.toNat < x.Fl.length := by omega
    obtain ⟨bf, offf, hpf, hcf⟩ := hv.cellF hin
    have hff : v.cell? ⟨x.b, 0, none⟩ = some (.slice x.fp x.fn x.fc) := by rw [hv.blk.cell]; rfl
    simp only [RxD.a, NN_some, addN, Nat.zero_add, Nat.add_zero, hff, exS, hpf, Nat.mul_one, hcf, exB]
    refine ⟨by omega, by omega, ?_⟩
    have hnl := RowAt.len hr
    rw [i64id (x := i + 1) (by omega) (by omega)]
    cases hb : at? x.Fl i.toNat with
    | false =>
      refine ifT rfl ⟨⟨by omega, by omega, rs, F, hr, hro.wide (Int.le_refl _) (by omega), fun k => ?_, by omega, u, hF⟩, by omega⟩
      rw [hfr k]
      constructor
      · rintro ⟨h, h', h''⟩; exact ⟨h, by omega, h''⟩
      · rintro ⟨h, h', h''⟩
        refine ⟨h, ?_, h''⟩
        by_cases hk : k = i
        · subst hk; rw [hb] at h''; cases h''
        · omega
    | true =>
      refine ifF rfl ?_
      obtain ⟨r1, r2, r3⟩ := addR_ok hro hi0
      have hfr2 : ∀ k : Int, isFree (addR rs i) k ↔ d.L[s].start ≤ k ∧ k < i + 1 ∧ at? x.Fl k.toNat = true := fun k => by
        rw [r3 k, hfr k]
        constructor
        · rintro (⟨h, h', h''⟩ | rfl)
          · exact ⟨h, by omega, h''⟩
          · exact ⟨hi0, by omega, hb⟩
        · rintro ⟨h, h', h''⟩
          by_cases hk : k = i
          · exact .inr hk
          · exact .inl ⟨h, by omega, h''⟩
      -- one more
      have more : addR rs i = rs ++ [(i, 1)] → BSl Try.prog 40 1 [(0, .agg #[.int .i64 i, .int .i64 1])] (drw v) fun t74P t74N t74C w1_2 =>
          App Try.prog #[40, 40] 40 #[.slice op on oc, .slice t74P t74N t74C] w1_2 fun t75P t75N t75C w1_3 => ((d.L[s].start ≤ i + 1 ∧ i + 1 ≤ endOf d.L d.top s ∧ ∃ rs F, RowAt w1_3 t75P t75N t75C rs F ∧ RunsOk d.L[s].start (i + 1) rs ∧ (∀ k : Int, isFree rs k ↔ d.L[s].start ≤ k ∧ k < i + 1 ∧ at? x.Fl k.toNat = true) ∧ (rs.length : Int) ≤ i + 1 ∧ Upd [] w w1_3 ∧ Since F w) ∧ (endOf d.L d.top s - (i + 1)).toNat < (endOf d.L d.top s - i).toNat) := fun e => by
        refine BSlL_rule eS_40 [.agg #[.int .i64 i, .int .i64 1]] (by rfl) (by simp [Value.cells]) (by rfl) (by omega) fun w1 hs1 u1 => ?_
        have U1 := (drw_upd v).after u1
        refine App_rule (hE := eS_40) (SlAt.upd hr U1 (by intro k _ h; cases h)) hs1 (by simp [Value.cells, Value.oneCell']) (by omega) fun p' c' F' w2 hs2 u2 s2 => ?_
        refine ⟨⟨by omega, by omega, addR rs i, F', ?_, r1, hfr2, by omega, (u.after U1).fresh u2 hF, hF.step s2 (Nat.le_trans u.size U1.size)⟩, by omega⟩
        rw [e]
        simpa [RowAt, eC, Value.cells] using hs2
      refine ifC (fun hc2 => ?_) (fun hc2 => ?_)
      · have hn0 : 0 < on := by simpa using hc2
        have hl1 : on - 1 < rs.length := by omega
        have hr' : RowAt (drw v) op on oc rs F := SlAt.drw hr
        obtain ⟨bo, oo, hpo, hcA, hcL⟩ := RowAt.get hr' hl1
        rw [i64id (x := (on : Int) - 1) (by omega) (by omega)]
        have et : ((on : Int) - 1).toNat = on - 1 := by omega
        simp only [NN_some, addN, hpo, et, Nat.add_zero, hcA, hcL, exI]
        have hwr := hro.within _ (List.getElem_mem hl1)
        rw [i64id (x := rs[on - 1].1 + rs[on - 1].2) (by omega) (by omega), i64id (x := rs[on - 1].2 + 1) (by omega) (by omega)]
        refine ⟨by omega, by omega, by omega, by omega, ifC (fun hc3 => ?_) (fun hc3 => ?_)⟩
        · have hc3 : rs[on - 1].1 + rs[on - 1].2 = i := by simpa using hc3
          refine ⟨by omega, by omega, by omega, by omega, ?_⟩
          have e : addR rs i = rs.set (on - 1) (rs[on - 1].1, rs[on - 1].2 + 1) := by
            unfold addR
            rw [show rs.length - 1 = on - 1 by omega, List.getElem?_eq_getElem hl1]
            simp only
            rw [if_pos hc3]
          refine setRow (i := on - 1) (y := (rs[on - 1].1, rs[on - 1].2 + 1)) (k := 1) hr' hl1 hpo (by omega) rfl (by simp [eC]) fun w2 hr2 u2 => ?_
          rw [← hpo]
          rw [← e] at hr2
          exact ⟨⟨by omega, by omega, addR rs i, F, hr2, r1, hfr2, by omega, (u.after (drw_upd v)).fresh u2 hF, hF⟩, by omega⟩
        · have hc3 : ¬ rs[on - 1].1 + rs[on - 1].2 = i := by simpa using hc3
          rw [← hpo]
          refine more ?_
          unfold addR
          rw [show rs.length - 1 = on - 1 by omega, List.getElem?_eq_getElem hl1]
          simp only
          rw [if_neg hc3]
      · have hn0 : on = 0 := by simp at hc2; omega
        have : rs = [] := by
          have : rs.length = 0 := by omega
          simpa using this
        subst this
        exact more rfl
  · simp at hc
    obtain rfl : i = endOf d.L d.top s := by omega
    have e : rs = d.L[s].runs := runs_unique hro (ok.ok s hs) fun k => by
      rw [hfr k]
      constructor
      · rintro ⟨h, h', h''⟩
        have hk : k.toNat < x.Fl.length := by omega
        have := (sim.free k.toNat hk).1 h''
        rw [show ((k.toNat : Nat) : Int) = k by omega, free_seg ok hs h h'] at this
        exact this
      · intro hf
        have hb := (ok.ok s hs).free hf
        refine ⟨hb.1, hb.2, (sim.free k.toNat (by omega)).2 ?_⟩
        rw [show ((k.toNat : Nat) : Int) = k by omega, free_seg ok hs hb.1 hb.2]
        exact hf
    subst e
    exact hK op on oc F v hr u hF

end

end Go.Proofs.Ytcgnligpjfhjlaa
