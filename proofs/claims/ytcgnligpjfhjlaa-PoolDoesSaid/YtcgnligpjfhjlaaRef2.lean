/- The document's pool: its calls. -/
import Derived.Test.YtcgnligpjfhjlaaRef
namespace Go.Proofs.Ytcgnligpjfhjlaa
open Go Go.D Go.Proofs
set_option linter.unusedSimpArgs false
set_option linter.unusedVariables false
set_option maxRecDepth 8000

section
variable {w : World} {x : RxD} {d : PlD}

theorem RSegment_no {t : Int} {K : Int → World → Prop} (hx : Rx w x) (h0 : t < 0 ∨ (x.Fl.length : Int) ≤ t) (hK : K (-1) w) : C_ref03_Pool_Segment x.a t w K := by
  apply C_ref03_Pool_Segment.of
  unfold F_ref03_Pool_Segment
  have h3 := hx.fl
  refine ifC (fun _ => hK) (fun hc => ?_)
  simp at hc
  simp only [RxD.a, NN_some, addN, drw_cell, drw_heap, exS, exI, exB, exP, exM, exStr, exV, a0, a1, a2, a3, a4, a5, a6, a7, a8, a9, a10, a11, a12, a13, maxI_eq, Nat.zero_add, Nat.add_zero, Nat.mul_one, Option.isNone_some, Option.isNone_none, hx.blk.cell]
  exact ifT (by simp; omega) hK

theorem RSegment_ok {t : Int} {K : Int → World → Prop} (hx : Rx w x) (sim : Sim d x) (ok : PlOk d) (h0 : 0 ≤ t) (h1 : t < d.top)
    (hK : ∀ (s : Nat) w', s < d.L.length → (∀ hs : s < d.L.length, d.L[s].start ≤ t) → t < endOf d.L d.top s → Upd [] w w' → K s w') : C_ref03_Pool_Segment x.a t w K := by
  apply C_ref03_Pool_Segment.of
  unfold F_ref03_Pool_Segment F_ref03_Pool_Segment_L1
  have e1 := hx.sl
  have e2 := sim.sl
  have e3 := hx.fl
  have e4 := ok.len
  have e5 := sim.top
  have hne := ok.ne
  refine ifF (by simp; omega) ?_
  have hff : w.cell? ⟨x.b, 0, none⟩ = some (.slice x.fp x.fn x.fc) := by rw [hx.blk.cell]; rfl
  simp only [RxD.a, NN_some, addN, Nat.zero_add, Nat.add_zero, hff, exS]
  refine ifF (by simp; omega) ?_
  refine ⟨fun s v => 0 ≤ s.sx ∧ s.sx < d.L.length ∧ (∀ hs : s.sx.toNat < d.L.length, d.L[s.sx.toNat].start ≤ t) ∧ Upd [] w v, fun s _ => (d.L.length - s.sx).toNat, ⟨by simp, by simp; omega, fun hs => ?_, Upd.refl _ _⟩, ?_⟩
  · have := ok.first
    simp only [Int.toNat_zero]
    omega
  rintro ⟨m⟩ v ⟨hm0, hm1, hm2, u⟩
  dsimp only at hm0 hm1 hm2
  unfold B_ref03_Pool_Segment_L1
  have hv := hx.keep u
  have hss : v.cell? ⟨x.b, 1, none⟩ = some (.slice x.sp x.sn x.sc) := by rw [hv.blk.cell]; rfl
  simp only [RxD.a, NN_some, addN, Nat.zero_add, Nat.add_zero, hss, exS]
  rw [i64id (x := m + 1) (by omega) (by omega)]
  have hmm : m.toNat < d.L.length := by omega
  have fin : t < endOf d.L d.top m.toNat → K m v := fun hfin => by
    have := hK m.toNat v hmm hm2 hfin u
    rw [show ((m.toNat : Nat) : Int) = m by omega] at this; exact this
  refine ifC (fun hc => ?_) (fun hc => ?_)
  · simp at hc
    have hnl : m.toNat + 1 < d.L.length := by omega
    obtain ⟨b, off, hp, hc0⟩ := hv.cellS (k := m.toNat + 1) (by omega)
    have et : (m + 1).toNat = m.toNat + 1 := by omega
    simp only [NN_some, addN, hp, et, Nat.mul_one, hc0, exI]
    rw [sim.get hnl]
    refine ⟨by omega, by omega, ifC (fun hc2 => ?_) (fun hc2 => ?_)⟩
    · have hc2 : d.L[m.toNat + 1].start ≤ t := by simpa using hc2
      exact ⟨⟨by omega, by omega, fun _ => hc2, u⟩, by omega⟩
    · have hc2 : ¬ d.L[m.toNat + 1].start ≤ t := by simpa using hc2
      refine fin ?_
      unfold endOf
      rw [List.getElem?_eq_getElem hnl]
      simp only; omega
  · simp at hc
    refine fin ?_
    unfold endOf
    rw [List.getElem?_eq_none (by omega)]
    exact h1

/-- Cells of the document's pool, turned. -/
theorem Rx.setF {k b off : Nat} {v : Bool} {K : World → Prop} (hx : Rx w x) (hp : x.fp = some ⟨b, off, none⟩) (hk : k < x.Fl.length) (hK : ∀ w', Rx w' { x with Fl := x.Fl.set k v } → Upd x.GF w w' → K w') : St w ⟨b, off + k, none⟩ (.bool v) K := by
  have hf := hx.fl
  refine St_elem hx.f hp (k := k) (by omega) rfl fun w' hs u => hK w' ⟨hx.blk.upd u hx.bF, ?_, hx.s.upd u hx.FS.symm, hx.bF, hx.bS, hx.FS⟩ u
  show SlAt w' 1 x.fp x.fn x.fc ((x.Fl.set k v).map .bool) x.GF
  rw [List.map_set]; exact hs

theorem RGive_ok {t m : Int} {K : Int → World → Prop} (hx : Rx w x) (sim : Sim d x) (ok : PlOk d) (hm : -2 ^ 63 ≤ m ∧ m < 2 ^ 63)
    (hno : (∀ s, ¬ mayGive d t m s) → ∀ w', Rx w' x → Upd [] w w' → K 1 w')
    (hK : ∀ s, mayGive d t m s → ∀ w', Rx w' { x with Fl := setB x.Fl t.toNat true m.toNat } → Upd x.GF w w' → K 0 w') : C_ref03_Pool_Give x.a t m w K := by
  apply C_ref03_Pool_Give.of
  unfold F_ref03_Pool_Give F_ref03_Pool_Give_k1 F_ref03_Pool_Give_L1 F_ref03_Pool_Give_L2
  have e3 := hx.fl
  have e5 := sim.top
  have ht := ok.top
  have hlim := ok.lim
  have ht0 := ok.top0
  have bad : (∀ s, ¬ mayGive d t m s) → K 1 w := fun h => hno h w hx (Upd.refl _ _)
  have inTop : ∀ s, mayGive d t m s → 1 ≤ m ∧ 0 ≤ t ∧ t + m ≤ d.top := fun s ⟨a, hs, b, c, _⟩ => by
    have := ok.start0 hs
    have := endOf_le ok s
    exact ⟨a, by omega, by omega⟩
  refine ifC (fun hc => bad fun s hs => ?_) (fun hc => ifC (fun hc2 => bad fun s hs => ?_) (fun hc2 => ?_))
  · simp at hc; have := inTop s hs; omega
  · simp at hc2; have := inTop s hs; omega
  simp at hc hc2
  have hff : w.cell? ⟨x.b, 0, none⟩ = some (.slice x.fp x.fn x.fc) := by rw [hx.blk.cell]; rfl
  simp only [RxD.a, NN_some, addN, Nat.zero_add, Nat.add_zero, hff, exS]
  refine ifC (fun hc3 => bad fun s hs => ?_) (fun hc3 => ?_)
  · simp at hc3; have := inTop s hs; omega
  simp at hc3
  rw [i64id (x := (x.fn : Int) - t) (by omega) (by omega)]
  refine ifC (fun hc4 => bad fun s hs => ?_) (fun hc4 => ?_)
  · simp at hc4; have := inTop s hs; omega
  simp at hc4
  rw [i64id (x := t + m) (by omega) (by omega), i64id (x := t + m - 1) (by omega) (by omega)]
  refine RSegment_ok hx sim ok hc2 (by omega) fun s w1 hs hs1 hs2 u1 => ?_
  have h1 := hx.keep u1
  refine RSegment_ok h1 sim ok (by omega) (by omega) fun s' w2 hs' hs1' hs2' u2 => ?_
  have h2 := h1.keep u2
  have U2 := u1.after u2
  by_cases hss : s = s'
  · subst hss
    refine ifF (by simp) ?_
    refine ⟨fun s v => 0 ≤ s.k ∧ s.k ≤ m ∧ (∀ j : Nat, t ≤ j → (j : Int) < t + s.k → at? x.Fl j = false) ∧ Upd [] w v, fun s _ => (m - s.k).toNat, ⟨by simp, by simp; omega, fun j h h' => by simp at h'; omega, U2⟩, ?_⟩
    rintro ⟨k⟩ v ⟨hk0, hk1, hk2, u⟩
    dsimp only at hk0 hk1 hk2
    unfold B_ref03_Pool_Give_L1
    dsimp only
    have hv := hx.keep u
    refine ifC (fun hc5 => ?_) (fun hc5 => ?_)
    · simp at hc5
      have hin : (t + k).toNat < x.Fl.length := by omega
      obtain ⟨bf, offf, hpf, hcf⟩ := hv.cellF hin
      have hfv : v.cell? ⟨x.b, 0, none⟩ = some (.slice x.fp x.fn x.fc) := by rw [hv.blk.cell]; rfl
      rw [i64id (x := t + k) (by omega) (by omega)]
      simp only [RxD.a, NN_some, addN, Nat.zero_add, Nat.add_zero, hfv, exS, hpf, Nat.mul_one, hcf, exB]
      refine ⟨by omega, by omega, ifC (fun hc6 => ?_) (fun hc6 => ?_)⟩
      · refine hno (fun q hq => ?_) v hv u
        obtain ⟨a, hq1, hq2, hq3, hq4⟩ := hq
        have hf := (sim.free _ hin).1 hc6
        rw [show (((t + k).toNat : Nat) : Int) = t + k by omega, free_seg ok hq1 (by omega) (by omega)] at hf
        obtain ⟨r, hr, c, e⟩ := hf
        exact hq4 r hr (by omega)
      · rw [i64id (x := k + 1) (by omega) (by omega)]
        refine ⟨⟨by omega, by omega, fun j hj1 hj2 => ?_, u⟩, by omega⟩
        by_cases hjk : j = (t + k).toNat
        · subst hjk; simpa using hc6
        · exact hk2 j hj1 (by omega)
    · simp at hc5
      obtain rfl : k = m := by omega
      have hmay : mayGive d t k s := by
        refine ⟨hc, hs, hs1 hs, by omega, fun r hr hx => ?_⟩
        have hw := ok.small hs r hr
        have hwi := (ok.ok s hs).within r hr
        obtain ⟨j, hj⟩ : ∃ j : Nat, (j : Int) = max r.1 t := ⟨(max r.1 t).toNat, by omega⟩
        have h1 := hk2 j (by omega) (by omega)
        have h2 := (sim.free j (by omega)).2 ⟨d.L[s], List.getElem_mem hs, r, hr, by omega, by omega⟩
        rw [h1] at h2; cases h2
      refine ⟨fun s v => 0 ≤ s.k_1 ∧ s.k_1 ≤ k ∧ Rx v { x with Fl := setB x.Fl t.toNat true s.k_1.toNat } ∧ Upd x.GF w v, fun s _ => (k - s.k_1).toNat, ⟨by simp, by simp; omega, hv, u.mono (by simp)⟩, ?_⟩
      rintro ⟨j⟩ v' ⟨hj0, hj1, hv', u'⟩
      dsimp only at hj0 hj1 hv'
      unfold B_ref03_Pool_Give_L2
      dsimp only
      refine ifC (fun hc6 => ?_) (fun hc6 => ?_)
      · simp at hc6
        have hfv : v'.cell? ⟨x.b, 0, none⟩ = some (.slice x.fp x.fn x.fc) := by rw [hv'.blk.cell]; rfl
        obtain ⟨bf, offf, hpf, hcf⟩ := hx.cellF (k := (t + j).toNat) (by omega)
        rw [i64id (x := t + j) (by omega) (by omega), i64id (x := j + 1) (by omega) (by omega)]
        simp only [RxD.a, NN_some, addN, Nat.zero_add, Nat.add_zero, hfv, exS, hpf, Nat.mul_one]
        refine ⟨by omega, by omega, hv'.setF hpf (by show _ < (setB x.Fl t.toNat true j.toNat).length; rw [setB_len]; omega) fun w2 h2 u2 => ?_⟩
        refine ⟨⟨by omega, by omega, ?_, u'.both u2⟩, by omega⟩
        rw [show (j + 1).toNat = j.toNat + 1 by omega]
        have e : (t + j).toNat = t.toNat + j.toNat := by omega
        rw [e] at h2
        rw [← hpf]
        exact h2
      · simp at hc6
        obtain rfl : j = k := by omega
        exact hK s hmay v' hv' u'
  · refine ifT (by simp; omega) (hno (fun q hq => ?_) w2 h2 U2)
    obtain ⟨a, hq1, hq2, hq3, _⟩ := hq
    have e1 := seg_unique ok hq1 hs hq2 (by omega) (hs1 hs) hs2
    have e2 := seg_unique ok (t := t + m - 1) hq1 hs' (by omega) (by omega) (hs1' hs') hs2'
    omega

theorem ROpen_ok {K : Int → World → Prop} (hx : Rx w x) (hl : x.Fl.length < 2 ^ 40) (hfull : 4096 ≤ x.Ss.length → K 2 w)
    (hK : x.Ss.length < 4096 → ∀ w' x', Rx w' x' → To x x' x.Fl (x.Ss ++ [(x.Fl.length : Int)]) → Upd x.FT w w' → Sub x'.FT x.FT w → K 0 w') : C_ref03_Pool_Open x.a w K := by
  apply C_ref03_Pool_Open.of
  unfold F_ref03_Pool_Open
  have e1 := hx.sl
  have e3 := hx.fl
  have hss : ∀ v, Rx v x → v.cell? ⟨x.b, 1, none⟩ = some (.slice x.sp x.sn x.sc) := fun v hv => by rw [hv.blk.cell]; rfl
  have hff : ∀ v, Rx v x → v.cell? ⟨x.b, 0, none⟩ = some (.slice x.fp x.fn x.fc) := fun v hv => by rw [hv.blk.cell]; rfl
  have hd := hx.keep (drw_upd w)
  simp only [RxD.a, NN_some, addN, Nat.zero_add, Nat.add_zero, hss w hx, exS]
  refine ifC (fun hc => hfull (by simp at hc; omega)) (fun hc => ?_)
  have hc : x.Ss.length < 4096 := by simp at hc; omega
  simp only [hss _ hd, hff _ hd, exS]
  refine BSlL_rule eS_33 [.int .i64 x.fn] (by rfl) (by simp [Value.cells]) (by rfl) (by omega) fun w1 hs1 u1 => ?_
  have h1 := hd.keep u1
  have U1 := (drw_upd w).after u1
  refine ⟨by rw [hss _ h1], App_rule (hE := eS_33) h1.s hs1 (by simp [Value.cells, Value.oneCell']) (by omega) fun p' c' G' w2 hs2 u2 s2 => ?_⟩
  have U2 : Upd x.GS w w2 := U1.after u2
  have hbw := hx.blk.lt
  have hG' : ∀ y ∈ G', y ∈ x.GS ∨ w.heap.size ≤ y := fun y hy => by
    rcases s2 y hy with h7 | h7
    · exact .inl h7
    · have := U1.size; right; omega
  have hbG' : x.b ∉ G' := fun hy => by
    rcases hG' _ hy with h7 | h7
    · exact hx.bS h7
    · omega
  have hFG' : Dis x.GF G' := fun k hk hy => by
    rcases hG' _ hy with h7 | h7
    · exact hx.FS k hk h7
    · have := hx.f.inn k hk; omega
  refine St_rule (hx.blk.upd U2 hx.bS) (by simp) rfl fun w3 u3 hb3 => ?_
  simp at hb3
  have nb : ∀ F : List Nat, x.b ∉ F → Dis F [x.b] := fun F hF k hk hy => by simp at hy; subst hy; exact hF hk
  refine hK hc w3 { x with sp := p', sn := x.sn + 1, sc := c', Ss := x.Ss ++ [(x.Fl.length : Int)], GS := G' } ⟨hb3, (hx.f.upd U2 hx.FS).upd u3 (nb _ hx.bF), ?_, hx.bF, hbG', hFG'⟩ ⟨rfl, rfl, rfl, rfl⟩ ((U2.mono fun k hk => .inl (by simp [RxD.FT, hk])).both (u3.mono fun k hk => .inl (by simp at hk; simp [RxD.FT, hk]))) ?_
  · have := hs2.upd u3 (nb _ hbG')
    simpa [Value.cells, e3] using this
  · intro k hk
    simp only [RxD.FT] at hk ⊢
    rcases List.mem_cons.1 hk with rfl | hk
    · left; simp
    · rcases List.mem_append.1 hk with hk | hk
      · left; simp [hk]
      · rcases hG' k hk with h7 | h7
        · left; simp [h7]
        · exact .inr h7

theorem RClose_ok {K : Int → World → Prop} (hx : Rx w x) (hn : x.Ss.length < 2 ^ 40) (h0 : 0 < x.Ss.length) (hone : x.Ss.length = 1 → K 4 w)
    (hK : 1 < x.Ss.length → ∀ w', Rx w' { x with sn := x.Ss.length - 1, Ss := x.Ss.take (x.Ss.length - 1) } → Upd x.FT w w' → K 0 w') : C_ref03_Pool_Close x.a w K := by
  apply C_ref03_Pool_Close.of
  unfold F_ref03_Pool_Close
  have e1 := hx.sl
  have hss : ∀ v, Rx v x → v.cell? ⟨x.b, 1, none⟩ = some (.slice x.sp x.sn x.sc) := fun v hv => by rw [hv.blk.cell]; rfl
  have hd := hx.keep (drw_upd w)
  simp only [RxD.a, NN_some, addN, Nat.zero_add, Nat.add_zero, hss w hx, hss _ hd, exS]
  refine ifC (fun hc => hone (by simp at hc; omega)) (fun hc => ?_)
  simp at hc
  rw [i64id (by omega) (by omega)]
  have et : ((x.sn : Int) - 1).toNat = x.Ss.length - 1 := by omega
  rw [et]
  have hnc := hx.s.2.1
  refine ⟨by omega, by omega, St_rule hd.blk (by simp) rfl fun w2 u2 hb2 => ?_⟩
  simp at hb2
  have nb : ∀ F : List Nat, x.b ∉ F → Dis F [x.b] := fun F hF k hk hy => by simp at hy; subst hy; exact hF hk
  refine hK (by omega) w2 ⟨hb2, hd.f.upd u2 (nb _ hx.bF), ?_, hx.bF, hx.bS, hx.FS⟩ (((drw_upd w).after u2).mono fun k hk => .inl (by simp at hk; simp [RxD.FT, hk]))
  have := (hd.s.upd u2 (nb _ hx.bS)).take (k := x.Ss.length - 1) (by omega)
  rw [Nat.mul_one, ← List.map_take] at this
  exact this

theorem RBack_ok {s : Nat} {K : World → Prop} (hx : Rx w x) (hs : s < x.Ss.length) (hse : s + 1 = x.Ss.length) (hn : x.Ss.length < 2 ^ 40) (h0 : 0 ≤ x.Ss[s]) (h1 : x.Ss[s] ≤ x.Fl.length)
    (hK : ∀ w', Rx w' { x with fn := x.Ss[s].toNat, Fl := x.Fl.take x.Ss[s].toNat } → Upd x.FT w w' → K w') : C_ref03_Pool_Back x.a w K := by
  apply C_ref03_Pool_Back.of
  unfold F_ref03_Pool_Back
  have e1 := hx.sl
  have e3 := hx.fl
  have hd := hx.keep (drw_upd w)
  have hss : (drw w).cell? ⟨x.b, 1, none⟩ = some (.slice x.sp x.sn x.sc) := by rw [hd.blk.cell]; rfl
  have hff : (drw w).cell? ⟨x.b, 0, none⟩ = some (.slice x.fp x.fn x.fc) := by rw [hd.blk.cell]; rfl
  obtain ⟨b, off, hp, hc0⟩ := hd.cellS hs
  simp only [RxD.a, NN_some, addN, Nat.zero_add, Nat.add_zero, hss, hff, exS]
  rw [i64id (by omega) (by omega)]
  have et : ((x.sn : Int) - 1).toNat = s := by omega
  simp only [hp, et, NN_some, addN, Nat.mul_one, hc0, exI]
  have hnc := hx.f.2.1
  refine ⟨by omega, by omega, h0, by omega, St_rule hd.blk (by simp) rfl fun w2 u2 hb2 => ?_⟩
  simp at hb2
  have nb : ∀ F : List Nat, x.b ∉ F → Dis F [x.b] := fun F hF k hk hy => by simp at hy; subst hy; exact hF hk
  refine hK w2 ⟨by rw [hp] at *; exact hb2, ?_, hd.s.upd u2 (nb _ hx.bS), hx.bF, hx.bS, hx.FS⟩ (((drw_upd w).after u2).mono fun k hk => .inl (by simp at hk; simp [RxD.FT, hk]))
  have := (hd.f.upd u2 (nb _ hx.bF)).take (k := x.Ss[s].toNat) (by omega)
  rw [Nat.mul_one, ← List.map_take] at this
  exact this

/-- Free cells up to a segment's start. -/
theorem cnt_segs (sim : Sim d x) (ok : PlOk d) : ∀ i : Nat, i ≤ d.L.length → cnt (at? x.Fl) 0 ((match d.L[i]? with | some y => y.start | none => d.top).toNat) = ((d.L.take i).map fun y => sumR y.runs).sum
  | 0, _ => by
    rw [List.getElem?_eq_getElem ok.ne]
    simp only [ok.first]; rfl
  | i + 1, hi => by
    have ih := cnt_segs sim ok i (by omega)
    have hs : i < d.L.length := by omega
    rw [List.getElem?_eq_getElem hs] at ih
    simp only at ih
    have h0 := ok.start0 hs
    have h1 := start_endOf ok hs
    have h2 := endOf_le ok i
    have h3 := sim.top
    have e : (match d.L[i + 1]? with | some y => y.start | none => d.top) = endOf d.L d.top i := rfl
    rw [e, List.take_succ_eq_append_getElem hs, List.map_append, List.sum_append, ← ih]
    have hn : (endOf d.L d.top i).toNat = d.L[i].start.toNat + ((endOf d.L d.top i).toNat - d.L[i].start.toNat) := by omega
    rw [hn, cnt_add, Nat.zero_add]
    have hro := ok.ok i hs
    have := sumR_cnt (f := at? x.Fl) (rs := d.L[i].runs) (lo := d.L[i].start.toNat) (n := (endOf d.L d.top i).toNat - d.L[i].start.toNat) (by
      rw [← hn, show ((d.L[i].start.toNat : Nat) : Int) = d.L[i].start by omega, show (((endOf d.L d.top i).toNat : Nat) : Int) = endOf d.L d.top i by omega]
      exact hro) fun k hk1 hk2 => by
        rw [sim.free k (by omega), free_seg ok hs (by omega) (by omega)]
    rw [← this]; simp

theorem sim_left (sim : Sim d x) (ok : PlOk d) : leftP d = d.limit - d.top + cnt (at? x.Fl) 0 x.Fl.length := by
  have := cnt_segs sim ok d.L.length (Nat.le_refl _)
  rw [List.getElem?_eq_none (Nat.le_refl _), List.take_length] at this
  simp only at this
  have h3 := sim.top
  rw [show d.top.toNat = x.Fl.length by omega] at this
  unfold leftP
  rw [this]

theorem RLeft_ok {K : Int → World → Prop} (hx : Rx w x) (sim : Sim d x) (ok : PlOk d) (hK : ∀ w', Upd [] w w' → K (leftP d) w') : C_ref03_Pool_Left x.a w K := by
  apply C_ref03_Pool_Left.of
  unfold F_ref03_Pool_Left F_ref03_Pool_Left_L1
  have e3 := hx.fl
  have h3 := sim.top
  have h4 := sim.lim
  have ht := ok.top
  have hlim := ok.lim
  have ht0 := ok.top0
  have hd := hx.keep (drw_upd w)
  have hff : ∀ v, Rx v x → v.cell? ⟨x.b, 0, none⟩ = some (.slice x.fp x.fn x.fc) := fun v hv => by rw [hv.blk.cell]; rfl
  have hll : (drw w).cell? ⟨x.b, 2, none⟩ = some (.int .i64 x.lim) := by rw [hd.blk.cell]; rfl
  simp only [RxD.a, NN_some, addN, Nat.zero_add, Nat.add_zero, hll, hff _ hd, exS, exI]
  rw [i64id (by omega) (by omega)]
  refine ⟨fun s v => 0 ≤ s.i ∧ s.i ≤ x.Fl.length ∧ s.n = x.lim - x.fn + cnt (at? x.Fl) 0 s.i.toNat ∧ Upd [] w v, fun s _ => (x.Fl.length - s.i).toNat, ⟨by simp, by simp, by simp [cnt], drw_upd w⟩, ?_⟩
  rintro ⟨m, i⟩ v ⟨hi0, hi1, hm, u⟩
  dsimp only at hi0 hi1 hm
  unfold B_ref03_Pool_Left_L1 F_ref03_Pool_Left_k1
  dsimp only
  have hv := hx.keep u
  simp only [RxD.a, NN_some, addN, Nat.zero_add, Nat.add_zero, hff _ hv, exS]
  have hcl := cnt_le (at? x.Fl) 0 i.toNat
  refine ifC (fun hc => ?_) (fun hc => ?_)
  · simp at hc
    have hin : i.toNat < x.Fl.length := by omega
    obtain ⟨bf, offf, hpf, hcf⟩ := hv.cellF hin
    simp only [hpf, NN_some, addN, Nat.mul_one, hcf, exB]
    have hstep : cnt (at? x.Fl) 0 (i + 1).toNat = cnt (at? x.Fl) 0 i.toNat + if at? x.Fl i.toNat then 1 else 0 := by
      rw [show (i + 1).toNat = i.toNat + 1 by omega]
      simp only [cnt, Nat.zero_add]
    rw [i64id (x := i + 1) (by omega) (by omega)]
    refine ⟨by omega, by omega, ifC (fun hc2 => ?_) (fun hc2 => ?_)⟩
    · rw [hc2] at hstep
      simp at hstep
      rw [i64id (x := m + 1) (by omega) (by omega)]
      exact ⟨⟨by omega, by omega, by omega, u⟩, by omega⟩
    · have hc2 : at? x.Fl i.toNat = false := by simpa using hc2
      rw [hc2] at hstep
      simp at hstep
      exact ⟨⟨by omega, by omega, by omega, u⟩, by omega⟩
  · simp at hc
    have hi : i.toNat = x.Fl.length := by omega
    rw [hi] at hm
    have := sim_left sim ok
    rw [show m = leftP d by omega]
    exact hK v u

end

end Go.Proofs.Ytcgnligpjfhjlaa
