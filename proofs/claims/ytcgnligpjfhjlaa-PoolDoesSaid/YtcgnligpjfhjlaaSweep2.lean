/- A pool: Sweep of a segment, and of all. -/
import Derived.Test.YtcgnligpjfhjlaaSweep
namespace Go.Proofs.Ytcgnligpjfhjlaa
open Go Go.D Go.Proofs
set_option linter.unusedSimpArgs false
set_option linter.unusedVariables false
set_option maxRecDepth 8000

/-- Half swept. -/
structure Swp (w v : World) (d : PlD) (s r : Nat) (n : Int) (A : List Int) (GA : List Nat) (Fl : List Bool) (R : List Run2) (st en i : Int) (op : Option Addr) (on oc : Nat) (m : Int) : Prop where
  lo : st ≤ i
  hi : i ≤ en
  old : ∃ old, RowAt v op on oc old (d.F s) ∧ RunsOk st en old ∧ (∀ q ∈ old, i < q.1 + q.2) ∧ ∀ k, i ≤ k → (isFree old k ↔ isFree R k)
  pool : ∃ sl rs F1 G, Pl v (d.put s st sl rs F1) ∧ RunsOk st i rs ∧ (rs.length : Int) ≤ i ∧ (∀ k : Int, isFree rs k ↔ st ≤ k ∧ k < i ∧ (at? Fl k.toNat = true ∨ k.tmod n = 0)) ∧ Sw v r n (A ++ askI Fl st.toNat (i - st).toNat) G ∧ Since F1 w ∧ Sub (r :: G) (r :: GA) w ∧ Dis (r :: G) F1
  m : m = cnt (goes Fl n) st.toNat (i - st).toNat
  U : Upd (d.G ++ r :: GA) w v

section
variable {w : World} {d : PlD}

theorem sweep_ok {s r : Nat} {n : Int} {A : List Int} {GA : List Nat} {Fl : List Bool} {K : Int → World → Prop} (h : Pl w d) (ok : PlOk d) (hs : s < d.L.length) (hn : 1 ≤ n) (hsw : Sw w r n A GA) (hdis : Dis (r :: GA) d.FT) (hA : A.length ≤ 2 ^ 21)
    (hFl : ∀ k : Int, d.L[s].start ≤ k → k < endOf d.L d.top s → (at? Fl k.toNat = true ↔ isFree d.L[s].runs k))
    (hK : ∀ w' sl rs F1 G, Pl w' (d.put s d.L[s].start sl rs F1) → RunsOk d.L[s].start (endOf d.L d.top s) rs → (∀ k : Int, isFree rs k ↔ d.L[s].start ≤ k ∧ k < endOf d.L d.top s ∧ (at? Fl k.toNat = true ∨ k.tmod n = 0)) → Sw w' r n (A ++ askI Fl d.L[s].start.toNat (endOf d.L d.top s - d.L[s].start).toNat) G →
      Upd (d.G ++ r :: GA) w w' → Since F1 w → Sub (r :: G) (r :: GA) w → Dis (r :: G) F1 → K (cnt (goes Fl n) d.L[s].start.toNat (endOf d.L d.top s - d.L[s].start).toNat) w') :
    C_pool_Pool_sweep d.a s (.func (.func 52) #[.pointer (some ⟨r, 0, none⟩)] #[]) w K := by
  apply C_pool_Pool_sweep.of
  unfold F_pool_Pool_sweep F_pool_Pool_sweep_L1
  have hlen := ok.len
  have hln := h.len
  have h0 := ok.start0 hs
  have h1 := start_endOf ok hs
  have h2 := endOf_le ok s
  have h3 := ok.top
  have h4 := ok.lim
  have hro := ok.ok s hs
  obtain ⟨st, hst⟩ : ∃ st, st = d.L[s].start := ⟨_, rfl⟩
  obtain ⟨en, hen⟩ : ∃ en, en = endOf d.L d.top s := ⟨_, rfl⟩
  obtain ⟨lb, off, hp, hG, c0, c1⟩ := h.cell hs
  have hL : w.cell? ⟨d.b, 0, none⟩ = some (.slice d.p d.n d.c) := by rw [h.blk.cell]; rfl
  have ep : ∀ Q, NN d.p Q = NN (some ⟨lb, off, none⟩) Q := fun Q => by rw [hp]
  have hda : d.a = some ⟨d.b, 0, none⟩ := rfl
  have eN : NN d.a = NN (some ⟨d.b, 0, none⟩) := rfl
  rw [eN]
  simp only [NN_some, addN, Nat.zero_add, Nat.add_zero, hL, exS, ep, Int.toNat_natCast, c1]
  refine ⟨by omega, by omega, ?_⟩
  refine h.setRuns2 (sl := (none, 0, 0)) (rs := []) (F1 := []) hs hp hG (Upd.refl _ _) (SlAt.nil _ _) (by intro x hx; cases hx) fun w1 q1 u1 => ?_
  have hold1 := SlAt.upd (h.runs s hs) u1 (h.GF s).symm
  have hs1 : s < (d.put s d.L[s].start (none, 0, 0) [] []).L.length := by show s < (d.L.set s _).length; simpa using hs
  obtain ⟨lb', off', hp', _, k0, _⟩ := q1.cell hs1
  have hp' : d.p = some ⟨lb', off', none⟩ := hp'
  rw [hp] at hp'; simp at hp'
  obtain ⟨rfl, rfl⟩ := hp'
  have est : (d.put s d.L[s].start (none, 0, 0) [] []).L[s] = ⟨d.L[s].start, (none, 0, 0), []⟩ := by simp [PlD.put]
  rw [est] at k0
  simp only [k0, exI]
  rw [← hst] at hFl hK h0 h1 hro q1 ⊢
  rw [← hen] at hFl hK h1 h2 hro
  have GAd : Dis (r :: GA) d.G := fun k hk hx => hdis k hk (h.iG k hx)
  have hsw1 := hsw.upd u1 GAd
  refine ⟨fun t v => Swp w v d s r n A GA Fl d.L[s].runs st en t.atx t.oldP t.oldN t.oldC t.n, fun t _ => (en - t.atx).toNat, ⟨Int.le_refl _, h1, ⟨d.L[s].runs, hold1, hro, fun q hq => by have := hro.within q hq; show st < _; omega, fun k _ => Iff.rfl⟩,
    ⟨(none, 0, 0), [], [], GA, q1, RunsOk.nil _ _, by simpa using h0, fun k => Iff.intro (fun hf => by obtain ⟨q, hq, _⟩ := hf; cases hq) (fun hf => by obtain ⟨e1, e2, _⟩ := hf; dsimp only at e2; omega), by simpa [askI] using hsw1, by (intro k hk; cases hk), Sub.refl _ _, by (intro k _ hk; cases hk)⟩, by simp [cnt], u1.mono fun k hk => .inl (List.mem_append.2 (.inl hk))⟩, ?_⟩
  rintro ⟨op, on, oc, m, i⟩ v ⟨lo, hi, ⟨old, ho, hoo, hoe, hof⟩, ⟨sl, rs, F1, G, q, hr, hrl, hrf, hw, f1, gs, gd⟩, hm, U⟩
  dsimp only at lo hi ho hoo hoe hof q hr hrl hrf hw hm
  unfold B_pool_Pool_sweep_L1
  dsimp only
  have hF0 : ∀ k ∈ d.F s, k < w.heap.size := fun k hk => h.inn k (h.iF s k hk)
  have hsz := U.size
  have eend : endOf (d.put s st sl rs F1).L (d.put s st sl rs F1).top s = en := by
    rw [hen]; exact endOf_set (y := ⟨st, sl, rs⟩) hs hst s
  have hlp : (d.put s st sl rs F1).L.length = d.L.length := by show (d.L.set s _).length = _; simp
  have hFT : (d.put s st sl rs F1).FT = d.FT ++ F1 := rfl
  have hFs : (d.put s st sl rs F1).F s = F1 := by show (if s = s then F1 else d.F s) = F1; rw [if_pos rfl]
  have eg : (d.put s st sl rs F1).L[s]'(by omega) = ⟨st, sl, rs⟩ := by simp [PlD.put]
  have gFT : Dis (d.FT ++ F1) (r :: G) := fun k hk hx => by
    rcases List.mem_append.1 hk with hk | hk
    · rcases gs k hx with e | e
      · exact hdis k e hk
      · have := h.inn k hk; omega
    · exact gd k hx hk
  refine PEnd_ok (d := d.put s st sl rs F1) q (by omega) (by omega) ?_
  rw [eend]
  refine ifC (fun hc => ?_) (fun hc => ?_)
  · simp at hc
    -- a step
    have next : ∀ {v' : World} {op' : Option Addr} {on' oc' : Nat} {old' : List Run2} {sl' : Sl} {rs' : List Run2} {F1' G' : List Nat} {m' : Int}, RowAt v' op' on' oc' old' (d.F s) → RunsOk st en old' → (∀ q ∈ old', i + 1 < q.1 + q.2) → (∀ k, i + 1 ≤ k → (isFree old' k ↔ isFree d.L[s].runs k)) →
        Pl v' (d.put s st sl' rs' F1') → RunsOk st (i + 1) rs' → (rs'.length : Int) ≤ i + 1 → (∀ k : Int, isFree rs' k ↔ st ≤ k ∧ k < i + 1 ∧ (at? Fl k.toNat = true ∨ k.tmod n = 0)) → Sw v' r n (A ++ askI Fl st.toNat (i + 1 - st).toNat) G' → Since F1' w → Sub (r :: G') (r :: GA) w → Dis (r :: G') F1' →
        m' = cnt (goes Fl n) st.toNat (i + 1 - st).toNat → Upd (d.G ++ r :: GA) w v' →
        F_pool_Pool_sweep_k6 ⟨op, on, oc, m, i⟩ (fun t v => Swp w v d s r n A GA Fl d.L[s].runs st en t.atx t.oldP t.oldN t.oldC t.n ∧ (en - t.atx).toNat < (en - i).toNat) op' on' oc' m' v' := by
      intro v' op' on' oc' old' sl' rs' F1' G' m' z1 z2 z3 z4 z5 z6 z7 z8 z9 z10 z11 z12 z13 z14
      unfold F_pool_Pool_sweep_k6
      dsimp only
      rw [i64id (by omega) (by omega)]
      exact ⟨⟨by omega, by omega, ⟨old', z1, z2, z3, z4⟩, ⟨sl', rs', F1', G', z5, z6, z7, z8, z9, z10, z11, z12⟩, z13, z14⟩, by omega⟩
    have eA : askI Fl st.toNat (i + 1 - st).toNat = askI Fl st.toNat (i - st).toNat ++ if at? Fl i.toNat then [] else [i] := by
      rw [show (i + 1 - st).toNat = (i - st).toNat + 1 by omega]
      simp only [askI]
      rw [show st.toNat + (i - st).toNat = i.toNat by omega, show ((i.toNat : Nat) : Int) = i by omega]
    have eC' : cnt (goes Fl n) st.toNat (i + 1 - st).toNat = m + if goes Fl n i.toNat then 1 else 0 := by
      rw [show (i + 1 - st).toNat = (i - st).toNat + 1 by omega, hm]
      simp only [cnt]
      rw [show st.toNat + (i - st).toNat = i.toNat by omega]
    have egoes : goes Fl n i.toNat = (!at? Fl i.toNat && decide (i.tmod n = 0)) := by
      unfold goes
      rw [show ((i.toNat : Nat) : Int) = i by omega]
    have hcb := cnt_le (goes Fl n) st.toNat (i - st).toNat
    obtain ⟨r1, r2, r3⟩ := addR_ok hr lo
    have hal := askI_len Fl st.toNat (i - st).toNat
    -- it is added
    have added : ∀ {v1 : World} {op' : Option Addr} {on' oc' : Nat} {old' : List Run2} {G1 : List Nat} {m' : Int}, RowAt v1 op' on' oc' old' (d.F s) → RunsOk st en old' → (∀ q ∈ old', i + 1 < q.1 + q.2) → (∀ k, i + 1 ≤ k → (isFree old' k ↔ isFree d.L[s].runs k)) →
        Pl v1 (d.put s st sl rs F1) → (at? Fl i.toNat = true ∨ i.tmod n = 0) → Sw v1 r n (A ++ askI Fl st.toNat (i + 1 - st).toNat) G1 → Sub (r :: G1) (r :: GA) w → Dis (r :: G1) F1 → m' = cnt (goes Fl n) st.toNat (i + 1 - st).toNat → Upd (d.G ++ r :: GA) w v1 →
        C_pool_segment_add (some ⟨lb, off + s * 2, none⟩) i v1 fun w1_6 => F_pool_Pool_sweep_k6 ⟨op, on, oc, m, i⟩ (fun t v => Swp w v d s r n A GA Fl d.L[s].runs st en t.atx t.oldP t.oldN t.oldC t.n ∧ (en - t.atx).toNat < (en - i).toNat) op' on' oc' m' w1_6 := by
      intro v1 op' on' oc' old' G1 m' z1 z2 z3 z4 z5 zf z9 z11 z12 z13 z14
      refine Add_ok (d := d.put s st sl rs F1) (lb := lb) (off := off) (s := s) (t := i) z5 (by omega) hp ?_ ?_ (by omega) fun w2 sl2 F2 q2 u2 s2 => ?_
      · rw [eg]
        intro x hx
        have := hr.within x hx
        omega
      · rw [eg]; show rs.length ≤ _; omega
      · rw [eg] at q2
        rw [hFs] at u2 s2
        have u2 : Upd (F1 ++ d.G) v1 w2 := u2
        have q2 := Pl.slim h (Nat.le_trans z14.size u2.size) q2
        have f2 : Since F2 w := f1.step s2 z14.size
        have d1 : Dis (d.F s) (F1 ++ d.G) := fun k hk hx => by
          rcases List.mem_append.1 hx with hx | hx
          · have := f1 k hx; have := hF0 k hk; omega
          · exact h.GF s k hx hk
        have d2 : Dis (r :: G1) (F1 ++ d.G) := fun k hk hx => by
          rcases List.mem_append.1 hx with hx | hx
          · exact z12 k hk hx
          · rcases z11 k hk with e | e
            · exact GAd k e hx
            · have := h.inn k (h.iG k hx); omega
        have d3 : Dis (r :: G1) F2 := fun k hk hx => by
          rcases s2 k hx with e | e
          · exact z12 k hk e
          · have := z9.inn k hk; omega
        refine next (SlAt.upd z1 u2 d1) z2 z3 z4 q2 r1 (by show ((addR rs i).length : Int) ≤ _; omega) (fun k => ?_) (z9.upd u2 d2) f2 z11 d3 z13 (z14.trans u2 (fun k hk => .inl hk) fun k hk => ?_)
        · rw [r3 k, hrf k]
          constructor
          · rintro (⟨e1, e2, e3⟩ | rfl)
            · exact ⟨e1, by omega, e3⟩
            · exact ⟨lo, by omega, zf⟩
          · rintro ⟨e1, e2, e3⟩
            by_cases hk : k = i
            · exact .inr hk
            · exact .inl ⟨e1, by omega, e3⟩
        · rcases List.mem_append.1 hk with hk | hk
          · exact .inr (f1 k hk)
          · exact .inl (List.mem_append.2 (.inl hk))
    have qd := q.keep (drw_upd v)
    have hwd := hw.upd (drw_upd v) (by intro k _ h; cases h)
    have Ud : Upd (d.G ++ r :: GA) w (drw v) := U.before (drw_upd v)
    have step : ∀ {fr : Bool} {op' : Option Addr} {on' oc' : Nat} {old' : List Run2}, fr = at? Fl i.toNat → RowAt (drw v) op' on' oc' old' (d.F s) → RunsOk st en old' → (∀ q ∈ old', i + 1 < q.1 + q.2) → (∀ k, i + 1 ≤ k → (isFree old' k ↔ isFree d.L[s].runs k)) →
        If (!fr) (CallV Try.prog (.func (.func 52) #[.pointer (some ⟨r, 0, none⟩)] #[]) [.int .i64 i] (drw v) fun v w1_3 => ∃ t69 : Bool, v = (.bool t69) ∧
          If t69 (F_pool_Pool_sweep_k6 ⟨op, on, oc, m, i⟩ (fun t v => Swp w v d s r n A GA Fl d.L[s].runs st en t.atx t.oldP t.oldN t.oldC t.n ∧ (en - t.atx).toNat < (en - i).toNat) op' on' oc' m w1_3)
            (If (!fr) (C_pool_segment_add (some ⟨lb, off + s * 2, none⟩) i w1_3 fun w1_6 => F_pool_Pool_sweep_k6 ⟨op, on, oc, m, i⟩ (fun t v => Swp w v d s r n A GA Fl d.L[s].runs st en t.atx t.oldP t.oldN t.oldC t.n ∧ (en - t.atx).toNat < (en - i).toNat) op' on' oc' (IntKind.i64.wrap (m + 1)) w1_6)
              (C_pool_segment_add (some ⟨lb, off + s * 2, none⟩) i w1_3 fun w1_6 => F_pool_Pool_sweep_k6 ⟨op, on, oc, m, i⟩ (fun t v => Swp w v d s r n A GA Fl d.L[s].runs st en t.atx t.oldP t.oldN t.oldC t.n ∧ (en - t.atx).toNat < (en - i).toNat) op' on' oc' m w1_6)))
          (If (!fr) (C_pool_segment_add (some ⟨lb, off + s * 2, none⟩) i (drw v) fun w1_6 => F_pool_Pool_sweep_k6 ⟨op, on, oc, m, i⟩ (fun t v => Swp w v d s r n A GA Fl d.L[s].runs st en t.atx t.oldP t.oldN t.oldC t.n ∧ (en - t.atx).toNat < (en - i).toNat) op' on' oc' (IntKind.i64.wrap (m + 1)) w1_6)
              (C_pool_segment_add (some ⟨lb, off + s * 2, none⟩) i (drw v) fun w1_6 => F_pool_Pool_sweep_k6 ⟨op, on, oc, m, i⟩ (fun t v => Swp w v d s r n A GA Fl d.L[s].runs st en t.atx t.oldP t.oldN t.oldC t.n ∧ (en - t.atx).toNat < (en - i).toNat) op' on' oc' m w1_6)) := by
      intro fr op' on' oc' old' hfr z1 z2 z3 z4
      cases fr with
      | false =>
        rw [← hfr] at eA egoes
        simp only [Bool.false_eq_true, if_false, Bool.not_false, Bool.true_and] at eA egoes
        refine ifT rfl (Live_ok hwd (by omega) (by rw [List.length_append]; omega) fun v2 G2 hw2 u2 s2 => ⟨_, rfl, ?_⟩)
        rw [List.append_assoc, ← eA] at hw2
        have z1' : RowAt v2 op' on' oc' old' (d.F s) := SlAt.upd z1 u2 fun k hk => gFT k (List.mem_append.2 (.inl (h.iF s k hk)))
        have q2 : Pl v2 (d.put s st sl rs F1) := qd.upd u2 gFT
        have gs2 : Sub (r :: G2) (r :: GA) w := fun k hk => by
          rcases s2 k hk with e | e
          · exact gs k e
          · have e : v.heap.size ≤ k := e
            right; omega
        have gd2 : Dis (r :: G2) F1 := fun k hk hx => by
          rcases s2 k hk with e | e
          · exact gd k e hx
          · have e : v.heap.size ≤ k := e
            have := q.inn k (by show k ∈ d.FT ++ F1; simp [hx]); omega
        have U2 : Upd (d.G ++ r :: GA) w v2 := Ud.trans u2 (fun k hk => .inl hk) fun k hk => (gs k hk).imp (fun e => List.mem_append.2 (.inr e)) (fun e => e)
        refine ifC (fun hc2 => ?_) (fun hc2 => ifT rfl ?_)
        · have hc2 : i.tmod n ≠ 0 := by simpa using hc2
          refine next z1' z2 z3 z4 q2 (hr.wide (Int.le_refl _) (by omega)) (by omega) (fun k => ?_) hw2 f1 gs2 gd2 ?_ U2
          · rw [hrf k]
            constructor
            · rintro ⟨e1, e2, e3⟩; exact ⟨e1, by omega, e3⟩
            · rintro ⟨e1, e2, e3⟩
              by_cases hk : k = i
              · subst hk
                rw [← hfr] at e3
                rcases e3 with e3 | e3
                · cases e3
                · exact absurd e3 hc2
              · exact ⟨e1, by omega, e3⟩
          · rw [eC', egoes, decide_eq_false hc2]; simp
        · have hc2 : i.tmod n = 0 := by simpa using hc2
          refine added z1' z2 z3 z4 q2 (.inr hc2) hw2 gs2 gd2 ?_ U2
          rw [eC', egoes, decide_eq_true hc2, i64id (by omega) (by omega)]; simp
      | true =>
        rw [← hfr] at eA egoes
        simp only [if_true, List.append_nil, Bool.not_true, Bool.false_and] at eA egoes
        refine ifF rfl (ifF rfl ?_)
        refine added z1 z2 z3 z4 qd (.inl hfr.symm) (by rw [eA]; exact hwd) gs gd ?_ Ud
        rw [eC', egoes]; simp
    have hod : RowAt (drw v) op on oc old (d.F s) := SlAt.drw ho
    have hnl := RowAt.len ho
    have hfi := hFl i lo hc
    refine ifC (fun hc2 => ?_) (fun hc2 => ?_)
    · have hn0 : 0 < on := by simpa using hc2
      obtain ⟨o1, ot, rfl⟩ : ∃ o1 ot, old = o1 :: ot := by
        cases old with
        | nil => simp at hnl; omega
        | cons o1 ot => exact ⟨o1, ot, rfl⟩
      obtain ⟨bo, oo, hpo, kA, kL⟩ := RowAt.get ho (i := 0) (by simp)
      simp only [Nat.zero_mul, Nat.add_zero, List.getElem_cons_zero] at kA kL
      have epo : ∀ Q, NN op Q = NN (some ⟨bo, oo, none⟩) Q := fun Q => by rw [hpo]
      simp only [epo, NN_some, addN, Int.toNat_zero, Nat.zero_mul, Nat.add_zero, drw_cell, kA, kL, exI]
      have hw1 := hoo.within o1 (by simp)
      have he1 := hoe o1 (by simp)
      have hpw := (List.pairwise_cons.1 hoo.apart).1
      have hfr : decide (o1.1 ≤ i) = at? Fl i.toNat := by
        have e1 : isFree (o1 :: ot) i ↔ o1.1 ≤ i := by
          rw [isFree_cons]
          constructor
          · rintro (e | ⟨x, hx, e, _⟩)
            · exact e.1
            · have := hpw x hx; omega
          · exact fun e => .inl ⟨e, he1⟩
        have e2 := hof i (Int.le_refl _)
        rw [Bool.eq_iff_iff, decide_eq_true_eq, ← e1, e2, hfi]
      refine ⟨by omega, by omega, ifC (fun hc3 => ?_) (fun hc3 => ?_)⟩
      · have hc3 : o1.1 ≤ i := by simpa using hc3
        rw [i64id (x := o1.1 + o1.2) (by omega) (by omega), i64id (x := o1.1 + o1.2 - 1) (by omega) (by omega)]
        refine ⟨by omega, by omega, by omega, by omega, ifC (fun hc4 => ?_) (fun hc4 => ?_)⟩
        · have hc4 : o1.1 + o1.2 - 1 = i := by simpa using hc4
          refine ⟨by omega, by omega, ?_⟩
          have hdr := hod.drop (k := 1) (by omega)
          have e6 : ((o1 :: ot).flatMap eC).drop (1 * 2) = ot.flatMap eC := by simp [eC]
          rw [e6] at hdr
          have htl := hoo.tail
          exact step (fr := decide (o1.1 ≤ i)) hfr hdr (htl.wide (by omega) (Int.le_refl _)) (fun x hx => by have := hpw x hx; have := htl.within x hx; omega) fun k hk => by
            rw [← hof k (by omega), isFree_cons]
            constructor
            · exact fun e => .inr e
            · rintro (e | e)
              · omega
              · exact e
        · have hc4 : ¬ o1.1 + o1.2 - 1 = i := by simpa using hc4
          exact step (fr := decide (o1.1 ≤ i)) hfr hod hoo (fun x hx => by
            rcases List.mem_cons.1 hx with rfl | hx
            · omega
            · have := hpw x hx; have := hoo.within x (by simp [hx]); omega) fun k hk => hof k (by omega)
      · have hc3 : ¬ o1.1 ≤ i := by simpa using hc3
        exact step (fr := decide (o1.1 ≤ i)) hfr hod hoo (fun x hx => by
            rcases List.mem_cons.1 hx with rfl | hx
            · omega
            · have := hpw x hx; have := hoo.within x (by simp [hx]); omega) fun k hk => hof k (by omega)
    · have hn0 : on = 0 := by simp at hc2; omega
      have : old = [] := by
        have : old.length = 0 := by omega
        simpa using this
      subst this
      have hfr : false = at? Fl i.toNat := by
        cases hb : at? Fl i.toNat with
        | false => rfl
        | true =>
          have := (hof i (Int.le_refl _)).2 (hfi.1 hb)
          obtain ⟨x, hx, _⟩ := this
          cases hx
      exact step (fr := false) hfr hod hoo (fun x hx => by cases hx) fun k hk => hof k (by omega)
  · simp at hc
    obtain rfl : i = en := by omega
    rw [hm]
    exact hK v sl rs F1 G q hr hrf hw U f1 gs gd

end

end Go.Proofs.Ytcgnligpjfhjlaa
