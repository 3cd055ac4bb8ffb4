/- The document's stack beside the program's: what makes them alike; chains, and which record a base is. -/
import Derived.Test.YtdmjbkpibgfeiaaTwin4
namespace Go.Proofs.Ytdmjbkpibgfeiaa
open Go Go.D Go.Proofs
set_option linter.unusedSimpArgs false
set_option linter.unusedVariables false
set_option maxRecDepth 8000

def eIdx (φ : Int → Nat) (e : Int) : Int := if e < 0 then -1 else (φ e : Int)

theorem eIdx_neg {φ : Int → Nat} {e : Int} (h : e < 0) : eIdx φ e = -1 := by unfold eIdx; rw [if_pos h]
theorem eIdx_pos {φ : Int → Nat} {e : Int} (h : 0 ≤ e) : eIdx φ e = (φ e : Int) := by unfold eIdx; rw [if_neg (by omega)]

def noRec : Sl × Ch := ((none, 0, 0), ⟨0, 0, 0, 0, 0, 0, 0, 0, []⟩)
def er (t : TwD) (i : Nat) : Sl × Ch := (t.E[i]?).getD noRec

theorem er_eq {t : TwD} {i : Nat} (h : i < t.E.length) : er t i = t.E[i] := by unfold er; rw [List.getElem?_eq_getElem h]; rfl

structure Sim (d : FrD) (cur : List Int) (lev : List Level) (t : TwD) (φ : Int → Nat) : Prop where
  node : ∀ b, Node ((cur, d.env, d.top) :: lev) b → φ b < t.E.length ∧ (er t (φ b)).2 = { frameOf d.W b with top := eIdx φ (prevOf d.W b) }
  cur : t.cur = eIdx φ d.env
  cs : t.C.map (·.1.2) = d.cs
  ix : t.C.map (·.2) = d.cs.map (fun c => eIdx φ c.env)
  words : t.words = d.wlim
  lim : t.lim = d.lim

section
variable {w : World} {d : FrD} {cur : List Int} {lev : List Level} {t : TwD} {φ : Int → Nat}

theorem RdFr.make {p : Option Addr} {n c : Nat} {L : List (Sl × Ch)} {G : List Nat} (hs : SlAt w 4 p n c (L.flatMap frCells) G) (hr : ∀ x ∈ L, x.2.args.length < 2 ^ 40 ∧ Rd w 1 x.1.1 x.1.2.1 (x.2.args.map (.int .u64))) : RdFr w p n (L.map (·.2)) := by
  have hn : n = L.length := by have := hs.1; rw [flat_len frCells_len] at this; omega
  refine ⟨by rw [List.length_map]; exact hn, fun i hi => ?_⟩
  rw [List.length_map] at hi
  obtain ⟨h1, h2⟩ := hr _ (List.getElem_mem hi)
  simp only [List.getElem_map]
  refine ⟨h1, ?_⟩
  rcases hs.2.2 with ⟨_, hc, _⟩ | ⟨b, off, arr, hp, hG2, hb, hsz, hc⟩
  · have := hs.2.1; omega
  have hcell : ∀ j, j < 4 → w.cell? ((⟨b, off, none⟩ : Addr).add (i * 4 + j)) = (frCells L[i])[j]? := fun j hj => by
    rw [addN, hb.cell, hc _ (by omega), flat_at frCells_len hi hj]
  exact ⟨⟨b, off, none⟩, L[i].1.1, L[i].1.2.1, L[i].1.2.2, hp, hcell 0 (by omega), hcell 1 (by omega), hcell 2 (by omega), hcell 3 (by omega), h2⟩

/-- What is told of frames does not speak of their previous ones. -/
theorem RdFr.like {p : Option Addr} {n : Nat} {l l' : List Ch} (h : RdFr w p n l) (hl : l'.length = l.length) (he : ∀ i (hi : i < l.length) (hi' : i < l'.length), l'[i].env = l[i].env ∧ l'[i].c2 = l[i].c2 ∧ l'[i].c3 = l[i].c3 ∧ l'[i].args = l[i].args) : RdFr w p n l' := by
  refine ⟨by rw [hl]; exact h.1, fun i hi => ?_⟩
  obtain ⟨e1, e2, e3, e4⟩ := he i (by omega) hi
  rw [e1, e2, e3, e4]
  exact h.2 i (by omega)

def baseAt (t : TwD) (n : Int) : Nat := if n < 0 then 0 else ((er t n.toNat).2.env + 1).toNat

theorem RChain_ok {e hi : Int} {xs : List Int} {K : Option Addr → Nat → Nat → World → Prop} (h : Tw w t) (sim : Sim d cur lev t φ) (hc : ChainL d.W xs e hi) (hx : ∀ x ∈ xs, Node ((cur, d.env, d.top) :: lev) x) (hW : d.W.length < 2 ^ 40) (hxl : xs.length < 2 ^ 30)
    (hK : ∀ p n c w', RdFr w' p n (xs.map (frameOf d.W)) → Tw w' t → Upd [] w w' → K p n c w') : C_ref22_Stack_Chain t.a (eIdx φ e) w K := by
  apply C_ref22_Stack_Chain.of
  unfold F_ref22_Stack_Chain F_ref22_Stack_Chain_L1
  refine ⟨fun s v => ∃ (pre suf : List Int) (e' hi' : Int) (G : List Nat), xs = pre ++ suf ∧ s.n_1 = eIdx φ e' ∧ ChainL d.W suf e' hi' ∧ SlAt v 4 s.outP s.outN s.outC ((pre.map fun b => er t (φ b)).flatMap frCells) G ∧ Upd [] w v ∧ Since G w, fun s _ => baseAt t s.n_1, ⟨[], xs, e, hi, [], rfl, rfl, hc, SlAt.nil _ _, Upd.refl _ _, by intro k hk; cases hk⟩, ?_⟩
  rintro ⟨n1, oP, oN, oC⟩ v ⟨pre, suf, e', hi', G, hxs, hn1, hc', hs, uv, sG⟩
  unfold B_ref22_Stack_Chain_L1
  dsimp only at hn1 hs ⊢
  have Tv := h.keep uv
  have hon : oN = pre.length := by have := hs.1; rw [flat_len frCells_len, List.length_map] at this; omega
  rcases suf with _ | ⟨b, suf⟩
  · have he' : e' = -1 := hc'
    rw [eIdx_neg (by omega)] at hn1
    refine ifF (by rw [hn1]; rfl) ?_
    rw [List.append_nil] at hxs
    subst hxs
    refine hK _ _ _ v ((RdFr.make hs fun x hx' => ?_).like (by simp) fun i h1 h2 => ?_) Tv uv
    · obtain ⟨b, hb, rfl⟩ := List.mem_map.1 hx'
      obtain ⟨hl, hr⟩ := sim.node b (hx b hb)
      rw [er_eq hl]
      obtain ⟨H1, hs1, _⟩ := Tv.argE.get (φ b) hl
      rw [er_eq hl] at hr
      refine ⟨?_, hs1.rd⟩
      rw [hr]
      show (rowOf d.W b).length < _
      unfold rowOf
      simp; omega
    · simp only [List.length_map] at h1 h2
      simp only [List.getElem_map]
      obtain ⟨hl, hr⟩ := sim.node _ (hx _ (List.getElem_mem h1))
      rw [hr]
      exact ⟨rfl, rfl, rfl, rfl⟩
  · obtain ⟨rfl, h0, h1, h2, h3⟩ := hc'
    have hbx : b ∈ xs := by rw [hxs]; simp
    obtain ⟨hl, hr⟩ := sim.node b (hx b hbx)
    rw [eIdx_pos h0] at hn1
    subst hn1
    obtain ⟨bb, off, hp, _, x0, x1, x2, x3, x4⟩ := Tv.e5 hl
    simp only [TwD.a, NN_some, addN, drw_cell, drw_heap, exS, exI, exB, exP, exM, exStr, exV, a0, a1, a2, a3, a4, a5, a6, a7, a8, a9, a10, a11, a12, a13, maxI_eq, Nat.zero_add, Nat.add_zero, Nat.mul_one, Option.isNone_some, Option.isNone_none, Tv.blk.cell, hp, Int.toNat_natCast, x0, x2, x3, x4]
    refine ifT (by simp) ⟨by omega, by omega, by omega, by omega, by omega, by omega, ?_⟩
    have ud := drw_upd v
    refine BSlP_rule (hE := eS_38) [.agg (frCells (t.E[φ b])).toArray] rfl (by simp [Value.cells, frCells]) rfl (by simp) fun w1 hs1 _ u1 => ?_
    have e1 : ([Value.agg (frCells (t.E[φ b])).toArray].flatMap fun v => v.cells.toList) = [t.E[φ b]].flatMap frCells := by simp [Value.cells]
    rw [e1] at hs1
    have hple : pre.length < 2 ^ 30 := by rw [hxs] at hxl; simp at hxl; omega
    refine App_rule (hE := eS_38) ((hs.upd ud (by intro k _ h; cases h)).upd u1 (by intro k _ h; cases h)) hs1 (by simp [frCells, Value.oneCell']) (by simp; omega) fun p2 c2 G2 w2 hs2 u2 s2 => ?_
    have U1 : Upd [] w w1 := uv.after (ud.after u1)
    have U2 : Upd [] w w2 := U1.fresh u2 sG
    have T2 := h.keep U2
    obtain ⟨b2, off2, hp2, _, y0, y1, _⟩ := T2.e5 hl
    rw [hp] at hp2; cases hp2
    simp only [TwD.a, NN_some, addN, drw_cell, drw_heap, exS, exI, exB, exP, exM, exStr, exV, a0, a1, a2, a3, a4, a5, a6, a7, a8, a9, a10, a11, a12, a13, maxI_eq, Nat.zero_add, Nat.add_zero, Nat.mul_one, Option.isNone_some, Option.isNone_none, T2.blk.cell, hp, Int.toNat_natCast, y1]
    rw [er_eq hl] at hr
    refine ⟨by omega, by omega, ⟨pre ++ [b], suf, prevOf d.W b, b, G2, by rw [hxs]; simp, by rw [hr], h3, ?_, U2, sG.step s2 U1.size⟩, ?_⟩
    · rw [List.map_append, List.flatMap_append, List.map_cons, List.map_nil, er_eq hl]
      exact hs2
    · rw [hr]
      dsimp only
      unfold baseAt
      rw [if_neg (show ¬ ((φ b : Nat) : Int) < 0 by omega), Int.toNat_natCast, er_eq hl, hr]
      show _ < (b + 1).toNat
      by_cases hpn : prevOf d.W b < 0
      · rw [eIdx_neg hpn, if_pos (by omega)]; omega
      · rw [eIdx_pos (by omega), if_neg (by omega), Int.toNat_natCast]
        rcases suf with _ | ⟨b', suf⟩
        · have : prevOf d.W b = -1 := h3
          omega
        · obtain ⟨q1, q2, q3, q4, _⟩ := h3
          have hb' : b' ∈ xs := by rw [hxs]; simp
          have hr' := (sim.node b' (hx b' hb')).2
          rw [← q1, hr']
          show (b' + 1).toNat < _
          omega

/-- One chain is gone along. -/
theorem walkAt {e hi base : Int} {xs : List Int} {sp : Option Addr} {sn sc : Nat} {i2 : Int} {Kx : World → Prop} {Kr : Int → World → Prop} (h : Tw w t) (sim : Sim d cur lev t φ) (hc : ChainL d.W xs e hi) (hx : ∀ x ∈ xs, Node ((cur, d.env, d.top) :: lev) x)
    (hno : base ∉ xs → Kx w) (hyes : base ∈ xs → Kr (φ base) w) : F_ref22_Stack_At_L3 t.a base sp sn sc i2 ⟨eIdx φ e⟩ w Kx Kr := by
  unfold F_ref22_Stack_At_L3
  refine ⟨fun s v => v = w ∧ ∃ (pre suf : List Int) (e' hi' : Int), xs = pre ++ suf ∧ s.n = eIdx φ e' ∧ ChainL d.W suf e' hi' ∧ base ∉ pre, fun s _ => baseAt t s.n, ⟨rfl, [], xs, e, hi, rfl, rfl, hc, by simp⟩, ?_⟩
  rintro ⟨n1⟩ v ⟨rfl, pre, suf, e', hi', hxs, hn1, hc', hpre⟩
  unfold B_ref22_Stack_At_L3
  dsimp only at hn1 ⊢
  rcases suf with _ | ⟨b, suf⟩
  · have he' : e' = -1 := hc'
    rw [eIdx_neg (by omega)] at hn1
    refine ifF (by rw [hn1]; rfl) ?_
    rw [List.append_nil] at hxs
    subst hxs
    exact hno hpre
  · obtain ⟨rfl, h0, h1, h2, h3⟩ := hc'
    have hbx : b ∈ xs := by rw [hxs]; simp
    obtain ⟨hl, hr⟩ := sim.node b (hx b hbx)
    rw [eIdx_pos h0] at hn1
    subst hn1
    obtain ⟨bb, off, hp, _, x0, x1, x2, x3, x4⟩ := h.e5 hl
    rw [er_eq hl] at hr
    simp only [TwD.a, NN_some, addN, drw_cell, drw_heap, exS, exI, exB, exP, exM, exStr, exV, a0, a1, a2, a3, a4, a5, a6, a7, a8, a9, a10, a11, a12, a13, maxI_eq, Nat.zero_add, Nat.add_zero, Nat.mul_one, Option.isNone_some, Option.isNone_none, h.blk.cell, hp, Int.toNat_natCast, x0, x1]
    have henv : (t.E[φ b]).2.env = b := by rw [hr]; rfl
    refine ifT (by simp) ⟨by omega, by omega, ifC (fun g => ?_) fun g => ⟨by omega, by omega, ⟨⟨trivial, pre ++ [b], suf, prevOf d.W b, b, by rw [hxs]; simp, by rw [hr], h3, ?_⟩, ?_⟩⟩⟩
    · rw [henv] at g
      simp at g
      subst g
      exact hyes hbx
    · rw [henv] at g
      simp at g
      simp [hpre]; omega
    · rw [hr]
      dsimp only
      unfold baseAt
      rw [if_neg (show ¬ ((φ b : Nat) : Int) < 0 by omega), Int.toNat_natCast, er_eq hl, hr]
      show _ < (b + 1).toNat
      by_cases hpn : prevOf d.W b < 0
      · rw [eIdx_neg hpn, if_pos (by omega)]; omega
      · rw [eIdx_pos (by omega), if_neg (by omega), Int.toNat_natCast]
        rcases suf with _ | ⟨b', suf⟩
        · have : prevOf d.W b = -1 := h3
          omega
        · obtain ⟨q1, q2, q3, q4, _⟩ := h3
          have hb' : b' ∈ xs := by rw [hxs]; simp
          have hr' := (sim.node b' (hx b' hb')).2
          rw [← q1, hr']
          show (b' + 1).toNat < _
          omega

theorem Sim.starts (sim : Sim d cur lev t φ) : t.cur :: t.C.map (·.2) = d.starts.map (eIdx φ) := by
  unfold FrD.starts
  rw [List.map_cons, sim.cur, sim.ix]
  unfold FrD.cs
  simp

theorem Sim.clen (sim : Sim d cur lev t φ) : t.C.length = d.l.length := by
  have := congrArg List.length sim.cs
  simpa [FrD.cs] using this

open Classical in
/-- Which record a base is. -/
theorem RAt_ok {base : Int} {K : Int → World → Prop} (h : Tw w t) (ok : Ok d cur lev) (sim : Sim d cur lev t φ)
    (hK : ∀ w', Upd [] w w' → K (if Node ((cur, d.env, d.top) :: lev) base then (φ base : Int) else -1) w') : C_ref22_Stack_At t.a base w K := by
  apply C_ref22_Stack_At.of
  unfold F_ref22_Stack_At F_ref22_Stack_At_L1 F_ref22_Stack_At_L2
  have hst := sim.starts
  have hcl := sim.clen
  have h40 := ok.len40
  have hll := ok.ll
  have hlim := ok.lim
  simp only [TwD.a, NN_some, addN, drw_cell, drw_heap, exS, exI, exB, exP, exM, exStr, exV, a0, a1, a2, a3, a4, a5, a6, a7, a8, a9, a10, a11, a12, a13, maxI_eq, Nat.zero_add, Nat.add_zero, Nat.mul_one, Option.isNone_some, Option.isNone_none, h.blk.cell]
  refine BSlL_rule eS_44 [.int .i64 t.cur] (by rfl) (by simp [Value.cells]) (by rfl) (by omega) fun w1 hs1 u1 => ?_
  obtain ⟨S, hS⟩ : ∃ S, S = t.cur :: t.C.map (·.2) := ⟨_, rfl⟩
  have hSl : S.length = t.C.length + 1 := by rw [hS]; simp
  have hs1' : SlAt w1 1 (some ⟨w.heap.size, 0, none⟩) 1 1 ((S.take 1).map (.int .i64)) [w.heap.size] := by rw [hS]; simpa [Value.cells] using hs1
  refine ⟨fun s v => ∃ (i : Nat) (G : List Nat), s.i = i ∧ i ≤ t.C.length ∧ SlAt v 1 s.startsP s.startsN s.startsC ((S.take (i + 1)).map (.int .i64)) G ∧ Upd [] w v ∧ Since G w, fun s _ => (t.C.length - s.i).toNat, ⟨0, _, rfl, by omega, hs1', u1, by intro k hk; simp at hk; omega⟩, ?_⟩
  rintro ⟨sP, sN, sC, si⟩ v ⟨i, G, hi0, hi, hs, uv, sG⟩
  dsimp only at hi0 hs
  subst hi0
  unfold B_ref22_Stack_At_L1
  dsimp only
  have Tv := h.keep uv
  have hsn : sN = i + 1 := by have := hs.1; simp at this; omega
  simp only [TwD.a, NN_some, addN, drw_cell, drw_heap, exS, exI, exB, exP, exM, exStr, exV, a0, a1, a2, a3, a4, a5, a6, a7, a8, a9, a10, a11, a12, a13, maxI_eq, Nat.zero_add, Nat.add_zero, Nat.mul_one, Option.isNone_some, Option.isNone_none, Tv.blk.cell]
  refine ifC (fun g => ?_) (fun g => ?_)
  · simp at g
    obtain ⟨b, off, hp, _, hcell⟩ := Tv.ccell g
    have c9 := hcell 9 (by omega)
    simp only [cvCells, List.getElem?_cons_zero, List.getElem?_cons_succ] at c9
    simp only [hp, NN_some, addN, drw_cell, drw_heap, exS, exI, exB, exP, exM, exStr, exV, a0, a1, a2, a3, a4, a5, a6, a7, a8, a9, a10, a11, a12, a13, maxI_eq, Nat.zero_add, Nat.add_zero, Nat.mul_one, Option.isNone_some, Option.isNone_none, Int.toNat_natCast, c9]
    refine ⟨by omega, by omega, BSlL_rule eS_44 [.int .i64 t.C[i].2] (by rfl) (by simp [Value.cells]) (by rfl) (by omega) fun w2 hs2 u2 => ?_⟩
    refine App_rule (hE := eS_44) (hs.upd u2 (by intro k _ h; cases h)) hs2 (by simp [Value.cells, Value.oneCell']) (by omega) fun p3 c3 G3 w3 hs3 u3 s3 => ?_
    rw [i64id (by omega) (by omega)]
    refine ⟨⟨i + 1, G3, by simp, by omega, ?_, (uv.after u2).fresh u3 sG, sG.step s3 (uv.after u2).size⟩, by omega⟩
    have hi2 : i + 1 < S.length := by omega
    have e : S[i + 1] = t.C[i].2 := by simp only [hS, List.getElem_cons_succ, List.getElem_map]
    rw [List.take_succ_eq_append_getElem hi2, List.map_append, e]
    simpa [Value.cells] using hs3
  · simp at g
    obtain rfl : i = t.C.length := by omega
    rw [List.take_of_length_le (by omega)] at hs
    refine ⟨fun s v' => v' = v ∧ ∃ j : Nat, s.i_1 = j ∧ j ≤ S.length ∧ ∀ e ∈ d.starts.take j, ∀ z ∈ ((cur, d.env, d.top) :: lev : List Level), z.2.1 = e → base ∉ z.1, fun s _ => (S.length - s.i_1).toNat, ⟨rfl, 0, rfl, by omega, by simp⟩, ?_⟩
    rintro ⟨j0⟩ v' ⟨rfl, j, hj0, hj, hnot⟩
    dsimp only at hj0
    subst hj0
    unfold B_ref22_Stack_At_L2
    dsimp only
    have hsl : d.starts.length = S.length := by rw [hS, hst, List.length_map]
    refine ifC (fun g2 => ?_) (fun g2 => ?_)
    · simp at g2
      have hjS : j < S.length := by omega
      have hjd : j < d.starts.length := by omega
      obtain ⟨x, hxp, hxc⟩ := hs.rd.at (i := j) (by omega)
      rw [List.getElem?_map, List.getElem?_eq_getElem hjS] at hxc
      have e : S[j] = eIdx φ d.starts[j] := by
        have : S[j]? = (d.starts.map (eIdx φ))[j]? := by rw [hS, hst]
        rw [List.getElem?_eq_getElem hjS, List.getElem?_map, List.getElem?_eq_getElem hjd] at this
        simpa using this
      rw [e] at hxc
      simp only [Option.map_some] at hxc
      simp only [hxp, NN_some, addN, drw_cell, drw_heap, exS, exI, exB, exP, exM, exStr, exV, a0, a1, a2, a3, a4, a5, a6, a7, a8, a9, a10, a11, a12, a13, maxI_eq, Nat.zero_add, Nat.add_zero, Nat.mul_one, Option.isNone_some, Option.isNone_none, Int.toNat_natCast, hxc]
      refine ⟨by omega, by omega, ?_⟩
      obtain ⟨z, hz, hze⟩ := ok.start d.starts[j] (List.getElem_mem hjd)
      have hch := Lv.chain ok.lv z hz
      rw [hze] at hch
      refine walkAt Tv sim hch (fun x hx => ⟨z, hz, hx⟩) (fun hno => ?_) (fun hyes => ?_)
      · rw [i64id (by omega) (by omega)]
        refine ⟨⟨rfl, j + 1, by simp, by omega, fun e' he' z' hz' hze' => ?_⟩, by omega⟩
        rw [List.take_succ_eq_append_getElem hjd] at he'
        rcases List.mem_append.1 he' with h1 | h1
        · exact hnot e' h1 z' hz' hze'
        · simp at h1
          subst h1
          have hch' := Lv.chain ok.lv z' hz'
          rw [hze'] at hch'
          rw [hch'.same hch]
          exact hno
      · have := hK v' uv
        rw [if_pos ⟨z, hz, hyes⟩] at this
        exact this
    · simp at g2
      have hjj : j = S.length := by omega
      have hnn : ¬ Node ((cur, d.env, d.top) :: lev) base := by
        rintro ⟨z, hz, hb⟩
        refine hnot z.2.1 ?_ z hz rfl hb
        rw [List.take_of_length_le (by omega)]
        exact ok.started z hz
      have := hK v' uv
      rw [if_neg hnn] at this
      exact this
end

end Go.Proofs.Ytdmjbkpibgfeiaa
