/- A pool in memory; its segments. -/
import Derived.Test.YtcgnligpjfhjlaaRow
namespace Go.Proofs.Ytcgnligpjfhjlaa
open Go Go.D Go.Proofs
set_option linter.unusedSimpArgs false
set_option linter.unusedVariables false
set_option maxRecDepth 8000

abbrev Sl := Option Addr × Nat × Nat

/-- A segment. -/
structure Sg where
  start : Int
  sl : Sl
  runs : List Run2

def sC (x : Sg) : List Value := [.int .i64 x.start, .slice x.sl.1 x.sl.2.1 x.sl.2.2]
theorem sC_len (x : Sg) : (sC x).length = 2 := rfl

structure PlD where
  b : Nat
  p : Option Addr
  n : Nat
  c : Nat
  top : Int
  limit : Int
  L : List Sg
  G : List Nat
  F : Nat → List Nat
  FT : List Nat

def PlD.a (d : PlD) : Option Addr := some ⟨d.b, 0, none⟩

structure Pl (w : World) (d : PlD) : Prop where
  blk : Blk w d.b #[.slice d.p d.n d.c, .int .i64 d.top, .int .i64 d.limit]
  row : SlAt w 2 d.p d.n d.c (d.L.flatMap sC) d.G
  runs : ∀ i (hi : i < d.L.length), RowAt w d.L[i].sl.1 d.L[i].sl.2.1 d.L[i].sl.2.2 d.L[i].runs (d.F i)
  out : ∀ i, d.L.length ≤ i → d.F i = []
  bG : d.b ∉ d.G
  bF : ∀ i, d.b ∉ d.F i
  GF : ∀ i, Dis d.G (d.F i)
  FF : ∀ i j, i ≠ j → Dis (d.F i) (d.F j)
  ib : d.b ∈ d.FT
  iG : ∀ x ∈ d.G, x ∈ d.FT
  iF : ∀ i, ∀ x ∈ d.F i, x ∈ d.FT
  inn : In d.FT w

/-- Where a segment ends. -/
def endOf (L : List Sg) (top : Int) (i : Nat) : Int := match L[i + 1]? with | some x => x.start | none => top

/-- A pool as it should be. -/
structure PlOk (d : PlD) : Prop where
  ne : 0 < d.L.length
  len : d.L.length ≤ 4096
  first : (d.L[0]'ne).start = 0
  mono : d.L.Pairwise fun a b => a.start ≤ b.start
  le : ∀ x ∈ d.L, x.start ≤ d.top
  top : d.top ≤ d.limit
  lim : d.limit ≤ 1048576
  ok : ∀ i (hi : i < d.L.length), RunsOk d.L[i].start (endOf d.L d.top i) d.L[i].runs

theorem Pl.upd {w w' : World} {d : PlD} {X : List Nat} (h : Pl w d) (u : Upd X w w') (hd : Dis d.FT X) : Pl w' d :=
  ⟨h.blk.upd u (hd _ h.ib), h.row.upd u (fun k hk => hd k (h.iG k hk)), fun i hi => SlAt.upd (h.runs i hi) u (fun k hk => hd k (h.iF i k hk)), h.out, h.bG, h.bF, h.GF, h.FF, h.ib, h.iG, h.iF, h.inn.upd u⟩

theorem Pl.keep {w w' : World} {d : PlD} (h : Pl w d) (u : Upd [] w w') : Pl w' d := h.upd u (by intro k _ h; cases h)

theorem Pl.len {w : World} {d : PlD} (h : Pl w d) : d.n = d.L.length := by
  have := h.row.1
  rw [flat_len sC_len] at this; omega

theorem Pl.cell {w : World} {d : PlD} (h : Pl w d) {i : Nat} (hi : i < d.L.length) : ∃ lb off, d.p = some ⟨lb, off, none⟩ ∧ d.G = [lb] ∧ w.cell? ⟨lb, off + i * 2, none⟩ = some (.int .i64 d.L[i].start) ∧ w.cell? ⟨lb, off + i * 2 + 1, none⟩ = some (.slice d.L[i].sl.1 d.L[i].sl.2.1 d.L[i].sl.2.2) := by
  have hn := h.len
  rcases h.row.2.2 with ⟨_, hc, _⟩ | ⟨b, off, arr, hp, hG, hb, hs, hc⟩
  · have := h.row.2.1; omega
  · refine ⟨b, off, hp, hG, ?_, ?_⟩
    · rw [hb.cell, hc _ (by omega), ← Nat.add_zero (i * 2), flat_at sC_len hi (by omega)]; rfl
    · rw [hb.cell, Nat.add_assoc, hc _ (by omega), flat_at sC_len hi (by omega)]; rfl

theorem PlOk.start0 {d : PlD} (ok : PlOk d) {i : Nat} (hi : i < d.L.length) : 0 ≤ d.L[i].start := by
  have h := ok.first
  by_cases h0 : i = 0
  · subst h0; omega
  · have := List.pairwise_iff_getElem.1 ok.mono 0 i (by omega) hi (by omega)
    omega

theorem PlOk.top0 {d : PlD} (ok : PlOk d) : 0 ≤ d.top := by
  have := ok.le _ (List.getElem_mem ok.ne)
  have := ok.first
  omega

theorem endOf_le {d : PlD} (ok : PlOk d) (i : Nat) : endOf d.L d.top i ≤ d.top := by
  unfold endOf
  split
  · rename_i x hx
    exact ok.le x (List.mem_of_getElem? hx)
  · exact Int.le_refl _

theorem start_endOf {d : PlD} (ok : PlOk d) {i : Nat} (hi : i < d.L.length) : d.L[i].start ≤ endOf d.L d.top i := by
  unfold endOf
  split
  · rename_i x hx
    obtain ⟨hl, rfl⟩ := List.getElem?_eq_some_iff.1 hx
    exact List.pairwise_iff_getElem.1 ok.mono i (i + 1) hi hl (by omega)
  · exact ok.le _ (List.getElem_mem hi)

/-- A run's numbers are small. -/
theorem PlOk.small {d : PlD} (ok : PlOk d) {i : Nat} (hi : i < d.L.length) : ∀ r ∈ d.L[i].runs, 0 ≤ r.1 ∧ 1 ≤ r.2 ∧ r.1 + r.2 ≤ d.top ∧ d.top ≤ 1048576 := fun r hr => by
  obtain ⟨a, b, c⟩ := (ok.ok i hi).within r hr
  have := ok.start0 hi
  have := endOf_le ok i
  have := ok.top; have := ok.lim
  omega

theorem runs_len {lo hi : Int} : ∀ {rs : List Run2}, RunsOk lo hi rs → lo ≤ hi → (rs.length : Int) ≤ hi - lo
  | [], _, h => by simp; omega
  | r :: rs, h, hlh => by
    have hp := List.pairwise_cons.1 h.apart
    obtain ⟨h1, h2, h3⟩ := h.within r (by simp)
    have ih := runs_len (lo := r.1 + r.2) (hi := hi) (rs := rs) ⟨hp.2, fun x hx => by
      obtain ⟨a, b, c⟩ := h.within x (by simp [hx])
      have := hp.1 x hx
      exact ⟨by omega, b, c⟩⟩ h3
    simp; omega

theorem PlOk.rlen {d : PlD} (ok : PlOk d) {i : Nat} (hi : i < d.L.length) : d.L[i].runs.length ≤ 1048576 := by
  have h1 := runs_len (ok.ok i hi) (start_endOf ok hi)
  have := ok.start0 hi
  have := endOf_le ok i
  have := ok.top; have := ok.lim
  omega

/-- A segment's runs turned. -/
def PlD.put (d : PlD) (s : Nat) (st : Int) (sl : Sl) (rs : List Run2) (F1 : List Nat) : PlD :=
  { d with L := d.L.set s ⟨st, sl, rs⟩, F := fun i => if i = s then F1 else d.F i, FT := d.FT ++ F1 }

theorem set_same {d : PlD} {s : Nat} (hs : s < d.L.length) {rs : List Run2} : (d.L.set s ⟨d.L[s].start, d.L[s].sl, rs⟩).flatMap sC = d.L.flatMap sC := by
  rw [List.flatMap_def, List.flatMap_def]
  congr 1
  rw [List.map_set]
  apply List.ext_getElem?
  intro j
  by_cases hj : s = j
  · subst hj
    rw [List.getElem?_set_self (by simpa using hs), List.getElem?_map, List.getElem?_eq_getElem hs]; rfl
  · rw [List.getElem?_set_ne hj]

section
variable {w : World} {d : PlD}

/-- The parts lie apart still. -/
theorem Pl.put_of {w1 : World} {s : Nat} {sl : Sl} {rs : List Run2} {F1 : List Nat} (h : Pl w d) (hs : s < d.L.length) (u : Upd d.FT w w1) (hb : Blk w1 d.b #[.slice d.p d.n d.c, .int .i64 d.top, .int .i64 d.limit])
    (hrow : SlAt w1 2 d.p d.n d.c ((d.L.set s ⟨d.L[s].start, sl, rs⟩).flatMap sC) d.G) (hr : RowAt w1 sl.1 sl.2.1 sl.2.2 rs F1) (sub : Sub F1 (d.F s) w) (uo : ∀ i, i ≠ s → ∀ (hi : i < d.L.length), RowAt w1 d.L[i].sl.1 d.L[i].sl.2.1 d.L[i].sl.2.2 d.L[i].runs (d.F i)) : Pl w1 (d.put s d.L[s].start sl rs F1) := by
  have nF : ∀ y, y < w.heap.size → y ∉ d.F s → y ∉ F1 := fun y hy hn hx => by
    rcases sub y hx with h1 | h1
    · exact hn h1
    · omega
  have hbw := h.inn _ h.ib
  have hlen : (d.put s d.L[s].start sl rs F1).L.length = d.L.length := by show (d.L.set s _).length = _; simp
  refine ⟨hb, hrow, fun i hi => ?_, fun i hi => ?_, h.bG, fun i => ?_, fun i => ?_, fun i j hij => ?_, ?_, ?_, ?_, ?_⟩
  · have hi2 : i < d.L.length := by rw [hlen] at hi; exact hi
    by_cases his : i = s
    · subst his
      have e : (d.put i d.L[i].start sl rs F1).L[i] = ⟨d.L[i].start, sl, rs⟩ := by simp [PlD.put]
      rw [e]
      show RowAt w1 sl.1 sl.2.1 sl.2.2 rs (if i = i then F1 else d.F i)
      rw [if_pos rfl]; exact hr
    · have hsi : ¬ s = i := fun h => his h.symm
      have e : (d.put s d.L[s].start sl rs F1).L[i] = d.L[i] := by simp [PlD.put, List.getElem_set, hsi]
      rw [e]
      show RowAt w1 _ _ _ _ (if i = s then F1 else d.F i)
      rw [if_neg his]; exact uo i his hi2
  · rw [hlen] at hi
    show (if i = s then F1 else d.F i) = []
    rw [if_neg (by omega)]; exact h.out i hi
  · show d.b ∉ (if i = s then F1 else d.F i)
    split
    · exact nF _ hbw (h.bF s)
    · exact h.bF i
  · show Dis d.G (if i = s then F1 else d.F i)
    split
    · intro x hx
      exact nF x (h.inn x (h.iG x hx)) (h.GF s x hx)
    · exact h.GF i
  · show Dis (if i = s then F1 else d.F i) (if j = s then F1 else d.F j)
    split
    · split
      · omega
      · rename_i h1 h2
        intro x hx hy
        exact nF x (h.inn x (h.iF _ x hy)) (fun hz => h.FF s j (by omega) x hz hy) hx
    · split
      · rename_i h1 h2
        intro x hx hy
        exact nF x (h.inn x (h.iF _ x hx)) (fun hz => h.FF i s h1 x hx hz) hy
      · exact h.FF i j hij
  · show d.b ∈ d.FT ++ F1
    simp [h.ib]
  · intro x hx
    show x ∈ d.FT ++ F1
    simp [h.iG x hx]
  · intro i x hx
    show x ∈ d.FT ++ F1
    have hx : x ∈ (if i = s then F1 else d.F i) := hx
    split at hx
    · simp [hx]
    · simp [h.iF i x hx]
  · intro x hx
    have hx : x ∈ d.FT ++ F1 := hx
    rcases List.mem_append.1 hx with hx | hx
    · exact h.inn.upd u x hx
    · exact SlAt.inn hr x hx

/-- Runs turned where they lie. -/
theorem Pl.turn {w1 : World} {s : Nat} {rs : List Run2} (h : Pl w d) (hs : s < d.L.length) (u : Upd (d.F s) w w1) (hr : RowAt w1 d.L[s].sl.1 d.L[s].sl.2.1 d.L[s].sl.2.2 rs (d.F s)) : Pl w1 (d.put s d.L[s].start d.L[s].sl rs (d.F s)) := by
  refine h.put_of hs (u.mono fun x hx => .inl (h.iF s x hx)) (h.blk.upd u (h.bF s)) ?_ hr (Sub.refl _ _) fun i his hi => SlAt.upd (h.runs i hi) u (h.FF i s his)
  rw [set_same hs]
  exact h.row.upd u (h.GF s)

/-- Other runs are a segment's. -/
theorem Pl.setRuns {w1 : World} {s : Nat} {sl : Sl} {rs : List Run2} {F1 : List Nat} {lb off : Nat} {K : World → Prop} (h : Pl w d) (hs : s < d.L.length) (hp : d.p = some ⟨lb, off, none⟩) (hG : d.G = [lb]) (u : Upd (d.F s) w w1) (hr : RowAt w1 sl.1 sl.2.1 sl.2.2 rs F1) (sub : Sub F1 (d.F s) w)
    (hK : ∀ w2, Pl w2 (d.put s d.L[s].start sl rs F1) → Upd d.FT w w2 → K w2) : St w1 ⟨lb, off + s * 2 + 1, none⟩ (.slice sl.1 sl.2.1 sl.2.2) K := by
  have hn := h.len
  have hrow1 := h.row.upd u (h.GF s)
  rw [Nat.add_assoc]
  refine St_elem hrow1 hp (k := s * 2 + 1) (by omega) rfl fun w2 hs2 u2 => ?_
  have h3 := flat_set sC_len (l := d.L) (i := s) (j := 1) (v := .slice sl.1 sl.2.1 sl.2.2) (y := ⟨d.L[s].start, sl, rs⟩) hs (by omega) rfl
  rw [h3] at hs2
  have lbF : ∀ i, lb ∉ d.F i := fun i => h.GF i lb (by rw [hG]; simp)
  have lbF1 : lb ∉ F1 := fun hx => by
    rcases sub lb hx with h1 | h1
    · exact lbF s h1
    · have := h.inn lb (h.iG lb (by rw [hG]; simp)); omega
  have U : Upd d.FT w w2 := u.trans u2 (fun x hx => .inl (h.iF s x hx)) (fun x hx => .inl (h.iG x hx))
  refine hK w2 (h.put_of hs U ((h.blk.upd u (h.bF s)).upd u2 h.bG) hs2 (SlAt.upd hr u2 (by rw [hG]; intro x hx; simp; rintro rfl; exact lbF1 hx)) sub fun i his hi => ?_) U
  exact SlAt.upd (SlAt.upd (h.runs i hi) u (h.FF i s his)) u2 (h.GF i).symm

theorem put_put (d : PlD) (s : Nat) (st : Int) (sl sl' : Sl) (rs rs' : List Run2) (F1 F2 : List Nat) : ((d.put s st sl rs F1).put s st sl' rs' F2).L = (d.put s st sl' rs' F2).L := by
  show ((d.L.set s _).set s _) = d.L.set s _
  rw [List.set_set]

/-! ## A segment's functions -/

/-- Where a cell would stand. -/
theorem place_ok {s : Nat} {t : Int} {lb off : Nat} {K : Int → World → Prop} (h : Pl w d) (ok : PlOk d) (hs : s < d.L.length) (hp : d.p = some ⟨lb, off, none⟩)
    (hK : ∀ (i : Nat) w', i ≤ d.L[s].runs.length → (∀ j (hj : j < d.L[s].runs.length), j < i → d.L[s].runs[j].1 + d.L[s].runs[j].2 ≤ t) → (∀ j (hj : j < d.L[s].runs.length), i ≤ j → t < d.L[s].runs[j].1 + d.L[s].runs[j].2) → Upd [] w w' → K i w') :
    C_pool_segment_place (some ⟨lb, off + s * 2, none⟩) t w K := by
  apply C_pool_segment_place.of
  unfold F_pool_segment_place
  obtain ⟨lb', off', hp', hG, c0, c1⟩ := h.cell hs
  rw [hp] at hp'; simp at hp'
  obtain ⟨rfl, rfl⟩ := hp'
  simp only [NN_some, addN, drw_cell, drw_heap, exS, exI, exB, exP, exM, exStr, exV, a0, a1, a2, a3, a4, a5, a6, a7, a8, a9, a10, a11, a12, a13, maxI_eq, Nat.zero_add, Nat.add_zero, Nat.mul_one, Option.isNone_some, Option.isNone_none, c1]
  have hrl := ok.rlen hs
  have hr := ok.ok s hs
  refine Search_ok (h.runs s hs) (fun e he => ?_) (by omega) ?_ fun i b w' h1 h2 h3 u => hK i w' h1 (fun j hj hji => ?_) (fun j hj hji => ?_) u
  · have := ok.small hs e he; omega
  · rw [List.pairwise_iff_getElem]
    intro i j hi hj hij
    have := hr.lt hj hij
    have := (hr.within _ (List.getElem_mem hj)).2.1
    omega
  · have := h2 j hj hji; omega
  · have := h3 j hj hji; omega

theorem meets_ok {s : Nat} {t m : Int} {lb off : Nat} {K : Bool → World → Prop} (h : Pl w d) (ok : PlOk d) (hs : s < d.L.length) (hp : d.p = some ⟨lb, off, none⟩) (ht : -2 ^ 40 ≤ t ∧ t ≤ 2 ^ 40) (hm : 0 ≤ m ∧ m ≤ 2 ^ 40)
    (hK : ∀ b w', (b = true ↔ ∃ r ∈ d.L[s].runs, r.1 < t + m ∧ t < r.1 + r.2) → Upd [] w w' → K b w') : C_pool_segment_meets (some ⟨lb, off + s * 2, none⟩) t m w K := by
  apply C_pool_segment_meets.of
  unfold F_pool_segment_meets
  refine place_ok h ok hs hp fun i w1 hi hlt hge u1 => ?_
  have h1 := h.keep u1
  obtain ⟨lb', off', hp', hG, c0, c1⟩ := h1.cell hs
  rw [hp] at hp'; simp at hp'
  obtain ⟨rfl, rfl⟩ := hp'
  have hr := ok.ok s hs
  have hnl := RowAt.len (h1.runs s hs)
  simp only [NN_some, addN, drw_cell, drw_heap, exS, exI, exB, exP, exM, exStr, exV, a0, a1, a2, a3, a4, a5, a6, a7, a8, a9, a10, a11, a12, a13, maxI_eq, Nat.zero_add, Nat.add_zero, Nat.mul_one, Option.isNone_some, Option.isNone_none, c1]
  rw [i64id (x := t + m) (by omega) (by omega)]
  by_cases hin : i < d.L[s].runs.length
  · refine ifT (by simp; omega) ?_
    obtain ⟨b, o, hb, e0, e1⟩ := RowAt.get (h1.runs s hs) hin
    simp only [NN_some, addN, drw_cell, drw_heap, exS, exI, exB, exP, exM, exStr, exV, a0, a1, a2, a3, a4, a5, a6, a7, a8, a9, a10, a11, a12, a13, maxI_eq, Nat.zero_add, Nat.add_zero, Nat.mul_one, Option.isNone_some, Option.isNone_none, hb, Int.toNat_natCast, e0]
    refine ⟨by omega, by omega, hK _ w1 ?_ u1⟩
    simp only [decide_eq_true_eq]
    constructor
    · intro hlt2
      exact ⟨d.L[s].runs[i], List.getElem_mem hin, hlt2, hge i hin (Nat.le_refl _)⟩
    · rintro ⟨r, hr2, a, b⟩
      obtain ⟨j, hj, rfl⟩ := List.getElem_of_mem hr2
      by_cases hji : j < i
      · have := hlt j hj hji; omega
      · by_cases hij : j = i
        · subst hij; exact a
        · have := hr.lt hj (show i < j by omega)
          have := (hr.within _ (List.getElem_mem hin)).2.1
          omega
  · refine ifF (by simp; omega) (hK _ w1 ?_ u1)
    simp only [Bool.false_eq_true, false_iff]
    rintro ⟨r, hr2, a, b⟩
    obtain ⟨j, hj, rfl⟩ := List.getElem_of_mem hr2
    have := hlt j hj (by omega); omega

/-- A cell of a row of runs, set. -/
theorem setRow {p : Option Addr} {n c : Nat} {rs : List Run2} {F : List Nat} {i : Nat} {y : Run2} {b off k : Nat} {v : Value} {K : World → Prop} (h : RowAt w p n c rs F) (hi : i < rs.length) (hp : p = some ⟨b, off, none⟩) (hk : k < 2) (hv : v.oneCell' = true) (hy : eC y = (eC rs[i]).set k v)
    (hK : ∀ w', RowAt w' p n c (rs.set i y) F → Upd F w w' → K w') : St w ⟨b, off + i * 2 + k, none⟩ v K := by
  have hn := h.len
  rw [Nat.add_assoc]
  refine St_elem h hp (k := i * 2 + k) (by omega) hv fun w' hs u => hK w' ?_ u
  have h3 := flat_set eC_len (l := rs) (i := i) (j := k) (v := v) (y := y) hi hk hy
  rw [h3] at hs
  exact hs

theorem join_ok {s i : Nat} {lb off : Nat} {K : World → Prop} (h : Pl w d) (hs : s < d.L.length) (hp : d.p = some ⟨lb, off, none⟩) (hsm : ∀ r ∈ d.L[s].runs, 0 ≤ r.1 ∧ 1 ≤ r.2 ∧ r.1 + r.2 ≤ 1048576) (hl : d.L[s].runs.length ≤ 2 ^ 21) (hi : i < d.L[s].runs.length)
    (hK : ∀ w' sl F1, Pl w' (d.put s d.L[s].start sl (joinL i d.L[s].runs) F1) → Upd d.FT w w' → Sub F1 d.FT w → K w') : C_pool_segment_join (some ⟨lb, off + s * 2, none⟩) i w K := by
  apply C_pool_segment_join.of
  unfold F_pool_segment_join
  have h1 := h.keep (drw_upd w)
  obtain ⟨lb', off', hp', hG, c0, c1⟩ := h1.cell hs
  rw [hp] at hp'; simp at hp'
  obtain ⟨rfl, rfl⟩ := hp'
  have hnl := RowAt.len (h1.runs s hs)
  rw [i64id (x := (i : Int) + 1) (by omega) (by omega), i64id (x := (i : Int) + 2) (by omega) (by omega)]
  simp only [drw_cell] at c0 c1
  simp only [NN_some, addN, drw_cell, drw_heap, exS, exI, exB, exP, exM, exStr, exV, a0, a1, a2, a3, a4, a5, a6, a7, a8, a9, a10, a11, a12, a13, maxI_eq, Nat.zero_add, Nat.add_zero, Nat.mul_one, Option.isNone_some, Option.isNone_none, c1]
  have same : ∀ w', Pl w' d → Upd [] w w' → joinL i d.L[s].runs = d.L[s].runs → K w' := fun w' h' u e => by
    refine hK w' d.L[s].sl (d.F s) ?_ (u.mono (by simp)) (fun x hx => .inl (h.iF s x hx))
    rw [e]
    exact h'.turn hs (Upd.refl _ _) (h'.runs s hs)
  refine ifC (fun hc => ?_) (fun hc => ?_)
  · simp at hc
    have hil : i + 1 < d.L[s].runs.length := by omega
    obtain ⟨b, o, hb, e0, e1⟩ := RowAt.get (h.runs s hs) (i := i) (by omega)
    obtain ⟨b', o', hb', f0, f1⟩ := RowAt.get (h.runs s hs) hil
    have hbb : b' = b ∧ o' = o := by rw [hb] at hb'; simp at hb'; exact ⟨hb'.1.symm, hb'.2.symm⟩
    obtain ⟨rfl, rfl⟩ := hbb
    have et : ((i : Int) + 1).toNat = i + 1 := by omega
    have hsi := hsm _ (List.getElem_mem (show i < d.L[s].runs.length by omega))
    have hsj := hsm _ (List.getElem_mem hil)
    simp only [NN_some, addN, drw_cell, drw_heap, exS, exI, exB, exP, exM, exStr, exV, a0, a1, a2, a3, a4, a5, a6, a7, a8, a9, a10, a11, a12, a13, maxI_eq, Nat.zero_add, Nat.add_zero, Nat.mul_one, Option.isNone_some, Option.isNone_none, hb, et, Int.toNat_natCast, e0, e1, f0]
    rw [i64id (by omega) (by omega)]
    refine ⟨by omega, by omega, by omega, by omega, by omega, by omega, ifC (fun hc2 => ?_) (fun hc2 => ?_)⟩
    · simp at hc2
      simp only [NN_some, addN, drw_cell, drw_heap, exS, exI, exB, exP, exM, exStr, exV, a0, a1, a2, a3, a4, a5, a6, a7, a8, a9, a10, a11, a12, a13, maxI_eq, Nat.zero_add, Nat.add_zero, Nat.mul_one, Option.isNone_some, Option.isNone_none, c1, hb, et, Int.toNat_natCast, e1, f1]
      rw [i64id (by omega) (by omega)]
      refine ⟨by omega, by omega, by omega, by omega, by omega, by omega, ?_⟩
      have hd2 := (h1.keep (drw_upd _)).runs s hs
      refine setRow (y := (d.L[s].runs[i].1, d.L[s].runs[i].2 + d.L[s].runs[i + 1].2)) hd2 (by omega) hb (by omega) rfl rfl fun w1 hr1 u1 => ?_
      have U1 : Upd (d.F s) w w1 := ((drw_upd w).after (drw_upd _)).after u1
      have t1 := h.turn hs U1 hr1
      have c1' : w1.cell? ⟨lb, off + s * 2 + 1, none⟩ = some (.slice d.L[s].sl.1 d.L[s].sl.2.1 d.L[s].sl.2.2) := U1.cell c1 (h.GF s lb (by rw [hG]; simp))
      simp only [NN_some, addN, drw_cell, drw_heap, exS, exI, exB, exP, exM, exStr, exV, a0, a1, a2, a3, a4, a5, a6, a7, a8, a9, a10, a11, a12, a13, maxI_eq, Nat.zero_add, Nat.add_zero, Nat.mul_one, Option.isNone_some, Option.isNone_none, c1']
      have hdel := @Delete_ok w1 d.L[s].sl.1 d.L[s].sl.2.1 d.L[s].sl.2.2 (i + 1) (d.L[s].runs.set i (d.L[s].runs[i].1, d.L[s].runs[i].2 + d.L[s].runs[i + 1].2)) (d.F s)
      have ec1 : ((i + 1 : Nat) : Int) = (i : Int) + 1 := by omega
      have ec2 : ((i + 1 : Nat) : Int) + 1 = (i : Int) + 2 := by omega
      rw [ec2, ec1] at hdel
      refine hdel hr1 (by simp; exact hil) (by simp; omega) fun p2 c2 F2 w2 hr2 u2 s2 => ?_
      have U2 : Upd (d.F s) w w2 := U1.both u2
      have hS2 : Sub F2 (d.F s) w := s2.old U1.size
      have ej : (d.L[s].runs.set i (d.L[s].runs[i].1, d.L[s].runs[i].2 + d.L[s].runs[i + 1].2)).take (i + 1) ++ (d.L[s].runs.set i (d.L[s].runs[i].1, d.L[s].runs[i].2 + d.L[s].runs[i + 1].2)).drop (i + 1 + 1) = joinL i d.L[s].runs := by
        unfold joinL
        rw [dif_pos hil, if_pos hc2]
        rw [List.take_succ_eq_append_getElem (by simp; omega), List.getElem_set_self, List.take_set_of_le (by omega), List.drop_set_of_lt (by omega), List.append_assoc]
        rfl
      rw [ej] at hr2
      exact h.setRuns (sl := (p2, d.L[s].sl.2.1 - 1, c2)) hs hp hG U2 hr2 hS2 fun w3 h3 u3 => hK w3 _ F2 h3 u3 fun x hx => (hS2 x hx).imp (h.iF s x) (fun h => h)
    · simp at hc2
      refine same _ (h1.keep (Upd.refl _ _)) (drw_upd w) ?_
      unfold joinL
      rw [dif_pos hil, if_neg hc2]
  · simp at hc
    refine same _ h1 (drw_upd w) ?_
    unfold joinL
    rw [dif_neg (by omega)]

end

end Go.Proofs.Ytcgnligpjfhjlaa
