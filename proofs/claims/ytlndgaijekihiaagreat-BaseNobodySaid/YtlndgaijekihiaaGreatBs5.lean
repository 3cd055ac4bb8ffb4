/- Clauses of predicates: plain. -/
import Derived.Test.YtlndgaijekihiaaGreatIx7
import Derived.Test.YtlndgaijekihiaaGreatTm9
namespace Go.Proofs.YtlndgaijekihiaaGreat
open Go Go.D Go.Proofs
set_option linter.unusedSimpArgs false
set_option linter.unusedVariables false
set_option maxRecDepth 8000

/-- An instruction. -/
abbrev InsT := Int × ByteArray × Int × Int × Int
def insC (x : InsT) : List Value := [.int .i64 x.1, .string x.2.1, .int .i64 x.2.2.1, .int .i64 x.2.2.2.1, .int .i64 x.2.2.2.2]
theorem insC_len (x : InsT) : (insC x).length = 5 := rfl
theorem insC_one {l : List InsT} : ∀ v ∈ l.flatMap insC, v.oneCell' = true := by
  intro v hv
  obtain ⟨s, _, h⟩ := List.mem_flatMap.1 hv
  simp [insC] at h
  rcases h with rfl | rfl | rfl | rfl | rfl <;> rfl

abbrev GoalT := Int × Tm

/-- A slot that is not free. -/
structure Slt where
  h : Tm
  q : Option Addr
  qc : Nat
  gs : List GoalT
  g : Option Addr
  gc : Nat
  vars : Int
  code : List InsT
  cp : Option Addr
  cc : Nat
  born : Int
  dead : Int

def slC (s : Slt) : List Value := [.int .i64 s.h.kind, .int .i64 s.h.n, .string s.h.s, .slice s.q s.h.l.length s.qc, .slice s.g s.gs.length s.gc, .int .i64 s.vars, .slice s.cp s.code.length s.cc, .int .i64 s.born, .int .i64 s.dead, .bool true]
theorem slC_len (s : Slt) : (slC s).length = 10 := rfl
theorem slC_one {S : List Slt} : ∀ v ∈ S.flatMap slC, v.oneCell' = true := by
  intro v hv
  obtain ⟨s, _, h⟩ := List.mem_flatMap.1 hv
  simp [slC] at h
  rcases h with rfl | rfl | rfl | rfl | rfl | rfl | rfl | rfl | rfl | rfl <;> rfl

abbrev PKey := ByteArray × Int
def Slt.key (s : Slt) : PKey := (s.h.s, s.h.l.length)
def Slt.lives (s : Slt) (gen : Int) : Bool := decide (s.born ≤ gen) && (decide (s.dead = 0) || decide (gen < s.dead))

/-- Does a number's clause live in a generation? -/
def livesI (S : List Slt) (gen id : Int) : Bool := decide (0 ≤ id) && ((S[id.toNat]?).map fun s => s.lives gen).getD false

theorem livesI_at {S : List Slt} {gen : Int} {i : Nat} (hi : i < S.length) : livesI S gen i = S[i].lives gen := by
  unfold livesI
  rw [Int.toNat_natCast, List.getElem?_eq_getElem hi]
  simp

theorem livesI_no {S : List Slt} {gen id : Int} (h : ¬ (0 ≤ id ∧ id < S.length)) : livesI S gen id = false := by
  unfold livesI
  by_cases h0 : 0 ≤ id
  · rw [List.getElem?_eq_none (by omega)]; simp
  · simp [h0]

/-- One is added: what lived lives. -/
theorem livesI_add {S : List Slt} {s : Slt} {gen id : Int} (h : gen < s.born) : livesI (S ++ [s]) gen id = livesI S gen id := by
  by_cases h0 : 0 ≤ id ∧ id < S.length
  · unfold livesI
    rw [List.getElem?_append_left (by omega)]
  · rw [livesI_no h0]
    unfold livesI
    by_cases h1 : 0 ≤ id
    · have hge : S.length ≤ id.toNat := by omega
      rw [List.getElem?_append_right hge]
      rcases hd : id.toNat - S.length with _ | k
      · simp [Slt.lives]; omega
      · simp
    · simp [h1]

/-- One is killed later. -/
theorem livesI_kill {S : List Slt} {i : Nat} {gen id g : Int} (hi : i < S.length) (hd : S[i].dead = 0) (hg : gen < g) : livesI (S.set i { S[i] with dead := g }) gen id = livesI S gen id := by
  unfold livesI
  by_cases e : id.toNat = i
  · rw [e, List.getElem?_set_self hi, List.getElem?_eq_getElem hi]
    simp [Slt.lives, hd, hg]
  · rw [List.getElem?_set_ne (fun h => e h.symm)]

abbrev Prd := PKey × Ix.TbD
def idsT (t : Ix.TbD) : List Int := t.E.map (·.id)
def findP (PT : List Prd) (k : PKey) : Option Ix.TbD := (PT.find? fun x => decide (x.1 = k)).map (·.2)
def idsP (PT : List Prd) (k : PKey) : List Int := ((findP PT k).map idsT).getD []

/-- What a predicate's clauses are that live in a generation, in order. -/
def tells (S : List Slt) (PT : List Prd) (k : PKey) (gen : Int) : List Int := (idsP PT k).filter (livesI S gen)

/-- A predicate's table is another one, or new. -/
def setP (PT : List Prd) (k : PKey) (t : Ix.TbD) : List Prd := if (findP PT k).isSome then PT.map fun x => if x.1 = k then (x.1, t) else x else PT ++ [(k, t)]

theorem findP_none {PT : List Prd} {k : PKey} (h : k ∉ PT.map (·.1)) : findP PT k = none := by
  unfold findP
  rw [List.find?_eq_none.2 fun x hx => by simp; intro e; exact h (by rw [← e]; exact List.mem_map_of_mem hx)]
  rfl

theorem findP_mem {PT : List Prd} {k : PKey} {t : Ix.TbD} (h : findP PT k = some t) : (k, t) ∈ PT := by
  unfold findP at h
  rcases hf : PT.find? fun x => decide (x.1 = k) with _ | x
  · rw [hf] at h; cases h
  · rw [hf] at h
    have h1 := List.find?_some hf
    simp at h1 h
    rw [← h1, ← h]
    exact List.mem_of_find?_eq_some hf

theorem findP_of {PT : List Prd} {k : PKey} {t : Ix.TbD} (hn : (PT.map (·.1)).Nodup) (h : (k, t) ∈ PT) : findP PT k = some t := by
  induction PT with
  | nil => cases h
  | cons x PT ih =>
    rw [List.map_cons, List.nodup_cons] at hn
    unfold findP at ih ⊢
    rw [List.find?_cons]
    rcases List.mem_cons.1 h with g | g
    · subst g; simp
    · have hne : x.1 ≠ k := fun e => hn.1 (by rw [e]; exact List.mem_map_of_mem (f := (·.1)) g)
      simp only [hne, decide_false]
      exact ih hn.2 g

theorem findP_in {PT : List Prd} {k : PKey} : (findP PT k).isSome = true ↔ k ∈ PT.map (·.1) := by
  constructor
  · intro h
    obtain ⟨t, ht⟩ := Option.isSome_iff_exists.1 h
    exact List.mem_map.2 ⟨_, findP_mem ht, rfl⟩
  · intro h
    rcases hf : findP PT k with _ | t
    · exfalso
      unfold findP at hf
      rw [Option.map_eq_none_iff, List.find?_eq_none] at hf
      obtain ⟨x, hx, e⟩ := List.mem_map.1 h
      exact hf x hx (by simpa using e)
    · rfl

theorem findP_cons {x : Prd} {PT : List Prd} {k : PKey} : findP (x :: PT) k = if x.1 = k then some x.2 else findP PT k := by
  unfold findP
  rw [List.find?_cons]
  by_cases e : x.1 = k
  · simp [e]
  · simp [e]

theorem findP_map {PT : List Prd} {k : PKey} {t : Ix.TbD} (k' : PKey) : findP (PT.map fun x => if x.1 = k then (x.1, t) else x) k' = if k' = k then (findP PT k).map fun _ => t else findP PT k' := by
  induction PT with
  | nil => unfold findP; simp
  | cons x PT ih =>
    rw [List.map_cons, findP_cons, findP_cons, findP_cons, ih]
    by_cases e : x.1 = k
    · by_cases e' : k' = k
      · subst e'; simp [e]
      · have : ¬ x.1 = k' := fun h => e' (by rw [← h, e])
        simp only [if_pos e, if_neg this, if_neg e']
    · by_cases e' : k' = k
      · subst e'; simp [e]
      · simp only [if_neg e, if_neg e']

theorem findP_app {PT : List Prd} {k : PKey} {t : Ix.TbD} (k' : PKey) : findP (PT ++ [(k, t)]) k' = (findP PT k').or (if k = k' then some t else none) := by
  induction PT with
  | nil => rw [List.nil_append, findP_cons]; unfold findP; simp
  | cons x PT ih =>
    rw [List.cons_append, findP_cons, findP_cons, ih]
    split <;> simp

theorem findP_set {PT : List Prd} {k : PKey} {t : Ix.TbD} (k' : PKey) : findP (setP PT k t) k' = if k' = k then some t else findP PT k' := by
  unfold setP
  split
  · rename_i hk
    rw [findP_map]
    obtain ⟨t0, ht⟩ := Option.isSome_iff_exists.1 hk
    rw [ht]; rfl
  · rename_i hk
    rw [findP_app]
    by_cases e : k' = k
    · subst e
      have : findP PT k' = none := by rcases h : findP PT k' with _ | t <;> simp_all
      rw [this]; simp
    · rw [if_neg e, if_neg fun h => e h.symm]; simp

theorem keys_set {PT : List Prd} {k : PKey} {t : Ix.TbD} : (setP PT k t).map (·.1) = if (findP PT k).isSome then PT.map (·.1) else PT.map (·.1) ++ [k] := by
  unfold setP
  split
  · rw [List.map_map]
    refine List.map_congr_left fun x _ => ?_
    show (if x.1 = k then (x.1, t) else x).1 = x.1
    split <;> rfl
  · rw [List.map_append]; rfl

theorem idsP_none {PT : List Prd} {k : PKey} (h : findP PT k = none) : idsP PT k = [] := by unfold idsP; rw [h]; rfl
theorem idsP_some {PT : List Prd} {k : PKey} {t : Ix.TbD} (h : findP PT k = some t) : idsP PT k = idsT t := by unfold idsP; rw [h]; rfl

def insI (front : Bool) (l : List Int) (i : Int) : List Int := if front then i :: l else l ++ [i]

theorem idsP_set {PT : List Prd} {k k' : PKey} {t : Ix.TbD} {front : Bool} {i : Int} (ht : idsT t = insI front (idsP PT k) i) : idsP (setP PT k t) k' = if k' = k then insI front (idsP PT k) i else idsP PT k' := by
  by_cases e : k' = k
  · rw [if_pos e, ← ht]
    exact idsP_some (by rw [findP_set, if_pos e])
  · rw [if_neg e]
    unfold idsP
    rw [findP_set, if_neg e]

/-- What was told of an earlier generation is told. -/
theorem tells_add {S : List Slt} {PT : List Prd} {k k' : PKey} {t : Ix.TbD} {front : Bool} {s : Slt} {gen : Int} (ht : idsT t = insI front (idsP PT k) (S.length : Nat)) (hb : gen < s.born) : tells (S ++ [s]) (setP PT k t) k' gen = tells S PT k' gen := by
  unfold tells
  rw [idsP_set ht, List.filter_congr fun x _ => livesI_add (id := x) hb]
  have hno : livesI S gen (S.length : Nat) = false := livesI_no (by omega)
  split
  · rename_i e
    subst e
    unfold insI
    split
    · rw [List.filter_cons_of_neg (by rw [hno]; simp)]
    · rw [List.filter_append, List.filter_cons_of_neg (by rw [hno]; simp)]; simp
  · rfl

theorem tells_kill {S : List Slt} {PT : List Prd} {k : PKey} {i : Nat} {gen g : Int} (hi : i < S.length) (hd : S[i].dead = 0) (hg : gen < g) : tells (S.set i { S[i] with dead := g }) PT k gen = tells S PT k gen := by
  unfold tells
  exact List.filter_congr fun x _ => livesI_kill hi hd hg

/-- What is told of now, when one was added. -/
theorem tells_now {S : List Slt} {PT : List Prd} {k : PKey} {t : Ix.TbD} {front : Bool} {s : Slt} {gen : Int} (ht : idsT t = insI front (idsP PT k) (S.length : Nat)) (hl : s.lives gen = true) (hS : ∀ x ∈ idsP PT k, livesI (S ++ [s]) gen x = livesI S gen x) : tells (S ++ [s]) (setP PT k t) k gen = insI front (tells S PT k gen) (S.length : Nat) := by
  unfold tells
  rw [idsP_set ht, if_pos rfl]
  have hyes : livesI (S ++ [s]) gen (S.length : Nat) = true := by rw [livesI_at (by simp)]; simpa using hl
  unfold insI
  split
  · rw [List.filter_cons_of_pos hyes, List.filter_congr hS]
  · rw [List.filter_append, List.filter_cons_of_pos hyes, List.filter_congr hS]; simp

theorem find_filter {α : Type} {p : α → Bool} : ∀ l : List α, l.find? p = (l.filter p)[0]?
  | [] => rfl
  | x :: l => by
    rw [List.find?_cons]
    rcases hp : p x with _ | _
    · rw [List.filter_cons_of_neg (by rw [hp]; simp)]; exact find_filter l
    · rw [List.filter_cons_of_pos hp]; rfl

/-- The next one of those that are kept. -/
theorem filter_next {α : Type} {p : α → Bool} : ∀ {l : List α} {i : Nat} (hi : i < (l.filter p).length), ∃ (j : Nat) (hj : j < l.length), l[j] = (l.filter p)[i] ∧ (l.drop (j + 1)).find? p = (l.filter p)[i + 1]?
  | [], i, hi => absurd hi (by simp)
  | x :: l, i, hi => by
    rcases hp : p x with _ | _
    · have e : (x :: l).filter p = l.filter p := List.filter_cons_of_neg (by rw [hp]; simp)
      obtain ⟨j, hj, h1, h2⟩ := filter_next (p := p) (l := l) (i := i) (by rw [← e]; exact hi)
      refine ⟨j + 1, by simp; omega, ?_, ?_⟩
      · simp only [List.getElem_cons_succ, h1]; congr 1; exact e.symm
      · rw [List.drop_succ_cons, h2, e]
    · have e : (x :: l).filter p = x :: l.filter p := List.filter_cons_of_pos hp
      match i with
      | 0 =>
        refine ⟨0, by simp, ?_, ?_⟩
        · simp only [List.getElem_cons_zero]
          have : ((x :: l).filter p)[0]? = some x := by rw [e]; rfl
          rw [List.getElem?_eq_getElem (by omega)] at this
          simpa using this.symm
        · rw [List.drop_succ_cons, List.drop_zero, find_filter, e]; rfl
      | i + 1 =>
        obtain ⟨j, hj, h1, h2⟩ := filter_next (p := p) (l := l) (i := i) (by rw [e] at hi; simpa using hi)
        refine ⟨j + 1, by simp; omega, ?_, ?_⟩
        · simp only [List.getElem_cons_succ, h1]
          have : ((x :: l).filter p)[i + 1]? = (l.filter p)[i]? := by rw [e]; rfl
          rw [List.getElem?_eq_getElem hi, List.getElem?_eq_getElem (by rw [e] at hi; simpa using hi)] at this
          simpa using this.symm
        · rw [List.drop_succ_cons, h2, e]; rfl

end Go.Proofs.YtlndgaijekihiaaGreat

/- A base in memory. -/
namespace Go.Proofs.YtlndgaijekihiaaGreat
open Go Go.D Go.Proofs
set_option linter.unusedSimpArgs false
set_option linter.unusedVariables false
set_option maxRecDepth 8000

/-- Goals in a row. -/
def GoalsA (w : World) (F : List Nat) (gs : List GoalT) (p : Option Addr) : Prop := ∀ i (hi : i < gs.length), ∃ x q c, p = some x ∧ x.block ∈ F ∧ (∀ j, j < 5 → w.cell? (x.add (i * 5 + j)) = (Value.int .i64 gs[i].1 :: tmC (gs[i].2, q, c))[j]?) ∧ gs[i].2.s.size < 2 ^ 63 ∧ RdA w F gs[i].2.l q 0
/-- Instructions in a row. -/
def CodeA (w : World) (F : List Nat) (l : List InsT) (p : Option Addr) : Prop := Rd w 5 p l.length (l.flatMap insC) ∧ ∀ x, p = some x → l.length ≠ 0 → x.block ∈ F

theorem GoalsA.upd {w w' : World} {F X : List Nat} {gs : List GoalT} {p : Option Addr} (h : GoalsA w F gs p) (u : Upd X w w') (hd : Dis F X) : GoalsA w' F gs p := fun i hi => by
  obtain ⟨x, q, c, e, hx, hc, h1, h2⟩ := h i hi
  refine ⟨x, q, c, e, hx, fun j hj => ?_, h1, RdA.upd' u hd h2⟩
  obtain ⟨v, hv⟩ : ∃ v, w.cell? (x.add (i * 5 + j)) = some v := ⟨_, (hc j hj).trans (List.getElem?_eq_getElem (by simpa [tmC] using hj))⟩
  rw [← hc j hj, hv]
  exact u.cell hv (by rw [add_block]; exact hd _ hx)
theorem GoalsA.keep {w w' : World} {F : List Nat} {gs : List GoalT} {p : Option Addr} (h : GoalsA w F gs p) (u : Upd [] w w') : GoalsA w' F gs p := h.upd u (by intro k _ h; cases h)
theorem GoalsA.sub {w : World} {F G : List Nat} {gs : List GoalT} {p : Option Addr} (h : GoalsA w F gs p) (hs : ∀ k ∈ F, k ∈ G) : GoalsA w G gs p := fun i hi => by
  obtain ⟨x, q, c, e, hx, hc, h1, h2⟩ := h i hi
  exact ⟨x, q, c, e, hs _ hx, hc, h1, RdA.sub hs _ h2⟩
theorem CodeA.upd {w w' : World} {F X : List Nat} {l : List InsT} {p : Option Addr} (h : CodeA w F l p) (u : Upd X w w') (hd : Dis F X) : CodeA w' F l p := ⟨h.1.upd u fun x hx hn hF => hd _ (h.2 x hx (by simpa using hn)) hF, h.2⟩
theorem CodeA.keep {w w' : World} {F : List Nat} {l : List InsT} {p : Option Addr} (h : CodeA w F l p) (u : Upd [] w w') : CodeA w' F l p := h.upd u (by intro k _ h; cases h)
theorem CodeA.sub {w : World} {F G : List Nat} {l : List InsT} {p : Option Addr} (h : CodeA w F l p) (hs : ∀ k ∈ F, k ∈ G) : CodeA w G l p := ⟨h.1, fun x hx hn => hs _ (h.2 x hx hn)⟩

structure BsD where
  b : Nat
  r : Nat
  p : Option Addr
  c : Nat
  G : List Nat
  S : List Slt
  PT : List Prd
  gen : Int
  limit : Int
  Z : List Nat

def BsD.a (d : BsD) : Option Addr := some ⟨d.b, 0, none⟩
/-- What calls may turn. -/
def BsD.F (d : BsD) : List Nat := d.b :: d.r :: (d.G ++ d.PT.flatMap fun x => x.2.FT)

def pkV (k : PKey) : Value := .agg #[.string k.1, .int .i64 k.2]
def pkC (k : PKey) : List Value := [.string k.1, .int .i64 k.2]

/-- A base in memory; what it holds of terms and code lies in Z and is never turned. -/
structure Bs (w : World) (d : BsD) : Prop where
  blk : Blk w d.b #[.int .i64 d.limit, .int .i64 d.gen, .slice d.p d.S.length d.c, .slice none 0 0, .map (some d.r)]
  row : SlAt w 10 d.p d.S.length d.c (d.S.flatMap slC) d.G
  hd : ∀ s ∈ d.S, s.h.s.size < 2 ^ 63 ∧ RdA w d.Z s.h.l s.q 0 ∧ GoalsA w d.Z s.gs s.g ∧ CodeA w d.Z s.code s.cp
  map : MapAt w d.r pkV (d.PT.map fun x => (x.1, Value.pointer x.2.a))
  tb : ∀ x ∈ d.PT, Ix.Tb w x.2
  bG : d.b ∉ d.r :: d.G
  rG : d.r ∉ d.G
  bT : ∀ x ∈ d.PT, Dis (d.b :: d.r :: d.G) x.2.FT
  TT : d.PT.Pairwise fun x y => x.1 ≠ y.1 ∧ Dis x.2.FT y.2.FT
  Zd : Dis d.Z d.F
  Zi : In d.Z w

/-- A base as it should be. -/
structure BsOk (d : BsD) : Prop where
  tb : ∀ x ∈ d.PT, Ix.TbOk x.2 d.gen
  ids : ∀ x ∈ d.PT, ∀ i ∈ idsT x.2, 0 ≤ i ∧ i < d.S.length ∧ ∀ s, d.S[i.toNat]? = some s → s.key = x.1
  gen : 0 ≤ d.gen
  born : ∀ s ∈ d.S, 1 ≤ s.born ∧ s.born ≤ d.gen ∧ 0 ≤ s.dead ∧ s.dead ≤ d.gen
  lim : 0 < d.limit ∧ d.limit ≤ 2 ^ 30
  len : d.S.length ≤ d.limit

section
variable {w w' : World} {d : BsD}

theorem Bs.lowG (h : Bs w d) : In d.F w := fun k hk => by
  simp only [BsD.F, List.mem_cons, List.mem_append, List.mem_flatMap] at hk
  rcases hk with g | g | g | ⟨x, hx, g⟩
  · rw [g]; exact h.blk.lt
  · rw [g]; exact h.map.lt
  · exact h.row.inn k g
  · exact (h.tb x hx).inn k g

theorem Bs.upd {X : List Nat} (h : Bs w d) (u : Upd X w w') (hF : Dis d.F X) (hZ : Dis d.Z X) : Bs w' d := by
  have m : ∀ k, k ∈ d.F → k ∉ X := hF
  refine ⟨h.blk.upd u (m _ (by simp [BsD.F])), h.row.upd u (fun k hk => m k (by simp [BsD.F, hk])), fun s hs => ⟨(h.hd s hs).1, RdA.upd' u hZ (h.hd s hs).2.1, (h.hd s hs).2.2.1.upd u hZ, (h.hd s hs).2.2.2.upd u hZ⟩, h.map.upd u (m _ (by simp [BsD.F])), fun x hx => (h.tb x hx).upd u fun k hk => m k ?_, h.bG, h.rG, h.bT, h.TT, h.Zd, h.Zi.upd u⟩
  simp only [BsD.F, List.mem_cons, List.mem_append, List.mem_flatMap]
  exact .inr (.inr (.inr ⟨x, hx, hk⟩))

theorem Bs.keep (h : Bs w d) (u : Upd [] w w') : Bs w' d := h.upd u (by intro k _ h; cases h) (by intro k _ h; cases h)

theorem Bs.at (h : Bs w d) {i : Nat} (hi : i < d.S.length) : ∃ bb off, d.p = some ⟨bb, off, none⟩ ∧ bb ∈ d.G ∧ ∀ j, j < 10 → w.cell? ⟨bb, off + (i * 10 + j), none⟩ = (slC d.S[i])[j]? := by
  rcases h.row.2.2 with ⟨_, hc, _⟩ | ⟨bb, off, arr, hp, hG, hb, hs, hc⟩
  · have := h.row.2.1; omega
  · exact ⟨bb, off, hp, by rw [hG]; simp, fun j hj => by rw [hb.cell, hc (i * 10 + j) (by omega), flat_at slC_len hi hj]⟩

end

end Go.Proofs.YtlndgaijekihiaaGreat

/- Calls of a base that came in. -/
namespace Go.Proofs.YtlndgaijekihiaaGreat
open Go Go.D Go.Proofs
set_option linter.unusedSimpArgs false
set_option linter.unusedVariables false
set_option maxRecDepth 8000

structure OpB where
  k : Int
  h : Tm
  gs : List GoalT
  vars : Int
  code : List InsT
  flag : Bool
  n : Int
  key : Ix.Key
  gen : Int

instance : Inhabited OpB := ⟨⟨0, .mk 0 0 ⟨#[]⟩ [], [], 0, [], false, 0, (0, ⟨#[]⟩, 0), 0⟩⟩

structure OpQ where
  hq : Option Addr
  hc : Nat
  gp : Option Addr
  gc : Nat
  cp : Option Addr
  cc : Nat

def opbC (o : OpB) (q : OpQ) : List Value := [.int .i64 o.k, .int .i64 o.h.kind, .int .i64 o.h.n, .string o.h.s, .slice q.hq o.h.l.length q.hc, .slice q.gp o.gs.length q.gc, .int .i64 o.vars, .slice q.cp o.code.length q.cc, .bool o.flag, .int .i64 o.n, .int .i64 o.key.1, .string o.key.2.1, .int .i64 o.key.2.2, .int .i64 o.gen]

/-- What a call's clause and code are can be read. -/
def OpR (w : World) (F : List Nat) (o : OpB) (q : OpQ) : Prop := o.h.s.size < 2 ^ 63 ∧ RdA w F o.h.l q.hq 0 ∧ GoalsA w F o.gs q.gp ∧ CodeA w F o.code q.cp ∧ o.code.length < 2 ^ 63 ∧ o.gs.length < 2 ^ 63 ∧ i64B o.n

def OpsB (w : World) (F : List Nat) (l : List OpB) (p : Option Addr) : Prop := ∀ i (hi : i < l.length), ∃ x q, p = some x ∧ x.block ∈ F ∧ (∀ j, j < 14 → w.cell? (x.add (i * 14 + j)) = (opbC l[i] q)[j]?) ∧ OpR w F l[i] q

theorem OpR.upd {w w' : World} {F X : List Nat} {o : OpB} {q : OpQ} (h : OpR w F o q) (u : Upd X w w') (hd : Dis F X) : OpR w' F o q := ⟨h.1, RdA.upd' u hd h.2.1, h.2.2.1.upd u hd, h.2.2.2.1.upd u hd, h.2.2.2.2⟩

theorem OpsB.upd {w w' : World} {F X : List Nat} {l : List OpB} {p : Option Addr} (h : OpsB w F l p) (u : Upd X w w') (hd : Dis F X) : OpsB w' F l p := fun i hi => by
  obtain ⟨x, q, e, hx, hc, hr⟩ := h i hi
  refine ⟨x, q, e, hx, fun j hj => ?_, hr.upd u hd⟩
  obtain ⟨v, hv⟩ : ∃ v, w.cell? (x.add (i * 14 + j)) = some v := ⟨_, (hc j hj).trans (List.getElem?_eq_getElem (by simpa [opbC] using hj))⟩
  rw [← hc j hj, hv]
  exact u.cell hv (by rw [add_block]; exact hd _ hx)

theorem OpsB.keep {w w' : World} {F : List Nat} {l : List OpB} {p : Option Addr} (h : OpsB w F l p) (u : Upd [] w w') : OpsB w' F l p := h.upd u (by intro k _ h; cases h)

theorem see_goals {w : World} {f : Nat} {cs : List Value} (h : Sees Tryz.prog w f 25 cs) : ∃ (l : List GoalT) (p : Option Addr) (c : Nat), cs = [.slice p l.length c] ∧ GoalsA w (List.range w.heap.size) l p ∧ l.length < 2 ^ 63 := by
  obtain ⟨p, m, c, cs', g', hg, e3, hmc, hcm, hrd, hrow⟩ := see_slice (by rfl) (sz := 5) (by kernel_rfl) h
  obtain ⟨l, hl, hp⟩ := pick (n := m) (p := fun i (o : GoalT) => ∃ (q : Option Addr) (c : Nat), (cs'.drop (i * 5)).take 5 = Value.int .i64 o.1 :: tmC (o.2, q, c) ∧ tmIn w o.2 q) fun i hi => by
    have hr := hrow i hi
    obtain ⟨g, rfl, hl, hf⟩ := see_struct (fs := _) (by rfl) (sz := 5) (by kernel_rfl) hr
    obtain ⟨cc, hcc⟩ : ∃ cc, cc = (cs'.drop (i * 5)).take 5 := ⟨_, rfl⟩
    rw [← hcc] at hl hf ⊢
    match cc, hl with
    | [c0, c1, c2, c3, c4], _ =>
      have h0 : Sees Tryz.prog w g 3 [c0] := hf 0 _ rfl
      obtain ⟨k, e0, k0⟩ := see_int (by rfl) h0
      simp only [List.cons.injEq, and_true] at e0
      obtain rfl := e0
      have h1 : Sees Tryz.prog w g 24 [c1, c2, c3, c4] := hf 1 _ rfl
      obtain ⟨t, qa, ca, ea, ha⟩ := see_tm g h1
      exact ⟨(k, t), qa, ca, by rw [ea]; rfl, ha⟩
  have hmax : maxLen < 2 ^ 63 := by decide
  refine ⟨l, p, c, by rw [hl]; exact e3, fun i hi => ?_, by omega⟩
  obtain ⟨q, c2, hq, ha⟩ := hp i hi
  obtain ⟨x, hx, hc⟩ := hrd.elem (i := i) (by omega)
  have hc : ∀ j, j < 5 → w.cell? (x.add (i * 5 + j)) = (Value.int .i64 l[i].1 :: tmC (l[i].2, q, c2))[j]? := fun j hj => by
    rw [hc j hj, ← hq, List.getElem?_take, if_pos hj, List.getElem?_drop]
  have c0 : w.cell? (x.add (i * 5 + 0)) = some (.int .i64 l[i].1) := hc 0 (by omega)
  have hbl := cell_block c0
  rw [add_block] at hbl
  exact ⟨x, q, c2, hx, by simpa using hbl, hc, ha.2.1, ha.1⟩

theorem flat_blocks {α : Type} {f : α → List Value} {k : Nat} (hk : ∀ x, (f x).length = k) : ∀ {l : List α} {cs : List Value}, cs.length = l.length * k → (∀ i (hi : i < l.length), (cs.drop (i * k)).take k = f l[i]) → cs = l.flatMap f
  | [], cs, hl, _ => by simpa using hl
  | x :: l, cs, hl, h => by
    have h0 := h 0 (by simp)
    rw [Nat.zero_mul, List.drop_zero] at h0
    have ih := flat_blocks hk (l := l) (cs := cs.drop k) (by rw [List.length_drop, hl, List.length_cons, Nat.add_mul]; omega) fun i hi => by
      have := h (i + 1) (by simpa using hi)
      rw [List.drop_drop, show k + i * k = (i + 1) * k by rw [Nat.add_mul]; omega]
      simpa using this
    rw [List.flatMap_cons, ← ih]
    have h0 : cs.take k = f x := h0
    rw [← h0, List.take_append_drop]

theorem see_code {w : World} {f : Nat} {cs : List Value} (h : Sees Tryz.prog w f 28 cs) : ∃ (l : List InsT) (p : Option Addr) (c : Nat), cs = [.slice p l.length c] ∧ CodeA w (List.range w.heap.size) l p ∧ l.length < 2 ^ 63 := by
  obtain ⟨p, m, c, cs', g', hg, e3, hmc, hcm, hrd, hrow⟩ := see_slice (by rfl) (sz := 5) (by kernel_rfl) h
  obtain ⟨l, hl, hp⟩ := pick (n := m) (p := fun i (o : InsT) => (cs'.drop (i * 5)).take 5 = insC o) fun i hi => by
    have hr := hrow i hi
    obtain ⟨g, rfl, hl, hf⟩ := see_struct (fs := _) (by rfl) (sz := 5) (by kernel_rfl) hr
    obtain ⟨cc, hcc⟩ : ∃ cc, cc = (cs'.drop (i * 5)).take 5 := ⟨_, rfl⟩
    rw [← hcc] at hl hf ⊢
    match cc, hl with
    | [c0, c1, c2, c3, c4], _ =>
      have h0 : Sees Tryz.prog w g 3 [c0] := hf 0 _ rfl
      have h1 : Sees Tryz.prog w g 9 [c1] := hf 1 _ rfl
      have h2 : Sees Tryz.prog w g 3 [c2] := hf 2 _ rfl
      have h3 : Sees Tryz.prog w g 3 [c3] := hf 3 _ rfl
      have h4 : Sees Tryz.prog w g 3 [c4] := hf 4 _ rfl
      obtain ⟨k0, e0, _⟩ := see_int (by rfl) h0
      obtain ⟨k1, e1, _⟩ := see_string (by rfl) h1
      obtain ⟨k2, e2, _⟩ := see_int (by rfl) h2
      obtain ⟨k3, e3, _⟩ := see_int (by rfl) h3
      obtain ⟨k4, e4, _⟩ := see_int (by rfl) h4
      simp only [List.cons.injEq, and_true] at e0 e1 e2 e3 e4
      obtain rfl := e0; obtain rfl := e1; obtain rfl := e2; obtain rfl := e3; obtain rfl := e4
      exact ⟨(k0, k1, k2, k3, k4), rfl⟩
  have hmax : maxLen < 2 ^ 63 := by decide
  have e : cs' = l.flatMap insC := flat_blocks insC_len (by rw [hl]; exact hrd.1) fun i hi => hp i hi
  refine ⟨l, p, c, by rw [hl]; exact e3, ⟨by rw [hl, ← e]; exact hrd, fun x hx hn => ?_⟩, by omega⟩
  obtain ⟨x', hx', hc⟩ := hrd.elem (i := 0) (by omega)
  rw [hx] at hx'
  cases hx'
  have c0 := hc 0 (by omega)
  rw [e] at c0
  have hpos : 0 < l.length := by omega
  have : (l.flatMap insC)[0 * 5 + 0]? = some (.int .i64 l[0].1) := by rw [flat_at insC_len hpos (by omega)]; rfl
  rw [this] at c0
  have hbl := cell_block c0
  rw [add_block] at hbl
  simpa using hbl

end Go.Proofs.YtlndgaijekihiaaGreat

/- A base: what it tells of a slot. -/
namespace Go.Proofs.YtlndgaijekihiaaGreat
open Go Go.D Go.Proofs
set_option linter.unusedSimpArgs false
set_option linter.unusedVariables false
set_option maxRecDepth 8000

theorem pkKey : KeyOf Tryz.prog 61 pkV := by
  refine keyStruct pkC 2 (fun k => rfl) (fun k => rfl) ?_ (by kernel_rfl) (by kernel_rfl) (by kernel_rfl) ?_ ?_
  · rintro ⟨a, b⟩ ⟨a', b'⟩ h
    simp [pkC] at h
    simp [h]
  · rintro ⟨a, b⟩ ⟨a', b'⟩
    exact ⟨by decide, rfl, leaf_string (by rfl) _ _, by decide, rfl, leaf_int (by rfl) _ _, trivial⟩
  · intro k v hv n
    simp [pkC] at hv
    rcases hv with rfl | rfl <;> simp [Instr.sameBits, bytesEq]

theorem St10q {w1 : World} {r : Nat} {arr : Array Value} {v0 v1 v2 v3 v4 v5 v6 v7 v8 v9 : Value} {K : World → Prop} (hb : Blk w1 r arr) (ha : arr.size = 10) (hv : ∀ v ∈ [v0, v1, v2, v3, v4, v5, v6, v7, v8, v9], v.oneCell' = true) (hK : ∀ w', Upd [r] w1 w' → Blk w' r #[v0, v1, v2, v3, v4, v5, v6, v7, v8, v9] → K w') :
    St w1 ((⟨r, 0, none⟩ : Addr).add 0) v0 fun z0 => St z0 ((⟨r, 0, none⟩ : Addr).add 1) v1 fun z1 => St z1 ((⟨r, 0, none⟩ : Addr).add 2) v2 fun z2 => St z2 ((⟨r, 0, none⟩ : Addr).add 3) v3 fun z3 => St z3 ((⟨r, 0, none⟩ : Addr).add 4) v4 fun z4 =>
      St z4 ((⟨r, 0, none⟩ : Addr).add 5) v5 fun z5 => St z5 ((⟨r, 0, none⟩ : Addr).add 6) v6 fun z6 => St z6 ((⟨r, 0, none⟩ : Addr).add 7) v7 fun z7 => St z7 ((⟨r, 0, none⟩ : Addr).add 8) v8 fun z8 => St z8 ((⟨r, 0, none⟩ : Addr).add 9) v9 K := by
  obtain ⟨c0, c1, c2, c3, c4, c5, c6, c7, c8, c9, rfl⟩ : ∃ c0 c1 c2 c3 c4 c5 c6 c7 c8 c9, arr = #[c0, c1, c2, c3, c4, c5, c6, c7, c8, c9] := by
    rcases arr with ⟨l⟩
    match l, ha with
    | [c0, c1, c2, c3, c4, c5, c6, c7, c8, c9], _ => exact ⟨c0, c1, c2, c3, c4, c5, c6, c7, c8, c9, rfl⟩
  simp only [addN, Nat.zero_add]
  refine St_acc (Upd.refl _ _) hb (by simp) (hv _ (by simp)) fun z0 y0 b0 => St_acc y0 b0 (by simp) (hv _ (by simp)) fun z1 y1 b1 => St_acc y1 b1 (by simp) (hv _ (by simp)) fun z2 y2 b2 => St_acc y2 b2 (by simp) (hv _ (by simp)) fun z3 y3 b3 => St_acc y3 b3 (by simp) (hv _ (by simp)) fun z4 y4 b4 => St_acc y4 b4 (by simp) (hv _ (by simp)) fun z5 y5 b5 => St_acc y5 b5 (by simp) (hv _ (by simp)) fun z6 y6 b6 => St_acc y6 b6 (by simp) (hv _ (by simp)) fun z7 y7 b7 => St_acc y7 b7 (by simp) (hv _ (by simp)) fun z8 y8 b8 => St_acc y8 b8 (by simp) (hv _ (by simp)) fun z9 y9 b9 => ?_
  simp at b9
  exact hK z9 y9 b9

section
variable {w : World} {d : BsD}

theorem bmade_ok {K : Bool → World → Prop} (h : Bs w d) (hK : K true w) : C_base_Base_made d.a w K := by
  apply C_base_Base_made.of
  unfold F_base_Base_made
  simp only [BsD.a, NN_some, addN, drw_cell, drw_heap, exS, exI, exB, exP, exM, exStr, exV, a0, a1, a2, a3, a4, a5, a6, a7, a8, a9, a10, a11, a12, a13, maxI_eq, Nat.zero_add, Nat.add_zero, Nat.mul_one, Option.isNone_some, Option.isNone_none, h.blk.cell]
  exact ifT rfl hK

theorem bmade_no {K : Bool → World → Prop} (hK : K false w) : C_base_Base_made none w K := by
  apply C_base_Base_made.of
  unfold F_base_Base_made
  exact ifF rfl hK

theorem BNew_ok {limit : Int} {K : Option Addr → Int → World → Prop} (h0 : 1 ≤ limit) (h1 : limit ≤ 16384)
    (hK : ∀ w' d, Bs w' d → BsOk d → d.S = [] → d.PT = [] → d.gen = 0 → d.limit = limit → Upd [] w w' → Since d.F w → d.Z = [] → K d.a 0 w') : C_base_New limit w K := by
  apply C_base_New.of
  unfold F_base_New
  refine ifF (by simp; omega) (ifF (by simp; omega) (New_map fun r w1 hr u1 hm => New_rule fun b w2 hb u2 b2 => ?_))
  have m1 : MapAt w1 r pkV [] := MapAt.new _ hm
  have s1 := u1.size
  have rl := m1.lt
  refine hK w2 ⟨b, r, none, 0, [], [], [], 0, limit, []⟩ ⟨b2, SlAt.nil _ _, by simp, m1.upd u2 (by simp), by simp, ?_, by simp, by simp, by simp, (by intro k hk; cases hk), (by intro k hk; cases hk)⟩ ⟨by simp, by simp, by simp, by simp, ⟨by show 0 < limit; omega, by show limit ≤ _; omega⟩, by show ((0 : Nat) : Int) ≤ limit; omega⟩ rfl rfl rfl rfl (u1.after u2) (fun k hk => ?_) rfl
  · show b ∉ [r]
    simp; omega
  · have hk : k ∈ [b, r] := by simpa [BsD.F] using hk
    simp at hk; omega

theorem BNew_no {K : Option Addr → Int → World → Prop} (hK : K none 1 w) : C_base_New 0 w K := by
  apply C_base_New.of
  unfold F_base_New
  exact ifT rfl hK

theorem has_ok {id : Int} {K : Bool → World → Prop} (h : Bs w d) (hK : K (decide (0 ≤ id ∧ id < d.S.length)) w) : C_base_Base_has d.a id w K := by
  apply C_base_Base_has.of
  unfold F_base_Base_has F_base_Base_has_k1
  refine bmade_ok h (ifT rfl (ifC (fun g => ?_) (fun g => ?_)))
  · have g := of_decide_eq_true g
    simp only [BsD.a, NN_some, addN, drw_cell, drw_heap, exS, exI, exB, exP, exM, exStr, exV, a0, a1, a2, a3, a4, a5, a6, a7, a8, a9, a10, a11, a12, a13, maxI_eq, Nat.zero_add, Nat.add_zero, Nat.mul_one, Option.isNone_some, Option.isNone_none, h.blk.cell]
    refine ifC (fun g2 => ?_) (fun g2 => ?_)
    · have g2 := of_decide_eq_true g2
      have hi : id.toNat < d.S.length := by omega
      obtain ⟨bb, off, hp, _, hc⟩ := h.at hi
      have c9 := hc 9 (by omega)
      simp only [slC, List.getElem?_cons_succ, List.getElem?_cons_zero] at c9
      rw [hp]
      refine ⟨by omega, by omega, ?_⟩
      simp only [NN_some, addN, drw_cell, drw_heap, exS, exI, exB, exP, exM, exStr, exV, a0, a1, a2, a3, a4, a5, a6, a7, a8, a9, a10, a11, a12, a13, maxI_eq, Nat.zero_add, Nat.add_zero, Nat.mul_one, Option.isNone_some, Option.isNone_none, Nat.add_assoc, c9]
      rw [decide_eq_true (show 0 ≤ id ∧ id < d.S.length from ⟨g, g2⟩)] at hK
      exact hK
    · have g2 := of_decide_eq_false g2
      rw [decide_eq_false (show ¬ (0 ≤ id ∧ id < d.S.length) by omega)] at hK
      exact hK
  · have g := of_decide_eq_false g
    rw [decide_eq_false (show ¬ (0 ≤ id ∧ id < d.S.length) by omega)] at hK
    exact hK

theorem may_ok {id : Int} {K : Int → World → Prop} (h : Bs w d) (hK : K (if 0 ≤ id ∧ id < d.S.length then 0 else 4) w) : C_base_Base_may d.a id w K := by
  apply C_base_Base_may.of
  unfold F_base_Base_may
  refine bmade_ok h (ifF rfl (has_ok h ?_))
  by_cases g : 0 ≤ id ∧ id < d.S.length
  · rw [if_pos g] at hK
    exact ifF (by simp [g]) hK
  · rw [if_neg g] at hK
    exact ifT (by simp; omega) hK

theorem Gen_ok {K : Int → World → Prop} (h : Bs w d) (hK : K d.gen w) : C_base_Base_Generation d.a w K := by
  apply C_base_Base_Generation.of
  unfold F_base_Base_Generation
  refine bmade_ok h (ifF rfl ?_)
  simp only [BsD.a, NN_some, addN, drw_cell, drw_heap, exS, exI, exB, exP, exM, exStr, exV, a0, a1, a2, a3, a4, a5, a6, a7, a8, a9, a10, a11, a12, a13, maxI_eq, Nat.zero_add, Nat.add_zero, Nat.mul_one, Option.isNone_some, Option.isNone_none, h.blk.cell]
  exact hK

theorem Slots_ok {K : Int → World → Prop} (h : Bs w d) (hl : d.S.length < 2 ^ 60) (hK : ∀ w', Upd [] w w' → K d.S.length w') : C_base_Base_Slots d.a w K := by
  apply C_base_Base_Slots.of
  unfold F_base_Base_Slots
  refine bmade_ok h (ifF rfl ?_)
  simp only [BsD.a, NN_some, addN, drw_cell, drw_heap, exS, exI, exB, exP, exM, exStr, exV, a0, a1, a2, a3, a4, a5, a6, a7, a8, a9, a10, a11, a12, a13, maxI_eq, Nat.zero_add, Nat.add_zero, Nat.mul_one, Option.isNone_some, Option.isNone_none, h.blk.cell]
  rw [i64id (by omega) (by omega)]
  have := hK (drw w) (drw_upd w)
  simpa using this

theorem Lives_ok {id gen : Int} {K : Bool → World → Prop} (h : Bs w d) (hK : ∀ w', Upd [] w w' → K (livesI d.S gen id) w') : C_base_Base_Lives d.a id gen w K := by
  apply C_base_Base_Lives.of
  unfold F_base_Base_Lives
  refine has_ok h ?_
  by_cases g : 0 ≤ id ∧ id < d.S.length
  · refine ifF (by simp [g]) ?_
    have hi : id.toNat < d.S.length := by omega
    obtain ⟨bb, off, hp, _, hc⟩ := h.at hi
    have c0 := hc 0 (by omega); have c1 := hc 1 (by omega); have c2 := hc 2 (by omega); have c3 := hc 3 (by omega); have c4 := hc 4 (by omega)
    have c5 := hc 5 (by omega); have c6 := hc 6 (by omega); have c7 := hc 7 (by omega); have c8 := hc 8 (by omega); have c9 := hc 9 (by omega)
    simp only [slC, List.getElem?_cons_succ, List.getElem?_cons_zero, Nat.add_zero] at c0 c1 c2 c3 c4 c5 c6 c7 c8 c9
    simp only [BsD.a, NN_some, addN, drw_cell, drw_heap, exS, exI, exB, exP, exM, exStr, exV, a0, a1, a2, a3, a4, a5, a6, a7, a8, a9, a10, a11, a12, a13, maxI_eq, Nat.zero_add, Nat.add_zero, Nat.mul_one, Option.isNone_some, Option.isNone_none, h.blk.cell]
    rw [hp]
    refine ⟨by omega, by omega, ?_⟩
    simp only [NN_some, addN, drw_cell, drw_heap, exS, exI, exB, exP, exM, exStr, exV, a0, a1, a2, a3, a4, a5, a6, a7, a8, a9, a10, a11, a12, a13, maxI_eq, Nat.zero_add, Nat.add_zero, Nat.mul_one, Option.isNone_some, Option.isNone_none, Nat.add_assoc, c0, c1, c2, c3, c4, c5, c6, c7, c8, c9]
    refine New_rule fun r w1 hr u1 b1 => St10q b1 rfl (by simp [Value.oneCell']) fun w2 u2 b2 => ?_
    have U2 : Upd [] w w2 := u1.fresh u2 (by intro x hx; simp at hx; omega)
    have e : livesI d.S gen id = (d.S[id.toNat]).lives gen := by
      have := livesI_at (gen := gen) hi
      rwa [show ((id.toNat : Nat) : Int) = id by omega] at this
    have := hK w2 U2
    rw [e] at this
    unfold Slt.lives at this
    refine ⟨_, b2.cell 7, ifC (fun g1 => ⟨_, b2.cell 8, ifC (fun g2 => ?_) (fun g2 => ⟨_, b2.cell 8, ?_⟩)⟩) (fun g1 => ?_)⟩
    · rw [g1] at this
      simp at g2
      simpa [g2] using this
    · rw [g1] at this
      simp at g2
      have e2 : decide ((d.S[id.toNat]).dead > gen) = decide (gen < (d.S[id.toNat]).dead) := rfl
      rw [e2]
      simpa [g2] using this
    · rw [g1] at this
      simpa using this
  · refine ifT (by simp; omega) ?_
    have := hK w (Upd.refl _ _)
    rwa [livesI_no g] at this

theorem Size_ok {id : Int} {K : Int → World → Prop} (h : Bs w d) {i : Nat} (hi : i < d.S.length) (hid : id = i) (hK : K (d.S[i].code.length) w) : C_base_Base_Size d.a id w K := by
  subst hid
  apply C_base_Base_Size.of
  unfold F_base_Base_Size
  refine has_ok h (ifF (by simp; omega) ?_)
  obtain ⟨bb, off, hp, _, hc⟩ := h.at hi
  have c6 := hc 6 (by omega)
  simp only [slC, List.getElem?_cons_succ, List.getElem?_cons_zero] at c6
  simp only [BsD.a, NN_some, addN, drw_cell, drw_heap, exS, exI, exB, exP, exM, exStr, exV, a0, a1, a2, a3, a4, a5, a6, a7, a8, a9, a10, a11, a12, a13, maxI_eq, Nat.zero_add, Nat.add_zero, Nat.mul_one, Option.isNone_some, Option.isNone_none, h.blk.cell]
  rw [hp]
  refine ⟨by omega, by omega, ?_⟩
  simp only [NN_some, addN, drw_cell, drw_heap, exS, exI, exB, exP, exM, exStr, exV, a0, a1, a2, a3, a4, a5, a6, a7, a8, a9, a10, a11, a12, a13, maxI_eq, Nat.zero_add, Nat.add_zero, Nat.mul_one, Option.isNone_some, Option.isNone_none, Int.toNat_natCast, Nat.add_assoc, c6]
  exact hK

theorem look_prd (k : PKey) : ∀ PT : List Prd, Go.D.look k (PT.map fun x => (x.1, Value.pointer x.2.a)) = (findP PT k).map fun t => .pointer t.a
  | [] => rfl
  | x :: PT => by
    rw [List.map_cons, look_cons, findP_cons, look_prd k PT]
    by_cases e : k = x.1
    · subst e; simp
    · rw [if_neg e, if_neg fun h => e h.symm]

/-- A predicate's table. -/
theorem pred_ok {k : PKey} {K : Value → World → Prop} (h : Bs w d) (hno : findP d.PT k = none → K (.pointer none) w) (hyes : ∀ t, findP d.PT k = some t → K (.pointer t.a) w) : Run Tryz.prog (Instr.lookup 66 (.map (some d.r)) (.agg #[.string k.1, .int .i64 k.2]) false) w K := by
  refine Lookup_rule (κ := PKey) (kt := 61) (et := 63) (inj := pkV) (z := .pointer none) (k := k) pkKey (by rfl) ⟨_, rfl, rfl⟩ h.map ?_
  rw [look_prd]
  rcases e : findP d.PT k with _ | t
  · exact hno e
  · exact hyes t e

theorem Known_ok {k : PKey} {K : Bool → World → Prop} (h : Bs w d) (hK : K (findP d.PT k).isSome w) : C_base_Base_Known d.a k.1 k.2 w K := by
  apply C_base_Base_Known.of
  unfold F_base_Base_Known
  refine bmade_ok h (ifT rfl ?_)
  simp only [BsD.a, NN_some, addN, drw_cell, drw_heap, exS, exI, exB, exP, exM, exStr, exV, a0, a1, a2, a3, a4, a5, a6, a7, a8, a9, a10, a11, a12, a13, maxI_eq, Nat.zero_add, Nat.add_zero, Nat.mul_one, Option.isNone_some, Option.isNone_none, h.blk.cell]
  refine pred_ok h (fun e => ?_) (fun t e => ?_)
  · rw [e] at hK
    exact ⟨none, rfl, hK⟩
  · rw [e] at hK
    exact ⟨_, rfl, hK⟩

end

end Go.Proofs.YtlndgaijekihiaaGreat

/- A base: the first clause that lives, the next one, all. -/
namespace Go.Proofs.YtlndgaijekihiaaGreat
open Go Go.D Go.Proofs
set_option linter.unusedSimpArgs false
set_option linter.unusedVariables false
set_option maxRecDepth 8000

theorem Ix.zk0 : Ix.zk.1 = 0 ∧ Ix.zk.2.1 = ⟨#[]⟩ ∧ Ix.zk.2.2 = 0 := ⟨rfl, rfl, rfl⟩

section
variable {w : World} {d : BsD} {k : PKey} {t : Ix.TbD}

theorem headT_ok {K : Int → Bool → World → Prop} (h : Ix.Tb w t) (ok : Ix.TbOk t d.gen) (hg : d.gen < 2 ^ 40) (hK : ∀ w', Upd [] w w' → K (((idsT t)[0]?).getD 0) ((idsT t)[0]?).isSome w') : C_index_Table_Head t.a 0 ⟨#[]⟩ 0 w K := by
  refine Ix.Head_ok (k := Ix.zk) h ok (by omega) fun w' u => ?_
  have e : (t.E.find? fun e => Ix.meets e.key Ix.zk) = t.E[0]? := by
    rw [find_filter]
    have := Ix.metE_zk t.E
    unfold Ix.metE at this
    rw [this]
  have := hK w' u
  rw [e]
  unfold idsT at this
  rw [List.getElem?_map] at this
  simpa using this

theorem nextT_ok {j : Nat} (hj : j < (idsT t).length) {id : Int} (hid : id = (idsT t)[j]) {K : Int → Bool → World → Prop} (h : Ix.Tb w t) (ok : Ix.TbOk t d.gen) (hg : d.gen < 2 ^ 40) (hK : ∀ w', Upd [] w w' → K (((idsT t)[j + 1]?).getD 0) ((idsT t)[j + 1]?).isSome w') : C_index_Table_Next t.a id 0 ⟨#[]⟩ 0 w K := by
  subst hid
  have hl : j < t.E.length := by unfold idsT at hj; simpa using hj
  refine Ix.Next_ok (k := Ix.zk) h ok (by omega) fun w' u => ?_
  have e0 : (idsT t)[j] = t.E[j].id := List.getElem_map ..
  have hm : j < (Ix.metE t.E Ix.zk).length := by rw [Ix.metE_zk]; exact hl
  have e1 := Ix.nextE_met (k := Ix.zk) ok.rising hm
  have e2 : (Ix.metE t.E Ix.zk)[j] = t.E[j] := by simp [Ix.metE_zk]
  rw [e2] at e1
  rw [Ix.metE_zk] at e1
  rw [e0, Ix.find_id ok.ids (List.getElem_mem hl)]
  simp only [Option.bind_some, e1]
  have := hK w' u
  unfold idsT at this
  rw [List.getElem?_map] at this
  simpa using this

theorem first_ok {gen : Int} {j : Nat} (hj : j ≤ (idsT t).length) {K : Int → Bool → World → Prop} (h : Bs w d) (ok : BsOk d) (ht : (k, t) ∈ d.PT) (hg : d.gen < 2 ^ 40)
    (hK : ∀ w', Upd [] w w' → K ((((idsT t).drop j).find? (livesI d.S gen)).getD 0) (((idsT t).drop j).find? (livesI d.S gen)).isSome w') :
    C_base_Base_first d.a t.a (((idsT t)[j]?).getD 0) ((idsT t)[j]?).isSome 0 ⟨#[]⟩ 0 gen w K := by
  apply C_base_Base_first.of
  unfold F_base_Base_first F_base_Base_first_L1
  refine New_rule fun r w1 hr u1 b1 => ?_
  have tok := ok.tb _ ht
  have hnd : (idsT t).Nodup := tok.ids
  refine ⟨fun s z => ∃ i : Nat, i ≤ (idsT t).length ∧ s.idx_1 = ((idsT t)[i]?).getD 0 ∧ s.isx_1 = ((idsT t)[i]?).isSome ∧ ((idsT t).drop i).find? (livesI d.S gen) = ((idsT t).drop j).find? (livesI d.S gen) ∧ Upd [] w1 z, fun s _ => if s.isx_1 then (idsT t).length - (idsT t).idxOf s.idx_1 else 0, ⟨j, hj, rfl, rfl, rfl, Upd.refl _ _⟩, ?_⟩
  rintro ⟨sid, sis⟩ z ⟨i, hi, e1, e2, ef, uz⟩
  dsimp only at e1 e2
  subst e1 e2
  unfold B_base_Base_first_L1
  have U := u1.after uz
  dsimp only
  by_cases hl : i < (idsT t).length
  · rw [List.getElem?_eq_getElem hl]
    refine ifT rfl (Lives_ok (h.keep U) fun z1 v1 => ifC (fun g => ?_) (fun g => ?_))
    · have bz := (b1.upd uz (by simp)).upd v1 (by simp)
      refine ⟨_, bz.cell 0, _, bz.cell 1, _, bz.cell 2, nextT_ok hl rfl (((h.keep U).keep v1).tb _ ht) tok hg fun z2 v2 => ?_⟩
      have hno : livesI d.S gen (idsT t)[i] = false := by simpa using g
      refine ⟨⟨i + 1, by omega, rfl, rfl, ?_, uz.after (v1.after v2)⟩, ?_⟩
      · rw [← ef, List.drop_eq_getElem_cons hl, List.find?_cons, hno]
      · have ei : (idsT t).idxOf ((some (idsT t)[i]).getD 0) = i := hnd.idxOf_getElem i hl
        show _ < (if true = true then (idsT t).length - (idsT t).idxOf ((some (idsT t)[i]).getD 0) else 0)
        rw [if_pos rfl, ei]
        by_cases h2 : i + 1 < (idsT t).length
        · rw [List.getElem?_eq_getElem h2]
          have e2 : (idsT t).idxOf ((some (idsT t)[i + 1]).getD 0) = i + 1 := hnd.idxOf_getElem (i + 1) h2
          show (if true = true then _ else 0) < _
          rw [if_pos rfl, e2]; omega
        · rw [List.getElem?_eq_none (by omega)]
          show (if false = true then _ else 0) < _
          rw [if_neg (by simp)]; omega
    · have hyes : livesI d.S gen (idsT t)[i] = true := by simpa using g
      have := hK z1 (U.after v1)
      rw [← ef, List.drop_eq_getElem_cons hl, List.find?_cons, hyes] at this
      exact this
  · have hn : (idsT t)[i]? = none := List.getElem?_eq_none (by omega)
    rw [hn]
    refine ifF rfl ?_
    have := hK z U
    rw [← ef, List.drop_eq_nil_of_le (by omega)] at this
    exact this

/-- The first clause of a predicate that lives. -/
theorem BHead_ok {gen : Int} {K : Int → Bool → World → Prop} (h : Bs w d) (ok : BsOk d) (hg : d.gen < 2 ^ 40) (hK : ∀ w', Upd [] w w' → K (((tells d.S d.PT k gen)[0]?).getD 0) ((tells d.S d.PT k gen)[0]?).isSome w') : C_base_Base_Head d.a k.1 k.2 0 ⟨#[]⟩ 0 gen w K := by
  apply C_base_Base_Head.of
  unfold F_base_Base_Head
  refine New_rule fun r w1 hr u1 b1 => bmade_ok (h.keep u1) (ifF rfl ?_)
  have h1 := h.keep u1
  simp only [BsD.a, NN_some, addN, drw_cell, drw_heap, exS, exI, exB, exP, exM, exStr, exV, a0, a1, a2, a3, a4, a5, a6, a7, a8, a9, a10, a11, a12, a13, maxI_eq, Nat.zero_add, Nat.add_zero, Nat.mul_one, Option.isNone_some, Option.isNone_none, h1.blk.cell]
  refine pred_ok h1 (fun e => ⟨none, rfl, _, b1.cell 0, _, b1.cell 1, _, b1.cell 2, Ix.Head_nil fun w2 u2 => ?_⟩) (fun t e => ⟨_, rfl, _, b1.cell 0, _, b1.cell 1, _, b1.cell 2, ?_⟩)
  · have b2 := b1.upd u2 (by simp)
    refine ⟨_, b2.cell 0, _, b2.cell 1, _, b2.cell 2, ?_⟩
    apply C_base_Base_first.of
    unfold F_base_Base_first F_base_Base_first_L1
    refine New_rule fun r3 w3 hr3 u3 b3 => ⟨fun s z => s = ⟨0, false⟩ ∧ Upd [] w3 z, fun _ _ => 0, ⟨rfl, Upd.refl _ _⟩, ?_⟩
    rintro s z ⟨rfl, uz⟩
    unfold B_base_Base_first_L1
    refine ifF rfl ?_
    have := hK z (((u1.after u2).after u3).after uz)
    unfold tells at this
    rw [idsP_none e] at this
    exact this
  · have hm := findP_mem e
    refine headT_ok (d := d) (h1.tb _ hm) (ok.tb _ hm) hg fun w2 u2 => ?_
    have b2 := b1.upd u2 (by simp)
    refine ⟨_, b2.cell 0, _, b2.cell 1, _, b2.cell 2, first_ok (j := 0) (by omega) (h1.keep u2) ok hm hg fun w3 u3 => ?_⟩
    have := hK w3 ((u1.after u2).after u3)
    unfold tells at this
    rw [idsP_some e, ← find_filter] at this
    exact this

theorem of_ok {s : Tm} {q : Option Addr} {c : Nat} {K : ByteArray → Int → World → Prop} (hK : ∀ w', Upd [] w w' → K s.s s.l.length w') : C_base_of s.kind s.n s.s q s.l.length c w K := by
  apply C_base_of.of
  unfold F_base_of
  refine New_rule fun r w1 hr u1 b1 => New_rule fun r1 w2 hr1 u2 b2 => ?_
  have b1' := b1.upd u2 (by simp)
  refine ⟨_, b1'.cell 2, _, _, _, b1'.cell 3, ?_⟩
  simp only [addN, Nat.zero_add]
  refine St_acc (Upd.refl _ _) b2 (by simp) rfl fun z0 y0 c0 => St_acc y0 c0 (by simp) rfl fun z1 y1 c1 => ?_
  simp at c1
  simp only [NN_some, addN, drw_cell, drw_heap, exS, exI, exB, exP, exM, exStr, exV, a0, a1, a2, a3, a4, a5, a6, a7, a8, a9, a10, a11, a12, a13, maxI_eq, Nat.zero_add, Nat.add_zero, Nat.mul_one, Option.isNone_some, Option.isNone_none, c1.cell]
  exact hK z1 ((u1.after u2).fresh y1 (by intro x hx; simp at hx; have := u1.size; omega))

/-- The next one behind a clause. -/
theorem BNext_ok {gen : Int} {i : Nat} (hi : i < (tells d.S d.PT k gen).length) {id : Int} (hid : id = (tells d.S d.PT k gen)[i]) {K : Int → Bool → World → Prop} (h : Bs w d) (ok : BsOk d) (hg : d.gen < 2 ^ 40)
    (hK : ∀ w', Upd [] w w' → K (((tells d.S d.PT k gen)[i + 1]?).getD 0) ((tells d.S d.PT k gen)[i + 1]?).isSome w') : C_base_Base_Next d.a id 0 ⟨#[]⟩ 0 gen w K := by
  rcases e : findP d.PT k with _ | t
  · exfalso
    unfold tells at hi
    rw [idsP_none e] at hi
    simp at hi
  have hm := findP_mem e
  have et : tells d.S d.PT k gen = (idsT t).filter (livesI d.S gen) := by unfold tells; rw [idsP_some e]
  have hi' : i < ((idsT t).filter (livesI d.S gen)).length := by rw [← et]; exact hi
  obtain ⟨j, hj, ej, en⟩ := filter_next hi'
  have hid' : id = (idsT t)[j] := by rw [hid, ej]; congr 1
  subst hid'
  obtain ⟨g0, g1, gk⟩ := ok.ids _ hm _ (List.getElem_mem hj)
  apply C_base_Base_Next.of
  unfold F_base_Base_Next
  refine New_rule fun r w1 hr u1 b1 => has_ok (h.keep u1) (ifF (by simp; omega) ?_)
  have h1 := h.keep u1
  have ud := drw_upd w1
  have hd := h1.keep ud
  have hil : (idsT t)[j].toNat < d.S.length := by omega
  obtain ⟨bb, off, hp, _, hc⟩ := h1.at hil
  have c0 := hc 0 (by omega); have c1 := hc 1 (by omega); have c2 := hc 2 (by omega); have c3 := hc 3 (by omega)
  simp only [slC, List.getElem?_cons_succ, List.getElem?_cons_zero, Nat.add_zero] at c0 c1 c2 c3
  simp only [BsD.a, NN_some, addN, drw_cell, drw_heap, exS, exI, exB, exP, exM, exStr, exV, a0, a1, a2, a3, a4, a5, a6, a7, a8, a9, a10, a11, a12, a13, maxI_eq, Nat.zero_add, Nat.add_zero, Nat.mul_one, Option.isNone_some, Option.isNone_none, h1.blk.cell]
  rw [hp]
  refine ⟨by omega, by omega, ?_⟩
  simp only [NN_some, addN, drw_cell, drw_heap, exS, exI, exB, exP, exM, exStr, exV, a0, a1, a2, a3, a4, a5, a6, a7, a8, a9, a10, a11, a12, a13, maxI_eq, Nat.zero_add, Nat.add_zero, Nat.mul_one, Option.isNone_some, Option.isNone_none, Nat.add_assoc, c0, c1, c2, c3]
  have gk' := gk _ (List.getElem?_eq_getElem hil)
  refine of_ok fun w2 u2 => ?_
  have h2 := hd.keep u2
  have ek : (d.S[(idsT t)[j].toNat]).h.s = k.1 ∧ (((d.S[(idsT t)[j].toNat]).h.l.length : Nat) : Int) = k.2 := by
    have gk2 : (d.S[(idsT t)[j].toNat]).key = k := gk'
    unfold Slt.key at gk2
    rw [← gk2]
    exact ⟨rfl, rfl⟩
  refine ⟨by simp only [h2.blk.cell]; rfl, ?_⟩
  rw [ek.1, ek.2]
  refine pred_ok h2 (fun e' => by rw [e] at e'; cases e') (fun t' e' => ?_)
  rw [e] at e'
  cases e'
  have b2 := (b1.upd ud (by simp)).upd u2 (by simp)
  refine ⟨_, rfl, _, b2.cell 0, _, b2.cell 1, _, b2.cell 2, nextT_ok (d := d) hj rfl (h2.tb _ hm) (ok.tb _ hm) hg fun w3 u3 => ?_⟩
  have b3 := b2.upd u3 (by simp)
  refine ⟨_, b3.cell 0, _, b3.cell 1, _, b3.cell 2, first_ok (j := j + 1) (by omega) (h2.keep u3) ok hm hg fun w4 u4 => ?_⟩
  have := hK w4 ((((u1.after ud).after u2).after u3).after u4)
  rw [et, ← en] at this
  exact this

end

end Go.Proofs.YtlndgaijekihiaaGreat

/- Terms are copied. -/
namespace Go.Proofs.YtlndgaijekihiaaGreat
open Go Go.D Go.Proofs
set_option linter.unusedSimpArgs false
set_option linter.unusedVariables false
set_option maxRecDepth 8000

theorem St4q {w1 : World} {r : Nat} {c0 c1 c2 c3 v0 v1 v2 v3 : Value} {K : World → Prop} (hb : Blk w1 r #[c0, c1, c2, c3]) (h0 : v0.oneCell' = true) (h1 : v1.oneCell' = true) (h2 : v2.oneCell' = true) (h3 : v3.oneCell' = true) (hK : ∀ w', Upd [r] w1 w' → Blk w' r #[v0, v1, v2, v3] → K w') :
    St w1 (⟨r, 0, none⟩ : Addr) v0 fun z0 => St z0 (⟨r, 1, none⟩ : Addr) v1 fun z1 => St z1 (⟨r, 2, none⟩ : Addr) v2 fun z2 => St z2 (⟨r, 3, none⟩ : Addr) v3 K := by
  refine St_acc (Upd.refl _ _) hb (by simp) h0 fun z0 y0 b0 => St_acc y0 b0 (by simp) h1 fun z1 y1 b1 => St_acc y1 b1 (by simp) h2 fun z2 y2 b2 => St_acc y2 b2 (by simp) h3 fun z3 y3 b3 => ?_
  simp at b3
  exact hK z3 y3 b3

/-- One part more is copied. -/
def cpB (C : Int → Int → ByteArray → Option Addr → Nat → Nat → World → (Int → Int → ByteArray → Option Addr → Nat → Nat → World → Prop) → Prop) (u : Addr) (p : Option Addr) (N : Nat) (i : Int) (w : World) (Kn : Int → World → Prop) : Prop :=
  0 ≤ i ∧ i < (N : Int) ∧ NN p fun a =>
  ∃ t240 : Int, w.cell? ((a.add (i.toNat * 4)).add 0) = some (.int .i64 t240) ∧
  ∃ t241 : Int, w.cell? ((a.add (i.toNat * 4)).add 1) = some (.int .i64 t241) ∧
  ∃ t242 : ByteArray, w.cell? ((a.add (i.toNat * 4)).add 2) = some (.string t242) ∧
  ∃ t243P : Option Addr, ∃ t243N : Nat, ∃ t243C : Nat, w.cell? ((a.add (i.toNat * 4)).add 3) = some (.slice t243P t243N t243C) ∧
  New w (.cells #[.int .i64 0, .int .i64 0, .string ⟨#[]⟩, .slice none 0 0] 24) fun r_6 w1_13 =>
  St w1_13 ((⟨r_6, 0, none⟩ : Addr).add 0) (.int .i64 t240) fun w1_14 =>
  St w1_14 ((⟨r_6, 0, none⟩ : Addr).add 1) (.int .i64 t241) fun w1_15 =>
  St w1_15 ((⟨r_6, 0, none⟩ : Addr).add 2) (.string t242) fun w1_16 =>
  St w1_16 ((⟨r_6, 0, none⟩ : Addr).add 3) (.slice t243P t243N t243C) fun w1_17 =>
  ∃ LP_1 : Option Addr, ∃ LN_1 : Nat, ∃ LC_1 : Nat, (drw w1_17).cell? (u.add 3) = some (.slice LP_1 LN_1 LC_1) ∧
  ∃ t270 : Int, (drw w1_17).cell? ((⟨r_6, 0, none⟩ : Addr).add 0) = some (.int .i64 t270) ∧
  ∃ t271 : Int, (drw w1_17).cell? ((⟨r_6, 0, none⟩ : Addr).add 1) = some (.int .i64 t271) ∧
  ∃ t272 : ByteArray, (drw w1_17).cell? ((⟨r_6, 0, none⟩ : Addr).add 2) = some (.string t272) ∧
  ∃ t273P : Option Addr, ∃ t273N : Nat, ∃ t273C : Nat, (drw w1_17).cell? ((⟨r_6, 0, none⟩ : Addr).add 3) = some (.slice t273P t273N t273C) ∧
  C t270 t271 t272 t273P t273N t273C (drw w1_17) fun t280 t281 t282 t283P t283N t283C w1_18 =>
  w1_18.cell? (u.add 3) = (drw w1_17).cell? (u.add 3) ∧
  BSl Tryz.prog 22 1 [(0, .agg #[.int .i64 t280, .int .i64 t281, .string t282, .slice t283P t283N t283C])] w1_18 fun t29P t29N t29C w1_19 =>
  w1_19.cell? (u.add 3) = (drw w1_17).cell? (u.add 3) ∧
  App Tryz.prog #[22, 22] 22 #[.slice LP_1 LN_1 LC_1, .slice t29P t29N t29C] w1_19 fun t30P t30N t30C w1_20 =>
  St w1_20 ((u.add 3).add 0) (.slice t30P t30N t30C) fun w1_21 =>
  Kn (IntKind.i64.wrap (i + (1 : Int))) w1_21

/-- A copy that is being made in the block r. -/
structure CpI (w0 z : World) (r : Nat) (t : Tm) (i : Nat) (p2 : Option Addr) (c2 : Nat) (G2 F2 : List Nat) : Prop where
  bz : Blk z r #[.int .i64 t.kind, .int .i64 t.n, .string t.s, .slice p2 i c2]
  tz : TmsAt z p2 i c2 (t.l.take i) G2 F2
  sn : Since (G2 ++ F2) w0
  dis : Dis G2 F2
  up : Upd [r] w0 z
  lt : r < w0.heap.size

theorem cp_step {C : Int → Int → ByteArray → Option Addr → Nat → Nat → World → (Int → Int → ByteArray → Option Addr → Nat → Nat → World → Prop) → Prop} {F : List Nat} {t : Tm} {q : Option Addr} {w0 z : World} {r i : Nat} {p2 : Option Addr} {c2 : Nat} {G2 F2 : List Nat} {Kn : Int → World → Prop}
    (ci : CpI w0 z r t i p2 c2 G2 F2) (gi : i < t.l.length) (hz : t.size < 2 ^ 29) (rp : RdA w0 F t.l q 0) (hrF : r ∉ F) (hF : In F w0)
    (hC : ∀ {z' : World} {q' : Option Addr} {c' : Nat} {K' : Int → Int → ByteArray → Option Addr → Nat → Nat → World → Prop}, RdA z' F t.l[i].l q' 0 → In F z' → t.l[i].s.size < 2 ^ 63 → (∀ w' p c' G, RdA w' G t.l[i].l p 0 → In G w' → Since G z' → Upd [] z' w' → K' t.l[i].kind t.l[i].n t.l[i].s p t.l[i].l.length c' w') → C t.l[i].kind t.l[i].n t.l[i].s q' t.l[i].l.length c' z' K')
    (hK : ∀ z' p' c' G' F', CpI w0 z' r t (i + 1) p' c' G' F' → Kn ((i : Int) + 1) z') : cpB C ⟨r, 0, none⟩ q t.l.length i z Kn := by
  obtain ⟨bz, tz, hS2, hGF2, uz, hlt⟩ := ci
  unfold cpB
  have nF : Dis F [r] := fun k hk hx => by simp at hx; subst hx; exact hrF hk
  have rpz := RdA.upd' uz nF rp
  obtain ⟨x, q2, cq, f1, f2, f3, f4, f5, f6, f7, f8⟩ := rpz.at i gi
  simp only [Nat.zero_add] at f3 f4 f5 f6
  obtain ⟨v, hv⟩ : ∃ v, v = t.l[i] := ⟨_, rfl⟩
  rw [← hv] at f3 f4 f5 f6 f7 f8 hC
  have tl := t.size_eq
  have tp := sizeL_pos (l := t.l)
  rw [f1]
  refine ⟨by omega, by omega, ?_⟩
  simp only [NN_some, addN, drw_cell, drw_heap, exS, exI, exB, exP, exM, exStr, exV, a0, a1, a2, a3, a4, a5, a6, a7, a8, a9, a10, a11, a12, a13, maxI_eq, Nat.zero_add, Nat.add_zero, Nat.mul_one, Option.isNone_some, Option.isNone_none, addA, Int.toNat_natCast, f3, f4, f5, f6, bz.cell]
  refine New_rule fun r6 z1 hr6 v1 b1 => St4q b1 rfl rfl rfl rfl fun z2 v2 b2 => ?_
  have s0 := uz.size
  have V2 : Upd [] z z2 := v1.fresh v2 (by intro k hk; simp at hk; omega)
  have ud := drw_upd z2
  have bz2 := bz.upd V2 (by simp)
  simp only [NN_some, addN, drw_cell, drw_heap, exS, exI, exB, exP, exM, exStr, exV, a0, a1, a2, a3, a4, a5, a6, a7, a8, a9, a10, a11, a12, a13, maxI_eq, Nat.zero_add, Nat.add_zero, Nat.mul_one, Option.isNone_some, Option.isNone_none, bz2.cell, b2.cell]
  have Vd := V2.after ud
  have inF : In F (drw z2) := fun k hk => by have := hF k hk; have := Vd.size; omega
  refine hC (RdA.keep Vd f8) inF f7 fun z3 q3 c3 F3 ra3 in3 sn3 v3 => ?_
  have bz3 := (bz2.upd ud (by simp)).upd v3 (by simp)
  refine ⟨by simp only [NN_some, addN, drw_cell, drw_heap, exS, exI, exB, exP, exM, exStr, exV, a0, a1, a2, a3, a4, a5, a6, a7, a8, a9, a10, a11, a12, a13, maxI_eq, Nat.zero_add, Nat.add_zero, Nat.mul_one, Option.isNone_some, Option.isNone_none, bz3.cell], BSlL_rule eS_22 [.agg #[.int .i64 v.kind, .int .i64 v.n, .string v.s, .slice q3 v.l.length c3]] (by rfl) (by simp [Value.cells]) (by rfl) (by omega) fun z4 hs4 v4 => ?_⟩
  have hs4' : SlAt z4 4 (some ⟨z3.heap.size, 0, none⟩) 1 1 (tmC (v, q3, c3)) [z3.heap.size] := by simpa [Value.cells, tmC] using hs4
  have bz4 := bz3.upd v4 (by simp)
  refine ⟨by simp only [NN_some, addN, drw_cell, drw_heap, exS, exI, exB, exP, exM, exStr, exV, a0, a1, a2, a3, a4, a5, a6, a7, a8, a9, a10, a11, a12, a13, maxI_eq, Nat.zero_add, Nat.add_zero, Nat.mul_one, Option.isNone_some, Option.isNone_none, bz4.cell], ?_⟩
  have V4 := (Vd.after v3).after v4
  have tz4 := tz.keep V4
  have sd := Vd.size
  have GF3 : Dis G2 F3 := fun k hk hx => by have := tz.inn.1 k hk; have := sn3 k hx; omega
  refine tz4.push (t := v) (m := 1) hs4' f7 (RdA.keep v4 ra3) (in3.upd v4) hGF2 GF3 (by rw [List.length_take]; omega) fun p5 c5 G5 z5 t5 v5 g5 => ?_
  have rG : r ∉ G2 := fun hx => by have := hS2 r (by simp [hx]); omega
  have rG5 : r ∉ G5 := fun hx => by
    rcases g5 _ hx with g2 | g2
    · exact rG g2
    · have := bz.lt; have := V4.size; omega
  have rF5 : r ∉ F2 ++ F3 := fun hx => by
    rcases List.mem_append.1 hx with g2 | g2
    · have := hS2 r (by simp [g2]); omega
    · have := sn3 r g2; have := bz.lt; omega
  refine St_rule (bz4.upd v5 rG) (by simp) rfl fun z6 v6 b6 => ?_
  simp at b6
  rw [i64id (by omega) (by omega)]
  have t6 := t5.upd v6 (fun k hk hx => by simp at hx; subst hx; exact rG5 hk) (fun k hk hx => by simp at hx; subst hx; exact rF5 hk)
  rw [show t.l.take i ++ [v] = t.l.take (i + 1) by rw [take_step gi, hv]] at t6
  have s4 := V4.size
  have s3 := v3.size
  refine hK z6 p5 c5 G5 (F2 ++ F3) ⟨b6, t6, fun k hk => ?_, fun k hk hx => ?_, ?_, hlt⟩
  · simp only [List.mem_append] at hk
    rcases hk with g2 | g2 | g2
    · rcases g5 k g2 with e | e
      · exact hS2 k (by simp [e])
      · omega
    · exact hS2 k (by simp [g2])
    · have := sn3 k g2; omega
  · rcases List.mem_append.1 hx with g2 | g2
    · rcases g5 k hk with e | e
      · exact hGF2 k e g2
      · have := tz.inn.2 k g2; omega
    · rcases g5 k hk with e | e
      · exact GF3 k e g2
      · have := in3 k g2; have := v4.size; omega
  · exact uz.trans ((V4.trans v5 (F := []) (H := G2) (by simp) fun _ hx => .inl hx).trans v6 (F := G2) (H := r :: G2) (fun x hx => .inl (by simp [hx])) (fun x hx => .inl (by simp at hx; simp [hx]))) (fun x hx => .inl hx) fun x hx => by
      rcases List.mem_cons.1 hx with e | e
      · exact .inl (by simp [e])
      · exact .inr (hS2 x (by simp [e]))

theorem CpI.fin {w0 z : World} {r : Nat} {t : Tm} {p2 : Option Addr} {c2 : Nat} {G2 F2 : List Nat} (h : CpI w0 z r t t.l.length p2 c2 G2 F2) : RdA z (G2 ++ F2) t.l p2 0 ∧ In (G2 ++ F2) z := by
  have := h.tz
  rw [List.take_length] at this
  refine ⟨this.rd, fun k hk => ?_⟩
  rcases List.mem_append.1 hk with g | g
  · exact this.inn.1 k g
  · exact this.inn.2 k g

theorem bytes_nil {s : ByteArray} (h : s.toList = []) : s = ⟨#[]⟩ := by
  have hl : ∀ (n i : Nat) (r : List UInt8), s.size - i = n → (ByteArray.toList.loop s i r).length = n + r.length := by
    intro n
    induction n with
    | zero =>
      intro i r hn
      rw [ByteArray.toList.loop.eq_1, if_neg (by omega)]; simp
    | succ n ih =>
      intro i r hn
      rw [ByteArray.toList.loop.eq_1, if_pos (by omega), ih _ _ (by omega), List.length_cons]; omega
  have := hl s.size 0 [] (by omega)
  unfold ByteArray.toList at h
  rw [h] at this
  have h0 : s.size = 0 := by simpa using this.symm
  obtain ⟨a⟩ := s
  have : a.size = 0 := h0
  rw [Array.eq_empty_of_size_eq_zero this]

theorem right_var {t : Tm} (h : t.right = true) (h1 : t.kind = 1) : t.s = ⟨#[]⟩ ∧ t.l = [] := by
  rw [Tm.right_eq, Bool.and_eq_true] at h
  have hp := h.1
  unfold partT at hp
  rw [if_pos h1] at hp
  simp only [Bool.and_eq_true, beq_iff_eq] at hp
  exact ⟨bytes_nil hp.1.2, List.length_eq_zero_iff.1 hp.2⟩

theorem right_mem : ∀ {l : List Tm}, rightL l = true → ∀ t ∈ l, t.right = true
  | [], _, t, ht => by cases ht
  | u :: l, h, t, ht => by
    rw [rightL, Bool.and_eq_true] at h
    rcases List.mem_cons.1 ht with e | e
    · rw [e]; exact h.1
    · exact right_mem h.2 t e

section
variable {F : List Nat}

theorem tbuild_ok (t : Tm) : ∀ {w : World} {q : Option Addr} {c : Nat} {K : Int → Int → ByteArray → Option Addr → Nat → Nat → World → Prop}, t.right = true → RdA w F t.l q 0 → In F w → t.s.size < 2 ^ 63 → t.size < 2 ^ 29 → (∀ w' p c' G, RdA w' G t.l p 0 → In G w' → Since G w → Upd [] w w' → K t.kind t.n t.s p t.l.length c' w') →
    C_term_build t.kind t.n t.s q t.l.length c (.func (.func 94) #[] #[]) w K := by
  refine Tm.ind (P := fun t => ∀ {w : World} {q : Option Addr} {c : Nat} {K : Int → Int → ByteArray → Option Addr → Nat → Nat → World → Prop}, t.right = true → RdA w F t.l q 0 → In F w → t.s.size < 2 ^ 63 → t.size < 2 ^ 29 → (∀ w' p c' G, RdA w' G t.l p 0 → In G w' → Since G w → Upd [] w w' → K t.kind t.n t.s p t.l.length c' w') →
    C_term_build t.kind t.n t.s q t.l.length c (.func (.func 94) #[] #[]) w K) (fun t ih => ?_) t
  intro w q c K hr hp hF hs hz hK
  apply C_term_build.of
  unfold F_term_build
  refine New_rule fun r w1 hr1 u1 b1 => New_rule fun r1 w2 hr2 u2 b2 => ?_
  have b1' := b1.upd u2 (by simp)
  have U2 := u1.after u2
  have l1 := b1.lt
  have l2 := b2.lt
  have s1 := u1.size
  have s2 := u2.size
  refine ⟨t.kind, b1'.cell 0, ifC (fun g => ⟨t.n, b1'.cell 1, ?_⟩) (fun g => ⟨t.kind, b1'.cell 0, t.n, b1'.cell 1, t.s, b1'.cell 2, New_rule fun r5 w3 hr5 u3 b3 => St4q b3 rfl rfl rfl rfl fun w4 u4 b4 => ?_⟩)⟩
  · have k1 : t.kind = 1 := by simpa using g
    obtain ⟨e1, e2⟩ := right_var hr k1
    refine ⟨_, _, _, rfl, rfl, ?_⟩
    refine Calls.mono (C_term_Var.of (n := t.n) (R := fun k n s p l c w' => k = 1 ∧ n = t.n ∧ s = ⟨#[]⟩ ∧ p = none ∧ l = 0 ∧ c = 0 ∧ Upd [] w2 w') ?_) ?_
    · unfold F_term_Var
      refine New_rule fun r6 z1 hr6 v1 c1 => ?_
      simp only [NN_some, addN, drw_cell, drw_heap, exS, exI, exB, exP, exM, exStr, exV, a0, a1, a2, a3, a4, a5, a6, a7, a8, a9, a10, a11, a12, a13, maxI_eq, Nat.zero_add, Nat.add_zero, Nat.mul_one, Option.isNone_some, Option.isNone_none]
      refine St4q c1 rfl rfl rfl rfl fun z2 v2 c2 => ?_
      simp only [NN_some, addN, drw_cell, drw_heap, exS, exI, exB, exP, exM, exStr, exV, a0, a1, a2, a3, a4, a5, a6, a7, a8, a9, a10, a11, a12, a13, maxI_eq, Nat.zero_add, Nat.add_zero, Nat.mul_one, Option.isNone_some, Option.isNone_none, c2.cell]
      exact ⟨trivial, trivial, trivial, trivial, trivial, trivial, v1.fresh v2 (by intro k hk; simp at hk; omega)⟩
    · rintro e w3 ⟨k, n, s, p, l, c', he, rfl, rfl, rfl, rfl, rfl, rfl, v⟩
      refine ⟨_, he, _, _, _, _, _, _, rfl, St4q (b2.upd v (by simp)) rfl rfl rfl rfl fun w4 u4 b4 => ⟨_, b4.cell 0, _, b4.cell 1, _, b4.cell 2, _, _, _, b4.cell 3, ?_⟩⟩
      have := hK w4 none 0 [] (by rw [e2]; exact RdA.of fun i hi => absurd hi (by simp)) (by intro k hk; cases hk) (by intro k hk; cases hk) ((U2.after v).fresh u4 (by intro k hk; simp at hk; omega))
      rw [k1, e1, e2] at this
      exact this
  · have U4 : Upd [] w2 w4 := u3.fresh u4 (by intro k hk; simp at hk; omega)
    have V4 := U2.after U4
    have b14 := b1'.upd U4 (by simp)
    have b24 := b2.upd U4 (by simp)
    have hp4 := RdA.keep V4 hp
    have hF4 := hF.upd V4
    have r5F : r5 ∉ F := fun hx => by have := hF r5 hx; omega
    refine ⟨_, _, _, b14.cell 3, ?_⟩
    unfold F_term_build_L1
    have tl := t.size_eq
    have tp := sizeL_pos (l := t.l)
    have rr : rightL t.l = true := by rw [Tm.right_eq, Bool.and_eq_true] at hr; exact hr.2
    refine ⟨fun s z => ∃ (i : Nat) (p2 : Option Addr) (c2 : Nat) (G2 F2 : List Nat), s.t25 = i ∧ i ≤ t.l.length ∧ CpI w4 z r5 t i p2 c2 G2 F2, fun s _ => (t.l.length - s.t25).toNat,
      ⟨0, none, 0, [], [], rfl, by omega, b4, by simpa using TmsAt.nil _, (by intro k hk; cases hk), (by intro k hk; cases hk), Upd.refl _ _, b4.lt⟩, ?_⟩
    rintro ⟨si⟩ z ⟨i, p2, c2, G2, F2, rfl, hi, ci⟩
    unfold B_term_build_L1
    refine ifC (fun g2 => ?_) (fun g2 => ?_)
    · have gi : i < t.l.length := by have := of_decide_eq_true g2; dsimp only at this; omega
      refine cp_step (C := fun a b s p n c w K => C_term_build a b s p n c (.func (.func 94) #[] #[]) w K) (Kn := fun j z' => (∃ (i : Nat) (p2 : Option Addr) (c2 : Nat) (G2 F2 : List Nat), j = i ∧ i ≤ t.l.length ∧ CpI w4 z' r5 t i p2 c2 G2 F2) ∧ ((t.l.length : Int) - j).toNat < ((t.l.length : Int) - (i : Int)).toNat) ci gi hz hp4 r5F hF4 (fun ra inF hs' hk => ?_) (fun z' p' c' G' F' ci' => ⟨⟨i + 1, p', c', G', F', by simp, by omega, ci'⟩, by omega⟩)
      have := sizeL_le (List.getElem_mem gi)
      exact ih _ (List.getElem_mem gi) (right_mem rr _ (List.getElem_mem gi)) ra inF hs' (by omega) hk
    · have gi : i = t.l.length := by have := of_decide_eq_false g2; dsimp only at this; omega
      subst gi
      obtain ⟨ra, inn⟩ := ci.fin
      have bz := ci.bz
      have uz := ci.up
      have sn := ci.sn
      have sz := uz.size
      have s4 := U4.size
      refine ⟨_, bz.cell 0, _, bz.cell 1, _, bz.cell 2, _, _, _, bz.cell 3, St4q (b24.upd uz (by simp; omega)) rfl rfl rfl rfl fun z2 v2 c2' => ⟨_, c2'.cell 0, _, c2'.cell 1, _, c2'.cell 2, _, _, _, c2'.cell 3, ?_⟩⟩
      refine hK z2 p2 c2 (G2 ++ F2) (RdA.upd' v2 (fun k hk hx => by simp at hx; have := sn k hk; omega) ra) (inn.upd v2) (fun k hk => by have := sn k hk; have := V4.size; omega) ((V4.fresh uz (by intro k hk; simp at hk; omega)).fresh v2 (by intro k hk; simp at hk; omega))

end

end Go.Proofs.YtlndgaijekihiaaGreat

/- Clauses and code are copied. -/
namespace Go.Proofs.YtlndgaijekihiaaGreat
open Go Go.D Go.Proofs
set_option linter.unusedSimpArgs false
set_option linter.unusedVariables false
set_option maxRecDepth 8000

theorem right_of {t : Tm} (h : checkT t = 0) : t.right = true := by
  unfold checkT at h
  rcases e : t.right with _ | _
  · rw [e] at h; simp at h
  · rfl

section
variable {F : List Nat}

theorem tmay_ok (t : Tm) {w : World} {q : Option Addr} {c : Nat} {K : Bool → World → Prop} (hp : RdA w F t.l q 0) (hF : In F w) (hz : t.size < 2 ^ 29) (hK : ∀ w', Upd [] w w' → K (checkT t == 0) w') : C_term_may t.kind t.n t.s q t.l.length c w K := by
  apply C_term_may.of
  unfold F_term_may
  refine New_rule fun r w1 hr u1 b1 => ⟨_, b1.cell 0, _, b1.cell 1, _, b1.cell 2, _, _, _, b1.cell 3, Check_ok t (RdA.keep u1 hp) (hF.upd u1) (by omega) fun w2 u2 => hK w2 (u1.after u2)⟩

theorem tclone_ok (t : Tm) {w : World} {q : Option Addr} {c : Nat} {K : Int → Int → ByteArray → Option Addr → Nat → Nat → World → Prop} (hck : checkT t = 0) (hp : RdA w F t.l q 0) (hF : In F w) (hs : t.s.size < 2 ^ 63) (hz : t.size < 2 ^ 29) (hK : ∀ w' p c' G, RdA w' G t.l p 0 → In G w' → Since G w → Upd [] w w' → K t.kind t.n t.s p t.l.length c' w') :
    C_term_Clone t.kind t.n t.s q t.l.length c w K := by
  apply C_term_Clone.of
  unfold F_term_Clone
  refine New_rule fun r w1 hr1 u1 b1 => New_rule fun r1 w2 hr2 u2 b2 => ?_
  have b1' := b1.upd u2 (by simp)
  have U2 := u1.after u2
  have l2 := b2.lt
  have s1 := u1.size
  refine ⟨_, b1'.cell 0, _, b1'.cell 1, _, b1'.cell 2, _, _, _, b1'.cell 3, tmay_ok t (RdA.keep U2 hp) (hF.upd U2) hz fun w3 u3 => ifF (by rw [hck]; rfl) ?_⟩
  have b13 := b1'.upd u3 (by simp)
  have U3 := U2.after u3
  refine ⟨_, b13.cell 0, _, b13.cell 1, _, b13.cell 2, _, _, _, b13.cell 3, tbuild_ok t (right_of hck) (RdA.keep U3 hp) (hF.upd U3) hs hz fun w4 p4 c4 G4 ra4 in4 sn4 u4 => St4q ((b2.upd u3 (by simp)).upd u4 (by simp)) rfl rfl rfl rfl fun w5 u5 b5 => ⟨_, b5.cell 0, _, b5.cell 1, _, b5.cell 2, _, _, _, b5.cell 3, ?_⟩⟩
  have s3 := u3.size
  have s2 := U2.size
  exact hK w5 p4 c4 G4 (RdA.upd' u5 (fun k hk hx => by simp at hx; have := sn4 k hk; omega) ra4) (in4.upd u5) (fun k hk => by have := sn4 k hk; omega) ((U3.after u4).fresh u5 (by intro k hk; simp at hk; omega))

theorem bclone_ok (t : Tm) : ∀ {w : World} {q : Option Addr} {c : Nat} {K : Int → Int → ByteArray → Option Addr → Nat → Nat → World → Prop}, RdA w F t.l q 0 → In F w → t.s.size < 2 ^ 63 → t.size < 2 ^ 29 → (∀ w' p c' G, RdA w' G t.l p 0 → In G w' → Since G w → Upd [] w w' → K t.kind t.n t.s p t.l.length c' w') →
    C_base_clone t.kind t.n t.s q t.l.length c w K := by
  refine Tm.ind (P := fun t => ∀ {w : World} {q : Option Addr} {c : Nat} {K : Int → Int → ByteArray → Option Addr → Nat → Nat → World → Prop}, RdA w F t.l q 0 → In F w → t.s.size < 2 ^ 63 → t.size < 2 ^ 29 → (∀ w' p c' G, RdA w' G t.l p 0 → In G w' → Since G w → Upd [] w w' → K t.kind t.n t.s p t.l.length c' w') →
    C_base_clone t.kind t.n t.s q t.l.length c w K) (fun t ih => ?_) t
  intro w q c K hp hF hs hz hK
  apply C_base_clone.of
  unfold F_base_clone
  refine New_rule fun r w1 hr1 u1 b1 => New_rule fun r1 w2 hr2 u2 b2 => ?_
  have b1' := b1.upd u2 (by simp)
  have U2 := u1.after u2
  have l1 := b1.lt
  have l2 := b2.lt
  have s1 := u1.size
  have s2 := u2.size
  refine ⟨_, b1'.cell 0, _, b1'.cell 1, _, b1'.cell 2, _, _, _, b1'.cell 3, Check_ok t (RdA.keep U2 hp) (hF.upd U2) (by omega) fun w3 u3 => ?_⟩
  have b13 := b1'.upd u3 (by simp)
  have b23 := b2.upd u3 (by simp)
  have U3 := U2.after u3
  have s3 := u3.size
  refine ifC (fun g => ⟨_, b13.cell 0, _, b13.cell 1, _, b13.cell 2, _, _, _, b13.cell 3, ?_⟩) (fun g => ⟨t.kind, b13.cell 0, t.n, b13.cell 1, t.s, b13.cell 2, New_rule fun r5 w4 hr5 u4 b4 => St4q b4 rfl rfl rfl rfl fun w5 u5 b5 => ?_⟩)
  · have hck : checkT t = 0 := by simpa using g
    refine tclone_ok t hck (RdA.keep U3 hp) (hF.upd U3) hs hz fun w4 p4 c4 G4 ra4 in4 sn4 u4 => St4q (b23.upd u4 (by simp)) rfl rfl rfl rfl fun w5 u5 b5 => ⟨_, b5.cell 0, _, b5.cell 1, _, b5.cell 2, _, _, _, b5.cell 3, ?_⟩
    exact hK w5 p4 c4 G4 (RdA.upd' u5 (fun k hk hx => by simp at hx; have := sn4 k hk; omega) ra4) (in4.upd u5) (fun k hk => by have := sn4 k hk; omega) ((U3.after u4).fresh u5 (by intro k hk; simp at hk; omega))
  · have U5 : Upd [] w3 w5 := u4.fresh u5 (by intro k hk; simp at hk; omega)
    have V5 := U3.after U5
    have b15 := b13.upd U5 (by simp)
    have b25 := b23.upd U5 (by simp)
    have hp5 := RdA.keep V5 hp
    have hF5 := hF.upd V5
    have r5F : r5 ∉ F := fun hx => by have := hF r5 hx; omega
    refine ⟨_, _, _, b15.cell 3, ?_⟩
    unfold F_base_clone_L1
    have tl := t.size_eq
    have tp := sizeL_pos (l := t.l)
    refine ⟨fun s z => ∃ (i : Nat) (p2 : Option Addr) (c2 : Nat) (G2 F2 : List Nat), s.t21 = i ∧ i ≤ t.l.length ∧ CpI w5 z r5 t i p2 c2 G2 F2, fun s _ => (t.l.length - s.t21).toNat,
      ⟨0, none, 0, [], [], rfl, by omega, b5, by simpa using TmsAt.nil _, (by intro k hk; cases hk), (by intro k hk; cases hk), Upd.refl _ _, b5.lt⟩, ?_⟩
    rintro ⟨si⟩ z ⟨i, p2, c2, G2, F2, rfl, hi, ci⟩
    unfold B_base_clone_L1
    refine ifC (fun g2 => ?_) (fun g2 => ?_)
    · have gi : i < t.l.length := by have := of_decide_eq_true g2; dsimp only at this; omega
      refine cp_step (C := fun a b s p n c w K => C_base_clone a b s p n c w K) (Kn := fun j z' => (∃ (i : Nat) (p2 : Option Addr) (c2 : Nat) (G2 F2 : List Nat), j = i ∧ i ≤ t.l.length ∧ CpI w5 z' r5 t i p2 c2 G2 F2) ∧ ((t.l.length : Int) - j).toNat < ((t.l.length : Int) - (i : Int)).toNat) ci gi hz hp5 r5F hF5 (fun ra inF hs' hk => ?_) (fun z' p' c' G' F' ci' => ⟨⟨i + 1, p', c', G', F', by simp, by omega, ci'⟩, by omega⟩)
      have := sizeL_le (List.getElem_mem gi)
      exact ih _ (List.getElem_mem gi) ra inF hs' (by omega) hk
    · have gi : i = t.l.length := by have := of_decide_eq_false g2; dsimp only at this; omega
      subst gi
      obtain ⟨ra, inn⟩ := ci.fin
      have bz := ci.bz
      have uz := ci.up
      have sn := ci.sn
      have sz := uz.size
      have s5 := U5.size
      refine ⟨_, bz.cell 0, _, bz.cell 1, _, bz.cell 2, _, _, _, bz.cell 3, St4q (b25.upd uz (by simp; omega)) rfl rfl rfl rfl fun z2 v2 c2' => ⟨_, c2'.cell 0, _, c2'.cell 1, _, c2'.cell 2, _, _, _, c2'.cell 3, ?_⟩⟩
      refine hK z2 p2 c2 (G2 ++ F2) (RdA.upd' v2 (fun k hk hx => by simp at hx; have := sn k hk; omega) ra) (inn.upd v2) (fun k hk => by have := sn k hk; have := V5.size; omega) ((V5.fresh uz (by intro k hk; simp at hk; omega)).fresh v2 (by intro k hk; simp at hk; omega))

/-- Code is copied. -/
theorem code_ok {w : World} {l : List InsT} {p : Option Addr} {c : Nat} {K : Option Addr → Nat → Nat → World → Prop} (h : CodeA w F l p) (hl : l.length ≤ 2 ^ 20) (hpn : p = none → l = []) (hK : ∀ w' p' c' G, CodeA w' G l p' → In G w' → Since G w → Upd [] w w' → K p' l.length c' w') : C_slices_Clone p l.length c w K := by
  apply C_slices_Clone.of
  unfold F_slices_Clone
  refine ifC (fun g => ?_) (fun g => ?_)
  · have hp : p = none := by simpa using g
    have := hpn hp
    subst this
    exact hK w none 0 [] ⟨⟨rfl, .inl rfl⟩, fun x hx => by cases hx⟩ (by intro k hk; cases hk) (by intro k hk; cases hk) (Upd.refl _ _)
  · refine BSlL_rule eS_28 [] (by rfl) (by simp) (by rfl) (by omega) fun w1 hs1 u1 => ?_
    refine AppR_rule (hE := eS_28) (by rfl) hs1 (h.1.keep u1) insC_one (by omega) fun p2 c2 G2 w2 hs2 u2 g2 => ?_
    have hs2' : SlAt w2 5 p2 l.length c2 (l.flatMap insC) G2 := by simpa using hs2
    have sG : Since G2 w := fun k hk => by
      rcases g2 k hk with e | e
      · simp at e; omega
      · have := u1.size; omega
    have e0 : 0 + l.length = l.length := Nat.zero_add _
    rw [e0]
    refine hK w2 p2 c2 G2 ⟨hs2'.rd, fun x hx hn => ?_⟩ hs2'.inn sG (u1.fresh u2 (by intro k hk; simp at hk; omega))
    rcases hs2'.2.2 with ⟨hp, _⟩ | ⟨b, off, arr, hp, hG, _⟩
    · rw [hp] at hx; cases hx
    · rw [hp] at hx; cases hx; rw [hG]; simp

end

end Go.Proofs.YtlndgaijekihiaaGreat

/- Clauses are copied, and told. -/
namespace Go.Proofs.YtlndgaijekihiaaGreat
open Go Go.D Go.Proofs
set_option linter.unusedSimpArgs false
set_option linter.unusedVariables false
set_option maxRecDepth 8000

theorem CodeA.none {w : World} {F : List Nat} {l : List InsT} {p : Option Addr} (h : CodeA w F l p) (hp : p = none) : l = [] := by
  rcases h.1.2 with g | ⟨x, e, _⟩
  · exact List.length_eq_zero_iff.1 g
  · rw [hp] at e; cases e

def glC (x : Int × TmP) : List Value := .int .i64 x.1 :: tmC x.2
theorem glC_len (x : Int × TmP) : (glC x).length = 5 := rfl

/-- Goals that are being put behind each other. -/
def GsAt (w : World) (p : Option Addr) (n c : Nat) (l : List GoalT) (G F : List Nat) : Prop :=
  ∃ L : List (Int × TmP), L.map (fun x => (x.1, x.2.1)) = l ∧ SlAt w 5 p n c (L.flatMap glC) G ∧ (∀ x ∈ L, x.2.1.s.size < 2 ^ 63 ∧ RdA w F x.2.1.l x.2.2.1 0) ∧ In F w

theorem GsAt.nil (w : World) : GsAt w none 0 0 [] [] [] := ⟨[], rfl, SlAt.nil _ _, by simp, (by intro k hk; cases hk)⟩

section
variable {w w' : World} {p : Option Addr} {n c : Nat} {l : List GoalT} {G F : List Nat}

theorem GsAt.upd {X : List Nat} (h : GsAt w p n c l G F) (u : Upd X w w') (hG : Dis G X) (hF : Dis F X) : GsAt w' p n c l G F := by
  obtain ⟨L, e1, e2, e3, e4⟩ := h
  exact ⟨L, e1, e2.upd u hG, fun x hx => ⟨(e3 x hx).1, RdA.upd' u hF (e3 x hx).2⟩, e4.upd u⟩
theorem GsAt.keep (h : GsAt w p n c l G F) (u : Upd [] w w') : GsAt w' p n c l G F := h.upd u (by intro k _ h; cases h) (by intro k _ h; cases h)

theorem GsAt.inn (h : GsAt w p n c l G F) : In G w ∧ In F w := by
  obtain ⟨L, e1, e2, e3, e4⟩ := h
  exact ⟨e2.inn, e4⟩

theorem GsAt.len (h : GsAt w p n c l G F) : n = l.length := by
  obtain ⟨L, e1, e2, e3, e4⟩ := h
  have := e2.1
  rw [flat_len glC_len] at this
  rw [← e1, List.length_map]; omega

theorem GsAt.rd (h : GsAt w p n c l G F) : GoalsA w (G ++ F) l p := by
  have hn := h.len
  obtain ⟨L, e1, e2, e3, e4⟩ := h
  intro i hi
  have hL : L.length = l.length := by rw [← e1, List.length_map]
  have hiL : i < L.length := by omega
  have el : l[i] = (L[i].1, L[i].2.1) := by simp [← e1]
  rcases e2.2.2 with ⟨_, _, hz⟩ | ⟨b, off, arr, hp, hG, hb, hs, hc⟩
  · have h1 := flat_len glC_len L
    have h2 := e2.2.1
    omega
  · have hq := (e3 _ (List.getElem_mem hiL))
    refine ⟨⟨b, off, none⟩, L[i].2.2.1, L[i].2.2.2, hp, by simp [hG], fun j hj => ?_, by rw [el]; exact hq.1, by rw [el]; exact RdA.sub (fun k hk => by simp [hk]) _ hq.2⟩
    rw [addN, hb.cell, hc (i * 5 + j) (by rw [hn]; omega), flat_at glC_len hiL hj, el]
    rfl

/-- One more goal. -/
theorem GsAt.push {k : Int} {t : Tm} {q q1 : Option Addr} {m cq : Nat} {G1 F1 : List Nat} {K : Option Addr → Nat → Nat → World → Prop} (h : GsAt w p n c l G F) (h1 : SlAt w 5 q1 1 m (glC (k, t, q, cq)) G1) (hs : t.s.size < 2 ^ 63) (hr : RdA w F1 t.l q 0) (hF1 : In F1 w) (hGF : Dis G F) (hGF1 : Dis G F1) (hl : l.length < 2 ^ 30)
    (hK : ∀ p' c' G' w', GsAt w' p' (n + 1) c' (l ++ [(k, t)]) G' (F ++ F1) → Upd G w w' → Sub G' G w → K p' (n + 1) c' w') :
    App Tryz.prog #[25, 25] 25 #[.slice p n c, .slice q1 1 m] w K := by
  have hn := h.len
  obtain ⟨L, e1, e2, e3, e4⟩ := h
  refine App_rule (hE := eS_25) e2 h1 (by simp [glC, tmC, Value.oneCell']) (by omega) fun p' c' G' w' hs' u s => ?_
  refine hK p' c' G' w' ⟨L ++ [(k, t, q, cq)], by rw [List.map_append, e1]; rfl, by rw [List.flatMap_append]; simpa using hs', fun x hx => ?_, fun k hk => ?_⟩ u s
  · rcases List.mem_append.1 hx with g | g
    · obtain ⟨a, b⟩ := e3 x g
      exact ⟨a, RdA.sub (fun k hk => by simp [hk]) _ (RdA.upd' u hGF.symm b)⟩
    · simp at g; subst g
      exact ⟨hs, RdA.sub (fun k hk => by simp [hk]) _ (RdA.upd' u hGF1.symm hr)⟩
  · rcases List.mem_append.1 hk with g | g
    · exact e4.upd u k g
    · exact hF1.upd u k g

end

theorem St6q {w1 : World} {r : Nat} {arr : Array Value} {v0 v1 v2 v3 v4 v5 : Value} {K : World → Prop} (hb : Blk w1 r arr) (ha : arr.size = 6) (hv : ∀ v ∈ [v0, v1, v2, v3, v4, v5], v.oneCell' = true) (hK : ∀ w', Upd [r] w1 w' → Blk w' r #[v0, v1, v2, v3, v4, v5] → K w') :
    St w1 ((⟨r, 0, none⟩ : Addr).add 0) v0 fun z0 => St z0 ((⟨r, 0, none⟩ : Addr).add 1) v1 fun z1 => St z1 ((⟨r, 0, none⟩ : Addr).add 2) v2 fun z2 => St z2 ((⟨r, 0, none⟩ : Addr).add 3) v3 fun z3 => St z3 ((⟨r, 0, none⟩ : Addr).add 4) v4 fun z4 => St z4 ((⟨r, 0, none⟩ : Addr).add 5) v5 K := by
  obtain ⟨c0, c1, c2, c3, c4, c5, rfl⟩ : ∃ c0 c1 c2 c3 c4 c5, arr = #[c0, c1, c2, c3, c4, c5] := by
    rcases arr with ⟨l⟩
    match l, ha with
    | [c0, c1, c2, c3, c4, c5], _ => exact ⟨c0, c1, c2, c3, c4, c5, rfl⟩
  simp only [addN, Nat.zero_add]
  refine St_acc (Upd.refl _ _) hb (by simp) (hv _ (by simp)) fun z0 y0 b0 => St_acc y0 b0 (by simp) (hv _ (by simp)) fun z1 y1 b1 => St_acc y1 b1 (by simp) (hv _ (by simp)) fun z2 y2 b2 => St_acc y2 b2 (by simp) (hv _ (by simp)) fun z3 y3 b3 => St_acc y3 b3 (by simp) (hv _ (by simp)) fun z4 y4 b4 => St_acc y4 b4 (by simp) (hv _ (by simp)) fun z5 y5 b5 => ?_
  simp at b5
  exact hK z5 y5 b5

theorem St5n {w1 : World} {r : Nat} {arr : Array Value} {v0 v1 v2 v3 v4 : Value} {K : World → Prop} (hb : Blk w1 r arr) (ha : arr.size = 5) (hv : ∀ v ∈ [v0, v1, v2, v3, v4], v.oneCell' = true) (hK : ∀ w', Upd [r] w1 w' → Blk w' r #[v0, v1, v2, v3, v4] → K w') :
    St w1 (⟨r, 0, none⟩ : Addr) v0 fun z0 => St z0 (⟨r, 1, none⟩ : Addr) v1 fun z1 => St z1 (⟨r, 2, none⟩ : Addr) v2 fun z2 => St z2 (⟨r, 3, none⟩ : Addr) v3 fun z3 => St z3 (⟨r, 4, none⟩ : Addr) v4 K := by
  obtain ⟨c0, c1, c2, c3, c4, rfl⟩ : ∃ c0 c1 c2 c3 c4, arr = #[c0, c1, c2, c3, c4] := by
    rcases arr with ⟨l⟩
    match l, ha with
    | [c0, c1, c2, c3, c4], _ => exact ⟨c0, c1, c2, c3, c4, rfl⟩
  refine St_acc (Upd.refl _ _) hb (by simp) (hv _ (by simp)) fun z0 y0 b0 => St_acc y0 b0 (by simp) (hv _ (by simp)) fun z1 y1 b1 => St_acc y1 b1 (by simp) (hv _ (by simp)) fun z2 y2 b2 => St_acc y2 b2 (by simp) (hv _ (by simp)) fun z3 y3 b3 => St_acc y3 b3 (by simp) (hv _ (by simp)) fun z4 y4 b4 => ?_
  simp at b4
  exact hK z4 y4 b4

theorem St5q {w1 : World} {r : Nat} {arr : Array Value} {v0 v1 v2 v3 v4 : Value} {K : World → Prop} (hb : Blk w1 r arr) (ha : arr.size = 5) (hv : ∀ v ∈ [v0, v1, v2, v3, v4], v.oneCell' = true) (hK : ∀ w', Upd [r] w1 w' → Blk w' r #[v0, v1, v2, v3, v4] → K w') :
    St w1 ((⟨r, 0, none⟩ : Addr).add 0) v0 fun z0 => St z0 ((⟨r, 0, none⟩ : Addr).add 1) v1 fun z1 => St z1 ((⟨r, 0, none⟩ : Addr).add 2) v2 fun z2 => St z2 ((⟨r, 0, none⟩ : Addr).add 3) v3 fun z3 => St z3 ((⟨r, 0, none⟩ : Addr).add 4) v4 K := by
  simp only [addN, Nat.zero_add]
  exact St5n hb ha hv hK

section
variable {F : List Nat}

theorem copyOf_ok {h : Tm} {gs : List GoalT} {vars : Int} {hq gp : Option Addr} {hc gc : Nat} {w : World} {K : Int → Int → ByteArray → Option Addr → Nat → Nat → Option Addr → Nat → Nat → Int → World → Prop} (hF : In F w) (hs : h.s.size < 2 ^ 63) (hp : RdA w F h.l hq 0) (hz : h.size < 2 ^ 29) (hg : GoalsA w F gs gp) (hgz : ∀ g ∈ gs, g.2.size < 2 ^ 29) (hgl : gs.length < 2 ^ 20)
    (hK : ∀ w' q c' p2 c2 Y, RdA w' Y h.l q 0 → GoalsA w' Y gs p2 → In Y w' → Since Y w → Upd [] w w' → K h.kind h.n h.s q h.l.length c' p2 gs.length c2 vars w') :
    C_base_copyOf h.kind h.n h.s hq h.l.length hc gp gs.length gc vars w K := by
  apply C_base_copyOf.of
  unfold F_base_copyOf
  refine New_rule fun r w1 hr1 u1 b1 => New_rule fun r1 w2 hr2 u2 b2 => ?_
  have b1' := b1.upd u2 (by simp)
  have U2 := u1.after u2
  have l1 := b1.lt
  have l2 := b2.lt
  have s1 := u1.size
  have s2 := u2.size
  have ud := drw_upd w2
  have bd1 := b1'.upd ud (by simp)
  have Ud := U2.after ud
  -- behind the head
  have k1 : ∀ {z z0 : World} {r2 : Nat} {q : Option Addr} {c' : Nat} {Y : List Nat}, w2.heap.size ≤ r2 → Upd [] w2 z → RdA z Y h.l q 0 → In Y z → Since Y w2 → r2 ∉ Y → Blk z r2 #[.int .i64 h.kind, .int .i64 h.n, .string h.s, .slice q h.l.length c', .slice none 0 0, .int .i64 vars] → F_base_copyOf_k1 K r r1 ⟨r2, 0, none⟩ z := by
    intro z z0 r2 q c' Y hr2' uz ra inY sY r2Y bz
    unfold F_base_copyOf_k1 F_base_copyOf_L1
    have bz1 := b1'.upd uz (by simp)
    refine ⟨_, _, _, bz1.cell 4, ?_⟩
    have zs := uz.size
    have gz := hg.keep (U2.after uz)
    refine ⟨fun s v => ∃ (i : Nat) (p2 : Option Addr) (c2 : Nat) (G2 F2 : List Nat), s.t15 = i ∧ i ≤ gs.length ∧ Blk v r2 #[.int .i64 h.kind, .int .i64 h.n, .string h.s, .slice q h.l.length c', .slice p2 i c2, .int .i64 vars] ∧ GsAt v p2 i c2 (gs.take i) G2 F2 ∧ Since (G2 ++ F2) z ∧ Dis G2 F2 ∧ Upd [r2] z v, fun s _ => (gs.length - s.t15).toNat,
      ⟨0, none, 0, [], [], rfl, by omega, bz, by simpa using GsAt.nil _, (by intro k hk; cases hk), (by intro k hk; cases hk), Upd.refl _ _⟩, ?_⟩
    rintro ⟨si⟩ v ⟨i, p2, c2, G2, F2, rfl, hi, bv, gv, sn, dis, uv⟩
    unfold B_base_copyOf_L1
    have lz := bz.lt
    refine ifC (fun g2 => ?_) (fun g2 => ?_)
    · have gi : i < gs.length := by have := of_decide_eq_true g2; dsimp only at this; omega
      have r2F : Dis F [r2] := fun k hk hx => by simp at hx; have := hF k hk; omega
      obtain ⟨x, qg, cg, e, hx, hc', h1', h2'⟩ := gz.upd uv r2F i gi
      have c0 := hc' 0 (by omega); have c1 := hc' 1 (by omega); have c2' := hc' 2 (by omega); have c3 := hc' 3 (by omega); have c4 := hc' 4 (by omega)
      simp only [tmC, List.getElem?_cons_succ, List.getElem?_cons_zero, Nat.add_zero] at c0 c1 c2' c3 c4
      rw [e]
      refine ⟨by show (0 : Int) ≤ (i : Int); omega, by show (i : Int) < _; omega, ?_⟩
      simp only [NN_some, addN, drw_cell, drw_heap, exS, exI, exB, exP, exM, exStr, exV, a0, a1, a2, a3, a4, a5, a6, a7, a8, a9, a10, a11, a12, a13, maxI_eq, Nat.zero_add, Nat.add_zero, Nat.mul_one, Option.isNone_some, Option.isNone_none, addA, Int.toNat_natCast, c0, c1, c2', c3, c4]
      obtain ⟨t, ht⟩ : ∃ t, t = gs[i].2 := ⟨_, rfl⟩
      rw [← ht] at h1' h2' ⊢
      have htz : t.size < 2 ^ 29 := by rw [ht]; exact hgz _ (List.getElem_mem gi)
      refine New_rule fun r4 v1 hr4 y1 d1 => ?_
      refine St5n d1 rfl (by simp [Value.oneCell']) fun v2 y2 d2 => ?_
      have vs := uv.size
      have Y2 : Upd [] v v2 := y1.fresh y2 (by intro k hk; simp at hk; omega)
      have yd := drw_upd v2
      have Yd := Y2.after yd
      have bv2 := bv.upd Y2 (by simp)
      simp only [NN_some, addN, drw_cell, drw_heap, exS, exI, exB, exP, exM, exStr, exV, a0, a1, a2, a3, a4, a5, a6, a7, a8, a9, a10, a11, a12, a13, maxI_eq, Nat.zero_add, Nat.add_zero, Nat.mul_one, Option.isNone_some, Option.isNone_none, bv2.cell, d2.cell, Nat.reduceAdd]
      refine bclone_ok t (RdA.keep Yd h2') (fun k hk => by have := hF k hk; have := U2.size; have := Yd.size; omega) h1' htz fun v3 q3 c3' F3 ra3 in3 sn3 y3 => ?_
      have bv3 := (bv2.upd yd (by simp)).upd y3 (by simp)
      have d3 := (d2.upd yd (by simp)).upd y3 (by simp)
      refine ⟨by simp only [NN_some, addN, drw_cell, drw_heap, exS, exI, exB, exP, exM, exStr, exV, a0, a1, a2, a3, a4, a5, a6, a7, a8, a9, a10, a11, a12, a13, maxI_eq, Nat.zero_add, Nat.add_zero, Nat.mul_one, Option.isNone_some, Option.isNone_none, d3.cell], by simp only [NN_some, addN, drw_cell, drw_heap, exS, exI, exB, exP, exM, exStr, exV, a0, a1, a2, a3, a4, a5, a6, a7, a8, a9, a10, a11, a12, a13, maxI_eq, Nat.zero_add, Nat.add_zero, Nat.mul_one, Option.isNone_some, Option.isNone_none, bv3.cell], BSlL_rule eS_25 [.agg #[.int .i64 gs[i].1, .int .i64 t.kind, .int .i64 t.n, .string t.s, .slice q3 t.l.length c3']] (by rfl) (by simp [Value.cells]) (by rfl) (by omega) fun v4 hs4 y4 => ?_⟩
      have hs4' : SlAt v4 5 (some ⟨v3.heap.size, 0, none⟩) 1 1 (glC (gs[i].1, t, q3, c3')) [v3.heap.size] := by simpa [Value.cells, glC, tmC] using hs4
      have bv4 := bv3.upd y4 (by simp)
      refine ⟨by simp only [NN_some, addN, drw_cell, drw_heap, exS, exI, exB, exP, exM, exStr, exV, a0, a1, a2, a3, a4, a5, a6, a7, a8, a9, a10, a11, a12, a13, maxI_eq, Nat.zero_add, Nat.add_zero, Nat.mul_one, Option.isNone_some, Option.isNone_none, bv4.cell], ?_⟩
      have Y4 := (Yd.after y3).after y4
      have yds := Yd.size
      have GF3 : Dis G2 F3 := fun k hk hx => by have := gv.inn.1 k hk; have := sn3 k hx; omega
      refine (gv.keep Y4).push (k := gs[i].1) (t := t) hs4' h1' (RdA.keep y4 ra3) (in3.upd y4) dis GF3 (by rw [List.length_take]; omega) fun p5 c5 G5 v5 g5 y5 s5 => ?_
      have rG : r2 ∉ G2 := fun hx => by have := sn r2 (by simp [hx]); omega
      have rG5 : r2 ∉ G5 := fun hx => by
        rcases s5 _ hx with g2 | g2
        · exact rG g2
        · have := bv.lt; have := Y4.size; omega
      have rF5 : r2 ∉ F2 ++ F3 := fun hx => by
        rcases List.mem_append.1 hx with g2 | g2
        · have := sn r2 (by simp [g2]); omega
        · have := sn3 r2 g2; have := bv.lt; omega
      refine St_rule (bv4.upd y5 rG) (by simp) rfl fun v6 y6 b6 => ?_
      simp at b6
      rw [i64id (by omega) (by omega)]
      have g6 := g5.upd y6 (fun k hk hx => by simp at hx; subst hx; exact rG5 hk) (fun k hk hx => by simp at hx; subst hx; exact rF5 hk)
      rw [show gs.take i ++ [(gs[i].1, t)] = gs.take (i + 1) by rw [take_step gi, ht]] at g6
      have y4s := Y4.size
      have y3s := y3.size
      refine ⟨⟨i + 1, p5, c5, G5, F2 ++ F3, by simp, by omega, b6, g6, fun k hk => ?_, fun k hk hx => ?_, ?_⟩, by show ((gs.length : Int) - ((i : Int) + 1)).toNat < ((gs.length : Int) - (i : Int)).toNat; omega⟩
      · simp only [List.mem_append] at hk
        rcases hk with g2 | g2 | g2
        · rcases s5 k g2 with e | e
          · exact sn k (by simp [e])
          · omega
        · exact sn k (by simp [g2])
        · have := sn3 k g2; omega
      · rcases List.mem_append.1 hx with g2 | g2
        · rcases s5 k hk with e | e
          · exact dis k e g2
          · have := gv.inn.2 k g2; omega
        · rcases s5 k hk with e | e
          · exact GF3 k e g2
          · have := in3 k g2; have := y4.size; omega
      · exact uv.trans ((Y4.trans y5 (F := []) (H := G2) (by simp) fun _ hx => .inl hx).trans y6 (F := G2) (H := r2 :: G2) (fun x hx => .inl (by simp [hx])) (fun x hx => .inl (by simp at hx; simp [hx]))) (fun x hx => .inl hx) fun x hx => by
          rcases List.mem_cons.1 hx with e | e
          · exact .inl (by simp [e])
          · exact .inr (sn x (by simp [e]))
    · have gi : i = gs.length := by have := of_decide_eq_false g2; dsimp only at this; omega
      subst gi
      rw [List.take_length] at gv
      have vs := uv.size
      refine ⟨_, bv.cell 0, _, bv.cell 1, _, bv.cell 2, _, _, _, bv.cell 3, _, _, _, bv.cell 4, _, bv.cell 5, ?_⟩
      have b2v := ((b2.upd uz (by simp)).upd uv (by simp; omega))
      refine St6q b2v rfl (by simp [Value.oneCell']) fun v2 y2 c2'' => ⟨_, c2''.cell 0, _, c2''.cell 1, _, c2''.cell 2, _, _, _, c2''.cell 3, _, _, _, c2''.cell 4, _, c2''.cell 5, ?_⟩
      have nY : ∀ k ∈ Y ++ (G2 ++ F2), w2.heap.size ≤ k := fun k hk => by
        rcases List.mem_append.1 hk with g | g
        · exact sY k g
        · have := sn k g; omega
      have n1 : Dis (Y ++ (G2 ++ F2)) [r1] := fun k hk hx => by simp at hx; have := nY k hk; omega
      have rav : RdA v Y h.l q 0 := RdA.upd' uv (fun k hk hx => by simp at hx; subst hx; exact r2Y hk) ra
      have gv2 := gv.rd
      have V : Upd [] w2 v := uz.fresh uv (by intro k hk; simp at hk; omega)
      refine hK v2 q c' p2 c2 (Y ++ (G2 ++ F2)) (RdA.upd' y2 n1 (RdA.sub (fun k hk => by simp [hk]) _ rav)) ((gv2.sub fun k hk => by simp only [List.mem_append] at hk ⊢; exact .inr hk).upd y2 n1) (fun k hk => ?_) (fun k hk => by have := nY k hk; have := U2.size; omega) ((U2.after V).fresh y2 (by intro k hk; simp at hk; omega))
      have := y2.size
      rcases List.mem_append.1 hk with g | g
      · have := inY k g; omega
      · rcases List.mem_append.1 g with g | g
        · have := gv.inn.1 k g; omega
        · have := gv.inn.2 k g; omega
  simp only [NN_some, addN, drw_cell, drw_heap, exS, exI, exB, exP, exM, exStr, exV, a0, a1, a2, a3, a4, a5, a6, a7, a8, a9, a10, a11, a12, a13, maxI_eq, Nat.zero_add, Nat.add_zero, Nat.mul_one, Option.isNone_some, Option.isNone_none, bd1.cell]
  have inF : ∀ {z : World}, Upd [] w z → In F z := fun u => hF.upd u
  refine ⟨?_, ?_⟩
  · refine bclone_ok h (RdA.keep Ud hp) (inF Ud) hs hz fun w3 q c' Y ra inY sY u3 => ?_
    have bd3 := bd1.upd u3 (by simp)
    refine ⟨by simp only [NN_some, addN, drw_cell, drw_heap, exS, exI, exB, exP, exM, exStr, exV, a0, a1, a2, a3, a4, a5, a6, a7, a8, a9, a10, a11, a12, a13, maxI_eq, Nat.zero_add, Nat.add_zero, Nat.mul_one, Option.isNone_some, Option.isNone_none, bd3.cell], New_rule fun r2 w4 hr4 u4 b4 => ?_⟩
    have bd4 := bd3.upd u4 (by simp)
    refine ⟨by simp only [NN_some, addN, drw_cell, drw_heap, exS, exI, exB, exP, exM, exStr, exV, a0, a1, a2, a3, a4, a5, a6, a7, a8, a9, a10, a11, a12, a13, maxI_eq, Nat.zero_add, Nat.add_zero, Nat.mul_one, Option.isNone_some, Option.isNone_none, bd4.cell], ?_⟩
    have st := @St6q w4 r2
    simp only [addN, Nat.zero_add] at st
    refine st b4 rfl (by simp [Value.oneCell']) fun w5 u5 b5 => ?_
    have ds := ud.size
    have s3 := u3.size
    have Y5 : Upd [] w2 w5 := (ud.after (u3.after u4)).fresh u5 (by intro k hk; simp at hk; omega)
    have r2Y : r2 ∉ Y := fun hx => by have := inY r2 hx; omega
    exact k1 (z0 := w) (by omega) Y5 (RdA.upd' u5 (fun k hk hx => by simp at hx; subst hx; exact r2Y hk) (RdA.keep u4 ra)) (fun k hk => by have := inY k hk; have := u4.size; have := u5.size; omega) (fun k hk => by have := sY k hk; omega) r2Y b5
  · refine New_rule fun r2 w3 hr3 u3 b3 => ?_
    have bd3 := bd1.upd u3 (by simp)
    refine ⟨by simp only [NN_some, addN, drw_cell, drw_heap, exS, exI, exB, exP, exM, exStr, exV, a0, a1, a2, a3, a4, a5, a6, a7, a8, a9, a10, a11, a12, a13, maxI_eq, Nat.zero_add, Nat.add_zero, Nat.mul_one, Option.isNone_some, Option.isNone_none, bd3.cell], fun j hj => ?_, ?_⟩
    · exact bd3.cell j
    have Ud3 := Ud.after u3
    refine bclone_ok h (RdA.keep Ud3 hp) (inF Ud3) hs hz fun w4 q c' Y ra inY sY u4 => ?_
    have bd4 := bd3.upd u4 (by simp)
    refine ⟨by simp only [NN_some, addN, drw_cell, drw_heap, exS, exI, exB, exP, exM, exStr, exV, a0, a1, a2, a3, a4, a5, a6, a7, a8, a9, a10, a11, a12, a13, maxI_eq, Nat.zero_add, Nat.add_zero, Nat.mul_one, Option.isNone_some, Option.isNone_none, bd4.cell], ?_⟩
    have st := @St6q w4 r2
    simp only [addN, Nat.zero_add] at st
    refine st (b3.upd u4 (by simp)) rfl (by simp [Value.oneCell']) fun w5 u5 b5 => ?_
    have ds := ud.size
    have l3 := b3.lt
    have s3 := u3.size
    have Y5 : Upd [] w2 w5 := (ud.after (u3.after u4)).fresh u5 (by intro k hk; simp at hk; omega)
    have r2Y : r2 ∉ Y := fun hx => by have := sY r2 hx; omega
    exact k1 (z0 := w) (by omega) Y5 (RdA.upd' u5 (fun k hk hx => by simp at hx; subst hx; exact r2Y hk) ra) (fun k hk => by have := inY k hk; have := u5.size; omega) (fun k hk => by have := sY k hk; omega) r2Y b5

end

end Go.Proofs.YtlndgaijekihiaaGreat
