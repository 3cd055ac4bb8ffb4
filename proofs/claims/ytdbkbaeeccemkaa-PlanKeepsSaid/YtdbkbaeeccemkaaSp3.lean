/- Spans of variables: plain. -/
import Derived.Test.YtdbkbaeeccemkaaVals3
import Derived.Test.YtdbkbaeeccemkaaTm9
import Derived.Shelf.SlSortCmp.Insertion
import Derived.Shelf.SlSortCmp.WholeK
import Derived.Ground.SlsfProg
import Derived.Test.YtdbkbaeeccemkaaGenC
import Derived.Test.YtdbkbaeeccemkaaOwn12
import Derived.Test.YtdbkbaeeccemkaaGenAll
import Derived.Shelf.SlSortCmp.NoneTotal
import Derived.Test.YtdbkbaeeccemkaaOwn6
namespace Go.Proofs.Ytdbkbaeeccemkaa
open Go Go.D Go.Proofs
set_option linter.unusedSimpArgs false
set_option linter.unusedVariables false
set_option maxRecDepth 8000

abbrev GoalT := Int × Tm

/-- A variable stands in a chunk. -/
def note1 (S : List Spn) (k n : Int) : List Spn := if n ∈ S.map (·.1) then S.map (fun s => if s.1 = n then (s.1, s.2.1, k) else s) else S ++ [(n, k, k)]
def noteL (S : List Spn) (k : Int) (l : List Int) : List Spn := l.foldl (fun S n => note1 S k n) S
def lvlG (g : GoalT) (k : Int) : Bool := g.1 == 3 || (g.1 == 2 && decide (0 < k))
def levG (x : List Spn × Int) (g : GoalT) : List Spn := if lvlG g x.2 then note1 (note1 x.1 0 (-1)) x.2 (-1) else x.1
def stepG (x : List Spn × Int) (g : GoalT) : List Spn × Int := if g.1 = 2 then (levG x g, x.2) else (noteL (levG x g) x.2 (g.2.vars []), x.2 + 1)
def gath (hv : List Int) (gs : List GoalT) : List Spn × Int := gs.foldl stepG (noteL [] 0 hv, 0)

theorem keys_note {S : List Spn} {k n : Int} : (note1 S k n).map (·.1) = if n ∈ S.map (·.1) then S.map (·.1) else S.map (·.1) ++ [n] := by
  unfold note1
  split
  · rw [List.map_map]
    refine List.map_congr_left fun s _ => ?_
    simp only [Function.comp]
    split <;> rfl
  · simp

theorem nodup_note {S : List Spn} {k n : Int} (h : (S.map (·.1)).Nodup) : ((note1 S k n).map (·.1)).Nodup := by
  rw [keys_note]
  split
  · exact h
  · rename_i hn
    rw [List.nodup_append]
    refine ⟨h, by simp, fun a ha b hb e => ?_⟩
    simp at hb
    subst hb; subst e
    exact hn ha

/-- Who is there behind a note. -/
theorem mem_note {S : List Spn} {k n : Int} {s : Spn} : s ∈ note1 S k n ↔ (s ∈ S ∧ s.1 ≠ n) ∨ (∃ s' ∈ S, s'.1 = n ∧ s = (n, s'.2.1, k)) ∨ (n ∉ S.map (·.1) ∧ s = (n, k, k)) := by
  unfold note1
  split
  · rename_i hn
    rw [List.mem_map]
    constructor
    · rintro ⟨a, ha, e⟩
      split at e
      · rename_i e1
        exact .inr (.inl ⟨a, ha, e1, by rw [← e, e1]⟩)
      · rename_i e1
        subst e
        exact .inl ⟨ha, e1⟩
    · rintro (⟨h1, h2⟩ | ⟨s', h1, h2, h3⟩ | ⟨h1, _⟩)
      · exact ⟨s, h1, by rw [if_neg h2]⟩
      · exact ⟨s', h1, by rw [if_pos h2, h3, h2]⟩
      · exact absurd hn h1
  · rename_i hn
    rw [List.mem_append, List.mem_singleton]
    constructor
    · rintro (h | h)
      · refine .inl ⟨h, fun e => hn (List.mem_map.2 ⟨s, h, e⟩)⟩
      · exact .inr (.inr ⟨hn, h⟩)
    · rintro (⟨h1, _⟩ | ⟨s', h1, h2, _⟩ | ⟨_, h⟩)
      · exact .inl h1
      · exact absurd (List.mem_map.2 ⟨s', h1, h2⟩) hn
      · exact .inr h

/-- Spans as they should be in chunk k: none ends behind it; each begins ahead of its end. -/
structure SpOk (S : List Spn) (k : Int) : Prop where
  nodup : (S.map (·.1)).Nodup
  b : ∀ s ∈ S, 0 ≤ s.2.1 ∧ s.2.1 ≤ s.2.2 ∧ s.2.2 ≤ k

theorem SpOk.note {S : List Spn} {k n : Int} (h : SpOk S k) (h0 : 0 ≤ k) : SpOk (note1 S k n) k := by
  refine ⟨nodup_note h.nodup, fun s hs => ?_⟩
  rcases mem_note.1 hs with ⟨g, _⟩ | ⟨s', g, _, rfl⟩ | ⟨_, rfl⟩
  · exact h.b s g
  · have := h.b s' g
    exact ⟨this.1, by show s'.2.1 ≤ k; omega, by show k ≤ k; omega⟩
  · exact ⟨h0, by show k ≤ k; omega, by show k ≤ k; omega⟩

theorem SpOk.le {S : List Spn} {k j : Int} (h : SpOk S k) (hj : k ≤ j) : SpOk S j := ⟨h.nodup, fun s hs => by have := h.b s hs; omega⟩

theorem SpOk.noteL {S : List Spn} {k : Int} (h0 : 0 ≤ k) : ∀ {l : List Int} {S : List Spn}, SpOk S k → SpOk (noteL S k l) k
  | [], S, h => h
  | n :: l, S, h => SpOk.noteL (S := S) h0 (l := l) (h.note h0)

theorem nodup_noteL {k : Int} : ∀ {l : List Int} {S : List Spn}, (S.map (·.1)).Nodup → ((noteL S k l).map (·.1)).Nodup
  | [], S, h => h
  | n :: l, S, h => nodup_noteL (S := note1 S k n) (l := l) (nodup_note h)

/-- The level is noted at the start and here. -/
theorem SpOk.lev {S : List Spn} {k : Int} (h : SpOk S k) (h0 : 0 ≤ k) : SpOk (note1 (note1 S 0 (-1)) k (-1)) k := by
  refine ⟨nodup_note (nodup_note h.nodup), fun s hs => ?_⟩
  rcases mem_note.1 hs with ⟨g, e⟩ | ⟨s', g, e, rfl⟩ | ⟨_, rfl⟩
  · rcases mem_note.1 g with ⟨g, _⟩ | ⟨s2, _, _, rfl⟩ | ⟨_, rfl⟩
    · exact h.b s g
    · exact absurd rfl e
    · exact absurd rfl e
  · rcases mem_note.1 g with ⟨g, e'⟩ | ⟨s2, g2, _, rfl⟩ | ⟨_, rfl⟩
    · exact absurd e e'
    · have := h.b s2 g2
      exact ⟨this.1, by show s2.2.1 ≤ k; omega, by show k ≤ k; omega⟩
    · exact ⟨by show (0 : Int) ≤ 0; omega, h0, by show k ≤ k; omega⟩
  · exact ⟨h0, by show k ≤ k; omega, by show k ≤ k; omega⟩

theorem levG_ok {x : List Spn × Int} {g : GoalT} (h : SpOk x.1 x.2) (h0 : 0 ≤ x.2) : SpOk (levG x g) x.2 := by
  unfold levG
  split
  · exact h.lev h0
  · exact h

theorem stepG_ok {x : List Spn × Int} {g : GoalT} (h : SpOk x.1 x.2) (h0 : 0 ≤ x.2) : SpOk (stepG x g).1 (stepG x g).2 ∧ x.2 ≤ (stepG x g).2 ∧ (stepG x g).2 ≤ x.2 + 1 := by
  unfold stepG
  split
  · exact ⟨levG_ok h h0, by show x.2 ≤ x.2; omega, by show x.2 ≤ x.2 + 1; omega⟩
  · exact ⟨(SpOk.noteL (S := x.1) h0 (levG_ok h h0)).le (by show x.2 ≤ x.2 + 1; omega), by show x.2 ≤ x.2 + 1; omega, by show x.2 + 1 ≤ x.2 + 1; omega⟩

theorem foldG_ok : ∀ {gs : List GoalT} {x : List Spn × Int}, SpOk x.1 x.2 → 0 ≤ x.2 → SpOk (gs.foldl stepG x).1 (gs.foldl stepG x).2 ∧ x.2 ≤ (gs.foldl stepG x).2 ∧ (gs.foldl stepG x).2 ≤ x.2 + gs.length
  | [], x, h, h0 => ⟨h, by show x.2 ≤ x.2; omega, by show x.2 ≤ x.2 + ((0 : Nat) : Int); omega⟩
  | g :: gs, x, h, h0 => by
    obtain ⟨a, b, c⟩ := stepG_ok (g := g) h h0
    obtain ⟨a', b', c'⟩ := foldG_ok (gs := gs) a (by omega)
    rw [List.foldl_cons, List.length_cons]
    exact ⟨a', by omega, by omega⟩

theorem init_ok (hv : List Int) : SpOk (noteL [] 0 hv) 0 := SpOk.noteL (S := []) (by omega) ⟨by simp, by simp⟩

theorem gath_ok (hv : List Int) (gs : List GoalT) : SpOk (gath hv gs).1 (gath hv gs).2 ∧ 0 ≤ (gath hv gs).2 ∧ (gath hv gs).2 ≤ gs.length := by
  obtain ⟨a, b, c⟩ := foldG_ok (gs := gs) (x := (noteL [] 0 hv, 0)) (init_ok hv) (by show (0 : Int) ≤ 0; omega)
  exact ⟨a, b, by have : (gath hv gs).2 ≤ (0 : Int) + gs.length := c; omega⟩

theorem len_note (S : List Spn) (k n : Int) : (note1 S k n).length ≤ S.length + 1 := by
  unfold note1
  split <;> simp
theorem len_noteL (k : Int) : ∀ (l : List Int) (S : List Spn), (noteL S k l).length ≤ S.length + l.length
  | [], S => by unfold noteL; simp
  | n :: l, S => by
    have h1 := len_noteL k l (note1 S k n)
    have h2 := len_note S k n
    show (noteL (note1 S k n) k l).length ≤ _
    rw [List.length_cons]; omega

/-- Is a span kept? -/
def keepS (s : Spn) : Bool := s.1 == -1 || s.2.1 != s.2.2

def cmpI (a b : Int) : Int := if a < b then -1 else if b < a then 1 else 0
def cfS (x y : Spn) : Int := if cmpI y.2.2 x.2.2 ≠ 0 then cmpI y.2.2 x.2.2 else cmpI x.1 y.1

theorem ltS (x y : Spn) : Go.Proofs.ltOf cfS x y = (decide (y.2.2 < x.2.2) || (decide (y.2.2 = x.2.2) && decide (x.1 < y.1))) := by
  unfold Go.Proofs.ltOf cfS cmpI
  by_cases h1 : y.2.2 < x.2.2
  · simp [h1]
  · by_cases h2 : x.2.2 < y.2.2
    · have : ¬ y.2.2 = x.2.2 := by omega
      simp [h1, h2, this]
    · have e : y.2.2 = x.2.2 := by omega
      by_cases h3 : x.1 < y.1
      · simp [h1, h2, e, h3]
      · by_cases h4 : y.1 < x.1 <;> simp [h1, h2, e, h3, h4]

theorem swoS : Go.Sort.SWO (Go.Proofs.ltOf cfS) where
  irrefl x := by rw [ltS]; simp
  trans x y z h1 h2 := by
    rw [ltS] at h1 h2 ⊢
    simp only [Bool.or_eq_true, Bool.and_eq_true, decide_eq_true_eq] at h1 h2 ⊢
    omega
  ntrans x y z h1 h2 := by
    rw [ltS] at h1 h2 ⊢
    simp only [Bool.or_eq_false_iff, Bool.and_eq_false_iff, decide_eq_false_iff_not] at h1 h2 ⊢
    omega

/-- What has a slot, in order. -/
def SlotsOf (S E : List Spn) : Prop := E.Perm (S.filter keepS) ∧ E.Pairwise fun x y => Go.Proofs.ltOf cfS y x = false

theorem span_inj : ∀ {S : List Spn}, (S.map (·.1)).Nodup → ∀ {a b : Spn}, a ∈ S → b ∈ S → a.1 = b.1 → a = b
  | [], _, _, _, h, _, _ => by cases h
  | x :: S, hn, a, b, ha, hb, e => by
    rw [List.map_cons, List.nodup_cons] at hn
    rcases List.mem_cons.1 ha with g | g
    · rcases List.mem_cons.1 hb with g' | g'
      · rw [g, g']
      · subst g
        exact absurd (List.mem_map.2 ⟨b, g', e.symm⟩) hn.1
    · rcases List.mem_cons.1 hb with g' | g'
      · subst g'
        exact absurd (List.mem_map.2 ⟨a, g, e⟩) hn.1
      · exact span_inj hn.2 g g' e

/-- There is one order alone. -/
theorem slots_one {S E E' : List Spn} (hn : (S.map (·.1)).Nodup) (h : SlotsOf S E) (h' : SlotsOf S E') : E = E' := by
  have hp : E.Perm E' := h.1.trans h'.1.symm
  refine List.Perm.eq_of_pairwise (le := fun x y => Go.Proofs.ltOf cfS y x = false) (fun a b ha hb h1 h2 => ?_) h.2 h'.2 hp
  have ha : a ∈ S := (List.mem_filter.1 (h.1.mem_iff.1 ha)).1
  have hb : b ∈ S := (List.mem_filter.1 (h'.1.mem_iff.1 hb)).1
  rw [ltS] at h1 h2
  simp only [Bool.or_eq_false_iff, Bool.and_eq_false_iff, decide_eq_false_iff_not] at h1 h2
  have e : a.1 = b.1 := by omega
  exact span_inj hn ha hb e

end Go.Proofs.Ytdbkbaeeccemkaa

/- Functions of the library at this seat: what the shelf says of them, in plain words (written by the kit's lay-plain). -/
namespace Go.Proofs
open Go.Shelf
def Try.sortP_ren : Go.Shelf.Ren := ⟨fun | 6 => 40 | 15 => 45 | 14 => 52 | 28 => 63 | 29 => 64 | 20 => 68 | 21 => 69 | 22 => 70 | 23 => 71 | 24 => 72 | 25 => 73 | 26 => 74 | 27 => 75 | 46 => 83 | 47 => 77 | 48 => 78 | 49 => 84 | 50 => 85 | 57 => 88 | n => n, fun | 22 => 55 | 24 => 58 | 25 => 79 | 3 => 3 | 39 => 82 | 0 => 0 | 53 => 103 | 55 => 105 | 4 => 4 | 46 => 95 | 45 => 94 | 50 => 100 | 5 => 5 | 9 => 9 | 66 => 117 | 70 => 63 | 76 => 125 | 77 => 126 | n => n, fun | n => n⟩
theorem Try.sortP : Go.Proofs.SlLaysF0.n6 Try.prog Try.sortP_ren := {
  mixed := by kernel_rfl
  f6 := ⟨Try.f40.name, by decide, Try.func40.trans (congrArg some (by kernel_rfl))⟩
  f14 := ⟨Try.f52.name, by decide, Try.func52.trans (congrArg some (by kernel_rfl))⟩
  f15 := Try.func45.trans (congrArg some (by kernel_rfl))
  f20 := ⟨Try.f68.name, by decide, Try.func68.trans (congrArg some (by kernel_rfl))⟩
  f21 := ⟨Try.f69.name, by decide, Try.func69.trans (congrArg some (by kernel_rfl))⟩
  f22 := ⟨Try.f70.name, by decide, Try.func70.trans (congrArg some (by kernel_rfl))⟩
  f23 := ⟨Try.f71.name, by decide, Try.func71.trans (congrArg some (by kernel_rfl))⟩
  f24 := ⟨Try.f72.name, by decide, Try.func72.trans (congrArg some (by kernel_rfl))⟩
  f25 := ⟨Try.f73.name, by decide, Try.func73.trans (congrArg some (by kernel_rfl))⟩
  f26 := ⟨Try.f74.name, by decide, Try.func74.trans (congrArg some (by kernel_rfl))⟩
  f27 := ⟨Try.f75.name, by decide, Try.func75.trans (congrArg some (by kernel_rfl))⟩
  f28 := Try.func63.trans (congrArg some (by kernel_rfl))
  f29 := Try.func64.trans (congrArg some (by kernel_rfl))
  f46 := ⟨Try.f83.name, by decide, Try.func83.trans (congrArg some (by kernel_rfl))⟩
  f47 := Try.func77.trans (congrArg some (by kernel_rfl))
  f48 := Try.func78.trans (congrArg some (by kernel_rfl))
  f49 := ⟨Try.f84.name, by decide, Try.func84.trans (congrArg some (by kernel_rfl))⟩
  f50 := ⟨Try.f85.name, by decide, Try.func85.trans (congrArg some (by kernel_rfl))⟩
  f57 := ⟨Try.f88.name, by decide, Try.func88.trans (congrArg some (by kernel_rfl))⟩
  t0 := Try.underlying0
  a0 := Try.isAgg0
  z0 := Try.sizeOf0
  v0 := Try.zeroValue0
  t3 := Try.underlying3
  a3 := Try.isAgg3
  z3 := Try.sizeOf3
  v3 := Try.zeroValue3
  t4 := Try.underlying4
  a4 := Try.isAgg4
  z4 := Try.sizeOf4
  v4 := Try.zeroValue4
  t5 := Try.underlying5
  a5 := Try.isAgg5
  z5 := Try.sizeOf5
  v5 := Try.zeroValue5
  t9 := Try.underlying9
  a9 := Try.isAgg9
  z9 := Try.sizeOf9
  v9 := Try.zeroValue9
  t22 := Try.underlying55
  a22 := Try.isAgg55
  z22 := Try.sizeOf55
  v22 := Try.zeroValue55
  t25 := Try.underlying79
  a25 := Try.isAgg79
  z25 := Try.sizeOf79
  v25 := Try.zeroValue79
  t39 := Try.underlying82
  a39 := Try.isAgg82
  z39 := Try.sizeOf82
  v39 := Try.zeroValue82
  t45 := Try.underlying94
  a45 := Try.isAgg94
  z45 := Try.sizeOf94
  v45 := Try.zeroValue94
  t46 := Try.underlying95
  a46 := Try.isAgg95
  z46 := Try.sizeOf95
  v46 := Try.zeroValue95
  t50 := Try.underlying100
  a50 := Try.isAgg100
  z50 := Try.sizeOf100
  v50 := Try.zeroValue100
  t53 := Try.underlying103
  a53 := Try.isAgg103
  z53 := Try.sizeOf103
  v53 := Try.zeroValue103
  t55 := Try.underlying105
  a55 := Try.isAgg105
  z55 := Try.sizeOf105
  v55 := Try.zeroValue105
  t66 := Try.underlying117
  a66 := Try.isAgg117
  z66 := Try.sizeOf117
  v66 := Try.zeroValue117
  t70 := Try.underlying63
  a70 := Try.isAgg63
  z70 := Try.sizeOf63
  v70 := Try.zeroValue63
  t76 := Try.underlying125
  a76 := Try.isAgg125
  z76 := Try.sizeOf125
  v76 := Try.zeroValue125
  t77 := Try.underlying126
  a77 := Try.isAgg126
  z77 := Try.sizeOf126
  v77 := Try.zeroValue126 }

end Go.Proofs

/- Rows of spans. -/
namespace Go.Proofs.Ytdbkbaeeccemkaa
open Go Go.D Go.Proofs
set_option linter.unusedSimpArgs false
set_option linter.unusedVariables false
set_option maxRecDepth 8000

theorem spC_one' (x : Spn) : ∀ v ∈ spC x, v.oneCell' = true := by
  intro v hv
  simp [spC] at hv
  rcases hv with rfl | rfl | rfl <;> rfl

section
variable {w : World}

theorem sp_cells {p : Option Addr} {n c : Nat} {C : List Spn} {G : List Nat} (h : SlAt w 3 p n c (C.flatMap spC) G) {i : Nat} (hi : i < C.length) :
    ∃ b off, p = some ⟨b, off, none⟩ ∧ b ∈ G ∧ w.cell? ⟨b, off + i * 3, none⟩ = some (.int .i64 C[i].1) ∧ w.cell? ⟨b, off + (i * 3 + 1), none⟩ = some (.int .i64 C[i].2.1) ∧ w.cell? ⟨b, off + (i * 3 + 2), none⟩ = some (.int .i64 C[i].2.2) := by
  have hn := h.1
  rw [flat_len spC_len] at hn
  rcases h.2.2 with ⟨_, hc, _⟩ | ⟨bb, off, arr, hp, hG, hb, hs, hc⟩
  · have := h.2.1; omega
  · have e : ∀ j, j < 3 → w.cell? ⟨bb, off + (i * 3 + j), none⟩ = (spC C[i])[j]? := fun j hj => by rw [hb.cell, hc (i * 3 + j) (by omega), flat_at spC_len hi hj]
    exact ⟨bb, off, hp, by rw [hG]; simp, e 0 (by omega), e 1 (by omega), e 2 (by omega)⟩

theorem setSp {L : List Spn} {p : Option Addr} {n c i j b off : Nat} {y : Spn} {v : Value} {F : List Nat} {K : World → Prop} (h : SlAt w 3 p n c (L.flatMap spC) F) (hi : i < L.length) (hp : p = some ⟨b, off, none⟩) (hj : j < 3) (hv : v.oneCell' = true) (hy : spC y = (spC L[i]).set j v)
    (hK : ∀ w', SlAt w' 3 p n c ((L.set i y).flatMap spC) F → Upd F w w' → K w') : St w ⟨b, off + (i * 3 + j), none⟩ v K := by
  have hn := h.1
  rw [flat_len spC_len] at hn
  rcases h.2.2 with ⟨hp', _⟩ | ⟨b', off', arr, hp', hF, hb, hs, hc⟩
  · rw [hp'] at hp; cases hp
  · rw [hp'] at hp
    cases hp
    have hc2 := h.2.1
    refine St_rule hb (by omega) hv fun w' u hb' => ?_
    subst hF
    refine hK w' ⟨by rw [flat_len spC_len, List.length_set]; omega, hc2, .inr ⟨b, off, _, hp', rfl, hb', by simpa using hs, fun q hq => ?_⟩⟩ u
    rw [← flat_set spC_len hi hj hy, List.getElem?_set, Array.getElem?_setIfInBounds]
    by_cases e : i * 3 + j = q
    · subst e
      rw [if_pos rfl, if_pos (by omega), if_pos rfl, if_pos (by rw [flat_len spC_len]; omega)]
    · rw [if_neg (by omega), if_neg e]
      exact hc q hq

/-- A span in a row is turned. -/
theorem setSp3 {L : List Spn} {p : Option Addr} {n c i b off : Nat} {y0 y1 y2 : Int} {F : List Nat} {K : World → Prop} (h : SlAt w 3 p n c (L.flatMap spC) F) (hi : i < L.length) (hp : p = some ⟨b, off, none⟩)
    (hK : ∀ w', SlAt w' 3 p n c ((L.set i (y0, y1, y2)).flatMap spC) F → Upd F w w' → K w') :
    St w ⟨b, off + i * 3, none⟩ (.int .i64 y0) fun w1 => St w1 ⟨b, off + (i * 3 + 1), none⟩ (.int .i64 y1) fun w2 => St w2 ⟨b, off + (i * 3 + 2), none⟩ (.int .i64 y2) K := by
  refine setSp (j := 0) (y := (y0, L[i].2)) h hi hp (by omega) rfl rfl fun w1 h1 u1 => ?_
  refine setSp (j := 1) (y := (y0, y1, L[i].2.2)) h1 (by simpa using hi) hp (by omega) rfl (by simp [spC]) fun w2 h2 u2 => ?_
  refine setSp (j := 2) (y := (y0, y1, y2)) h2 (by simpa using hi) hp (by omega) rfl (by simp [spC]) fun w3 h3 u3 => ?_
  rw [List.set_set, List.set_set] at h3
  exact hK w3 h3 ((u1.both u2).both u3)

/-- Where the first one stands of which it says so. -/
theorem IndexFunc_ok {f : Spn → Bool} {v : Value} {p : Option Addr} {n c : Nat} {C : List Spn} {G : List Nat} {K : Int → World → Prop} (hA : ∀ (z : World) (x : Spn) (K : Value → World → Prop), Upd [] w z → (∀ w', Upd [] z w' → K (.bool (f x)) w') → CallV Try.prog v [.agg #[.int .i64 x.1, .int .i64 x.2.1, .int .i64 x.2.2]] z K)
    (hs : SlAt w 3 p n c (C.flatMap spC) G) (hl : C.length < 2 ^ 40)
    (hno : ∀ w', (∀ x ∈ C, f x = false) → Upd [] w w' → K (-1) w') (hyes : ∀ (k : Nat) (hk : k < C.length) w', (∀ j (hj : j < C.length), j < k → f C[j] = false) → f C[k] = true → Upd [] w w' → K k w') : C_slices_IndexFunc p n c v w K := by
  apply C_slices_IndexFunc.of
  unfold F_slices_IndexFunc F_slices_IndexFunc_L1
  have hn : n = C.length := by have := hs.1; rw [flat_len spC_len] at this; omega
  subst hn
  refine ⟨fun s z => ∃ i : Nat, s.t8 = i ∧ i ≤ C.length ∧ (∀ j (hj : j < C.length), j < i → f C[j] = false) ∧ Upd [] w z, fun s _ => (C.length - s.t8).toNat, ⟨0, rfl, by omega, fun j hj h => absurd h (by omega), Upd.refl _ _⟩, ?_⟩
  rintro ⟨si⟩ z ⟨i, rfl, hi, hf, uz⟩
  unfold B_slices_IndexFunc_L1
  refine ifC (fun g => ?_) (fun g => ?_)
  · have gi : i < C.length := by have := of_decide_eq_true g; dsimp only at this; omega
    obtain ⟨b, off, hp, _, c0, c1, c2⟩ := sp_cells (hs.upd uz (by intro k _ h; cases h)) gi
    subst hp
    refine ⟨by show (0 : Int) ≤ (i : Int); omega, by show (i : Int) < _; omega, ?_⟩
    simp only [NN_some, addN, drw_cell, drw_heap, exS, exI, exB, exP, exM, exStr, exV, a0, a1, a2, a3, a4, a5, a6, a7, a8, a9, a10, a11, a12, a13, maxI_eq, Nat.zero_add, Nat.add_zero, Nat.mul_one, Option.isNone_some, Option.isNone_none, Nat.add_assoc, Int.toNat_natCast, c0, c1, c2]
    refine hA z C[i] _ uz fun w' u => ⟨_, rfl, ifC (fun he => ?_) (fun he => ?_)⟩
    · exact hyes i gi w' hf he (uz.after u)
    · rw [i64id (by omega) (by omega)]
      refine ⟨⟨i + 1, by simp, by omega, fun j hj hlt => ?_, uz.after u⟩, by show ((C.length : Int) - ((i : Int) + 1)).toNat < ((C.length : Int) - (i : Int)).toNat; omega⟩
      by_cases e : j = i
      · subst e; exact he
      · exact hf j hj (by omega)
  · have gi : i = C.length := by have := of_decide_eq_false g; dsimp only at this; omega
    subst gi
    exact hno z (fun x hx => by obtain ⟨j, hj, rfl⟩ := List.getElem_of_mem hx; exact hf j hj hj) uz
end

end Go.Proofs.Ytdbkbaeeccemkaa

/- Spans that have slots. -/
namespace Go.Proofs.Ytdbkbaeeccemkaa
open Go Go.D Go.Proofs
set_option linter.unusedSimpArgs false
set_option linter.unusedVariables false
set_option maxRecDepth 8000

theorem St3q {w1 : World} {r : Nat} {c0 c1 c2 v0 v1 v2 : Value} {K : World → Prop} (hb : Blk w1 r #[c0, c1, c2]) (h0 : v0.oneCell' = true) (h1 : v1.oneCell' = true) (h2 : v2.oneCell' = true) (hK : ∀ w', Upd [r] w1 w' → Blk w' r #[v0, v1, v2] → K w') :
    St w1 (⟨r, 0, none⟩ : Addr) v0 fun z0 => St z0 (⟨r, 1, none⟩ : Addr) v1 fun z1 => St z1 (⟨r, 2, none⟩ : Addr) v2 K := by
  refine St_acc (Upd.refl _ _) hb (by simp) h0 fun z0 y0 b0 => St_acc y0 b0 (by simp) h1 fun z1 y1 b1 => St_acc y1 b1 (by simp) h2 fun z2 y2 b2 => ?_
  simp at b2
  exact hK z2 y2 b2

theorem flat_takeS : ∀ (C : List Spn) (i : Nat), (C.flatMap spC).take (i * 3) = (C.take i).flatMap spC
  | [], i => by simp
  | x :: C, 0 => by simp
  | x :: C, i + 1 => by
    rw [List.flatMap_cons, List.take_succ_cons, List.flatMap_cons, ← flat_takeS C i, show (i + 1) * 3 = 3 + i * 3 by omega, List.take_append, spC_len, List.take_of_length_le (by rw [spC_len]; omega)]
    congr 2
    omega

section
variable {w : World}

theorem delA {z : World} {x : Spn} {K : Value → World → Prop} (hK : ∀ w', Upd [] z w' → K (.bool (!keepS x)) w') : CallV Try.prog (.func (.func 39) #[] #[]) [.agg #[.int .i64 x.1, .int .i64 x.2.1, .int .i64 x.2.2]] z K := by
  refine ⟨_, _, _, rfl, rfl, ?_⟩
  refine Calls.mono (C_plan_spans_slots_1.of (x0 := x.1) (x1 := x.2.1) (x2 := x.2.2) (R := fun t w' => t = !keepS x ∧ Upd [] z w') ?_) fun e w2 ⟨t, he, ht, hu⟩ => ⟨_, he, by rw [ht]; exact hK w2 hu⟩
  unfold F_plan_spans_slots_1
  refine New_rule fun r w1 hr u1 b1 => ?_
  simp only [NN_some, addN, drw_cell, drw_heap, exS, exI, exB, exP, exM, exStr, exV, a0, a1, a2, a3, a4, a5, a6, a7, a8, a9, a10, a11, a12, a13, maxI_eq, Nat.zero_add, Nat.add_zero, Nat.mul_one, Option.isNone_some, Option.isNone_none, b1.cell]
  refine ifC (fun g => ?_) (fun g => ?_)
  · have : (x.1 == -1) = false := by simpa using g
    refine ⟨?_, u1⟩
    unfold keepS
    rw [this]
    rw [Bool.false_or, bne, Bool.not_not]
  · have : x.1 = -1 := by simpa using g
    exact ⟨by simp [keepS, this], u1⟩

theorem DeleteFunc_ok {p : Option Addr} {n c : Nat} {C : List Spn} {G : List Nat} {K : Option Addr → Nat → Nat → World → Prop} (hs : SlAt w 3 p n c (C.flatMap spC) G) (hl : C.length < 2 ^ 40)
    (hK : ∀ w', SlAt w' 3 p (C.filter keepS).length c ((C.filter keepS).flatMap spC) G → Upd G w w' → K p (C.filter keepS).length c w') : C_slices_DeleteFunc p n c (.func (.func 39) #[] #[]) w K := by
  apply C_slices_DeleteFunc.of
  unfold F_slices_DeleteFunc F_slices_DeleteFunc_L1
  have hn : n = C.length := by have := hs.1; rw [flat_len spC_len] at this; omega
  subst hn
  refine IndexFunc_ok (f := fun x => !keepS x) (fun z x K u h => delA h) hs hl (fun w1 hf u1 => ifT rfl ?_) (fun k hk w1 hf hfk u1 => ifF (by simp) ?_)
  · have e : C.filter keepS = C := List.filter_eq_self.2 fun x hx => by have := hf x hx; simpa using this
    rw [e] at hK
    exact hK w1 (hs.upd u1 (by intro k _ h; cases h)) (u1.mono (by simp))
  · rw [i64id (by omega) (by omega)]
    have hcap := hs.2.1
    refine ⟨fun s z => ∃ (i j : Nat) (D : List Spn), s.i = i ∧ s.j = j ∧ i < j ∧ j ≤ C.length ∧ D.length = C.length ∧ SlAt z 3 p C.length c (D.flatMap spC) G ∧ D.take i = (C.take j).filter keepS ∧ D.drop j = C.drop j ∧ Upd G w z, fun s _ => (C.length - s.j).toNat, ⟨k, k + 1, C, rfl, by simp, by omega, by omega, rfl, hs.upd u1 (by intro k _ h; cases h), ?_, rfl, u1.mono (by simp)⟩, ?_⟩
    · rw [List.take_succ_eq_append_getElem hk, List.filter_append, List.filter_cons_of_neg (by simpa using hfk), List.filter_nil, List.append_nil]
      symm
      refine List.filter_eq_self.2 fun x hx => ?_
      obtain ⟨j, hj, rfl⟩ := List.getElem_of_mem hx
      rw [List.length_take] at hj
      have := hf j (by omega) (by omega)
      rw [List.getElem_take]
      simpa using this
    rintro ⟨si, sj⟩ z ⟨i, j, D, rfl, rfl, hij, hj, hD, hsz, h1, h2, uz⟩
    unfold B_slices_DeleteFunc_L1
    refine ifC (fun g => ?_) (fun g => ?_)
    · have gj : j < C.length := by have := of_decide_eq_true g; dsimp only at this; omega
      have eD : D[j]'(by omega) = C[j] := by
        have h3 : (D.drop j)[0]? = (C.drop j)[0]? := by rw [h2]
        rw [List.getElem?_drop, List.getElem?_drop, Nat.add_zero, List.getElem?_eq_getElem (by omega), List.getElem?_eq_getElem (by omega)] at h3
        exact Option.some.inj h3
      obtain ⟨b, off, hp, bG, c0, c1, c2⟩ := sp_cells hsz (i := j) (by omega)
      rw [eD] at c0 c1 c2
      subst hp
      refine ⟨by show (0 : Int) ≤ (j : Int); omega, by show (j : Int) < _; omega, ?_⟩
      simp only [NN_some, addN, drw_cell, drw_heap, exS, exI, exB, exP, exM, exStr, exV, a0, a1, a2, a3, a4, a5, a6, a7, a8, a9, a10, a11, a12, a13, maxI_eq, Nat.zero_add, Nat.add_zero, Nat.mul_one, Option.isNone_some, Option.isNone_none, Nat.add_assoc, Int.toNat_natCast, c0, c1, c2]
      refine New_rule fun r z1 hr y1 d1 => ?_
      refine St3q d1 rfl rfl rfl fun z2 y2 d2 => ?_
      simp only [NN_some, addN, drw_cell, drw_heap, exS, exI, exB, exP, exM, exStr, exV, a0, a1, a2, a3, a4, a5, a6, a7, a8, a9, a10, a11, a12, a13, maxI_eq, Nat.zero_add, Nat.add_zero, Nat.mul_one, Option.isNone_some, Option.isNone_none, d2.cell]
      have Y2 : Upd [] z z2 := y1.fresh y2 (by intro k hk; simp at hk; omega)
      refine delA fun z3 y3 => ⟨_, rfl, ?_⟩
      have Y3 := Y2.after y3
      have d3 := d2.upd y3 (by simp)
      have hs3 := hsz.upd Y3 (by intro k _ h; cases h)
      have et : (C.take (j + 1)).filter keepS = (C.take j).filter keepS ++ if keepS C[j] then [C[j]] else [] := by
        rw [List.take_succ_eq_append_getElem gj, List.filter_append]
        rcases e : keepS C[j] with _ | _
        · rw [List.filter_cons_of_neg (by rw [e]; simp)]; simp
        · rw [List.filter_cons_of_pos e]; simp
      have hdrop : D.drop (j + 1) = C.drop (j + 1) := by
        rw [← List.drop_drop (i := 1) (j := j), ← List.drop_drop (i := 1) (j := j), h2]
      unfold F_slices_DeleteFunc_k1
      refine ifC (fun he => ?_) (fun he => ?_)
      · have he : keepS C[j] = true := by simpa using he
        refine ⟨_, d3.cell 0, _, d3.cell 1, _, d3.cell 2, by show (0 : Int) ≤ (i : Int); omega, by show (i : Int) < _; omega, ?_⟩
        simp only [NN_some, addN, drw_cell, drw_heap, exS, exI, exB, exP, exM, exStr, exV, a0, a1, a2, a3, a4, a5, a6, a7, a8, a9, a10, a11, a12, a13, maxI_eq, Nat.zero_add, Nat.add_zero, Nat.mul_one, Option.isNone_some, Option.isNone_none, Nat.add_assoc, Int.toNat_natCast]
        refine setSp3 hs3 (by omega) rfl fun z4 hs4 y4 => ?_
        rw [i64id (by omega) (by omega), i64id (by omega) (by omega)]
        refine ⟨⟨i + 1, j + 1, D.set i C[j], by simp, by simp, by omega, by omega, by simpa using hD, hs4, ?_, ?_, uz.both ((Y3.after y4))⟩, by show ((C.length : Int) - ((j : Int) + 1)).toNat < ((C.length : Int) - (j : Int)).toNat; omega⟩
        · rw [et, if_pos he, ← h1, List.take_succ_eq_append_getElem (by simp; omega), List.take_set_of_le (Nat.le_refl _)]
          simp
        · rw [List.drop_set_of_lt (by omega)]
          exact hdrop
      · have he : keepS C[j] = false := by simpa using he
        dsimp only
        rw [i64id (by omega) (by omega)]
        refine ⟨⟨i, j + 1, D, rfl, by simp, by omega, by omega, hD, hs3, ?_, hdrop, uz.before Y3⟩, by show ((C.length : Int) - ((j : Int) + 1)).toNat < ((C.length : Int) - (j : Int)).toNat; omega⟩
        rw [et, he]
        simpa using h1
    · have gj : j = C.length := by have := of_decide_eq_false g; dsimp only at this; omega
      subst gj
      rw [List.take_length] at h1
      have hil : (C.filter keepS).length = i := by rw [← h1, List.length_take]; omega
      refine ⟨by show (0 : Int) ≤ (i : Int); omega, by show (i : Int) ≤ _; omega, ?_⟩
      simp only [Int.toNat_natCast]
      refine Clr_rule (hE := eS_55) hsz (by omega) fun v z2 hs2 y2 => ⟨by show (0 : Int) ≤ (i : Int); omega, by show (i : Int) ≤ _; omega, ?_⟩
      have h3 := hs2.take (k := i) (by omega)
      rw [List.take_left' (by rw [List.length_take, flat_len spC_len]; omega), flat_takeS, h1] at h3
      rw [← hil]
      refine hK z2 (by rw [hil]; exact h3) (uz.both y2)
end

end Go.Proofs.Ytdbkbaeeccemkaa

/- The slots, in order. -/
namespace Go.Proofs.Ytdbkbaeeccemkaa
open Go Go.D Go.Proofs
set_option linter.unusedSimpArgs false
set_option linter.unusedVariables false
set_option maxRecDepth 8000

section
variable {w : World}

theorem CmpI_ok {x y : Int} {K : Int → World → Prop} (hK : K (cmpI x y) w) : C_cmp_Compare x y w K := by
  have nan : ∀ {x : Int} {K : Bool → World → Prop}, K false w → C_cmp_isNaN x w K := by
    intro x K h
    apply C_cmp_isNaN.of
    unfold F_cmp_isNaN
    simpa using h
  apply C_cmp_Compare.of
  unfold F_cmp_Compare
  refine nan (nan (ifF rfl (ifF rfl ?_)))
  unfold cmpI at hK
  by_cases h1 : x < y
  · rw [if_pos h1] at hK; exact ifT (by simpa using h1) hK
  · rw [if_neg h1] at hK
    refine ifF (by simpa using h1) ?_
    by_cases h2 : y < x
    · rw [if_pos h2] at hK; exact ifT (by simpa using h2) hK
    · rw [if_neg h2] at hK; exact ifF (by simpa using h2) hK

theorem Or_ok {p : Option Addr} {c : Nat} {a b : Int} {G : List Nat} {K : Int → World → Prop} (h : SlAt w 1 p 2 c [.int .i64 a, .int .i64 b] G) (hK : K (if a ≠ 0 then a else b) w) : C_cmp_Or p 2 c w K := by
  apply C_cmp_Or.of
  unfold F_cmp_Or F_cmp_Or_L1
  obtain ⟨b0, off, hp, e0⟩ : ∃ b0 off, p = some ⟨b0, off, none⟩ ∧ w.cell? ⟨b0, off + 0, none⟩ = some (.int .i64 a) ∧ w.cell? ⟨b0, off + 1, none⟩ = some (.int .i64 b) := by
    rcases h.2.2 with ⟨_, hc, _⟩ | ⟨bb, off, arr, hp, hG, hb, hs, hc⟩
    · have := h.2.1; omega
    · exact ⟨bb, off, hp, by rw [hb.cell, hc 0 (by omega)]; rfl, by rw [hb.cell, hc 1 (by omega)]; rfl⟩
  refine ⟨fun s z => z = w ∧ ∃ i : Nat, s.t8 = i ∧ i ≤ 2 ∧ (1 ≤ i → a = 0) ∧ (2 ≤ i → b = 0), fun s _ => (2 - s.t8).toNat, ⟨rfl, 0, rfl, by omega, by omega, by omega⟩, ?_⟩
  rintro ⟨si⟩ z ⟨rfl, i, rfl, hi, h1, h2⟩
  unfold B_cmp_Or_L1
  subst hp
  refine ifC (fun g => ?_) (fun g => ?_)
  · have gi : i < 2 := by have := of_decide_eq_true g; dsimp only at this; omega
    refine ⟨by show (0 : Int) ≤ (i : Int); omega, by show (i : Int) < _; omega, ?_⟩
    have h01 : i = 0 ∨ i = 1 := by omega
    rcases h01 with rfl | rfl
    · simp only [NN_some, addN, drw_cell, drw_heap, exS, exI, exB, exP, exM, exStr, exV, a0, a1, a2, a3, a4, a5, a6, a7, a8, a9, a10, a11, a12, a13, maxI_eq, Nat.zero_add, Nat.add_zero, Nat.mul_one, Option.isNone_some, Option.isNone_none]
      refine ⟨a, e0.1, ifC (fun g2 => ?_) (fun g2 => ?_)⟩
      · have : a ≠ 0 := by simpa using g2
        rwa [if_pos this] at hK
      · have : a = 0 := by simpa using g2
        exact ⟨⟨trivial, 1, by rfl, by omega, fun _ => this, by omega⟩, by decide⟩
    · simp only [NN_some, addN, drw_cell, drw_heap, exS, exI, exB, exP, exM, exStr, exV, a0, a1, a2, a3, a4, a5, a6, a7, a8, a9, a10, a11, a12, a13, maxI_eq, Nat.zero_add, Nat.add_zero, Nat.mul_one, Option.isNone_some, Option.isNone_none]
      have a0 := h1 (by omega)
      rw [if_neg (by simpa using a0)] at hK
      refine ⟨b, e0.2, ifC (fun g2 => hK) (fun g2 => ?_)⟩
      have : b = 0 := by simpa using g2
      exact ⟨⟨trivial, 2, by rfl, by omega, fun _ => a0, fun _ => this⟩, by decide⟩
  · have gi : i = 2 := by have := of_decide_eq_false g; dsimp only at this; omega
    subst gi
    have a0 := h1 (by omega)
    have b0' := h2 (by omega)
    rw [if_neg (by simpa using a0), b0'] at hK
    exact hK

theorem cmpLaysS (blk off size : Nat) (w : World) : CmpLays Try.prog 41 #[] spC 3 cfS blk off size w := by
  intro m os dk _ x y
  obtain ⟨W, hW⟩ : ∃ W, W = sortWorldK spC 3 w blk off m dk os := ⟨_, rfl⟩
  rw [← hW]
  refine Calls.mono (C_plan_spans_slots_2.of (a0 := x.1) (a1 := x.2.1) (a2 := x.2.2) (b0 := y.1) (b1 := y.2.1) (b2 := y.2.2) (w := W) (R := fun r w' => r = cfS x y ∧ Gr W w') ?_) fun e w' ⟨r, he, hr, hg⟩ => ⟨by rw [he, hr], hg⟩
  unfold F_plan_spans_slots_2
  refine New_ruleG (Gr.refl W) fun r w1 hr1 u1 b1 g1 => New_ruleG g1 fun r1 w2 hr2 u2 b2 g2 => ?_
  have b1' := b1.upd u2 (by simp)
  have gd := g2.drw
  simp only [NN_some, addN, drw_cell, drw_heap, exS, exI, exB, exP, exM, exStr, exV, a0, a1, a2, a3, a4, a5, a6, a7, a8, a9, a10, a11, a12, a13, maxI_eq, Nat.zero_add, Nat.add_zero, Nat.mul_one, Option.isNone_some, Option.isNone_none, b1'.cell, b2.cell]
  refine CmpI_ok ⟨by simp only [NN_some, addN, drw_cell, drw_heap, exS, exI, exB, exP, exM, exStr, exV, a0, a1, a2, a3, a4, a5, a6, a7, a8, a9, a10, a11, a12, a13, maxI_eq, Nat.zero_add, Nat.add_zero, Nat.mul_one, Option.isNone_some, Option.isNone_none, b2.cell], by simp only [NN_some, addN, drw_cell, drw_heap, exS, exI, exB, exP, exM, exStr, exV, a0, a1, a2, a3, a4, a5, a6, a7, a8, a9, a10, a11, a12, a13, maxI_eq, Nat.zero_add, Nat.add_zero, Nat.mul_one, Option.isNone_some, Option.isNone_none, b1'.cell], CmpI_ok ?_⟩
  refine BSlL_ruleG eS_30 [.int .i64 (cmpI y.2.2 x.2.2), .int .i64 (cmpI x.1 y.1)] gd (by rfl) (by simp [Value.cells]) (by rfl) (by omega) fun w3 hs3 u3 g3 => ?_
  have hs3' : SlAt w3 1 (some ⟨(drw w2).heap.size, 0, none⟩) 2 2 [.int .i64 (cmpI y.2.2 x.2.2), .int .i64 (cmpI x.1 y.1)] [(drw w2).heap.size] := by simpa [Value.cells] using hs3
  exact Or_ok hs3' ⟨rfl, g3⟩

/-- The row is sorted. -/
theorem SSort_ok {p : Option Addr} {n c : Nat} {E : List Spn} {G : List Nat} {K : World → Prop} (h : SlAt w 3 p n c (E.flatMap spC) G) (hl : E.length < 2 ^ 40)
    (hK : ∀ w' (E' : List Spn), E'.Perm E → E'.Pairwise (fun x y => Go.Proofs.ltOf cfS y x = false) → SlAt w' 3 p n c (E'.flatMap spC) G → Upd G w w' → K w') : C_slices_SortFunc p n c (.func (.func 41) #[] #[]) w K := by
  have hn : n = E.length := by have := h.1; rw [flat_len spC_len] at this; omega
  unfold C_slices_SortFunc
  by_cases h0 : E = []
  · subst h0
    simp at hn
    subst hn
    refine Calls.mono (AnyF.slices_SortFunc_none Try.sortP p c _ w) fun e w' ⟨he, hw⟩ => ⟨he, ?_⟩
    subst hw
    exact hK _ [] (List.Perm.refl _) List.Pairwise.nil h (Upd.refl _ _)
  · have hpos : 0 < E.length := List.length_pos_iff.2 h0
    have hnc := h.2.1
    rcases h.2.2 with ⟨_, hc, _⟩ | ⟨b, off, arr, hp, hF, hb, hs, hc⟩
    · omega
    subst hp hF hn
    have hH : Go.Sort.HoldsK spC 3 w b off E.toArray := holdsK_of spC_len hb (by omega) hc
    have eg : ∀ args w, (callFunc 41 args).run Try.prog w = .ok (.enter 41 args) w := enters_of Try.func41 (by kernel_rfl) rfl
    have hS := AnyQ.slices_SortFunc Try.sortP 3 Try.isAgg58 Try.sizeOf58 spC spC_len spC_one' cfS swoS 41 #[] b off c E.toArray w eg (cmpLaysS b off E.toArray.size w) hH hb.lt (by simp; omega)
    refine Calls.mono hS fun e w' ⟨he, d', m, os, hperm, hsort, hw⟩ => ⟨he, ?_⟩
    obtain ⟨hsz, _, hpm⟩ := hperm
    have hE' : d'.toList.Perm E := by
      have := hpm
      rw [show (d'.extract 0 E.toArray.size) = d' by rw [← hsz]; simp, show (E.toArray.extract 0 E.toArray.size) = E.toArray by simp] at this
      simpa using this
    have hb2 := sortK_back (enc := spC) (k := 3) spC_len (w := w) (p := some ⟨b, off, none⟩) (n := E.length) (c := c) (b := b) (off := off) (E := E) (E' := d'.toList) (m := m) (os := os) rfl hnc (by have := hE'.length_eq; omega) rfl hb (by omega)
    have e : d'.toList.toArray = d' := by simp
    rw [e, ← hw] at hb2
    refine hK w' d'.toList hE' (List.pairwise_iff_getElem.2 fun i j hi hj hij => ?_) hb2.1 hb2.2
    have hi' : i < d'.size := by simpa using hi
    have hj' : j < d'.size := by simpa using hj
    have h5 := hsort i j (by omega) hij (by rw [← hsz]; exact hj')
    rw [getElem!_pos d' i hi', getElem!_pos d' j hj'] at h5
    simpa using h5

theorem slots_ok {b : Nat} {S : List Spn} {K : Option Addr → Nat → Nat → World → Prop} (hmap : MapAt w b (Value.int .i64) (spM S)) (hl : S.length ≤ 2 ^ 30)
    (hK : ∀ w' p c G (E : List Spn), SlotsOf S E → SlAt w' 3 p E.length c (E.flatMap spC) G → Since G w → Upd [] w w' → K p E.length c w') : C_plan_spans_slots (some b) w K := by
  apply C_plan_spans_slots.of
  unfold F_plan_spans_slots
  refine values_ok hmap (by omega) fun w1 p c G E hp hs sG u1 => ?_
  have hEl := hp.length_eq
  refine DeleteFunc_ok hs (by omega) fun w2 hs2 u2 => ?_
  have hfl := List.length_filter_le keepS E
  refine SSort_ok hs2 (by omega) fun w3 E' hp' hsort hs3 u3 => ?_
  have hl3 := hp'.length_eq
  rw [← hl3] at hs3 ⊢
  refine hK w3 p c G E' ⟨hp'.trans (hp.filter keepS), hsort⟩ hs3 sG ((u1.fresh u2 sG).fresh u3 sG)
end

end Go.Proofs.Ytdbkbaeeccemkaa
