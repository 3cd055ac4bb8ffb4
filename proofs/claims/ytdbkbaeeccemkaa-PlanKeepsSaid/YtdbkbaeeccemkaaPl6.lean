/- slices.Sort at this seat: what the shelf says of it, in plain words (written by the kit's lay-plain). -/
import Derived.Shelf.SortG.Plain
import Derived.Shelf.SortG.SortNone
import Derived.Ground.SlgnProg
import Derived.Test.YtdbkbaeeccemkaaGenC
import Derived.Test.YtdbkbaeeccemkaaOwn12
import Derived.Test.YtdbkbaeeccemkaaGenAll
import Derived.Test.YtdbkbaeeccemkaaPl2
namespace Go.Proofs
open Go.Shelf
def Try.sortInt_ren : Go.Shelf.Ren := ⟨fun | 53 => 30 | 64 => 45 | 63 => 44 | 78 => 63 | 79 => 64 | 70 => 54 | 71 => 55 | 72 => 56 | 73 => 57 | 74 => 58 | 75 => 59 | 59 => 60 | 76 => 61 | 77 => 62 | 88 => 76 | 89 => 77 | 90 => 78 | 91 => 79 | 92 => 80 | 68 => 53 | 96 => 86 | n => n, fun | 22 => 30 | 23 => 3 | 3 => 3 | 51 => 82 | 0 => 0 | 67 => 103 | 69 => 105 | 4 => 4 | 61 => 95 | 60 => 94 | 44 => 100 | 5 => 5 | 9 => 9 | 75 => 117 | 79 => 63 | 83 => 125 | 84 => 126 | n => n, fun | n => n⟩
theorem Try.sortInt : Go.Proofs.SlLaysN.n53 Try.prog Try.sortInt_ren := {
  mixed := by kernel_rfl
  f53 := ⟨Try.f30.name, by decide, Try.func30.trans (congrArg some (by kernel_rfl))⟩
  f59 := ⟨Try.f60.name, by decide, Try.func60.trans (congrArg some (by kernel_rfl))⟩
  f63 := ⟨Try.f44.name, by decide, Try.func44.trans (congrArg some (by kernel_rfl))⟩
  f64 := Try.func45.trans (congrArg some (by kernel_rfl))
  f68 := ⟨Try.f53.name, by decide, Try.func53.trans (congrArg some (by kernel_rfl))⟩
  f70 := ⟨Try.f54.name, by decide, Try.func54.trans (congrArg some (by kernel_rfl))⟩
  f71 := ⟨Try.f55.name, by decide, Try.func55.trans (congrArg some (by kernel_rfl))⟩
  f72 := ⟨Try.f56.name, by decide, Try.func56.trans (congrArg some (by kernel_rfl))⟩
  f73 := ⟨Try.f57.name, by decide, Try.func57.trans (congrArg some (by kernel_rfl))⟩
  f74 := ⟨Try.f58.name, by decide, Try.func58.trans (congrArg some (by kernel_rfl))⟩
  f75 := ⟨Try.f59.name, by decide, Try.func59.trans (congrArg some (by kernel_rfl))⟩
  f76 := ⟨Try.f61.name, by decide, Try.func61.trans (congrArg some (by kernel_rfl))⟩
  f77 := ⟨Try.f62.name, by decide, Try.func62.trans (congrArg some (by kernel_rfl))⟩
  f78 := Try.func63.trans (congrArg some (by kernel_rfl))
  f79 := Try.func64.trans (congrArg some (by kernel_rfl))
  f88 := ⟨Try.f76.name, by decide, Try.func76.trans (congrArg some (by kernel_rfl))⟩
  f89 := Try.func77.trans (congrArg some (by kernel_rfl))
  f90 := Try.func78.trans (congrArg some (by kernel_rfl))
  f91 := ⟨Try.f79.name, by decide, Try.func79.trans (congrArg some (by kernel_rfl))⟩
  f92 := ⟨Try.f80.name, by decide, Try.func80.trans (congrArg some (by kernel_rfl))⟩
  f96 := ⟨Try.f86.name, by decide, Try.func86.trans (congrArg some (by kernel_rfl))⟩
  t0 := Try.underlying0
  a0 := Try.isAgg0
  z0 := Try.sizeOf0
  v0 := Try.zeroValue0
  t3 := Try.underlying3
  a3 := Try.isAgg3
  z3 := Try.sizeOf3
  v3 := Try.zeroValue3
  t4 := Try.underlying4
  a4 := Try.isAgg4
  z4 := Try.sizeOf4
  v4 := Try.zeroValue4
  t5 := Try.underlying5
  a5 := Try.isAgg5
  z5 := Try.sizeOf5
  v5 := Try.zeroValue5
  t9 := Try.underlying9
  a9 := Try.isAgg9
  z9 := Try.sizeOf9
  v9 := Try.zeroValue9
  t22 := Try.underlying30
  a22 := Try.isAgg30
  z22 := Try.sizeOf30
  v22 := Try.zeroValue30
  t23 := Try.underlying3
  a23 := Try.isAgg3
  z23 := Try.sizeOf3
  v23 := Try.zeroValue3
  t44 := Try.underlying100
  a44 := Try.isAgg100
  z44 := Try.sizeOf100
  v44 := Try.zeroValue100
  t51 := Try.underlying82
  a51 := Try.isAgg82
  z51 := Try.sizeOf82
  v51 := Try.zeroValue82
  t60 := Try.underlying94
  a60 := Try.isAgg94
  z60 := Try.sizeOf94
  v60 := Try.zeroValue94
  t61 := Try.underlying95
  a61 := Try.isAgg95
  z61 := Try.sizeOf95
  v61 := Try.zeroValue95
  t67 := Try.underlying103
  a67 := Try.isAgg103
  z67 := Try.sizeOf103
  v67 := Try.zeroValue103
  t69 := Try.underlying105
  a69 := Try.isAgg105
  z69 := Try.sizeOf105
  v69 := Try.zeroValue105
  t75 := Try.underlying117
  a75 := Try.isAgg117
  z75 := Try.sizeOf117
  v75 := Try.zeroValue117
  t79 := Try.underlying63
  a79 := Try.isAgg63
  z79 := Try.sizeOf63
  v79 := Try.zeroValue63
  t83 := Try.underlying125
  a83 := Try.isAgg125
  z83 := Try.sizeOf125
  v83 := Try.zeroValue125
  t84 := Try.underlying126
  a84 := Try.isAgg126
  z84 := Try.sizeOf126
  v84 := Try.zeroValue126 }

end Go.Proofs

/- slices.Sort: a row of numbers, in order. -/
namespace Go.Proofs.Ytdbkbaeeccemkaa
open Go Go.D Go.Proofs
set_option linter.unusedSimpArgs false
set_option linter.unusedVariables false
set_option maxRecDepth 8000

/-- In order. -/
def sortL (E : List Int) : List Int := E.mergeSort fun x y => decide (x ≤ y)

theorem Sort_ok {w : World} {p : Option Addr} {n c : Nat} {E : List Int} {F : List Nat} {K : World → Prop} (h : SlAt w 1 p n c (E.map (.int .i64)) F) (hl : E.length < 2 ^ 40)
    (hK : ∀ w', SlAt w' 1 p n c ((sortL E).map (.int .i64)) F → Upd F w w' → K w') : C_slices_Sort p n c w K := by
  have hn : n = E.length := by have := h.1; simp at this; exact this.symm
  unfold C_slices_Sort
  by_cases h0 : E = []
  · subst h0
    simp at hn
    subst hn
    refine Calls.mono (Go.Proofs.AnyG.slices_Sort_int_none Try.sortInt p c w) fun e w' ⟨he, hw⟩ => ⟨he, ?_⟩
    subst hw
    exact hK _ (by simpa [sortL] using h) (Upd.refl _ _)
  · have hpos : 0 < E.length := List.length_pos_iff.2 h0
    have hnc := h.2.1
    rcases h.2.2 with ⟨_, hc, _⟩ | ⟨b, off, arr, hp, hF, hb, hs, hc⟩
    · omega
    subst hp hF hn
    have hH : Go.Sort.Holds (Value.int .i64) w b off E.toArray := fun j hj => by
      have hj : j < E.length := by simpa using hj
      refine ⟨?_, hb.frozen (by omega)⟩
      rw [hb.cell, hc _ (by omega), List.getElem?_map, List.getElem?_eq_getElem hj]
      simp [hj]
    refine Calls.mono (Go.Proofs.AnyG.slices_Sort_int Try.sortInt b off c E w hH hb.lt (by omega)) fun e w' ⟨he, m, os, hw⟩ => ⟨he, ?_⟩
    have hlen : (sortL E).length = E.length := by unfold sortL; rw [List.length_mergeSort]
    have hlt := hb.lt
    obtain ⟨T, fz, hobj, hfz⟩ := hb
    have e1 : w'.heap = (w.heap.modify b (Go.Sort.onCells (Go.Sort.putCells (Value.int .i64) off (sortL E).toArray))) ++ os := by rw [hw]; rfl
    have hsz : w'.heap.size = w.heap.size + os.size := by rw [e1]; simp
    have u : Upd [b] w w' := by
      refine ⟨by rw [hw]; rfl, by rw [hw]; rfl, by rw [hw]; rfl, by omega, fun k hk hkb => ?_⟩
      simp at hkb
      rw [e1, Array.getElem?_append_left (by simpa using hk), Array.getElem?_modify, if_neg (fun e => hkb e.symm)]
    refine hK w' ⟨by simp [hlen], hnc, .inr ⟨b, off, Go.Sort.putCells (Value.int .i64) off (sortL E).toArray arr, rfl, rfl, ⟨T, fz, ?_, ?_⟩, ?_, fun i hi => ?_⟩⟩ u
    · rw [e1, Array.getElem?_append_left (by simpa using hlt), Array.getElem?_modify, if_pos rfl, hobj]; rfl
    · simpa [Go.Sort.putCells] using hfz
    · simpa [Go.Sort.putCells] using hs
    · unfold Go.Sort.putCells
      rw [Array.getElem?_mapIdx, Array.getElem?_eq_getElem (by omega)]
      simp only [Option.map_some]
      rw [if_pos (by simp [hlen]; omega), List.getElem?_map, List.getElem?_eq_getElem (by omega)]
      simp [show i < (sortL E).length by omega]

theorem sortL_mem {E : List Int} {k : Int} : k ∈ sortL E ↔ k ∈ E := List.mem_mergeSort

/-- Numbers that are apart rise, in order. -/
theorem sortL_asc {E : List Int} (h : E.Nodup) : (sortL E).Pairwise (· < ·) ∧ (sortL E).Nodup := by
  have hp : (sortL E).Perm E := List.mergeSort_perm E _
  have hnd : (sortL E).Nodup := hp.nodup_iff.2 h
  have hs : (sortL E).Pairwise fun a b => decide (a ≤ b) = true := List.pairwise_mergeSort (fun a b c h1 h2 => by simp at *; omega) (fun a b => by simp; omega) E
  refine ⟨?_, hnd⟩
  have := hs.and hnd
  exact this.imp fun {a b} ⟨h1, h2⟩ => by simp at h1; omega

end Go.Proofs.Ytdbkbaeeccemkaa

/- May a clause be planned? -/
namespace Go.Proofs.Ytdbkbaeeccemkaa
open Go Go.D Go.Proofs
set_option linter.unusedSimpArgs false
set_option linter.unusedVariables false
set_option maxRecDepth 8000

def oddG (g : GoalT) : Bool := decide (g.1 < 1) || decide (4 < g.1)
def badG (g : GoalT) : Bool := checkT g.2 != 0
/-- What is wrong with a clause. -/
def mayP (h : Tm) (gs : List GoalT) : Int := if checkT h ≠ 0 then checkT h else match gs.find? badG with
  | some g => checkT g.2
  | none => if gs.any oddG || decide (h.kind < 3) || decide (64 < gs.length) then 1 else 0

theorem mayP_zero {h : Tm} {gs : List GoalT} (e : mayP h gs = 0) : checkT h = 0 ∧ (∀ g ∈ gs, checkT g.2 = 0) ∧ gs.length ≤ 64 := by
  unfold mayP at e
  by_cases h0 : checkT h = 0
  · rw [if_neg (by simpa using h0)] at e
    rcases hf : gs.find? badG with _ | g
    · rw [hf] at e
      dsimp only at e
      refine ⟨h0, fun g hg => ?_, ?_⟩
      · have := List.find?_eq_none.1 hf g hg
        simpa [badG] using this
      · by_cases h64 : 64 < gs.length
        · simp [h64] at e
        · omega
    · rw [hf] at e
      have := List.find?_some hf
      simp [badG] at this
      exact absurd e this
  · rw [if_pos h0] at e
    exact absurd e h0

section
variable {w : World} {F : List Nat} {gs : List GoalT} {gp : Option Addr}

theorem oddA {z : World} {g : GoalT} {q : Option Addr} {c : Nat} {K : Value → World → Prop} (hK : ∀ w', Upd [] z w' → K (.bool (oddG g)) w') : CallV Try.prog (.func (.func 33) #[] #[]) [.agg #[.int .i64 g.1, .int .i64 g.2.kind, .int .i64 g.2.n, .string g.2.s, .slice q g.2.l.length c]] z K := by
  refine ⟨_, _, _, rfl, rfl, ?_⟩
  refine Calls.mono (C_plan_may_1.of (g0x := g.1) (g1x := g.2.kind) (g2x := g.2.n) (g3x := g.2.s) (g4P := q) (g4N := g.2.l.length) (g4C := c) (R := fun t w' => t = oddG g ∧ Upd [] z w') ?_) fun e w2 ⟨t, he, ht, hu⟩ => ⟨_, he, by rw [ht]; exact hK w2 hu⟩
  unfold F_plan_may_1
  refine New_rule fun r w1 hr u1 b1 => ?_
  simp only [NN_some, addN, drw_cell, drw_heap, exS, exI, exB, exP, exM, exStr, exV, a0, a1, a2, a3, a4, a5, a6, a7, a8, a9, a10, a11, a12, a13, maxI_eq, Nat.zero_add, Nat.add_zero, Nat.mul_one, Option.isNone_some, Option.isNone_none, b1.cell]
  refine ifC (fun g1 => ⟨?_, u1⟩) (fun g1 => ⟨?_, u1⟩)
  · unfold oddG; rw [g1]; rfl
  · unfold oddG; rw [g1]; simp

theorem contains_ok {gc : Nat} {K : Bool → World → Prop} (hg : GoalsA w F gs gp) (hl : gs.length ≤ 80) (hK : ∀ w', Upd [] w w' → K (gs.any oddG) w') : C_slices_ContainsFunc gp gs.length gc (.func (.func 33) #[] #[]) w K := by
  apply C_slices_ContainsFunc.of
  unfold F_slices_ContainsFunc
  apply C_slices_IndexFunc__2.of
  unfold F_slices_IndexFunc__2 F_slices_IndexFunc__2_L1
  refine ⟨fun s z => ∃ i : Nat, s.t8 = i ∧ i ≤ gs.length ∧ (∀ j (hj : j < gs.length), j < i → oddG gs[j] = false) ∧ Upd [] w z, fun s _ => (gs.length - s.t8).toNat, ⟨0, rfl, by omega, fun j hj h => absurd h (by omega), Upd.refl _ _⟩, ?_⟩
  rintro ⟨si⟩ z ⟨i, rfl, hi, hf, uz⟩
  unfold B_slices_IndexFunc__2_L1
  refine ifC (fun g => ?_) (fun g => ?_)
  · have gi : i < gs.length := by have := of_decide_eq_true g; dsimp only at this; omega
    obtain ⟨x, qg, cg, e, hx, hc', h1', h2'⟩ := hg.keep uz i gi
    have f0 := hc' 0 (by omega); have f1 := hc' 1 (by omega); have f2 := hc' 2 (by omega); have f3 := hc' 3 (by omega); have f4 := hc' 4 (by omega)
    simp only [tmC, List.getElem?_cons_succ, List.getElem?_cons_zero, Nat.add_zero] at f0 f1 f2 f3 f4
    refine ⟨by show (0 : Int) ≤ (i : Int); omega, by show (i : Int) < _; omega, ?_⟩
    rw [e]
    simp only [NN_some, addN, drw_cell, drw_heap, exS, exI, exB, exP, exM, exStr, exV, a0, a1, a2, a3, a4, a5, a6, a7, a8, a9, a10, a11, a12, a13, maxI_eq, Nat.zero_add, Nat.add_zero, Nat.mul_one, Option.isNone_some, Option.isNone_none, addA, Int.toNat_natCast, f0, f1, f2, f3, f4]
    refine oddA (g := gs[i]) fun w' u => ⟨_, rfl, ifC (fun he => ?_) (fun he => ?_)⟩
    · have : gs.any oddG = true := List.any_eq_true.2 ⟨_, List.getElem_mem gi, he⟩
      have hk := hK w' (uz.after u)
      rw [this] at hk
      have e0 : decide ((i : Int) ≥ 0) = true := by simp
      rw [e0]
      exact hk
    · rw [i64id (by omega) (by omega)]
      refine ⟨⟨i + 1, by simp, by omega, fun j hj hlt => ?_, uz.after u⟩, by show ((gs.length : Int) - ((i : Int) + 1)).toNat < ((gs.length : Int) - (i : Int)).toNat; omega⟩
      by_cases e : j = i
      · subst e; exact he
      · exact hf j hj (by omega)
  · have gi : i = gs.length := by have := of_decide_eq_false g; dsimp only at this; omega
    subst gi
    have : gs.any oddG = false := by
      rw [List.any_eq_false]
      intro x hx
      obtain ⟨j, hj, rfl⟩ := List.getElem_of_mem hx
      simp [hf j hj hj]
    have hk := hK z uz
    rw [this] at hk
    exact hk

theorem may_ok {h : Tm} {vars : Int} {q : Option Addr} {c gc : Nat} {K : Int → World → Prop} (hF : In F w) (hp : RdA w F h.l q 0) (hz : h.size ≤ 6000) (hg : GoalsA w F gs gp) (hgz : ∀ g ∈ gs, g.2.size ≤ 6000) (hl : gs.length ≤ 80)
    (hK : ∀ w', Upd [] w w' → K (mayP h gs) w') : C_plan_may h.kind h.n h.s q h.l.length c gp gs.length gc vars w K := by
  apply C_plan_may.of
  unfold F_plan_may
  refine New_rule fun r w1 hr u1 b1 => ?_
  simp only [NN_some, addN, drw_cell, drw_heap, exS, exI, exB, exP, exM, exStr, exV, a0, a1, a2, a3, a4, a5, a6, a7, a8, a9, a10, a11, a12, a13, maxI_eq, Nat.zero_add, Nat.add_zero, Nat.mul_one, Option.isNone_some, Option.isNone_none, b1.cell]
  refine Check_ok h (RdA.keep u1 hp) (hF.upd u1) (by omega) fun w2 u2 => ?_
  have U2 := u1.after u2
  have b2 := b1.upd u2 (by simp)
  refine ifC (fun g0 => ?_) (fun g0 => ?_)
  · have g0 : checkT h ≠ 0 := by simpa using g0
    have := hK w2 U2
    unfold mayP at this
    rw [if_pos g0] at this
    exact this
  have g0 : checkT h = 0 := by simpa using g0
  simp only [NN_some, addN, drw_cell, drw_heap, exS, exI, exB, exP, exM, exStr, exV, a0, a1, a2, a3, a4, a5, a6, a7, a8, a9, a10, a11, a12, a13, maxI_eq, Nat.zero_add, Nat.add_zero, Nat.mul_one, Option.isNone_some, Option.isNone_none, b2.cell]
  unfold F_plan_may_L1
  refine ⟨fun s z => ∃ i : Nat, s.t17 = i ∧ i ≤ gs.length ∧ (∀ j (hj : j < gs.length), j < i → badG gs[j] = false) ∧ Upd [] w2 z, fun s _ => (gs.length - s.t17).toNat, ⟨0, rfl, by omega, fun j hj h => absurd h (by omega), Upd.refl _ _⟩, ?_⟩
  rintro ⟨si⟩ z ⟨i, rfl, hi, hf, uz⟩
  unfold B_plan_may_L1
  have Uz := U2.after uz
  refine ifC (fun g => ?_) (fun g => ?_)
  · have gi : i < gs.length := by have := of_decide_eq_true g; dsimp only at this; omega
    obtain ⟨x, qg, cg, e, hx, hc', h1', h2'⟩ := hg.keep Uz i gi
    have f0 := hc' 0 (by omega); have f1 := hc' 1 (by omega); have f2 := hc' 2 (by omega); have f3 := hc' 3 (by omega); have f4 := hc' 4 (by omega)
    simp only [tmC, List.getElem?_cons_succ, List.getElem?_cons_zero, Nat.add_zero] at f0 f1 f2 f3 f4
    refine ⟨by show (0 : Int) ≤ (i : Int); omega, by show (i : Int) < _; omega, ?_⟩
    rw [e]
    simp only [NN_some, addN, drw_cell, drw_heap, exS, exI, exB, exP, exM, exStr, exV, a0, a1, a2, a3, a4, a5, a6, a7, a8, a9, a10, a11, a12, a13, maxI_eq, Nat.zero_add, Nat.add_zero, Nat.mul_one, Option.isNone_some, Option.isNone_none, addA, Int.toNat_natCast, f0, f1, f2, f3, f4]
    refine New_rule fun r2 z1 hr2 y1 d1 => ?_
    refine St5n d1 rfl (by simp [Value.oneCell']) fun z2 y2 d2 => ?_
    simp only [NN_some, addN, drw_cell, drw_heap, exS, exI, exB, exP, exM, exStr, exV, a0, a1, a2, a3, a4, a5, a6, a7, a8, a9, a10, a11, a12, a13, maxI_eq, Nat.zero_add, Nat.add_zero, Nat.mul_one, Option.isNone_some, Option.isNone_none, addA, Nat.reduceAdd, d2.cell]
    have Y2 : Upd [] z z2 := y1.fresh y2 (by intro k hk; simp at hk; omega)
    have U2' := Uz.after Y2
    have hgz' := hgz _ (List.getElem_mem gi)
    refine Check_ok gs[i].2 (RdA.keep Y2 h2') (hF.upd U2') (by omega) fun z3 y3 => ?_
    refine ifC (fun he => ?_) (fun he => ?_)
    · have he : checkT gs[i].2 ≠ 0 := by simpa using he
      have hk := hK z3 (U2'.after y3)
      unfold mayP at hk
      have hfind : gs.find? badG = some gs[i] := by
        rw [List.find?_eq_some_iff_getElem]
        exact ⟨by simp [badG, he], i, gi, rfl, fun j hj => by simp [hf j (by omega) hj]⟩
      rw [if_neg (by simpa using g0), hfind] at hk
      exact hk
    · have he : checkT gs[i].2 = 0 := by simpa using he
      rw [i64id (by omega) (by omega)]
      refine ⟨⟨i + 1, by simp, by omega, fun j hj hlt => ?_, uz.after (Y2.after y3)⟩, by show ((gs.length : Int) - ((i : Int) + 1)).toNat < ((gs.length : Int) - (i : Int)).toNat; omega⟩
      by_cases e : j = i
      · subst e; simp [badG, he]
      · exact hf j hj (by omega)
  · have gi : i = gs.length := by have := of_decide_eq_false g; dsimp only at this; omega
    subst gi
    have bz := b2.upd uz (by simp)
    have hnone : gs.find? badG = none := by
      rw [List.find?_eq_none]
      intro x hx
      obtain ⟨j, hj, rfl⟩ := List.getElem_of_mem hx
      simp [hf j hj hj]
    have hk : ∀ w', Upd [] w w' → K (if gs.any oddG || decide (h.kind < 3) || decide (64 < gs.length) then 1 else 0) w' := fun w' u => by
      have := hK w' u
      unfold mayP at this
      rw [if_neg (by simpa using g0), hnone] at this
      exact this
    simp only [NN_some, addN, drw_cell, drw_heap, exS, exI, exB, exP, exM, exStr, exV, a0, a1, a2, a3, a4, a5, a6, a7, a8, a9, a10, a11, a12, a13, maxI_eq, Nat.zero_add, Nat.add_zero, Nat.mul_one, Option.isNone_some, Option.isNone_none, bz.cell]
    refine contains_ok (hg.keep Uz) hl fun z2 y2 => ?_
    have Y := Uz.after y2
    unfold F_plan_may_k1
    refine ifC (fun ga => ?_) (fun ga => ?_)
    · have := hk z2 Y
      rw [ga] at this
      exact this
    have bz2 := bz.upd y2 (by simp)
    simp only [NN_some, addN, drw_cell, drw_heap, exS, exI, exB, exP, exM, exStr, exV, a0, a1, a2, a3, a4, a5, a6, a7, a8, a9, a10, a11, a12, a13, maxI_eq, Nat.zero_add, Nat.add_zero, Nat.mul_one, Option.isNone_some, Option.isNone_none, bz2.cell]
    refine ifC (fun gb => ?_) (fun gb => ifC (fun gd => ?_) (fun gd => ?_))
    · have := hk z2 Y
      rw [gb] at this
      simpa using this
    · have := hk z2 Y
      have e : decide (64 < gs.length) = true := by have := of_decide_eq_true gd; exact decide_eq_true (by omega)
      rw [e] at this
      simpa using this
    · have := hk z2 Y
      have e : decide (64 < gs.length) = false := by have := of_decide_eq_false gd; exact decide_eq_false (by omega)
      rw [ga, gb, e] at this
      exact this
end

end Go.Proofs.Ytdbkbaeeccemkaa

/- A clause's plan. -/
namespace Go.Proofs.Ytdbkbaeeccemkaa
open Go Go.D Go.Proofs
set_option linter.unusedSimpArgs false
set_option linter.unusedVariables false
set_option maxRecDepth 8000

/-- The level's slot, of the first ones. -/
def levelF (E : List Spn) : Nat → Int
  | 0 => 0
  | i + 1 => if (E[i]?.map (·.1)) = some (-1) then ((i : Int) + 1) else levelF E i
/-- How many slots live behind a call. -/
def liveF (E : List Spn) (k : Int) : Nat := E.findIdx fun x => decide (x.2.2 ≤ k)
def liveR (E : List Spn) (n : Nat) : List Value := (List.range n).map fun j : Nat => Value.int .i64 ((liveF E (j : Int) : Nat) : Int)

theorem liveR_next (E : List Spn) (n : Nat) : liveR E (n + 1) = liveR E n ++ [.int .i64 (liveF E n : Nat)] := by
  unfold liveR
  rw [List.range_succ, List.map_append]; rfl

theorem St4b {w1 : World} {r : Nat} {c0 c1 c2 c3 v0 v1 v2 v3 : Value} {K : World → Prop} (hb : Blk w1 r #[c0, c1, c2, c3]) (h0 : v0.oneCell' = true) (h1 : v1.oneCell' = true) (h2 : v2.oneCell' = true) (h3 : v3.oneCell' = true) (hK : ∀ w', Upd [r] w1 w' → Blk w' r #[v0, v1, v2, v3] → K w') :
    St w1 (⟨r, 0, none⟩ : Addr) v0 fun z0 => St z0 (⟨r, 1, none⟩ : Addr) v1 fun z1 => St z1 (⟨r, 2, none⟩ : Addr) v2 fun z2 => St z2 (⟨r, 3, none⟩ : Addr) v3 K := St4q hb h0 h1 h2 h3 hK

section
variable {w : World} {F : List Nat} {gs : List GoalT} {gp : Option Addr}

theorem ofA {z : World} {r : Nat} {k : Int} {x : Spn} {K : Value → World → Prop} (hb : Blk z r #[.int .i64 k]) (hK : ∀ w', Upd [] z w' → K (.bool (decide (x.2.2 ≤ k))) w') : CallV Try.prog (.func (.func 24) #[] #[.pointer (some ⟨r, 0, none⟩)]) [.agg #[.int .i64 x.1, .int .i64 x.2.1, .int .i64 x.2.2]] z K := by
  refine ⟨_, _, _, rfl, rfl, ?_⟩
  refine Calls.mono (C_plan_Of_1.of (x0 := x.1) (x1 := x.2.1) (x2 := x.2.2) (c0 := ⟨r, 0, none⟩) (R := fun t w' => t = decide (x.2.2 ≤ k) ∧ Upd [] z w') ?_) fun e w2 ⟨t, he, ht, hu⟩ => ⟨_, he, by rw [ht]; exact hK w2 hu⟩
  unfold F_plan_Of_1
  refine New_rule fun r2 w1 hr u1 b1 => ?_
  have b2 := hb.upd u1 (by simp)
  simp only [NN_some, addN, drw_cell, drw_heap, exS, exI, exB, exP, exM, exStr, exV, a0, a1, a2, a3, a4, a5, a6, a7, a8, a9, a10, a11, a12, a13, maxI_eq, Nat.zero_add, Nat.add_zero, Nat.mul_one, Option.isNone_some, Option.isNone_none, b1.cell, b2.cell]
  exact ⟨trivial, u1⟩

theorem Of_ok {h : Tm} {vars : Int} {q : Option Addr} {c gc : Nat} {K : Bool → Option Addr → Nat → Nat → Int → Option Addr → Nat → Nat → Int → World → Prop} (hF : In F w) (hp : RdA w F h.l q 0) (hz : h.size ≤ 6000) (hg : GoalsA w F gs gp) (hgz : ∀ g ∈ gs, g.2.size ≤ 6000) (hl : gs.length ≤ 80)
    (hno : mayP h gs ≠ 0 → ∀ w', Upd [] w w' → K false none 0 0 0 none 0 0 (mayP h gs) w')
    (hmany : ∀ E, SlotsOf (gath (h.vars []) gs).1 E → 64 < E.length → ∀ w', Upd [] w w' → K false none 0 0 0 none 0 0 62 w')
    (hok : mayP h gs = 0 → ∀ w' env pS cS GS pL cL GL E, SlotsOf (gath (h.vars []) gs).1 E → E.length ≤ 64 → SlAt w' 1 pS E.length cS (E.map fun x => .int .i64 x.1) GS → SlAt w' 1 pL (gath (h.vars []) gs).2.toNat cL (liveR E (gath (h.vars []) gs).2.toNat) GL → (2 ≤ (gath (h.vars []) gs).2 → env = true) → Upd [] w w' →
      K env pS E.length cS (levelF E E.length) pL (gath (h.vars []) gs).2.toNat cL 0 w') : C_plan_Of h.kind h.n h.s q h.l.length c gp gs.length gc vars w K := by
  apply C_plan_Of.of
  unfold F_plan_Of
  refine New_rule fun r w1 hr u1 b1 => New_rule fun r1 w2 hr1 u2 b2 => ?_
  have B1 := b1.upd u2 (by simp)
  have U2 := u1.after u2
  have s1 := u1.size
  have s2 := u2.size
  have l1 := b1.lt
  have l2 := b2.lt
  simp only [NN_some, addN, drw_cell, drw_heap, exS, exI, exB, exP, exM, exStr, exV, a0, a1, a2, a3, a4, a5, a6, a7, a8, a9, a10, a11, a12, a13, maxI_eq, Nat.zero_add, Nat.add_zero, Nat.mul_one, Option.isNone_some, Option.isNone_none, B1.cell]
  refine may_ok (hF.upd U2) (RdA.keep U2 hp) hz (hg.keep U2) hgz hl fun w3 u3 => ?_
  have B13 := B1.upd u3 (by simp)
  have B23 := b2.upd u3 (by simp)
  have U3 := U2.after u3
  have s3 := u3.size
  refine ifC (fun g0 => ?_) (fun g0 => ?_)
  · have g0 : mayP h gs ≠ 0 := by simpa using g0
    refine St4b B23 rfl rfl rfl rfl fun w4 u4 b4 => ?_
    simp only [NN_some, addN, drw_cell, drw_heap, exS, exI, exB, exP, exM, exStr, exV, a0, a1, a2, a3, a4, a5, a6, a7, a8, a9, a10, a11, a12, a13, maxI_eq, Nat.zero_add, Nat.add_zero, Nat.mul_one, Option.isNone_some, Option.isNone_none, b4.cell]
    exact hno g0 w4 (U3.fresh u4 (by intro k hk; simp at hk; omega))
  have g0 : mayP h gs = 0 := by simpa using g0
  obtain ⟨hc, hck, h64⟩ := mayP_zero g0
  simp only [NN_some, addN, drw_cell, drw_heap, exS, exI, exB, exP, exM, exStr, exV, a0, a1, a2, a3, a4, a5, a6, a7, a8, a9, a10, a11, a12, a13, maxI_eq, Nat.zero_add, Nat.add_zero, Nat.mul_one, Option.isNone_some, Option.isNone_none, B13.cell]
  have vl := vars_len h []
  have vl : (h.vars []).length ≤ h.size := by simpa using vl
  refine gather_ok (hv := h.vars []) (fun z K' u hK' => Vars_ok h hc (RdA.keep (U3.after u) hp) (hF.upd (U3.after u)) (by omega) hK') (hg.keep U3) (hF.upd U3) hck hgz hl (by omega) fun w4 b m4 hb4 u4 => ?_
  obtain ⟨gok, gk0, gkl⟩ := gath_ok (h.vars []) gs
  have slen : (gath (h.vars []) gs).1.length ≤ 2 ^ 30 := by
    have aux : ∀ (gs : List GoalT) (x : List Spn × Int), (∀ g ∈ gs, g.2.size ≤ 6000) → (gs.foldl stepG x).1.length ≤ x.1.length + gs.length * 6002 := by
      intro gs
      induction gs with
      | nil => intro x _; simp
      | cons g gs ih =>
        intro x hx
        have h1 := ih (stepG x g) (fun g' hg' => hx g' (by simp [hg']))
        have h2 : (levG x g).length ≤ x.1.length + 2 := by
          unfold levG
          split
          · have a := len_note (note1 x.1 0 (-1)) x.2 (-1)
            have b := len_note x.1 0 (-1)
            omega
          · omega
        have h3 : (stepG x g).1.length ≤ x.1.length + 6002 := by
          unfold stepG
          split
          · show (levG x g).length ≤ _; omega
          · have a := len_noteL x.2 (g.2.vars []) (levG x g)
            have b := vars_len g.2 []
            have c := hx g (by simp)
            simp at b
            show (noteL (levG x g) x.2 (g.2.vars [])).length ≤ _
            omega
        rw [List.foldl_cons, List.length_cons]
        omega
    have a := aux gs (noteL [] 0 (h.vars []), 0) hgz
    have b := len_noteL 0 (h.vars []) []
    simp at b
    have c : (gath (h.vars []) gs).1.length ≤ (noteL [] 0 (h.vars [])).length + gs.length * 6002 := a
    omega
  have U4 := U3.after u4
  refine slots_ok m4 slen fun w5 pE cE GE E hE hsE sGE u5 => ?_
  have U5 := U4.after u5
  have s4 := u4.size
  have s5 := u5.size
  have B25 := (B23.upd u4 (by simp)).upd u5 (by simp)
  have B15 := (B13.upd u4 (by simp)).upd u5 (by simp)
  refine ifC (fun gm => ?_) (fun gm => ?_)
  · refine St4b B25 rfl rfl rfl rfl fun w6 u6 b6 => ?_
    simp only [NN_some, addN, drw_cell, drw_heap, exS, exI, exB, exP, exM, exStr, exV, a0, a1, a2, a3, a4, a5, a6, a7, a8, a9, a10, a11, a12, a13, maxI_eq, Nat.zero_add, Nat.add_zero, Nat.mul_one, Option.isNone_some, Option.isNone_none, b6.cell]
    exact hmany E hE (by have := of_decide_eq_true gm; omega) w6 (U5.fresh u6 (by intro k hk; simp at hk; omega))
  have hE64 : E.length ≤ 64 := by have := of_decide_eq_false gm; omega
  refine New_rule fun r6 w6 hr6 u6 b6 => St4b b6 rfl rfl rfl rfl fun w7 u7 b7 => ?_
  have U57 : Upd [] w5 w7 := u6.fresh u7 (by intro k hk; simp at hk; omega)
  have s6 := u6.size
  have s7 := u7.size
  have l6 := b6.lt
  have hs7 := hsE.upd U57 (by intro k _ h; cases h)
  have inE := hsE.inn
  unfold F_plan_Of_L1
  refine ⟨fun s z => ∃ (i : Nat) (pS : Option Addr) (cS : Nat) (GS : List Nat), s.t33 = i ∧ i ≤ E.length ∧ Blk z r6 #[.bool false, .slice pS i cS, .int .i64 (levelF E i), .slice none 0 0] ∧ SlAt z 1 pS i cS ((E.take i).map fun x => .int .i64 x.1) GS ∧ Since GS w7 ∧ Upd [r6] w7 z, fun s _ => (E.length - s.t33).toNat,
    ⟨0, none, 0, [], rfl, by omega, b7, by simpa using SlAt.nil _ _, (by intro k hk; cases hk), Upd.refl _ _⟩, ?_⟩
  rintro ⟨si⟩ z ⟨i, pS, cS, GS, rfl, hi, bz, hsS, sGS, uz⟩
  unfold B_plan_Of_L1
  have zs := uz.size
  have r6S : r6 ∉ GS := fun hx => by have := sGS r6 hx; omega
  have r6E : r6 ∉ GE := fun hx => by have := inE r6 hx; omega
  have hsz := hs7.upd uz (by intro k hk hx; simp at hx; subst hx; exact r6E hk)
  refine ifC (fun g => ?_) (fun g => ?_)
  · have gi : i < E.length := by have := of_decide_eq_true g; dsimp only at this; omega
    obtain ⟨bb, off, hpE, bG, c0, c1, c2⟩ := sp_cells hsz gi
    subst hpE
    refine ⟨by show (0 : Int) ≤ (i : Int); omega, by show (i : Int) < _; omega, ?_⟩
    simp only [NN_some, addN, drw_cell, drw_heap, exS, exI, exB, exP, exM, exStr, exV, a0, a1, a2, a3, a4, a5, a6, a7, a8, a9, a10, a11, a12, a13, maxI_eq, Nat.zero_add, Nat.add_zero, Nat.mul_one, Option.isNone_some, Option.isNone_none, Nat.add_assoc, Int.toNat_natCast, c0, c1, c2]
    refine New_rule fun r7 z1 hr7 y1 d1 => St3q d1 rfl rfl rfl fun z2 y2 d2 => ?_
    have Y2 : Upd [] z z2 := y1.fresh y2 (by intro k hk; simp at hk; omega)
    have bz2 := bz.upd Y2 (by simp)
    simp only [NN_some, addN, drw_cell, drw_heap, exS, exI, exB, exP, exM, exStr, exV, a0, a1, a2, a3, a4, a5, a6, a7, a8, a9, a10, a11, a12, a13, maxI_eq, Nat.zero_add, Nat.add_zero, Nat.mul_one, Option.isNone_some, Option.isNone_none, bz2.cell, d2.cell]
    refine BSlL_rule eS_30 [.int .i64 E[i].1] (by rfl) (by simp [Value.cells]) (by rfl) (by omega) fun z3 hs3 y3 => ?_
    refine App_rule (hE := eS_30) ((hsS.upd Y2 (by intro k _ h; cases h)).upd y3 (by intro k _ h; cases h)) hs3 (by simp [Value.cells, Value.oneCell']) (by omega) fun p4 c4 G4 z4 hs4 y4 g4 => ?_
    have Y3 := Y2.after y3
    have bz4 := (bz2.upd y3 (by simp)).upd y4 r6S
    have y2s := Y2.size
    have y3s := y3.size
    have lz := bz.lt
    have r6G4 : r6 ∉ G4 := fun hx => by
      rcases g4 r6 hx with g | g
      · exact r6S g
      · omega
    refine St_acc (Upd.refl _ _) bz4 (by simp) rfl fun z5 y5 b5 => ?_
    simp at b5
    have d5 : Blk z5 r7 _ := ((d2.upd y3 (by simp)).upd y4 (fun hx => by have := hsS.inn r7 hx; omega)).upd y5 (by simp; omega)
    have row : SlAt z5 1 p4 (i + 1) c4 ((E.take (i + 1)).map fun x => .int .i64 x.1) G4 := by
      have := hs4.upd y5 (by intro k hk hx; simp at hx; subst hx; exact r6G4 hk)
      rw [List.take_succ_eq_append_getElem gi, List.map_append]
      simpa [Value.cells] using this
    have tot : Upd [r6] w7 z5 := uz.trans ((Y3.after y4).trans (y5) (F := GS) (G := [r6]) (H := r6 :: GS) (fun k hk => .inl (by simp [hk])) (fun k hk => .inl (by simp at hk; simp [hk]))) (fun k hk => .inl hk) (fun k hk => by
      rcases List.mem_cons.1 hk with g | g
      · exact .inl (by simp [g])
      · exact .inr (sGS k g))
    have sG4 : Since G4 w7 := fun k hk => by
      rcases g4 k hk with g | g
      · exact sGS k g
      · omega
    simp only [NN_some, addN, drw_cell, drw_heap, exS, exI, exB, exP, exM, exStr, exV, a0, a1, a2, a3, a4, a5, a6, a7, a8, a9, a10, a11, a12, a13, maxI_eq, Nat.zero_add, Nat.add_zero, Nat.mul_one, Option.isNone_some, Option.isNone_none, d5.cell]
    have elev : levelF E (i + 1) = if E[i].1 = -1 then ((i : Int) + 1) else levelF E i := by
      rw [levelF, List.getElem?_eq_getElem gi]
      simp
    refine ifC (fun gl => ?_) (fun gl => ?_)
    · have gl : E[i].1 = -1 := by simpa using gl
      rw [if_pos gl] at elev
      refine St_acc (Upd.refl _ _) b5 (by simp) rfl fun z6 y6 b6' => ?_
      simp at b6'
      unfold F_plan_Of_k1
      dsimp only
      rw [i64id (by omega) (by omega)] at b6' ⊢
      exact ⟨⟨i + 1, p4, c4, G4, by simp, by omega, by rw [elev]; exact b6', row.upd y6 (by intro k hk hx; simp at hx; subst hx; exact r6G4 hk), sG4, tot.both y6⟩, by show ((E.length : Int) - ((i : Int) + 1)).toNat < ((E.length : Int) - (i : Int)).toNat; omega⟩
    · have gl : E[i].1 ≠ -1 := by simpa using gl
      rw [if_neg gl] at elev
      unfold F_plan_Of_k1
      dsimp only
      rw [i64id (by omega) (by omega)]
      exact ⟨⟨i + 1, p4, c4, G4, by simp, by omega, by rw [elev]; exact b5, row, sG4, tot⟩, by show ((E.length : Int) - ((i : Int) + 1)).toNat < ((E.length : Int) - (i : Int)).toNat; omega⟩
  have gi : i = E.length := by have := of_decide_eq_false g; dsimp only at this; omega
  subst gi
  rw [List.take_length] at hsS
  obtain ⟨calls, hcalls⟩ : ∃ calls : Nat, calls = (gath (h.vars []) gs).2.toNat := ⟨_, rfl⟩
  have ecalls : (gath (h.vars []) gs).2 = (calls : Int) := by omega
  rw [← hcalls] at hok
  rw [ecalls] at hok ⊢
  have cl80 : calls ≤ 80 := by omega
  unfold F_plan_Of_L2
  refine ⟨fun s y => ∃ (k : Nat) (pL : Option Addr) (cL : Nat) (GL : List Nat), s.t53 = k ∧ k ≤ calls ∧ Blk y r6 #[.bool false, .slice pS E.length cS, .int .i64 (levelF E E.length), .slice pL k cL] ∧ SlAt y 1 pL k cL (liveR E k) GL ∧ Since GL z ∧ Upd [r6] z y, fun s _ => (calls - s.t53).toNat,
    ⟨0, none, 0, [], rfl, by omega, bz, by simpa [liveR] using SlAt.nil _ _, (by intro k hk; cases hk), Upd.refl _ _⟩, ?_⟩
  rintro ⟨sk⟩ y ⟨k, pL, cL, GL, rfl, hk, bY, hsL, sGL, uy⟩
  unfold B_plan_Of_L2
  have ys := uy.size
  have lz := bz.lt
  have r6L : r6 ∉ GL := fun hx => by have := sGL r6 hx; omega
  have hsy := hsz.upd uy (by intro k hk hx; simp at hx; subst hx; exact r6E hk)
  refine ifC (fun g2 => ?_) (fun g2 => ?_)
  · have gk : k < calls := by have := of_decide_eq_true g2; dsimp only at this; omega
    refine New_rule fun r8 y1 hr8 v1 d1 => ?_
    simp only [NN_some, addN, drw_cell, drw_heap, exS, exI, exB, exP, exM, exStr, exV, a0, a1, a2, a3, a4, a5, a6, a7, a8, a9, a10, a11, a12, a13, maxI_eq, Nat.zero_add, Nat.add_zero, Nat.mul_one, Option.isNone_some, Option.isNone_none]
    refine St_rule d1 (by simp) rfl fun y2 v2 d2 => ?_
    simp at d2
    have V2 : Upd [] y y2 := v1.fresh v2 (by intro k hk; simp at hk; omega)
    have v1s := v1.size
    have fin : ∀ {y3 : World}, Upd [] y y3 → F_plan_Of_k2 ⟨(k : Int)⟩ (fun s y' => (∃ (k : Nat) (pL : Option Addr) (cL : Nat) (GL : List Nat), s.t53 = k ∧ k ≤ calls ∧ Blk y' r6 #[.bool false, .slice pS E.length cS, .int .i64 (levelF E E.length), .slice pL k cL] ∧ SlAt y' 1 pL k cL (liveR E k) GL ∧ Since GL z ∧ Upd [r6] z y') ∧ ((calls : Int) - s.t53).toNat < ((calls : Int) - (k : Int)).toNat) ⟨r6, 0, none⟩ (liveF E k : Nat) y3 := fun {y3} V3 => by
      unfold F_plan_Of_k2
      have bY3 := bY.upd V3 (by simp)
      have v3s := V3.size
      simp only [NN_some, addN, drw_cell, drw_heap, exS, exI, exB, exP, exM, exStr, exV, a0, a1, a2, a3, a4, a5, a6, a7, a8, a9, a10, a11, a12, a13, maxI_eq, Nat.zero_add, Nat.add_zero, Nat.mul_one, Option.isNone_some, Option.isNone_none, bY3.cell]
      refine BSlL_rule eS_30 [.int .i64 (liveF E k : Nat)] (by rfl) (by simp [Value.cells]) (by rfl) (by omega) fun y4 hs4 v4 => ?_
      refine App_rule (hE := eS_30) ((hsL.upd V3 (by intro k _ h; cases h)).upd v4 (by intro k _ h; cases h)) hs4 (by simp [Value.cells, Value.oneCell']) (by omega) fun p5 c5 G5 y5 hs5 v5 g5 => ?_
      have v4s := v4.size
      have bY5 := (bY3.upd v4 (by simp)).upd v5 r6L
      have ly := bY.lt
      have r6G5 : r6 ∉ G5 := fun hx => by
        rcases g5 r6 hx with g | g
        · exact r6L g
        · omega
      refine St_acc (Upd.refl _ _) bY5 (by simp) rfl fun y6 v6 b6' => ?_
      simp at b6'
      rw [i64id (by omega) (by omega)]
      refine ⟨⟨k + 1, p5, c5, G5, by simp, by omega, b6', ?_, fun j hj => ?_, uy.trans (((V3.after v4).after v5).trans v6 (H := r6 :: GL) (fun j hj => .inl (by simp [hj])) (fun j hj => .inl (by simp at hj; simp [hj]))) (fun j hj => .inl hj) (fun j hj => ?_)⟩, by omega⟩
      · have := hs5.upd v6 (by intro k hk hx; simp at hx; subst hx; exact r6G5 hk)
        rw [liveR_next]
        simpa [Value.cells] using this
      · rcases g5 j hj with g | g
        · exact sGL j g
        · omega
      · rcases List.mem_cons.1 hj with g | g
        · exact .inl (by simp [g])
        · exact .inr (sGL j g)
    refine IndexFunc_ok (f := fun x => decide (x.2.2 ≤ (k : Int))) (fun z' x K' u hK' => ofA (d2.upd u (by simp)) hK') (hsy.upd V2 (by intro k _ h; cases h)) (by omega) (fun y3 hf v3 => ifT rfl ?_) (fun j hj y3 hf hfj v3 => ifF (by simp) ?_)
    · have e : liveF E k = E.length := by
        unfold liveF
        exact List.findIdx_eq_length.2 fun x hx => by rw [hf x hx]
      have := fin (V2.after v3)
      rw [e] at this
      exact this
    · have e : liveF E k = j := by
        unfold liveF
        exact (List.findIdx_eq hj).2 ⟨hfj, fun i hi => by simpa using hf i (by omega) hi⟩
      have := fin (V2.after v3)
      rw [e] at this
      exact this
  have gk : k = calls := by have := of_decide_eq_false g2; dsimp only at this; omega
  subst gk
  -- behind all
  have Uy : Upd [] w5 y := (U57.fresh uz (by intro k hk; simp at hk; omega)).fresh uy (by intro k hk; simp at hk; omega)
  have B2y := B25.upd Uy (by simp)
  have B1y := B15.upd Uy (by simp)
  have UY := U5.after Uy
  have hsSy := hsS.upd uy (by intro k hk hx; simp at hx; subst hx; exact r6S hk)
  have k3 : ∀ {y1 : World} {env : Bool}, Upd [r6] y y1 → Blk y1 r6 #[.bool env, .slice pS E.length cS, .int .i64 (levelF E E.length), .slice pL k cL] → (2 ≤ (k : Int) → env = true) → F_plan_Of_k3 K r1 r6 y1 := fun {y1 env} v1 d1 henv => by
    unfold F_plan_Of_k3
    simp only [NN_some, addN, drw_cell, drw_heap, exS, exI, exB, exP, exM, exStr, exV, a0, a1, a2, a3, a4, a5, a6, a7, a8, a9, a10, a11, a12, a13, maxI_eq, Nat.zero_add, Nat.add_zero, Nat.mul_one, Option.isNone_some, Option.isNone_none, d1.cell]
    refine St4b (B2y.upd v1 (by simp; omega)) rfl rfl rfl rfl fun y2 v2 d2 => ?_
    simp only [NN_some, addN, drw_cell, drw_heap, exS, exI, exB, exP, exM, exStr, exV, a0, a1, a2, a3, a4, a5, a6, a7, a8, a9, a10, a11, a12, a13, maxI_eq, Nat.zero_add, Nat.add_zero, Nat.mul_one, Option.isNone_some, Option.isNone_none, d2.cell]
    have nS : ∀ j ∈ GS, j ∉ [r1] := fun j hj hx => by simp at hx; have := sGS j hj; omega
    have nL : ∀ j ∈ GL, j ∉ [r1] := fun j hj hx => by simp at hx; have := sGL j hj; omega
    exact hok g0 y2 env pS cS GS pL cL GL E hE hE64 ((hsSy.upd v1 (by intro k hk hx; simp at hx; subst hx; exact r6S hk)).upd v2 nS) ((hsL.upd v1 (by intro k hk hx; simp at hx; subst hx; exact r6L hk)).upd v2 nL) henv ((UY.fresh v1 (by intro k hk; simp at hk; omega)).fresh v2 (by intro k hk; simp at hk; omega))
  refine ifC (fun ga => ?_) (fun ga => ?_)
  · refine St_acc (Upd.refl _ _) bY (by simp) rfl fun y1 v1 d1 => ?_
    simp at d1
    exact k3 v1 d1 (fun _ => rfl)
  have ga : ¬ 2 ≤ (k : Int) := by have := of_decide_eq_false ga; omega
  simp only [NN_some, addN, drw_cell, drw_heap, exS, exI, exB, exP, exM, exStr, exV, a0, a1, a2, a3, a4, a5, a6, a7, a8, a9, a10, a11, a12, a13, maxI_eq, Nat.zero_add, Nat.add_zero, Nat.mul_one, Option.isNone_some, Option.isNone_none, bY.cell]
  refine ifC (fun gb => ?_) (fun gb => ifC (fun gd => ?_) (fun gd => ?_))
  · refine St_acc (Upd.refl _ _) bY (by simp) rfl fun y1 v1 d1 => ?_
    simp at d1
    exact k3 v1 d1 (fun _ => rfl)
  · have gd : k = 1 := by have : (k : Int) = 1 := by simpa using gd
                          omega
    simp only [NN_some, addN, drw_cell, drw_heap, exS, exI, exB, exP, exM, exStr, exV, a0, a1, a2, a3, a4, a5, a6, a7, a8, a9, a10, a11, a12, a13, maxI_eq, Nat.zero_add, Nat.add_zero, Nat.mul_one, Option.isNone_some, Option.isNone_none, B1y.cell]
    have gl1 : 1 ≤ gs.length := by omega
    rw [i64id (x := (gs.length : Int) - 1) (by omega) (by omega)]
    obtain ⟨x, qg, cg, e, hx, hc', h1', h2'⟩ := hg.keep UY (gs.length - 1) (by omega)
    have f0 := hc' 0 (by omega)
    simp only [List.getElem?_cons_zero, Nat.add_zero] at f0
    refine ⟨by omega, by omega, ?_⟩
    rw [e, show ((gs.length : Int) - 1).toNat = gs.length - 1 by omega]
    simp only [NN_some, addN, drw_cell, drw_heap, exS, exI, exB, exP, exM, exStr, exV, a0, a1, a2, a3, a4, a5, a6, a7, a8, a9, a10, a11, a12, a13, maxI_eq, Nat.zero_add, Nat.add_zero, Nat.mul_one, Option.isNone_some, Option.isNone_none, addA, f0]
    refine St_acc (Upd.refl _ _) bY (by simp) rfl fun y1 v1 d1 => ?_
    simp at d1
    exact k3 v1 d1 (fun h => absurd h ga)
  · refine St_acc (Upd.refl _ _) bY (by simp) rfl fun y1 v1 d1 => ?_
    simp at d1
    exact k3 v1 d1 (fun h => absurd h ga)
end

end Go.Proofs.Ytdbkbaeeccemkaa

/- Calls, chunks. -/
namespace Go.Proofs.Ytdbkbaeeccemkaa
open Go Go.D Go.Proofs
set_option linter.unusedSimpArgs false
set_option linter.unusedVariables false
set_option maxRecDepth 8000

section
variable {w : World} {F : List Nat} {gs : List GoalT} {gp : Option Addr}

theorem Calls_ok {h : Tm} {vars : Int} {q : Option Addr} {c gc : Nat} {K : Int → World → Prop} (hF : In F w) (hp : RdA w F h.l q 0) (hz : h.size ≤ 6000) (hg : GoalsA w F gs gp) (hgz : ∀ g ∈ gs, g.2.size ≤ 6000) (hl : gs.length ≤ 80) (h0 : mayP h gs = 0)
    (hK : ∀ w', Upd [] w w' → K (gath (h.vars []) gs).2 w') : C_plan_Calls h.kind h.n h.s q h.l.length c gp gs.length gc vars w K := by
  apply C_plan_Calls.of
  unfold F_plan_Calls
  refine New_rule fun r w1 hr u1 b1 => ?_
  simp only [NN_some, addN, drw_cell, drw_heap, exS, exI, exB, exP, exM, exStr, exV, a0, a1, a2, a3, a4, a5, a6, a7, a8, a9, a10, a11, a12, a13, maxI_eq, Nat.zero_add, Nat.add_zero, Nat.mul_one, Option.isNone_some, Option.isNone_none, b1.cell]
  refine may_ok (hF.upd u1) (RdA.keep u1 hp) hz (hg.keep u1) hgz hl fun w2 u2 => ifF (by rw [h0]; rfl) ?_
  have U2 := u1.after u2
  have b2 := b1.upd u2 (by simp)
  obtain ⟨hc, hck, h64⟩ := mayP_zero h0
  have vl := vars_len h []
  have vl : (h.vars []).length ≤ h.size := by simpa using vl
  simp only [NN_some, addN, drw_cell, drw_heap, exS, exI, exB, exP, exM, exStr, exV, a0, a1, a2, a3, a4, a5, a6, a7, a8, a9, a10, a11, a12, a13, maxI_eq, Nat.zero_add, Nat.add_zero, Nat.mul_one, Option.isNone_some, Option.isNone_none, b2.cell]
  exact gather_ok (hv := h.vars []) (fun z K' u hK' => Vars_ok h hc (RdA.keep (U2.after u) hp) (hF.upd (U2.after u)) (by omega) hK') (hg.keep U2) (hF.upd U2) hck hgz hl (by omega) fun w4 b m4 hb4 u4 => hK w4 (U2.after u4)

theorem GoalsA.take (hg : GoalsA w F gs gp) (n : Nat) : GoalsA w F (gs.take n) gp := fun i hi => by
  have hi' : i < gs.length := by rw [List.length_take] at hi; omega
  obtain ⟨x, q, c, e, hx, hc, h1, h2⟩ := hg i hi'
  rw [List.getElem_take]
  exact ⟨x, q, c, e, hx, hc, h1, h2⟩

theorem Chunk_ok {h : Tm} {vars : Int} {q : Option Addr} {c gc : Nat} {goal : Int} {K : Int → World → Prop} (hF : In F w) (hp : RdA w F h.l q 0) (hz : h.size ≤ 6000) (hg : GoalsA w F gs gp) (hgz : ∀ g ∈ gs, g.2.size ≤ 6000) (hl : gs.length ≤ 80) (hgc : gs.length ≤ gc) (h0 : mayP h gs = 0)
    (hno : ∀ w', ¬ (0 ≤ goal ∧ goal < gs.length) → Upd [] w w' → K (-1) w') (hyes : ∀ w', 0 ≤ goal → goal < gs.length → Upd [] w w' → K (gath [] (gs.take goal.toNat)).2 w') : C_plan_Chunk h.kind h.n h.s q h.l.length c gp gs.length gc vars goal w K := by
  apply C_plan_Chunk.of
  unfold F_plan_Chunk F_plan_Chunk_k1
  refine New_rule fun r w1 hr u1 b1 => ?_
  simp only [NN_some, addN, drw_cell, drw_heap, exS, exI, exB, exP, exM, exStr, exV, a0, a1, a2, a3, a4, a5, a6, a7, a8, a9, a10, a11, a12, a13, maxI_eq, Nat.zero_add, Nat.add_zero, Nat.mul_one, Option.isNone_some, Option.isNone_none, b1.cell]
  refine may_ok (hF.upd u1) (RdA.keep u1 hp) hz (hg.keep u1) hgz hl fun w2 u2 => ifF (by rw [h0]; rfl) ?_
  have U2 := u1.after u2
  have b2 := b1.upd u2 (by simp)
  obtain ⟨hc, hck, h64⟩ := mayP_zero h0
  refine ifC (fun ga => hno w2 (by have := of_decide_eq_true ga; omega) U2) (fun ga => ?_)
  have ga : 0 ≤ goal := by have := of_decide_eq_false ga; omega
  simp only [NN_some, addN, drw_cell, drw_heap, exS, exI, exB, exP, exM, exStr, exV, a0, a1, a2, a3, a4, a5, a6, a7, a8, a9, a10, a11, a12, a13, maxI_eq, Nat.zero_add, Nat.add_zero, Nat.mul_one, Option.isNone_some, Option.isNone_none, b2.cell]
  refine ifC (fun gb => hno w2 (by have := of_decide_eq_true gb; omega) U2) (fun gb => ?_)
  have gb : goal < gs.length := by have := of_decide_eq_false gb; omega
  refine ⟨ga, by omega, ?_⟩
  have hlt : (gs.take goal.toNat).length = goal.toNat := by rw [List.length_take]; omega
  rw [← hlt]
  have hsub : ∀ g ∈ gs.take goal.toNat, g ∈ gs := fun g hg' => List.mem_of_mem_take hg'
  refine gather_ok (hv := []) (fun z K' u hK' => Vars_none (by decide) fun w' u' => hK' w' none 0 [] (SlAt.nil _ _) (by intro k hk; cases hk) u') ((hg.take _).keep U2) (hF.upd U2) (fun g hg' => hck g (hsub g hg')) (fun g hg' => hgz g (hsub g hg')) (by omega) (by simp) fun w4 b m4 hb4 u4 => ?_
  exact hyes w4 ga gb (U2.after u4)


end

end Go.Proofs.Ytdbkbaeeccemkaa

/- Permanent variables. -/
namespace Go.Proofs.Ytdbkbaeeccemkaa
open Go Go.D Go.Proofs
set_option linter.unusedSimpArgs false
set_option linter.unusedVariables false
set_option maxRecDepth 8000

section
variable {w : World} {F : List Nat} {gs : List GoalT} {gp : Option Addr}

theorem Permanent_ok {h : Tm} {vars : Int} {q : Option Addr} {c gc : Nat} {K : Option Addr → Nat → Nat → World → Prop} (hF : In F w) (hp : RdA w F h.l q 0) (hz : h.size ≤ 6000) (hg : GoalsA w F gs gp) (hgz : ∀ g ∈ gs, g.2.size ≤ 6000) (hl : gs.length ≤ 80) (h0 : mayP h gs = 0) (hs64 : ∀ E, SlotsOf (gath (h.vars []) gs).1 E → E.length ≤ 64) (hslen : (gath (h.vars []) gs).1.length ≤ 2 ^ 30)
    (hK : ∀ w' p c G E, SlotsOf (gath (h.vars []) gs).1 E → SlAt w' 1 p (sortL ((E.filter fun x => x.1 != -1).map (·.1))).length c ((sortL ((E.filter fun x => x.1 != -1).map (·.1))).map (.int .i64)) G → Upd [] w w' → K p (sortL ((E.filter fun x => x.1 != -1).map (·.1))).length c w') : C_plan_Permanent h.kind h.n h.s q h.l.length c gp gs.length gc vars w K := by
  apply C_plan_Permanent.of
  unfold F_plan_Permanent
  refine New_rule fun r w1 hr u1 b1 => ?_
  simp only [NN_some, addN, drw_cell, drw_heap, exS, exI, exB, exP, exM, exStr, exV, a0, a1, a2, a3, a4, a5, a6, a7, a8, a9, a10, a11, a12, a13, maxI_eq, Nat.zero_add, Nat.add_zero, Nat.mul_one, Option.isNone_some, Option.isNone_none, b1.cell]
  refine may_ok (hF.upd u1) (RdA.keep u1 hp) hz (hg.keep u1) hgz hl fun w2 u2 => ifF (by rw [h0]; rfl) ?_
  have U2 := u1.after u2
  have b2 := b1.upd u2 (by simp)
  obtain ⟨hc, hck, h64⟩ := mayP_zero h0
  have vl := vars_len h []
  have vl : (h.vars []).length ≤ h.size := by simpa using vl
  simp only [NN_some, addN, drw_cell, drw_heap, exS, exI, exB, exP, exM, exStr, exV, a0, a1, a2, a3, a4, a5, a6, a7, a8, a9, a10, a11, a12, a13, maxI_eq, Nat.zero_add, Nat.add_zero, Nat.mul_one, Option.isNone_some, Option.isNone_none, b2.cell]
  refine gather_ok (hv := h.vars []) (fun z K' u hK' => Vars_ok h hc (RdA.keep (U2.after u) hp) (hF.upd (U2.after u)) (by omega) hK') (hg.keep U2) (hF.upd U2) hck hgz hl (by omega) fun w4 b m4 hb4 u4 => ?_
  have U4 := U2.after u4
  refine slots_ok m4 hslen fun w5 pE cE GE E hE hsE sGE u5 => ?_
  have U5 := U4.after u5
  have hE64 := hs64 E hE
  unfold F_plan_Permanent_L1
  obtain ⟨f, hf⟩ : ∃ f : Spn → Bool, f = fun x => x.1 != -1 := ⟨_, rfl⟩
  refine ⟨fun s z => ∃ (i : Nat) (G : List Nat), s.t19 = i ∧ i ≤ E.length ∧ s.outN = ((E.take i).filter f).length ∧ SlAt z 1 s.outP ((E.take i).filter f).length s.outC ((((E.take i).filter f).map (·.1)).map (.int .i64)) G ∧ Since G w5 ∧ Upd [] w5 z, fun s _ => (E.length - s.t19).toNat,
    ⟨0, [], rfl, by omega, by simp, by simpa using SlAt.nil _ _, (by intro k hk; cases hk), Upd.refl _ _⟩, ?_⟩
  rintro ⟨op, on, oc, si⟩ z ⟨i, G, e0, hi, e1, hs, sG, uz⟩
  dsimp only at e0 e1 hs
  subst e0
  subst e1
  unfold B_plan_Permanent_L1
  have hsz := hsE.upd uz (by intro k _ h; cases h)
  refine ifC (fun g => ?_) (fun g => ?_)
  · have gi : i < E.length := by have := of_decide_eq_true g; dsimp only at this; omega
    obtain ⟨bb, off, hpE, bG, c0, c1, c2⟩ := sp_cells hsz gi
    subst hpE
    refine ⟨by show (0 : Int) ≤ (i : Int); omega, by show (i : Int) < _; omega, ?_⟩
    simp only [NN_some, addN, drw_cell, drw_heap, exS, exI, exB, exP, exM, exStr, exV, a0, a1, a2, a3, a4, a5, a6, a7, a8, a9, a10, a11, a12, a13, maxI_eq, Nat.zero_add, Nat.add_zero, Nat.mul_one, Option.isNone_some, Option.isNone_none, Nat.add_assoc, Int.toNat_natCast, c0, c1, c2]
    refine New_rule fun r7 z1 hr7 y1 d1 => St3q d1 rfl rfl rfl fun z2 y2 d2 => ?_
    have Y2 : Upd [] z z2 := y1.fresh y2 (by intro k hk; simp at hk; omega)
    simp only [NN_some, addN, drw_cell, drw_heap, exS, exI, exB, exP, exM, exStr, exV, a0, a1, a2, a3, a4, a5, a6, a7, a8, a9, a10, a11, a12, a13, maxI_eq, Nat.zero_add, Nat.add_zero, Nat.mul_one, Option.isNone_some, Option.isNone_none, d2.cell]
    have hfl := List.length_filter_le f (E.take i)
    rw [List.length_take] at hfl
    have et : (E.take (i + 1)).filter f = (E.take i).filter f ++ if f E[i] then [E[i]] else [] := by
      rw [List.take_succ_eq_append_getElem gi, List.filter_append]
      rcases e : f E[i] with _ | _
      · rw [List.filter_cons_of_neg (by rw [e]; simp)]; simp
      · rw [List.filter_cons_of_pos e]; simp
    unfold F_plan_Permanent_k1
    refine ifC (fun gl => ?_) (fun gl => ?_)
    · have gl : f E[i] = true := by rw [hf]; exact gl
      refine BSlL_rule eS_30 [.int .i64 E[i].1] (by rfl) (by simp [Value.cells]) (by rfl) (by omega) fun z3 hs3 y3 => ?_
      have Y3 := Y2.after y3
      refine App_rule (hE := eS_30) (hs.upd Y3 (by intro k _ h; cases h)) hs3 (by simp [Value.cells, Value.oneCell']) (by omega) fun p4 c4 G4 z4 hs4 y4 g4 => ?_
      have zs := uz.size
      have y3s := Y3.size
      dsimp only
      rw [i64id (by omega) (by omega)]
      rw [if_pos gl] at et
      have el : ((E.take i).filter f).length + 1 = ((E.take (i + 1)).filter f).length := by rw [et]; simp
      refine ⟨⟨i + 1, G4, by simp, by omega, el, ?_, fun k hk => ?_, (uz.after Y3).fresh y4 sG⟩, by show ((E.length : Int) - ((i : Int) + 1)).toNat < ((E.length : Int) - (i : Int)).toNat; omega⟩
      · rw [← el, et, List.map_append, List.map_append]
        simpa [Value.cells] using hs4
      · rcases g4 k hk with g | g
        · exact sG k g
        · omega
    · have gl : f E[i] = false := by rw [hf]; exact gl
      dsimp only
      rw [i64id (by omega) (by omega)]
      rw [gl] at et
      have et : (E.take (i + 1)).filter f = (E.take i).filter f := by simpa using et
      refine ⟨⟨i + 1, G, by simp, by omega, by rw [et], by rw [et]; exact hs.upd Y2 (by intro k _ h; cases h), sG, uz.after Y2⟩, by show ((E.length : Int) - ((i : Int) + 1)).toNat < ((E.length : Int) - (i : Int)).toNat; omega⟩
  · have gi : i = E.length := by have := of_decide_eq_false g; dsimp only at this; omega
    subst gi
    rw [List.take_length] at hs
    have hfl := List.length_filter_le f E
    have hs' : SlAt z 1 op ((E.filter f).map (·.1)).length oc (((E.filter f).map (·.1)).map (.int .i64)) G := by rw [List.length_map]; exact hs
    rw [List.take_length, show (E.filter f).length = ((E.filter f).map (·.1)).length by rw [List.length_map]]
    refine Sort_ok hs' (by rw [List.length_map]; omega) fun z2 hs2 y2 => ?_
    have el : (sortL ((E.filter f).map (·.1))).length = ((E.filter f).map (·.1)).length := by unfold sortL; rw [List.length_mergeSort]
    rw [← el] at hs2 ⊢
    rw [hf] at hs2 ⊢
    exact hK z2 op oc G E hE hs2 ((U5.after uz).fresh y2 fun k hk => by have := sG k hk; have := U5.size; omega)
end

end Go.Proofs.Ytdbkbaeeccemkaa
