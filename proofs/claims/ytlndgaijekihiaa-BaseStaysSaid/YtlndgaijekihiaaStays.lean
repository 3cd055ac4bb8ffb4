import Derived.Test.YtlndgaijekihiaaBs5
import Derived.Test.YtlndgaijekihiaaTm9
import Derived.Test.YtlndgaijekihiaaEnds
namespace Go.Proofs.Ytlndgaijekihiaa
open Go Go.D Go.Proofs
set_option linter.unusedSimpArgs false
set_option linter.unusedVariables false
set_option maxRecDepth 8000
theorem Large15_ok {h : Tm} {gs : List GoalT} {vars : Int} {q gp : Option Addr} {c gc : Nat} {F : List Nat} {w : World} {K : Bool → World → Prop} (hF : In F w) (hs : h.s.size < 2 ^ 63) (hp : RdA w F h.l q 0) (hg : GoalsA w F gs gp)
  (hyes : ∀ w', Upd [] w w' → K true w') (hno : h.size ≤ 6000 → gs.length ≤ 80 → (∀ g ∈ gs, g.2.size ≤ 6000) → ∀ w', Upd [] w w' → K false w') : C_ref15_Large h.kind h.n h.s q h.l.length c gp gs.length gc vars w K := by
 apply C_ref15_Large.of
 unfold F_ref15_Large F_ref15_Large_L1
 refine New_rule fun r w1 hr u1 b1 => ?_
 have bc : ∀ j, w1.cell? ⟨r, j, none⟩ = _ := fun j => b1.cell j
 simp only [NN_some, addN, drw_cell, drw_heap, exS, exI, exB, exP, exM, exStr, exV, a0, a1, a2, a3, a4, a5, a6, a7, a8, a9, a10, a11, a12, a13, maxI_eq, Nat.zero_add, Nat.add_zero, Nat.mul_one, Option.isNone_some, Option.isNone_none, bc]
 have hF1 := hF.upd u1
 refine Large_ok h (RdA.keep u1 hp) hF1 hs fun w2 u2 => ?_
 have U2 := u1.after u2
 refine ifC (fun _ => hyes _ U2) (fun g1 => ?_)
 have hz := not_large g1
 have b2 := b1.upd u2 (by simp)
 have bc2 : ∀ j, w2.cell? ⟨r, j, none⟩ = _ := fun j => b2.cell j
 simp only [NN_some, addN, drw_cell, drw_heap, exS, exI, exB, exP, exM, exStr, exV, a0, a1, a2, a3, a4, a5, a6, a7, a8, a9, a10, a11, a12, a13, maxI_eq, Nat.zero_add, Nat.add_zero, Nat.mul_one, Option.isNone_some, Option.isNone_none, bc2]
 refine ifC (fun _ => hyes _ U2) (fun g2 => ?_)
 have hl : gs.length ≤ 80 := by have := of_decide_eq_false g2; omega
 refine rsize_ok h (RdA.keep U2 hp) (by omega) fun w3 u3 => ?_
 have U3 := U2.after u3
 have b3 := b2.upd u3 (by simp)
 refine ⟨fun s z => ∃ i : Nat, s.i = i ∧ i ≤ gs.length ∧ 0 ≤ s.n ∧ s.n ≤ 6000 + i * 6000 ∧ (∀ j (hj : j < gs.length), j < i → gs[j].2.size ≤ 6000) ∧ Upd [] w3 z, fun s _ => (gs.length - s.i).toNat, ⟨0, rfl, by omega, by show (0 : Int) ≤ (h.size : Int); omega, by show (h.size : Int) ≤ _; omega, fun j hj h0 => absurd h0 (by omega), Upd.refl _ _⟩, ?_⟩
 rintro ⟨sn, si⟩ z ⟨i, rfl, hi, n0, n1, hold, uz⟩
 dsimp only at n0 n1
 unfold B_ref15_Large_L1
 have bz := b3.upd uz (by simp)
 have Uz := U3.after uz
 refine ⟨_, _, _, by simp only [NN_some, addN, drw_cell, drw_heap, exS, exI, exB, exP, exM, exStr, exV, a0, a1, a2, a3, a4, a5, a6, a7, a8, a9, a10, a11, a12, a13, maxI_eq, Nat.zero_add, Nat.add_zero, Nat.mul_one, Option.isNone_some, Option.isNone_none]; exact bz.cell 4, ?_⟩
 refine ifC (fun g => ?_) (fun g => ?_)
 ·have gi : i < gs.length := by have := of_decide_eq_true g; dsimp only at this; omega
  obtain ⟨x, qg, cg, e, hx, hc', h1', h2'⟩ := hg.keep Uz i gi
  have cs : ∀ {z' : World}, Upd [] z z' → ∀ j, j < 5 → z'.cell? (x.add (i * 5 + j)) = (Value.int .i64 gs[i].1 :: tmC (gs[i].2, qg, cg))[j]? := fun {z'} u j hj => by
   obtain ⟨v, hv⟩ : ∃ v, z.cell? (x.add (i * 5 + j)) = some v := ⟨_, (hc' j hj).trans (List.getElem?_eq_getElem (by simpa [tmC] using hj))⟩
   rw [← hc' j hj, hv]
   exact u.cell hv (by simp)
  have fin : ∀ {z' : World}, Upd [] z z' → z'.cell? (x.add (i * 5 + 1)) = some (.int .i64 gs[i].2.kind) ∧ z'.cell? (x.add (i * 5 + 2)) = some (.int .i64 gs[i].2.n) ∧ z'.cell? (x.add (i * 5 + 3)) = some (.string gs[i].2.s) ∧ z'.cell? (x.add (i * 5 + 4)) = some (.slice qg gs[i].2.l.length cg) := fun u => ⟨cs u 1 (by omega), cs u 2 (by omega), cs u 3 (by omega), cs u 4 (by omega)⟩
  obtain ⟨f1, f2, f3, f4⟩ := fin (Upd.refl _ z)
  have hs0 : (0 : Int) ≤ (i : Int) := by omega
  have hs1 : (i : Int) < (gs.length : Int) := by omega
  refine ⟨_, _, _, by simp only [NN_some, addN, drw_cell, drw_heap, exS, exI, exB, exP, exM, exStr, exV, a0, a1, a2, a3, a4, a5, a6, a7, a8, a9, a10, a11, a12, a13, maxI_eq, Nat.zero_add, Nat.add_zero, Nat.mul_one, Option.isNone_some, Option.isNone_none]; exact bz.cell 4, hs0, hs1, ?_⟩
  rw [e]
  simp only [NN_some, addN, drw_cell, drw_heap, exS, exI, exB, exP, exM, exStr, exV, a0, a1, a2, a3, a4, a5, a6, a7, a8, a9, a10, a11, a12, a13, maxI_eq, Nat.zero_add, Nat.add_zero, Nat.mul_one, Option.isNone_some, Option.isNone_none, addA, Int.toNat_natCast, f1, f2, f3, f4]
  refine Large_ok gs[i].2 h2' (hF.upd Uz) h1' fun z1 v1 => ?_
  refine ifC (fun _ => hyes _ (Uz.after v1)) (fun g3 => ?_)
  have hzi := not_large g3
  have bz1 := bz.upd v1 (by simp)
  obtain ⟨f1, f2, f3, f4⟩ := fin v1
  refine ⟨_, _, _, bz1.cell 4, hs0, hs1, ?_⟩
  rw [e]
  simp only [NN_some, addN, drw_cell, drw_heap, exS, exI, exB, exP, exM, exStr, exV, a0, a1, a2, a3, a4, a5, a6, a7, a8, a9, a10, a11, a12, a13, maxI_eq, Nat.zero_add, Nat.add_zero, Nat.mul_one, Option.isNone_some, Option.isNone_none, addA, Int.toNat_natCast, f1, f2, f3, f4]
  refine rsize_ok gs[i].2 (RdA.keep v1 h2') (by omega) fun z2 v2 => ?_
  have Uz2 := (Uz.after v1).after v2
  refine ifC (fun _ => hyes _ Uz2) (fun g4 => ?_)
  rw [i64id (x := sn + (gs[i].2.size : Int)) (by omega) (by omega), i64id (by omega) (by omega)]
  refine ⟨⟨i + 1, by simp, by omega, by show 0 ≤ sn + (gs[i].2.size : Int); omega, by show sn + (gs[i].2.size : Int) ≤ _; push_cast; omega, fun j hj hlt => ?_, (uz.after v1).after v2⟩, by show ((gs.length : Int) - ((i : Int) + 1)).toNat < ((gs.length : Int) - (i : Int)).toNat; omega⟩
  by_cases ej : j = i
  ·subst ej; exact hzi
  ·exact hold j hj (by omega)
 ·have gi : i = gs.length := by have := of_decide_eq_false g; dsimp only at this; omega
  subst gi
  exact hno hz hl (fun g hg' => by obtain ⟨j, hj, rfl⟩ := List.getElem_of_mem hg'; exact hold j hj hj) z Uz
def Small (o : OpB) : Prop := o.h.size ≤ 6000 ∧ o.gs.length ≤ 80 ∧ (∀ g ∈ o.gs, g.2.size ≤ 6000) ∧ o.code.length ≤ 100
theorem large_ok19 {l : List OpB} {p : Option Addr} {c : Nat} {F : List Nat} {w : World} {K : Bool → World → Prop} (hF : In F w) (ho : OpsB w F l p) (hl : l.length < 2 ^ 63)
  (hyes : ∀ w', Upd [] w w' → K true w') (hno : (∀ i (hi : i < l.length), i < 60 → Small l[i]) → ∀ w', Upd [] w w' → K false w') : C_law19_large p l.length c w K := by
 apply C_law19_large.of
 unfold F_law19_large F_law19_large_L1
 refine ⟨fun s z => ∃ i : Nat, s.i = i ∧ i ≤ l.length ∧ i ≤ 60 ∧ (∀ j (hj : j < l.length), j < i → Small l[j]) ∧ Upd [] w z, fun s _ => (60 - s.i).toNat, ⟨0, rfl, by omega, by omega, fun j hj h0 => absurd h0 (by omega), Upd.refl _ _⟩, ?_⟩
 rintro ⟨si⟩ z ⟨i, rfl, hi, h60, hold, uz⟩
 unfold B_law19_large_L1
 have hin : ∀ j (hj : j < l.length), j < 60 → i = l.length ∨ i = 60 → Small l[j] := fun j hj h1 h2 => hold j hj (by omega)
 refine ifC (fun g => ifC (fun g2 => ?_) (fun g2 => ?_)) (fun g => ?_)
 ·have gi : i < l.length := by have := of_decide_eq_true g; dsimp only at this; omega
  have g60 : i < 60 := by have := of_decide_eq_true g2; dsimp only at this; omega
  obtain ⟨x, q, e, hx, hc, hr⟩ := ho.keep uz i gi
  have hs0 : (0 : Int) ≤ (i : Int) := by omega
  have hs1 : (i : Int) < (l.length : Int) := by omega
  refine ⟨hs0, hs1, ?_⟩
  rw [e]
  have c1 := hc 1 (by omega); have c2 := hc 2 (by omega); have c3 := hc 3 (by omega); have c4 := hc 4 (by omega); have c5 := hc 5 (by omega); have c6 := hc 6 (by omega); have c7 := hc 7 (by omega)
  simp only [opbC, List.getElem?_cons_succ, List.getElem?_cons_zero] at c1 c2 c3 c4 c5 c6 c7
  simp only [NN_some, addN, drw_cell, drw_heap, exS, exI, exB, exP, exM, exStr, exV, a0, a1, a2, a3, a4, a5, a6, a7, a8, a9, a10, a11, a12, a13, maxI_eq, Nat.zero_add, Nat.add_zero, Nat.mul_one, Option.isNone_some, Option.isNone_none, addA, Int.toNat_natCast, c1, c2, c3, c4, c5, c6]
  refine Large15_ok (hF.upd uz) hr.1 hr.2.1 hr.2.2.1 (fun z1 v1 => ifT rfl (hyes _ (uz.after v1))) fun z0 z80 zg z1 v1 => ifF rfl ⟨hs0, hs1, ?_⟩
  have c7' : z1.cell? (x.add (i * 14 + 7)) = some (.slice q.cp l[i].code.length q.cc) := v1.cell c7 (by simp)
  simp only [NN_some, addN, drw_cell, drw_heap, exS, exI, exB, exP, exM, exStr, exV, a0, a1, a2, a3, a4, a5, a6, a7, a8, a9, a10, a11, a12, a13, maxI_eq, Nat.zero_add, Nat.add_zero, Nat.mul_one, Option.isNone_some, Option.isNone_none, addA, Int.toNat_natCast, c7']
  refine ifC (fun _ => hyes _ (uz.after v1)) (fun g3 => ?_)
  have hcl : l[i].code.length ≤ 100 := by have := of_decide_eq_false g3; omega
  rw [i64id (by omega) (by omega)]
  refine ⟨⟨i + 1, by simp, by omega, by omega, fun j hj hlt => ?_, uz.after v1⟩, by show ((60 : Int) - ((i : Int) + 1)).toNat < ((60 : Int) - (i : Int)).toNat; omega⟩
  by_cases ej : j = i
  ·subst ej; exact ⟨z0, z80, zg, hcl⟩
  ·exact hold j hj (by omega)
 ·exact hno (fun j hj h1 => hin j hj h1 (.inr (by have := of_decide_eq_false g2; dsimp only at this; omega))) z uz
 ·exact hno (fun j hj h1 => hin j hj h1 (.inl (by have := of_decide_eq_false g; dsimp only at this; omega))) z uz
structure Nxt (d d' : BsD) : Prop where
 a : d'.a = d.a
 limit : d'.limit = d.limit
 g0 : d.gen ≤ d'.gen
 g1 : d'.gen ≤ d.gen + 1
 P : d'.PT.length ≤ d.PT.length + 1
 ids : ∀ k, (idsP d'.PT k).length ≤ (idsP d.PT k).length + 1
 told : ∀ gen, gen ≤ d.gen → ∀ k, tells d'.S d'.PT k gen = tells d.S d.PT k gen
theorem Nxt.same (d : BsD) : Nxt d d := ⟨rfl, rfl, by omega, by omega, by omega, fun k => by omega, fun _ _ _ => rfl⟩
theorem insI_len (b : Bool) (l : List Int) (i : Int) : (insI b l i).length = l.length + 1 := by
 unfold insI
 split <;> simp
theorem insI_filter {p : Int → Bool} (b : Bool) (l : List Int) (i : Int) (h : p i = false) : (insI b l i).filter p = l.filter p := by
 unfold insI
 split
 ·rw [List.filter_cons_of_neg (by rw [h]; simp)]
 ·rw [List.filter_append, List.filter_cons_of_neg (by rw [h]; simp)]; simp
theorem Nxt.added {d d' : BsD} {h : Tm} {gs : List GoalT} {vars : Int} {code : List InsT} {front : Bool} (ad : Added d d' h gs vars code front) : Nxt d d' := by
 obtain ⟨s, eS, _, _, _, _, eb, _⟩ := ad.S
 refine ⟨ad.a, ad.limit, by have := ad.gen; omega, by have := ad.gen; omega, ?_, fun k => ?_, fun gen hg k => ?_⟩
 ·have := congrArg List.length ad.keys
  rw [List.length_map] at this
  split at this <;> simp at this <;> omega
 ·rw [ad.ids k]
  split
  ·rename_i e; subst e; rw [insI_len]; omega
  ·omega
 ·unfold tells
  rw [ad.ids k, eS, List.filter_congr fun x _ => livesI_add (id := x) (by omega : gen < s.born)]
  split
  ·rename_i e
   subst e
   exact insI_filter _ _ _ (livesI_no (by omega))
  ·rfl
theorem Nxt.killed {d : BsD} {i : Nat} (hi : i < d.S.length) (hd : d.S[i].dead = 0) : Nxt d { d with gen := d.gen + 1, S := d.S.set i { d.S[i] with dead := d.gen + 1 } } :=
 ⟨rfl, rfl, by show d.gen ≤ d.gen + 1; omega, by show d.gen + 1 ≤ d.gen + 1; omega, by show d.PT.length ≤ _; omega, fun k => by show (idsP d.PT k).length ≤ _; omega, fun gen hg k => tells_kill hi hd (by omega)⟩
section
variable {w : World} {d : BsD} {F : List Nat}
theorem step_ok {l : List OpB} {p : Option Addr} {i : Nat} {K : World → Prop} (ho : OpsB w F l p) (hi : i < l.length) (sm : Small l[i]) (h : Bs w d) (ok : BsOk d) (hg : d.gen < 2 ^ 40) (hF : In F w) (hFd : Dis F d.F)
  (hK : ∀ w' d', Nxt d d' → Bs w' d' → BsOk d' → Upd d.F w w' → Sub d'.F d.F w → K w') :
  0 ≤ (i : Int) ∧ (i : Int) < (l.length : Int) ∧ NN p fun a =>
  ∃ Kind : Int, w.cell? ((a.add ((i : Int).toNat * 14)).add 0) = some (.int .i64 Kind) ∧
  If (Kind == (1 : Int))
  (0 ≤ (i : Int) ∧ (i : Int) < (l.length : Int) ∧ NN p fun a_1 =>
  ∃ C0 : Int, (drw w).cell? (((a_1.add ((i : Int).toNat * 14)).add 1).add 0) = some (.int .i64 C0) ∧
  ∃ C1 : Int, (drw w).cell? (((a_1.add ((i : Int).toNat * 14)).add 1).add 1) = some (.int .i64 C1) ∧
  ∃ C2 : ByteArray, (drw w).cell? (((a_1.add ((i : Int).toNat * 14)).add 1).add 2) = some (.string C2) ∧
  ∃ C3P : Option Addr, ∃ C3N : Nat, ∃ C3C : Nat, (drw w).cell? (((a_1.add ((i : Int).toNat * 14)).add 1).add 3) = some (.slice C3P C3N C3C) ∧
  ∃ C4P : Option Addr, ∃ C4N : Nat, ∃ C4C : Nat, (drw w).cell? (((a_1.add ((i : Int).toNat * 14)).add 1).add 4) = some (.slice C4P C4N C4C) ∧
  ∃ C5 : Int, (drw w).cell? (((a_1.add ((i : Int).toNat * 14)).add 1).add 5) = some (.int .i64 C5) ∧
  0 ≤ (i : Int) ∧ (i : Int) < (l.length : Int) ∧ NN p fun a_2 =>
  ∃ CodeP : Option Addr, ∃ CodeN : Nat, ∃ CodeC : Nat, (drw w).cell? ((a_2.add ((i : Int).toNat * 14)).add 7) = some (.slice CodeP CodeN CodeC) ∧
  0 ≤ (i : Int) ∧ (i : Int) < (l.length : Int) ∧ NN p fun a_3 =>
  ∃ Flag : Bool, (drw w).cell? ((a_3.add ((i : Int).toNat * 14)).add 8) = some (.bool Flag) ∧
  C_base_Base_Add d.a C0 C1 C2 C3P C3N C3C C4P C4N C4C C5 CodeP CodeN CodeC Flag (drw w) fun _ _ w' => K w')
  (0 ≤ (i : Int) ∧ (i : Int) < (l.length : Int) ∧ NN p fun a_4 =>
  ∃ N : Int, w.cell? ((a_4.add ((i : Int).toNat * 14)).add 9) = some (.int .i64 N) ∧
  C_base_Base_Kill d.a N w fun _ w' => K w') := by
 obtain ⟨x, q, e, hx, hc, hr⟩ := ho i hi
 have hs0 : (0 : Int) ≤ (i : Int) := by omega
 have hs1 : (i : Int) < (l.length : Int) := by omega
 refine ⟨hs0, hs1, ?_⟩
 rw [e]
 have c0 := hc 0 (by omega); have c1 := hc 1 (by omega); have c2 := hc 2 (by omega); have c3 := hc 3 (by omega); have c4 := hc 4 (by omega); have c5 := hc 5 (by omega); have c6 := hc 6 (by omega); have c7 := hc 7 (by omega); have c8 := hc 8 (by omega); have c9 := hc 9 (by omega)
 simp only [opbC, List.getElem?_cons_succ, List.getElem?_cons_zero, Nat.add_zero] at c0 c1 c2 c3 c4 c5 c6 c7 c8 c9
 simp only [NN_some, addN, drw_cell, drw_heap, exS, exI, exB, exP, exM, exStr, exV, a0, a1, a2, a3, a4, a5, a6, a7, a8, a9, a10, a11, a12, a13, maxI_eq, Nat.zero_add, Nat.add_zero, Nat.mul_one, Option.isNone_some, Option.isNone_none, addA, Int.toNat_natCast, c0]
 refine ifC (fun _ => ⟨hs0, hs1, ?_⟩) (fun _ => ⟨hs0, hs1, ?_⟩)
 ·simp only [NN_some, addN, drw_cell, drw_heap, exS, exI, exB, exP, exM, exStr, exV, a0, a1, a2, a3, a4, a5, a6, a7, a8, a9, a10, a11, a12, a13, maxI_eq, Nat.zero_add, Nat.add_zero, Nat.mul_one, Option.isNone_some, Option.isNone_none, addA, Int.toNat_natCast, c1, c2, c3, c4, c5, c6]
  refine ⟨hs0, hs1, ?_⟩
  simp only [NN_some, addN, drw_cell, drw_heap, exS, exI, exB, exP, exM, exStr, exV, a0, a1, a2, a3, a4, a5, a6, a7, a8, a9, a10, a11, a12, a13, maxI_eq, Nat.zero_add, Nat.add_zero, Nat.mul_one, Option.isNone_some, Option.isNone_none, addA, Int.toNat_natCast, c7]
  refine ⟨hs0, hs1, ?_⟩
  simp only [NN_some, addN, drw_cell, drw_heap, exS, exI, exB, exP, exM, exStr, exV, a0, a1, a2, a3, a4, a5, a6, a7, a8, a9, a10, a11, a12, a13, maxI_eq, Nat.zero_add, Nat.add_zero, Nat.mul_one, Option.isNone_some, Option.isNone_none, addA, Int.toNat_natCast, c8]
  have ud := drw_upd w
  obtain ⟨z0, z80, zg, zc⟩ := sm
  have hrd := hr.upd ud (by intro k _ h; cases h)
  refine Add_ok (F := F) (h.keep ud) ok hg (hF.upd ud) hFd hrd.1 hrd.2.1 (by omega) hrd.2.2.1 (fun g hg' => by have := zg g hg'; omega) (by omega) hrd.2.2.2.1 (by omega) (fun e w' _ hb' u => hK w' d (Nxt.same d) hb' ok ((ud.after u).mono (by simp)) (Sub.refl _ _)) fun w' d' ad hb' ok' u sF sZ => hK w' d' (Nxt.added ad) hb' ok' (ud.after u) (sF.old ud.size)
 ·simp only [NN_some, addN, drw_cell, drw_heap, exS, exI, exB, exP, exM, exStr, exV, a0, a1, a2, a3, a4, a5, a6, a7, a8, a9, a10, a11, a12, a13, maxI_eq, Nat.zero_add, Nat.add_zero, Nat.mul_one, Option.isNone_some, Option.isNone_none, addA, Int.toNat_natCast, c9]
  exact Kill_ok h hg (fun w' hb' u _ _ => hK w' d (Nxt.same d) hb' ok (u.mono (by simp)) (Sub.refl _ _)) (fun s hs => (ok.born s hs).2.2.1) (fun j hj _ hd w' hb' u => hK w' _ (Nxt.killed hj hd) hb' (killed_ok ok hj) u (fun k hk => .inl hk)) ok.gen
end
def RdB (w : World) (F : List Nat) (sz : Nat) (p : Option Addr) (n : Nat) (cs : List Value) : Prop := Rd w sz p n cs ∧ ∀ x, p = some x → n ≠ 0 → x.block ∈ F
theorem RdB.upd {w w' : World} {F X : List Nat} {sz n : Nat} {p : Option Addr} {cs : List Value} (h : RdB w F sz p n cs) (u : Upd X w w') (hd : Dis F X) : RdB w' F sz p n cs := ⟨h.1.upd u fun x hx hn hF => hd _ (h.2 x hx hn) hF, h.2⟩
theorem RdB.keep {w w' : World} {F : List Nat} {sz n : Nat} {p : Option Addr} {cs : List Value} (h : RdB w F sz p n cs) (u : Upd [] w w') : RdB w' F sz p n cs := h.upd u (by intro k _ h; cases h)
theorem RdB.sub {w : World} {F G : List Nat} {sz n : Nat} {p : Option Addr} {cs : List Value} (h : RdB w F sz p n cs) (hs : ∀ k ∈ F, k ∈ G) : RdB w G sz p n cs := ⟨h.1, fun x hx hn => hs _ (h.2 x hx hn)⟩
theorem slAt_rdB {w : World} {sz : Nat} {p : Option Addr} {n c : Nat} {cs : List Value} {F : List Nat} (h : SlAt w sz p n c cs F) : RdB w F sz p n cs := ⟨h.rd, fun x hx hn => by
 rcases h.2.2 with ⟨e, _⟩ | ⟨b, off, arr, hp, hG, _⟩
 ·rw [hx] at e; cases e
 ·rw [hp] at hx; cases hx; rw [hG]; simp⟩
def kk (e : PrT) : PKey := (e.1, e.2.1)
abbrev RowT := Option Addr × Nat × Nat
def rowV (r : RowT) : Value := .slice r.1 r.2.1 r.2.2
def RowsAt (w : World) (F : List Nat) (T : PKey → List Int) (E : List PrT) (R : List RowT) : Prop := ∀ (j : Nat) (r : RowT) (e : PrT), R[j]? = some r → E[j]? = some e → RdB w F 1 r.1 r.2.1 ((T (kk e)).map (.int .i64))
theorem RowsAt.upd {w w' : World} {F X : List Nat} {T : PKey → List Int} {E : List PrT} {R : List RowT} (h : RowsAt w F T E R) (u : Upd X w w') (hd : Dis F X) : RowsAt w' F T E R := fun j r e hr he => (h j r e hr he).upd u hd
theorem RowsAt.keep {w w' : World} {F : List Nat} {T : PKey → List Int} {E : List PrT} {R : List RowT} (h : RowsAt w F T E R) (u : Upd [] w w') : RowsAt w' F T E R := fun j r e hr he => (h j r e hr he).keep u
theorem pr_cells {w : World} {p : Option Addr} {E : List PrT} {i : Nat} (h : Rd w 3 p E.length (E.flatMap prC)) (hi : i < E.length) : ∃ x, p = some x ∧ w.cell? (x.add (i * 3)) = some (.string E[i].1) ∧ w.cell? (x.add (i * 3 + 1)) = some (.int .i64 E[i].2.1) ∧ w.cell? (x.add (i * 3 + 2)) = some (.int .i64 E[i].2.2) := by
 obtain ⟨x, hx, hc⟩ := h.elem hi
 have hc : ∀ j, j < 3 → w.cell? (x.add (i * 3 + j)) = (prC E[i])[j]? := fun j hj => by rw [hc j hj, flat_at prC_len hi hj]
 exact ⟨x, hx, hc 0 (by omega), hc 1 (by omega), hc 2 (by omega)⟩
section
variable {w : World} {d : BsD} {F : List Nat}
theorem again_ok {T : PKey → List Int} {gen : Int} {E : List PrT} {R : List RowT} {pP wP : Option Addr} {pC wC : Nat} {FR : Bool → World → Prop} (h : Bs w d) (ok : BsOk d) (hg : d.gen < 2 ^ 40) (hT : ∀ k, tells d.S d.PT k gen = T k) (hl : ∀ k, (T k).length ≤ 100)
  (hE : Rd w 3 pP E.length (E.flatMap prC)) (hEl : E.length < 2 ^ 40) (hR : Rd w 1 wP R.length (R.map rowV)) (hRE : R.length = E.length) (hrows : RowsAt w F T E R) (hK : ∀ w', Upd [] w w' → FR true w') :
  F_law19_BaseStays_L4 d.a gen pP E.length pC wP R.length wC ⟨0⟩ w (fun w' => FR true w') (fun t w' => FR t w') := by
 unfold F_law19_BaseStays_L4
 refine ⟨fun s z => ∃ i : Nat, s.i_3 = i ∧ i ≤ E.length ∧ Upd [] w z, fun s _ => (E.length - s.i_3).toNat, ⟨0, rfl, by omega, Upd.refl _ _⟩, ?_⟩
 rintro ⟨si⟩ z ⟨i, rfl, hi, uz⟩
 unfold B_law19_BaseStays_L4
 refine ifC (fun g => ?_) (fun g => hK z uz)
 have gi : i < E.length := by have := of_decide_eq_true g; dsimp only at this; omega
 have hs0 : (0 : Int) ≤ (i : Int) := by omega
 have hs1 : (i : Int) < (E.length : Int) := by omega
 have hs2 : (i : Int) < (R.length : Int) := by omega
 have ud := drw_upd z
 have Ud := uz.after ud
 obtain ⟨x, hx, c0, c1, c2⟩ := pr_cells (hE.upd uz (by simp)) gi
 subst hx
 refine ⟨hs0, hs1, ?_⟩
 simp only [NN_some, addN, drw_cell, drw_heap, exS, exI, exB, exP, exM, exStr, exV, a0, a1, a2, a3, a4, a5, a6, a7, a8, a9, a10, a11, a12, a13, maxI_eq, Nat.zero_add, Nat.add_zero, Nat.mul_one, Option.isNone_some, Option.isNone_none, addA, Int.toNat_natCast, c0]
 refine ⟨hs0, hs1, ?_⟩
 simp only [NN_some, addN, drw_cell, drw_heap, exS, exI, exB, exP, exM, exStr, exV, a0, a1, a2, a3, a4, a5, a6, a7, a8, a9, a10, a11, a12, a13, maxI_eq, Nat.zero_add, Nat.add_zero, Nat.mul_one, Option.isNone_some, Option.isNone_none, addA, Int.toNat_natCast, c1]
 obtain ⟨y, hy, cy⟩ := (hR.upd uz (by simp)).at (i := i) (by omega)
 subst hy
 have cy : z.cell? (y.add i) = some (rowV (R[i]'(by omega))) := by rw [cy, List.getElem?_map, List.getElem?_eq_getElem (by omega)]; rfl
 unfold rowV at cy
 refine ⟨hs0, hs2, ?_⟩
 simp only [NN_some, addN, drw_cell, drw_heap, exS, exI, exB, exP, exM, exStr, exV, a0, a1, a2, a3, a4, a5, a6, a7, a8, a9, a10, a11, a12, a13, maxI_eq, Nat.zero_add, Nat.add_zero, Nat.mul_one, Option.isNone_some, Option.isNone_none, addA, Int.toNat_natCast, cy]
 have hT1 := hT (kk E[i])
 have hrow := hrows i R[i] E[i] (List.getElem?_eq_getElem (by omega)) (List.getElem?_eq_getElem gi)
 refine all_ok (k := kk E[i]) (gen := gen) (h.keep Ud) ok hg (by rw [hT1]; exact hl _) fun w3 p3 c3 G3 hs3 _ u3 => ?_
 rw [hT1] at hs3 ⊢
 refine ⟨by rw [(ud.after u3).cell cy (by simp)], ?_⟩
 refine Ix.SameInts_ok (L := T (kk E[i])) hs3.rd ((hrow.keep Ud).keep u3).1 (by have := hl (kk E[i]); omega) fun w4 u4 => ifF rfl ?_
 rw [i64id (by omega) (by omega)]
 exact ⟨⟨i + 1, by simp, by omega, (Ud.after u3).after u4⟩, by show ((E.length : Int) - ((i : Int) + 1)).toNat < ((E.length : Int) - (i : Int)).toNat; omega⟩
theorem more_ok {T : PKey → List Int} {E : List PrT} {R : List RowT} {pP wP mp : Option Addr} {pC wC mc : Nat} {G : List Nat} {more : List OpB} {FR : Bool → World → Prop} (h : Bs w d) (ok : BsOk d) (hg : d.gen ≤ 40) (hT : ∀ k, tells d.S d.PT k d.gen = T k) (hl : ∀ k, (T k).length ≤ 100)
  (hE : RdB w F 3 pP E.length (E.flatMap prC)) (hEl : E.length < 2 ^ 40) (hR : RdB w F 1 wP R.length (R.map rowV)) (hRE : R.length = E.length) (hrows : RowsAt w F T E R) (hFd : Dis F d.F)
  (ho : OpsB w G more mp) (hG : In G w) (hGd : Dis G d.F) (sm : ∀ i (hi : i < more.length), i < 60 → Small more[i]) (hK : ∀ w', Upd d.F w w' → FR true w') :
  F_law19_BaseStays_L3 mp more.length mc d.a d.gen pP E.length pC wP R.length wC ⟨0⟩ w (fun w' => F_law19_BaseStays_L4 d.a d.gen pP E.length pC wP R.length wC ⟨0⟩ w' (fun w' => FR true w') (fun t w' => FR t w')) := by
 unfold F_law19_BaseStays_L3
 refine ⟨fun s z => ∃ (i : Nat) (d' : BsD), s.i_2 = i ∧ i ≤ more.length ∧ i ≤ 40 ∧ Bs z d' ∧ BsOk d' ∧ d'.a = d.a ∧ d.gen ≤ d'.gen ∧ d'.gen ≤ 40 + i ∧ (∀ k, tells d'.S d'.PT k d.gen = T k) ∧ Sub d'.F d.F w ∧ Upd d.F w z, fun s _ => (40 - s.i_2).toNat,
  ⟨0, d, rfl, by omega, by omega, h, ok, rfl, by omega, by omega, hT, Sub.refl _ _, Upd.refl _ _⟩, ?_⟩
 rintro ⟨si⟩ z ⟨i, d', rfl, hi, h40, hz, okz, ea, g0, g1, hTz, sF, uz⟩
 unfold B_law19_BaseStays_L3
 have fin : F_law19_BaseStays_L4 d.a d.gen pP E.length pC wP R.length wC ⟨0⟩ z (fun w' => FR true w') (fun t w' => FR t w') := by
  rw [← ea]
  exact again_ok hz okz (by omega) hTz hl (hE.upd uz hFd).1 hEl (hR.upd uz hFd).1 hRE (hrows.upd uz hFd) fun w' u => hK w' (uz.before u)
 refine ifC (fun ga => ifC (fun gb => ?_) (fun _ => fin)) (fun _ => fin)
 have gi : i < more.length := by have := of_decide_eq_true ga; dsimp only at this; omega
 have g40 : i < 40 := by have := of_decide_eq_true gb; dsimp only at this; omega
 rw [← ea]
 refine step_ok (K := fun w' => F_law19_BaseStays_k3 _ _ w') (ho.upd uz hGd) gi (sm i gi (by omega)) hz okz (by omega) (hG.upd uz) (fun k hk hx => ?_) fun w' d2 nx h2 ok2 u2 s2 => ?_
 ·rcases sF k hx with g | g
  ·exact hGd k hk g
  ·have := hG k hk; omega
 ·unfold F_law19_BaseStays_k3
  dsimp only
  rw [i64id (by omega) (by omega)]
  have ng0 := nx.g0; have ng1 := nx.g1
  exact ⟨⟨i + 1, d2, by simp, by omega, by omega, h2, ok2, nx.a.trans rfl, by omega, by omega, fun k => by rw [nx.told _ g0]; exact hTz k, sF.trans s2 uz.size, uz.trans u2 (fun k hk => .inl hk) sF⟩, by show ((40 : Int) - ((i : Int) + 1)).toNat < ((40 : Int) - (i : Int)).toNat; omega⟩
theorem told_ok {w0 : World} {T : PKey → List Int} {E : List PrT} {pP mp : Option Addr} {pC mc : Nat} {G FP : List Nat} {more : List OpB} {FR : Bool → World → Prop} (h : Bs w d) (ok : BsOk d) (hg : d.gen ≤ 40) (hT : ∀ k, tells d.S d.PT k d.gen = T k) (hl : ∀ k, (T k).length ≤ 100)
  (hE : RdB w FP 3 pP E.length (E.flatMap prC)) (hEl : E.length < 2 ^ 40) (hPd : Dis FP d.F) (hPw : In FP w) (hcl : ∀ e ∈ E, e.2.2 = ((T (kk e)).length : Nat))
  (ho : OpsB w G more mp) (hG : In G w) (hGd : Dis G d.F) (sm : ∀ i (hi : i < more.length), i < 60 → Small more[i]) (hK : ∀ w', Upd d.F w w' → FR true w') :
  F_law19_BaseStays_L2 mp more.length mc d.a d.gen pP E.length pC ⟨none, 0, 0, 0⟩ w (fun wP wN wC w' => F_law19_BaseStays_L3 mp more.length mc d.a d.gen pP E.length pC wP wN wC ⟨0⟩ w' (fun w' => F_law19_BaseStays_L4 d.a d.gen pP E.length pC wP wN wC ⟨0⟩ w' (fun w' => FR true w') (fun t w' => FR t w'))) (fun t w' => FR t w') := by
 unfold F_law19_BaseStays_L2
 have low := h.lowG
 refine ⟨fun s z => ∃ (i : Nat) (R : List RowT) (GW FI : List Nat), s.i_1 = i ∧ i ≤ E.length ∧ R.length = i ∧ s.wasN = i ∧ SlAt z 1 s.wasP i s.wasC (R.map rowV) GW ∧ RowsAt z FI T E R ∧ Dis FI GW ∧ Since GW w ∧ Since FI w ∧ In FI z ∧ Upd [] w z, fun s _ => (E.length - s.i_1).toNat,
  ⟨0, [], [], [], rfl, by omega, rfl, rfl, SlAt.nil _ _, (by intro j r e hr; simp at hr), (by intro k hk; cases hk), (by intro k hk; cases hk), (by intro k hk; cases hk), (by intro k hk; cases hk), Upd.refl _ _⟩, ?_⟩
 rintro ⟨wP, wN, wC, si⟩ z ⟨i, R, GW, FI, e0, hi, hRl, e1, hs, hrows, dIW, sW, sI, inI, uz⟩
 dsimp only at e0 e1 hs
 subst e0
 have e1 := e1.symm
 subst e1
 unfold B_law19_BaseStays_L2
 refine ifC (fun g => ?_) (fun g => ?_)
 ·have gi : i < E.length := by have := of_decide_eq_true g; dsimp only at this; omega
  have hs0 : (0 : Int) ≤ (i : Int) := by omega
  have hs1 : (i : Int) < (E.length : Int) := by omega
  have ud := drw_upd z
  have Ud := uz.after ud
  have hEz := (hE.keep uz).1
  obtain ⟨x, hx, c0, c1, c2⟩ := pr_cells hEz gi
  subst hx
  have hxF : x.block ∈ FP := hE.2 x rfl (by omega)
  have hxw := hPw _ hxF
  refine ⟨hs0, hs1, ?_⟩
  simp only [NN_some, addN, drw_cell, drw_heap, exS, exI, exB, exP, exM, exStr, exV, a0, a1, a2, a3, a4, a5, a6, a7, a8, a9, a10, a11, a12, a13, maxI_eq, Nat.zero_add, Nat.add_zero, Nat.mul_one, Option.isNone_some, Option.isNone_none, addA, Int.toNat_natCast, c0]
  refine ⟨hs0, hs1, ?_⟩
  simp only [NN_some, addN, drw_cell, drw_heap, exS, exI, exB, exP, exM, exStr, exV, a0, a1, a2, a3, a4, a5, a6, a7, a8, a9, a10, a11, a12, a13, maxI_eq, Nat.zero_add, Nat.add_zero, Nat.mul_one, Option.isNone_some, Option.isNone_none, addA, Int.toNat_natCast, c1]
  have hT1 := hT (kk E[i])
  have hlen := hl (kk E[i])
  refine all_ok (k := kk E[i]) (gen := d.gen) (h.keep Ud) ok (by omega) (by rw [hT1]; exact hlen) fun w3 p3 c3 G3 hs3 s3 u3 => ?_
  rw [hT1] at hs3 ⊢
  refine BSlL_rule eS_46 [.slice p3 (T (kk E[i])).length c3] (by rfl) (by simp [Value.cells]) (by rfl) (by omega) fun w4 hs4 u4 => ?_
  have hs4' : SlAt w4 1 (some ⟨w3.heap.size, 0, none⟩) 1 1 [rowV (p3, (T (kk E[i])).length, c3)] [w3.heap.size] := by simpa [Value.cells, rowV] using hs4
  have V4 := (ud.after u3).after u4
  refine App_rule (hE := eS_46) (hs.upd V4 (by intro k _ h; cases h)) hs4' (by simp [rowV, Value.oneCell']) (by omega) fun p5 c5 G5 w5 hs5 u5 g5 => ?_
  have zs := uz.size
  have v4s := V4.size
  have v3s := (ud.after u3).size
  have uds := ud.size
  have U5 : Upd [] w w5 := (uz.after V4).fresh u5 sW
  have ud5 := drw_upd w5
  have nW : x.block ∉ GW := fun hx => by have := sW _ hx; omega
  have c2' : w5.cell? (x.add (i * 3 + 2)) = some (.int .i64 E[i].2.2) := u5.cell (V4.cell c2 (by simp)) (by rw [add_block]; exact nW)
  have hs5' : SlAt w5 1 p5 (i + 1) c5 ((R ++ [(p3, (T (kk E[i])).length, c3)]).map rowV) G5 := by rw [List.map_append]; exact hs5
  obtain ⟨y, hy, cy⟩ := hs5'.rd.at (i := i) (by omega)
  have cy : w5.cell? (y.add i) = some (rowV (p3, (T (kk E[i])).length, c3)) := by rw [cy, List.getElem?_map, List.getElem?_append_right (by omega), hRl]; simp
  unfold rowV at cy
  refine ⟨hs0, by show (i : Int) < ((i + 1 : Nat) : Int); omega, ?_⟩
  subst hy
  simp only [NN_some, addN, drw_cell, drw_heap, exS, exI, exB, exP, exM, exStr, exV, a0, a1, a2, a3, a4, a5, a6, a7, a8, a9, a10, a11, a12, a13, maxI_eq, Nat.zero_add, Nat.add_zero, Nat.mul_one, Option.isNone_some, Option.isNone_none, addA, Int.toNat_natCast, cy]
  refine ⟨hs0, hs1, ?_⟩
  simp only [NN_some, addN, drw_cell, drw_heap, exS, exI, exB, exP, exM, exStr, exV, a0, a1, a2, a3, a4, a5, a6, a7, a8, a9, a10, a11, a12, a13, maxI_eq, Nat.zero_add, Nat.add_zero, Nat.mul_one, Option.isNone_some, Option.isNone_none, addA, Int.toNat_natCast, c2']
  refine ifF (by rw [hcl _ (List.getElem_mem gi)]; simp) ?_
  rw [i64id (by omega) (by omega)]
  have sG5 : ∀ k ∈ G5, k ∈ GW ∨ w4.heap.size ≤ k := g5
  have in3 := hs3.inn
  have dn : ∀ k, k ∈ FI ++ G3 → k ∉ GW := fun k hk hx => by
   rcases List.mem_append.1 hk with g | g
   ·exact dIW k g hx
   ·have := s3 k g; have := hs.inn k hx; omega
  refine ⟨⟨i + 1, R ++ [(p3, (T (kk E[i])).length, c3)], G5, FI ++ G3, by simp, by omega, by rw [List.length_append, hRl]; rfl, rfl, hs5'.upd ud5 (by intro k _ h; cases h), fun j r e hr he => ?_, fun k hk hx => ?_, fun k hk => ?_, fun k hk => ?_, fun k hk => ?_, U5.after ud5⟩, by show ((E.length : Int) - ((i : Int) + 1)).toNat < ((E.length : Int) - (i : Int)).toNat; omega⟩
  ·by_cases hj : j < R.length
   ·rw [List.getElem?_append_left hj] at hr
    exact ((((hrows j r e hr he).keep V4).upd u5 dIW).keep ud5).sub (fun k hk => by simp [hk])
   ·rw [List.getElem?_append_right (by omega)] at hr
    have ej : j = i := by
     have := (List.getElem?_eq_some_iff.1 hr).1
     simp at this; omega
    subst ej
    rw [List.getElem?_eq_getElem gi] at he
    rw [hRl, Nat.sub_self] at hr
    simp at hr he
    subst hr; subst he
    exact ((((slAt_rdB hs3).keep u4).upd u5 (fun k hk => dn k (by simp [hk]))).keep ud5).sub (fun k hk => by simp [hk])
  ·rcases sG5 k hx with g | g
   ·exact dn k hk g
   ·rcases List.mem_append.1 hk with g2 | g2
    ·have := inI k g2; omega
    ·have := in3 k g2; have := u4.size; omega
  ·rcases sG5 k hk with g | g
   ·exact sW k g
   ·omega
  ·rcases List.mem_append.1 hk with g2 | g2
   ·exact sI k g2
   ·have := s3 k g2; omega
  ·have hsz := u5.size
   have := ud5.size
   rcases List.mem_append.1 hk with g2 | g2
   ·have := inI k g2; omega
   ·have := in3 k g2; have := u4.size; omega
 ·have gi : i = E.length := by have := of_decide_eq_false g; dsimp only at this; omega
  have hRE : R.length = E.length := by omega
  subst hRl
  have hz := h.keep uz
  dsimp only
  refine more_ok (F := FP ++ (FI ++ GW)) (G := G) hz ok hg hT hl ((hE.keep uz).sub fun k hk => by simp [hk]) hEl ((slAt_rdB hs).sub fun k hk => by simp [hk]) hRE (fun j r e hr he => (hrows j r e hr he).sub fun k hk => by simp [hk]) (fun k hk hx => ?_) (ho.keep uz) (hG.upd uz) hGd sm fun w' u => hK w' (uz.after u)
  rcases List.mem_append.1 hk with g | g
  ·exact hPd k g hx
  ·have := low k hx
   rcases List.mem_append.1 g with g | g
   ·have := sI k g; omega
   ·have := sW k g; omega
end
theorem pr_told {w : World} {d : BsD} (h : Bs w d) {E : List PrT} (hE : E.Perm (d.PT.map (prOf d.S d.gen))) : ∀ e ∈ E, e.2.2 = ((tells d.S d.PT (kk e) d.gen).length : Nat) := fun e he => by
 obtain ⟨x, hx, rfl⟩ := List.mem_map.1 (hE.mem_iff.1 he)
 have nd : (d.PT.map (·.1)).Nodup := List.pairwise_map.2 (h.TT.imp fun h => h.1)
 have hf : findP d.PT x.1 = some x.2 := findP_of nd hx
 show (((idsT x.2).filter (livesI d.S d.gen)).length : Int) = _
 unfold tells
 rw [show kk (prOf d.S d.gen x) = x.1 from rfl, idsP_some hf]
theorem BaseStays_law {w : World} {l more : List OpB} {p mp : Option Addr} {c mc : Nat} (ho : OpsB w (List.range w.heap.size) l p) (hl63 : l.length < 2 ^ 63) (hm : OpsB w (List.range w.heap.size) more mp) (hm63 : more.length < 2 ^ 63) : C_law19_BaseStays p l.length c mp more.length mc w fun r w' => r = true ∧ Upd [] w w' := by
 apply C_law19_BaseStays.of
 unfold F_law19_BaseStays F_law19_BaseStays_k1
 have iF : In (List.range w.heap.size) w := fun k hk => by simpa using hk
 refine large_ok19 iF ho hl63 (fun w1 u1 => ifT rfl (lives_ok fun w2 u2 => ⟨rfl, u1.after u2⟩)) fun sml w1 u1 => ifF rfl ?_
 refine large_ok19 (iF.upd u1) (hm.keep u1) hm63 (fun w2 u2 => ifT rfl (lives_ok fun w3 u3 => ⟨rfl, (u1.after u2).after u3⟩)) fun smm w2 u2 => ifF rfl ?_
 refine BNew_ok (by omega) (by omega) fun w3 d1 h1 ok1 eS1 eP1 eg1 el1 u3 sF1 eZ1 => lives_ok fun w4 u4 => ifF rfl (ifF rfl (ifF rfl ?_))
 have U3 := (u1.after u2).after u3
 have U4 := U3.after u4
 have s2 := (u1.after u2).size
 unfold F_law19_BaseStays_L1
 refine ⟨fun s z => ∃ (i : Nat) (d : BsD), s.i = i ∧ i ≤ l.length ∧ i ≤ 40 ∧ Bs z d ∧ BsOk d ∧ d.a = d1.a ∧ d.gen ≤ i ∧ d.PT.length ≤ i ∧ (∀ k, (idsP d.PT k).length ≤ i) ∧ Since d.F w ∧ Upd [] w z, fun s _ => (40 - s.i).toNat,
  ⟨0, d1, rfl, by omega, by omega, h1.keep u4, ok1, rfl, by omega, by rw [eP1]; simp, fun k => by rw [eP1]; exact Nat.le_refl _, fun k hk => by have := sF1 k hk; omega, U4⟩, ?_⟩
 rintro ⟨si⟩ z ⟨i, d, rfl, hi, h40, hz, ok, ea, hg, hPT, hids, sF, uz⟩
 unfold B_law19_BaseStays_L1
 have fin : C_base_Base_Generation d1.a z fun gen w1 => C_base_Base_Preds d1.a w1 fun P N C w2 => F_law19_BaseStays_L2 mp more.length mc d1.a gen P N C ⟨none, 0, 0, 0⟩ w2 (fun wP wN wC w' => F_law19_BaseStays_L3 mp more.length mc d1.a gen P N C wP wN wC ⟨0⟩ w' (fun w' => F_law19_BaseStays_L4 d1.a gen P N C wP wN wC ⟨0⟩ w' (fun w' => true = true ∧ Upd [] w w') (fun t w' => t = true ∧ Upd [] w w'))) (fun t w' => t = true ∧ Upd [] w w') := by
  rw [← ea]
  refine Gen_ok hz (Preds_ok hz ok (by omega) (by omega) fun w5 p5 c5 G5 E hE hs5 s5 u5 => ?_)
  have U5 := uz.after u5
  have low := hz.lowG
  refine told_ok (w0 := w) (T := fun k => tells d.S d.PT k d.gen) (FR := fun t w' => t = true ∧ Upd [] w w') (FP := G5) (G := List.range w.heap.size) (hz.keep u5) ok (by omega) (fun k => rfl) (fun k => ?_) (slAt_rdB hs5) (by rw [hE.length_eq, List.length_map]; omega) (fun k hk hx => by have := s5 k hk; have := low k hx; omega) hs5.inn (pr_told hz hE) (hm.keep U5) (iF.upd U5) (fun k hk hx => by have := sF k hx; simp at hk; omega) smm fun w' u => ⟨rfl, U5.fresh u sF⟩
  have := List.length_filter_le (livesI d.S d.gen) (idsP d.PT k)
  have := hids k
  show ((idsP d.PT k).filter (livesI d.S d.gen)).length ≤ 100
  omega
 refine ifC (fun ga => ifC (fun gb => ?_) (fun _ => fin)) (fun _ => fin)
 have gi : i < l.length := by have := of_decide_eq_true ga; dsimp only at this; omega
 have g40 : i < 40 := by have := of_decide_eq_true gb; dsimp only at this; omega
 clear fin
 rw [← ea]
 refine step_ok (K := fun w' => F_law19_BaseStays_k2 _ _ w') (ho.keep uz) gi (sml i gi (by omega)) hz ok (by omega) (iF.upd uz) (fun k hk hx => by have := sF k hx; simp at hk; omega) fun w' d2 nx h2 ok2 u2 s2 => ?_
 unfold F_law19_BaseStays_k2
 dsimp only
 rw [i64id (by omega) (by omega)]
 have ng0 := nx.g0; have ng1 := nx.g1; have nP := nx.P
 exact ⟨⟨i + 1, d2, by simp, by omega, by omega, h2, ok2, nx.a, by omega, by omega, fun k => by have := nx.ids k; have := hids k; omega, sF.step s2 uz.size, uz.fresh u2 sF⟩, by show ((40 : Int) - ((i : Int) + 1)).toNat < ((40 : Int) - (i : Int)).toNat; omega⟩
end Go.Proofs.Ytlndgaijekihiaa
