/- Slots that live behind a call are the first ones, and ever fewer. -/
import Derived.Test.YtdbkbaeeccemkaaLv2
namespace Go.Proofs.Ytdbkbaeeccemkaa
open Go Go.D Go.Proofs
set_option linter.unusedSimpArgs false
set_option linter.unusedVariables false
set_option maxRecDepth 8000

/-- A clause that came in. -/
theorem see_clause {w : World} {f : Nat} {cs : List Value} (h : Sees Try.prog w f 27 cs) : ∃ (t : Tm) (q : Option Addr) (c : Nat) (gs : List GoalT) (gp : Option Addr) (gc : Nat) (vars : Int), cs = [.int .i64 t.kind, .int .i64 t.n, .string t.s, .slice q t.l.length c, .slice gp gs.length gc, .int .i64 vars] ∧
    t.s.size < 2 ^ 63 ∧ RdA w (List.range w.heap.size) t.l q 0 ∧ GoalsA w (List.range w.heap.size) gs gp ∧ gs.length < 2 ^ 63 ∧ gs.length ≤ gc := by
  obtain ⟨g1, rfl, hl, hf1⟩ := see_struct (fs := _) (by rfl) (sz := 6) (by kernel_rfl) h
  match cs, hl with
  | [c1, c2, c3, c4, c5, c6], _ =>
    have i1 : Sees Try.prog w g1 24 [c1, c2, c3, c4] := hf1 0 _ rfl
    have i2 : Sees Try.prog w g1 25 [c5] := hf1 1 _ rfl
    have i3 : Sees Try.prog w g1 3 [c6] := hf1 2 _ rfl
    obtain ⟨t, hq, hc, e1, ha⟩ := see_tm g1 i1
    obtain ⟨gs, gp, gc, e2, hgs, gl, glc⟩ := see_goals i2
    obtain ⟨vars, e3, _⟩ := see_int (by rfl) i3
    simp only [List.cons.injEq, and_true] at e1 e2 e3
    obtain ⟨rfl, rfl, rfl, rfl⟩ := e1
    obtain rfl := e2; obtain rfl := e3
    exact ⟨t, hq, hc, gs, gp, gc, vars, rfl, ha.2.1, ha.1, hgs, gl, glc⟩

def mostF (E : List Spn) : Nat → Nat
  | 0 => E.length
  | k + 1 => liveF E (k : Int)

theorem PlanLives_law {w : World} {h : Tm} {vars : Int} {q gp : Option Addr} {c gc : Nat} {gs : List GoalT} (hs : h.s.size < 2 ^ 63) (hp : RdA w (List.range w.heap.size) h.l q 0) (hg : GoalsA w (List.range w.heap.size) gs gp) (hgl : gs.length < 2 ^ 63) :
    C_law15_PlanLives h.kind h.n h.s q h.l.length c gp gs.length gc vars w fun r w' => r = true ∧ Upd [] w w' := by
  apply C_law15_PlanLives.of
  unfold F_law15_PlanLives F_law15_PlanLives_k1
  have iF : In (List.range w.heap.size) w := fun k hk => by simpa using hk
  refine New_rule fun r w1 hr u1 b1 => ?_
  simp only [NN_some, addN, drw_cell, drw_heap, exS, exI, exB, exP, exM, exStr, exV, a0, a1, a2, a3, a4, a5, a6, a7, a8, a9, a10, a11, a12, a13, maxI_eq, Nat.zero_add, Nat.add_zero, Nat.mul_one, Option.isNone_some, Option.isNone_none, b1.cell]
  refine Large15_ok (iF.upd u1) hs (RdA.keep u1 hp) (hg.keep u1) (fun w2 u2 => ifT rfl (lives_ok fun w3 u3 => ⟨rfl, (u1.after u2).after u3⟩)) fun hz hl hgz w2 u2 => ifF rfl ?_
  have U2 := u1.after u2
  have b2 := b1.upd u2 (by simp)
  simp only [NN_some, addN, drw_cell, drw_heap, exS, exI, exB, exP, exM, exStr, exV, a0, a1, a2, a3, a4, a5, a6, a7, a8, a9, a10, a11, a12, a13, maxI_eq, Nat.zero_add, Nat.add_zero, Nat.mul_one, Option.isNone_some, Option.isNone_none, b2.cell]
  refine Of_ok (iF.upd U2) (RdA.keep U2 hp) hz (hg.keep U2) hgz hl (fun hm w3 u3 => ?_) (fun E hE h64 w3 u3 => ?_) fun hm w3 env pS cS GS pL cL GL E hE h64 hsS hsL henv u3 => ?_
  · refine New_rule fun r1 w4 hr1 u4 b4 => ?_
    try simp only [NN_some, addN, drw_cell, drw_heap, exS, exI, exB, exP, exM, exStr, exV, a0, a1, a2, a3, a4, a5, a6, a7, a8, a9, a10, a11, a12, a13, maxI_eq, Nat.zero_add, Nat.add_zero, Nat.mul_one, Option.isNone_some, Option.isNone_none]
    refine St4q b4 rfl rfl rfl rfl fun w5 u5 b5 => lives_ok fun w6 u6 => ifF rfl (ifT (by simpa using hm) (lives_ok fun w7 u7 => ⟨rfl, ?_⟩))
    have U5 : Upd [] w3 w5 := u4.fresh u5 (by intro k hk; simp at hk; omega)
    exact (((U2.after u3).after U5).after u6).after u7
  · refine New_rule fun r1 w4 hr1 u4 b4 => ?_
    try simp only [NN_some, addN, drw_cell, drw_heap, exS, exI, exB, exP, exM, exStr, exV, a0, a1, a2, a3, a4, a5, a6, a7, a8, a9, a10, a11, a12, a13, maxI_eq, Nat.zero_add, Nat.add_zero, Nat.mul_one, Option.isNone_some, Option.isNone_none]
    refine St4q b4 rfl rfl rfl rfl fun w5 u5 b5 => lives_ok fun w6 u6 => ifF rfl (ifT rfl (lives_ok fun w7 u7 => ⟨rfl, ?_⟩))
    have U5 : Upd [] w3 w5 := u4.fresh u5 (by intro k hk; simp at hk; omega)
    exact (((U2.after u3).after U5).after u6).after u7
  obtain ⟨gok, gk0, gkl⟩ := gath_ok (h.vars []) gs
  have gend := gath_end (h.vars []) gs
  obtain ⟨calls, hcalls⟩ : ∃ calls : Nat, calls = (gath (h.vars []) gs).2.toNat := ⟨_, rfl⟩
  have ecalls : (gath (h.vars []) gs).2 = (calls : Int) := by omega
  rw [← hcalls] at hsL ⊢
  rw [ecalls] at gkl gend
  refine New_rule fun r1 w4 hr1 u4 b4 => ?_
  try simp only [NN_some, addN, drw_cell, drw_heap, exS, exI, exB, exP, exM, exStr, exV, a0, a1, a2, a3, a4, a5, a6, a7, a8, a9, a10, a11, a12, a13, maxI_eq, Nat.zero_add, Nat.add_zero, Nat.mul_one, Option.isNone_some, Option.isNone_none]
  refine St4q b4 rfl rfl rfl rfl fun w5 u5 b5 => lives_ok fun w6 u6 => ifF rfl (ifF rfl ?_)
  have U5 : Upd [] w3 w5 := u4.fresh u5 (by intro k hk; simp at hk; omega)
  have U6 := ((U2.after u3).after U5).after u6
  have b6 := b5.upd u6 (by simp)
  have hL6 := (hsL.upd U5 (by intro k _ h; cases h)).upd u6 (by intro k _ h; cases h)
  simp only [NN_some, addN, drw_cell, drw_heap, exS, exI, exB, exP, exM, exStr, exV, a0, a1, a2, a3, a4, a5, a6, a7, a8, a9, a10, a11, a12, a13, maxI_eq, Nat.zero_add, Nat.add_zero, Nat.mul_one, Option.isNone_some, Option.isNone_none, b6.cell]
  unfold F_law15_PlanLives_L1
  refine ⟨fun s z => ∃ k : Nat, s.i = k ∧ k ≤ calls ∧ s.mostx = (mostF E k : Nat) ∧ Upd [] w6 z, fun s _ => (calls - s.i).toNat, ⟨0, rfl, by omega, rfl, Upd.refl _ _⟩, ?_⟩
  rintro ⟨sm, si⟩ z ⟨k, e0, hk, e1, uz⟩
  dsimp only at e0 e1
  subst e0
  subst e1
  unfold B_law15_PlanLives_L1
  have bz := b6.upd uz (by simp)
  simp only [NN_some, addN, drw_cell, drw_heap, exS, exI, exB, exP, exM, exStr, exV, a0, a1, a2, a3, a4, a5, a6, a7, a8, a9, a10, a11, a12, a13, maxI_eq, Nat.zero_add, Nat.add_zero, Nat.mul_one, Option.isNone_some, Option.isNone_none, bz.cell]
  refine ifC (fun g => ?_) (fun g => ?_)
  · have gk : k < calls := by have := of_decide_eq_true g; omega
    obtain ⟨x, hx, hc⟩ := (hL6.upd uz (by intro k _ h; cases h)).rd.at (i := k) (by omega)
    have hc : z.cell? (x.add k) = some (.int .i64 (liveF E (k : Int) : Nat)) := by
      rw [hc]
      unfold liveR
      rw [List.getElem?_map, List.getElem?_range gk]; rfl
    subst hx
    have hs0 : (0 : Int) ≤ (k : Int) := by omega
    have hs1 : (k : Int) < (calls : Int) := by omega
    refine ⟨hs0, hs1, ?_⟩
    simp only [NN_some, addN, drw_cell, drw_heap, exS, exI, exB, exP, exM, exStr, exV, a0, a1, a2, a3, a4, a5, a6, a7, a8, a9, a10, a11, a12, a13, maxI_eq, Nat.zero_add, Nat.add_zero, Nat.mul_one, Option.isNone_some, Option.isNone_none, Int.toNat_natCast, hc]
    refine ifF (by simp) ⟨hs0, hs1, ?_⟩
    try simp only [NN_some, addN, drw_cell, drw_heap, exS, exI, exB, exP, exM, exStr, exV, a0, a1, a2, a3, a4, a5, a6, a7, a8, a9, a10, a11, a12, a13, maxI_eq, Nat.zero_add, Nat.add_zero, Nat.mul_one, Option.isNone_some, Option.isNone_none, Int.toNat_natCast, hc]
    have hmono : liveF E (k : Int) ≤ mostF E k := by
      cases k with
      | zero => exact live_len E _
      | succ k => exact live_mono (by push_cast; omega)
    refine ifF (by simp; omega) ⟨hs0, hs1, ?_⟩
    try simp only [NN_some, addN, drw_cell, drw_heap, exS, exI, exB, exP, exM, exStr, exV, a0, a1, a2, a3, a4, a5, a6, a7, a8, a9, a10, a11, a12, a13, maxI_eq, Nat.zero_add, Nat.add_zero, Nat.mul_one, Option.isNone_some, Option.isNone_none, Int.toNat_natCast, hc]
    rw [i64id (by omega) (by omega)]
    exact ⟨⟨k + 1, by simp, by omega, rfl, uz⟩, by show ((calls : Int) - ((k : Int) + 1)).toNat < ((calls : Int) - (k : Int)).toNat; omega⟩
  · have gk : k = calls := by have := of_decide_eq_false g; omega
    subst gk
    have UZ := U6.after uz
    try simp only [NN_some, addN, drw_cell, drw_heap, exS, exI, exB, exP, exM, exStr, exV, a0, a1, a2, a3, a4, a5, a6, a7, a8, a9, a10, a11, a12, a13, maxI_eq, Nat.zero_add, Nat.add_zero, Nat.mul_one, Option.isNone_some, Option.isNone_none, bz.cell]
    refine ifC (fun _ => ⟨trivial, UZ⟩) (fun g0 => ?_)
    have g0 : k ≠ 0 := by simpa using g0
    obtain ⟨j, rfl⟩ : ∃ j, k = j + 1 := ⟨k - 1, by omega⟩
    have hl := last_live gok.nodup gend (by omega) hE
    rw [show (((j + 1 : Nat) : Int) - 1) = (j : Int) by omega] at hl
    have em : mostF E (j + 1) = liveF E (j : Int) := rfl
    rw [em]
    rcases hl with e | ⟨e, e2⟩
    · rw [e]
      exact ifT rfl (ifT rfl ⟨trivial, UZ⟩)
    · rw [e]
      refine ifT rfl (ifF rfl ?_)
      try simp only [NN_some, addN, drw_cell, drw_heap, exS, exI, exB, exP, exM, exStr, exV, a0, a1, a2, a3, a4, a5, a6, a7, a8, a9, a10, a11, a12, a13, maxI_eq, Nat.zero_add, Nat.add_zero, Nat.mul_one, Option.isNone_some, Option.isNone_none, bz.cell]
      exact ⟨by rw [e2]; rfl, UZ⟩

end Go.Proofs.Ytdbkbaeeccemkaa
