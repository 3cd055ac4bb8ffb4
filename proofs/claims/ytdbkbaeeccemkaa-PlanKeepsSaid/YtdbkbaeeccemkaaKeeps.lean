/- Each variable that a later chunk needs is a slot. -/
import Derived.Test.YtdbkbaeeccemkaaLives
namespace Go.Proofs.Ytdbkbaeeccemkaa
open Go Go.D Go.Proofs
set_option linter.unusedSimpArgs false
set_option linter.unusedVariables false
set_option maxRecDepth 8000

section
variable {w : World} {F : List Nat} {gs : List GoalT} {gp : Option Addr}

theorem has_ok {L : List Int} {p : Option Addr} {c : Nat} {n : Int} {K : Bool → World → Prop} (hr : Rd w 1 p L.length (L.map (.int .i64))) (hl : L.length < 2 ^ 40) (hyes : n ∈ L → K true w) (hno : n ∉ L → K false w) : C_law15_has p L.length c n w K := by
  apply C_law15_has.of
  unfold F_law15_has F_law15_has_L1
  refine ⟨fun s z => z = w ∧ ∃ i : Nat, s.i = i ∧ i ≤ L.length ∧ (∀ j (hj : j < L.length), j < i → L[j] ≠ n), fun s _ => (L.length - s.i).toNat, ⟨rfl, 0, rfl, by omega, fun j hj h => absurd h (by omega)⟩, ?_⟩
  rintro ⟨si⟩ z ⟨rfl, i, rfl, hi, hf⟩
  unfold B_law15_has_L1
  refine ifC (fun g => ?_) (fun g => ?_)
  · have gi : i < L.length := by have := of_decide_eq_true g; dsimp only at this; omega
    obtain ⟨x, hx, hc⟩ := hr.at (i := i) (by omega)
    have hc : z.cell? (x.add i) = some (.int .i64 L[i]) := by rw [hc, List.getElem?_map, List.getElem?_eq_getElem gi]; rfl
    refine ⟨by show (0 : Int) ≤ (i : Int); omega, by show (i : Int) < _; omega, ?_⟩
    rw [hx]
    simp only [NN_some, addN, drw_cell, drw_heap, exS, exI, exB, exP, exM, exStr, exV, a0, a1, a2, a3, a4, a5, a6, a7, a8, a9, a10, a11, a12, a13, maxI_eq, Nat.zero_add, Nat.add_zero, Nat.mul_one, Option.isNone_some, Option.isNone_none, Int.toNat_natCast, hc]
    refine ifC (fun he => hyes ?_) (fun he => ?_)
    · have he : L[i] = n := by simpa using he
      rw [← he]; exact List.getElem_mem gi
    · have he : L[i] ≠ n := by simpa using he
      rw [i64id (by omega) (by omega)]
      refine ⟨⟨trivial, i + 1, by simp, by omega, fun j hj hlt => ?_⟩, by show ((L.length : Int) - ((i : Int) + 1)).toNat < ((L.length : Int) - (i : Int)).toNat; omega⟩
      by_cases e : j = i
      · subst e; exact he
      · exact hf j hj (by omega)
  · have gi : i = L.length := by have := of_decide_eq_false g; dsimp only at this; omega
    subst gi
    exact hno fun hn => by
      obtain ⟨j, hj, e⟩ := List.getElem_of_mem hn
      exact hf j hj hj e

theorem rChunk_ok {h : Tm} {vars : Int} {q : Option Addr} {c gc : Nat} {g : Nat} {K : Int → World → Prop} (hg : GoalsA w F gs gp) (hl : gs.length ≤ 80) (hgl : g ≤ gs.length)
    (hK : ∀ w', Upd [] w w' → K (cntG (gs.take g)) w') : C_ref15_Chunk h.kind h.n h.s q h.l.length c gp gs.length gc vars (g : Int) w K := by
  apply C_ref15_Chunk.of
  unfold F_ref15_Chunk F_ref15_Chunk_L1
  refine New_rule fun r w1 hr u1 b1 => ?_
  refine ⟨fun s z => z = w1 ∧ ∃ i : Nat, s.i = i ∧ i ≤ g ∧ s.n = cntG (gs.take i), fun s _ => (g - s.i).toNat, ⟨rfl, 0, rfl, by omega, by simp [cntG]⟩, ?_⟩
  rintro ⟨sn, si⟩ z ⟨rfl, i, e0, hi, e1⟩
  dsimp only at e0 e1
  subst e0
  subst e1
  unfold B_ref15_Chunk_L1
  refine ifC (fun ga => ?_) (fun ga => ?_)
  · have gi : i < g := by have := of_decide_eq_true ga; dsimp only at this; omega
    have gi' : i < gs.length := by omega
    obtain ⟨x, qg, cg, e, hx, hc', h1', h2'⟩ := hg.keep u1 i gi'
    have f0 := hc' 0 (by omega)
    simp only [List.getElem?_cons_zero, Nat.add_zero] at f0
    simp only [NN_some, addN, drw_cell, drw_heap, exS, exI, exB, exP, exM, exStr, exV, a0, a1, a2, a3, a4, a5, a6, a7, a8, a9, a10, a11, a12, a13, maxI_eq, Nat.zero_add, Nat.add_zero, Nat.mul_one, Option.isNone_some, Option.isNone_none, b1.cell]
    refine ⟨by show (0 : Int) ≤ (i : Int); omega, by show (i : Int) < _; omega, ?_⟩
    rw [e]
    simp only [NN_some, addN, drw_cell, drw_heap, exS, exI, exB, exP, exM, exStr, exV, a0, a1, a2, a3, a4, a5, a6, a7, a8, a9, a10, a11, a12, a13, maxI_eq, Nat.zero_add, Nat.add_zero, Nat.mul_one, Option.isNone_some, Option.isNone_none, addA, Int.toNat_natCast, f0]
    have ct := cnt_take gi'
    have hb : cntG (gs.take i) ≤ i := by
      unfold cntG
      have := List.length_filter_le (fun g : GoalT => g.1 != 2) (gs.take i)
      rw [List.length_take] at this
      omega
    have hb0 : 0 ≤ cntG (gs.take i) := by unfold cntG; omega
    unfold F_ref15_Chunk_k1
    refine ifC (fun gb => ?_) (fun gb => ?_)
    · have gb : gs[i].1 ≠ 2 := by simpa using gb
      rw [if_neg gb] at ct
      try dsimp only
      rw [i64id (x := cntG (gs.take i) + 1) (by omega) (by omega), i64id (by omega) (by omega)]
      exact ⟨⟨rfl, i + 1, by simp, by omega, ct.symm⟩, by show ((g : Int) - ((i : Int) + 1)).toNat < ((g : Int) - (i : Int)).toNat; omega⟩
    · have gb : gs[i].1 = 2 := by simpa using gb
      rw [if_pos gb] at ct
      try dsimp only
      rw [i64id (by omega) (by omega)]
      exact ⟨⟨rfl, i + 1, by simp, by omega, by show cntG (gs.take i) = _; omega⟩, by show ((g : Int) - ((i : Int) + 1)).toNat < ((g : Int) - (i : Int)).toNat; omega⟩
  · have gi : i = g := by have := of_decide_eq_false ga; dsimp only at this; omega
    subst gi
    exact hK z u1

/-- It stands ahead. -/
def AheadP (h : Tm) (gs : List GoalT) (g : Nat) (n : Int) : Prop := n ∈ h.vars [] ∨ ∃ (j : Nat) (hj : j < gs.length), gs[j].1 ≠ 2 ∧ cntG (gs.take j) < cntG (gs.take g) ∧ n ∈ gs[j].2.vars []

theorem ahead_ok {h : Tm} {vars : Int} {q : Option Addr} {c gc : Nat} {g : Nat} {n : Int} {K : Bool → World → Prop} (hF : In F w) (hp : RdA w F h.l q 0) (hz : h.size ≤ 6000) (hg : GoalsA w F gs gp) (hgz : ∀ g ∈ gs, g.2.size ≤ 6000) (hl : gs.length ≤ 80) (hgl : g < gs.length)
    (hno : ∀ w', Upd [] w w' → K false w') (hyes : AheadP h gs g n → ∀ w', Upd [] w w' → K true w') : C_law15_ahead h.kind h.n h.s q h.l.length c gp gs.length gc vars (g : Int) n w K := by
  apply C_law15_ahead.of
  unfold F_law15_ahead
  refine New_rule fun r w1 hr u1 b1 => ?_
  simp only [NN_some, addN, drw_cell, drw_heap, exS, exI, exB, exP, exM, exStr, exV, a0, a1, a2, a3, a4, a5, a6, a7, a8, a9, a10, a11, a12, a13, maxI_eq, Nat.zero_add, Nat.add_zero, Nat.mul_one, Option.isNone_some, Option.isNone_none, b1.cell]
  have vl := vars_len h []
  have vl : (h.vars []).length ≤ h.size := by simpa using vl
  refine rVars_ok h (RdA.keep u1 hp) (hF.upd u1) (by omega) fun w2 p2 c2 G2 hs2 u2 sG2 => ?_
  have U2 := u1.after u2
  refine has_ok hs2.rd (by omega) (fun hin => ifT rfl (hyes (.inl hin) w2 U2)) (fun _ => ifF rfl ?_)
  have b2 := b1.upd u2 (by simp)
  unfold F_law15_ahead_L1
  refine ⟨fun s z => ∃ i : Nat, s.gx = i ∧ i ≤ g ∧ Upd [] w2 z, fun s _ => (g - s.gx).toNat, ⟨0, rfl, by omega, Upd.refl _ _⟩, ?_⟩
  rintro ⟨si⟩ z ⟨i, rfl, hi, uz⟩
  unfold B_law15_ahead_L1
  have Uz := U2.after uz
  refine ifC (fun ga => ?_) (fun ga => hno z Uz)
  have gi : i < g := by have := of_decide_eq_true ga; dsimp only at this; omega
  have gi' : i < gs.length := by omega
  have bz := b2.upd uz (by simp)
  have ud := drw_upd z
  have Ud := Uz.after ud
  have bd := bz.upd ud (by simp)
  obtain ⟨x, qg, cg, e, hx, hc', h1', h2'⟩ := hg.keep Uz i gi'
  have cs : ∀ {z' : World}, Upd [] z z' → ∀ j, j < 5 → z'.cell? (x.add (i * 5 + j)) = (Value.int .i64 gs[i].1 :: tmC (gs[i].2, qg, cg))[j]? := fun {z'} u j hj => by
    obtain ⟨v, hv⟩ : ∃ v, z.cell? (x.add (i * 5 + j)) = some v := ⟨_, (hc' j hj).trans (List.getElem?_eq_getElem (by simpa [tmC] using hj))⟩
    rw [← hc' j hj, hv]
    exact u.cell hv (by simp)
  have f0 := cs (Upd.refl _ z) 0 (by omega)
  simp only [List.getElem?_cons_zero, Nat.add_zero] at f0
  have hs0 : (0 : Int) ≤ (i : Int) := by omega
  have hs1 : (i : Int) < (gs.length : Int) := by omega
  simp only [NN_some, addN, drw_cell, drw_heap, exS, exI, exB, exP, exM, exStr, exV, a0, a1, a2, a3, a4, a5, a6, a7, a8, a9, a10, a11, a12, a13, maxI_eq, Nat.zero_add, Nat.add_zero, Nat.mul_one, Option.isNone_some, Option.isNone_none, bz.cell]
  refine ⟨hs0, hs1, ?_⟩
  subst e
  simp only [NN_some, addN, drw_cell, drw_heap, exS, exI, exB, exP, exM, exStr, exV, a0, a1, a2, a3, a4, a5, a6, a7, a8, a9, a10, a11, a12, a13, maxI_eq, Nat.zero_add, Nat.add_zero, Nat.mul_one, Option.isNone_some, Option.isNone_none, addA, Int.toNat_natCast, f0]
  have next : ∀ {z' : World}, Upd [] w2 z' → F_law15_ahead_k2 ⟨(i : Int)⟩ (fun s w' => (∃ i : Nat, s.gx = i ∧ i ≤ g ∧ Upd [] w2 w') ∧ ((g : Int) - s.gx).toNat < ((g : Int) - (i : Int)).toNat) z' := fun {z'} u => by
    unfold F_law15_ahead_k2
    try dsimp only
    rw [i64id (by omega) (by omega)]
    exact ⟨⟨i + 1, by simp, by omega, u⟩, by show ((g : Int) - ((i : Int) + 1)).toNat < ((g : Int) - (i : Int)).toNat; omega⟩
  unfold F_law15_ahead_k1
  refine ifC (fun gb => ?_) (fun gb => next (uz.after ud))
  have gb : gs[i].1 ≠ 2 := by simpa using gb
  try simp only [NN_some, addN, drw_cell, drw_heap, exS, exI, exB, exP, exM, exStr, exV, a0, a1, a2, a3, a4, a5, a6, a7, a8, a9, a10, a11, a12, a13, maxI_eq, Nat.zero_add, Nat.add_zero, Nat.mul_one, Option.isNone_some, Option.isNone_none, bz.cell]
  refine rChunk_ok (hg.keep Ud) hl (by omega) fun z1 y1 => ⟨fun j hj => ?_, ?_⟩
  · have e1 := (bd.upd y1 (by simp)).cell j
    have e2 := bz.cell j
    first
      | exact e1
      | (simp only [NN_some, addN, drw_cell, drw_heap, exS, exI, exB, exP, exM, exStr, exV, a0, a1, a2, a3, a4, a5, a6, a7, a8, a9, a10, a11, a12, a13, maxI_eq, Nat.zero_add, Nat.add_zero, Nat.mul_one, Option.isNone_some, Option.isNone_none]; rw [e1, e2])
      | (rw [e1, e2])
  refine rChunk_ok ((hg.keep Ud).keep y1) hl (by omega) fun z2 y2 => ?_
  have Y2 := (ud.after y1).after y2
  have b22 := bz.upd Y2 (by simp)
  refine ifC (fun gd => ?_) (fun gd => next (uz.after Y2))
  have gd := of_decide_eq_true gd
  have f1 := cs Y2 1 (by omega); have f2 := cs Y2 2 (by omega); have f3 := cs Y2 3 (by omega); have f4 := cs Y2 4 (by omega)
  simp only [tmC, List.getElem?_cons_succ, List.getElem?_cons_zero, Nat.add_zero] at f1 f2 f3 f4
  simp only [NN_some, addN, drw_cell, drw_heap, exS, exI, exB, exP, exM, exStr, exV, a0, a1, a2, a3, a4, a5, a6, a7, a8, a9, a10, a11, a12, a13, maxI_eq, Nat.zero_add, Nat.add_zero, Nat.mul_one, Option.isNone_some, Option.isNone_none, b22.cell]
  refine ⟨hs0, hs1, ?_⟩
  simp only [NN_some, addN, drw_cell, drw_heap, exS, exI, exB, exP, exM, exStr, exV, a0, a1, a2, a3, a4, a5, a6, a7, a8, a9, a10, a11, a12, a13, maxI_eq, Nat.zero_add, Nat.add_zero, Nat.mul_one, Option.isNone_some, Option.isNone_none, addA, Int.toNat_natCast, f1, f2, f3, f4]
  have hzi := hgz _ (List.getElem_mem gi')
  have vli := vars_len gs[i].2 []
  have vli : (gs[i].2.vars []).length ≤ gs[i].2.size := by simpa using vli
  refine rVars_ok gs[i].2 (RdA.keep Y2 h2') ((hF.upd Uz).upd Y2) (by omega) fun z3 p3 c3 G3 hs3 y3 sG3 => ?_
  refine has_ok hs3.rd (by omega) (fun hin => ifT rfl (hyes (.inr ⟨i, gi', gb, gd, hin⟩) z3 ((Uz.after Y2).after y3))) (fun _ => ifF rfl (next ((uz.after Y2).after y3)))
end

theorem PlanKeeps_law {w : World} {h : Tm} {vars : Int} {q gp : Option Addr} {c gc : Nat} {gs : List GoalT} (hs : h.s.size < 2 ^ 63) (hp : RdA w (List.range w.heap.size) h.l q 0) (hg : GoalsA w (List.range w.heap.size) gs gp) (hgl : gs.length < 2 ^ 63) (hgc : gs.length ≤ gc) :
    C_law15_PlanKeeps h.kind h.n h.s q h.l.length c gp gs.length gc vars w fun r w' => r = true ∧ Upd [] w w' := by
  apply C_law15_PlanKeeps.of
  unfold F_law15_PlanKeeps
  have iF : In (List.range w.heap.size) w := fun k hk => by simpa using hk
  refine New_rule fun r w1 hr u1 b1 => ?_
  simp only [NN_some, addN, drw_cell, drw_heap, exS, exI, exB, exP, exM, exStr, exV, a0, a1, a2, a3, a4, a5, a6, a7, a8, a9, a10, a11, a12, a13, maxI_eq, Nat.zero_add, Nat.add_zero, Nat.mul_one, Option.isNone_some, Option.isNone_none, b1.cell]
  refine Large15_ok (iF.upd u1) hs (RdA.keep u1 hp) (hg.keep u1) (fun w2 u2 => ifT rfl (lives_ok fun w3 u3 => ⟨rfl, (u1.after u2).after u3⟩)) fun hz hl hgz w2 u2 => ifF rfl ?_
  have U2 := u1.after u2
  have b2 := b1.upd u2 (by simp)
  simp only [NN_some, addN, drw_cell, drw_heap, exS, exI, exB, exP, exM, exStr, exV, a0, a1, a2, a3, a4, a5, a6, a7, a8, a9, a10, a11, a12, a13, maxI_eq, Nat.zero_add, Nat.add_zero, Nat.mul_one, Option.isNone_some, Option.isNone_none, b2.cell]
  refine Of_ok (iF.upd U2) (RdA.keep U2 hp) hz (hg.keep U2) hgz hl (fun hm w3 u3 => ?_) (fun E hE h64 w3 u3 => ?_) fun hm w3 env pS cS GS pL cL GL E hE h64 hsS hsL henv u3 => ?_
  · refine New_rule fun r1 w4 hr1 u4 b4 => ?_
    try simp only [NN_some, addN, drw_cell, drw_heap, exS, exI, exB, exP, exM, exStr, exV, a0, a1, a2, a3, a4, a5, a6, a7, a8, a9, a10, a11, a12, a13, maxI_eq, Nat.zero_add, Nat.add_zero, Nat.mul_one, Option.isNone_some, Option.isNone_none]
    refine St4q b4 rfl rfl rfl rfl fun w5 u5 b5 => lives_ok fun w6 u6 => ifF rfl (ifT (by simpa using hm) (lives_ok fun w7 u7 => ⟨rfl, ?_⟩))
    have U5 : Upd [] w3 w5 := u4.fresh u5 (by intro k hk; simp at hk; omega)
    exact (((U2.after u3).after U5).after u6).after u7
  · refine New_rule fun r1 w4 hr1 u4 b4 => ?_
    try simp only [NN_some, addN, drw_cell, drw_heap, exS, exI, exB, exP, exM, exStr, exV, a0, a1, a2, a3, a4, a5, a6, a7, a8, a9, a10, a11, a12, a13, maxI_eq, Nat.zero_add, Nat.add_zero, Nat.mul_one, Option.isNone_some, Option.isNone_none]
    refine St4q b4 rfl rfl rfl rfl fun w5 u5 b5 => lives_ok fun w6 u6 => ifF rfl (ifT rfl (lives_ok fun w7 u7 => ⟨rfl, ?_⟩))
    have U5 : Upd [] w3 w5 := u4.fresh u5 (by intro k hk; simp at hk; omega)
    exact (((U2.after u3).after U5).after u6).after u7
  refine New_rule fun r1 w4 hr1 u4 b4 => ?_
  try simp only [NN_some, addN, drw_cell, drw_heap, exS, exI, exB, exP, exM, exStr, exV, a0, a1, a2, a3, a4, a5, a6, a7, a8, a9, a10, a11, a12, a13, maxI_eq, Nat.zero_add, Nat.add_zero, Nat.mul_one, Option.isNone_some, Option.isNone_none]
  refine St4q b4 rfl rfl rfl rfl fun w5 u5 b5 => lives_ok fun w6 u6 => ifF rfl (ifF rfl ?_)
  have U5 : Upd [] w3 w5 := u4.fresh u5 (by intro k hk; simp at hk; omega)
  have U35 := U5.after u6
  have U6 := (U2.after u3).after U35
  have bp6 := b5.upd u6 (by simp)
  have bc6 := (b2.upd u3 (by simp)).upd U35 (by simp)
  have hS6 := hsS.upd U35 (by intro k _ h; cases h)
  have hS6' : SlAt w6 1 pS (E.map (·.1)).length cS ((E.map (·.1)).map (.int .i64)) GS := by rw [List.length_map, List.map_map]; exact hS6
  simp only [NN_some, addN, drw_cell, drw_heap, exS, exI, exB, exP, exM, exStr, exV, a0, a1, a2, a3, a4, a5, a6, a7, a8, a9, a10, a11, a12, a13, maxI_eq, Nat.zero_add, Nat.add_zero, Nat.mul_one, Option.isNone_some, Option.isNone_none, bc6.cell]
  have vl := vars_len h []
  have vl : (h.vars []).length ≤ h.size := by simpa using vl
  refine rVars_ok h (RdA.keep U6 hp) (iF.upd U6) (by omega) fun w7 p7 c7 G7 hs7 u7 sG7 => ?_
  have U7 := U6.after u7
  have bp7 := bp6.upd u7 (by simp)
  have bc7 := bc6.upd u7 (by simp)
  have hS7 := hS6'.upd u7 (by intro k _ h; cases h)
  have s7 := u7.size
  unfold F_law15_PlanKeeps_L1
  refine ⟨fun s z => ∃ (g : Nat) (met : List Int) (G : List Nat), s.gx = g ∧ g ≤ gs.length ∧ s.metN = met.length ∧ met.length ≤ 6000 + g * 6000 ∧ SlAt z 1 s.metP met.length s.metC (met.map (.int .i64)) G ∧ Since G w6 ∧ Upd [] w6 z, fun s _ => (gs.length - s.gx).toNat,
    ⟨0, h.vars [], G7, rfl, by omega, rfl, by omega, hs7, sG7, u7⟩, ?_⟩
  rintro ⟨mp, mn, mc, sg⟩ z ⟨g, met, G, e0, hgi, e1, hml, hsM, sG, uz⟩
  dsimp only at e0 e1 hsM
  subst e0
  subst e1
  unfold B_law15_PlanKeeps_L1
  have bpz := bp6.upd uz (by simp)
  have bcz := bc6.upd uz (by simp)
  have Uz := U6.after uz
  simp only [NN_some, addN, drw_cell, drw_heap, exS, exI, exB, exP, exM, exStr, exV, a0, a1, a2, a3, a4, a5, a6, a7, a8, a9, a10, a11, a12, a13, maxI_eq, Nat.zero_add, Nat.add_zero, Nat.mul_one, Option.isNone_some, Option.isNone_none, bcz.cell]
  refine ifC (fun ga => ?_) (fun ga => ⟨trivial, Uz⟩)
  have gi : g < gs.length := by have := of_decide_eq_true ga; omega
  have hs0 : (0 : Int) ≤ (g : Int) := by omega
  have hs1 : (g : Int) < (gs.length : Int) := by omega
  obtain ⟨x, qg, cg, e, hx, hc', h1', h2'⟩ := hg.keep Uz g gi
  have f0 := hc' 0 (by omega); have f1 := hc' 1 (by omega); have f2 := hc' 2 (by omega); have f3 := hc' 3 (by omega); have f4 := hc' 4 (by omega)
  simp only [tmC, List.getElem?_cons_succ, List.getElem?_cons_zero, Nat.add_zero] at f0 f1 f2 f3 f4
  refine ⟨hs0, hs1, ?_⟩
  subst e
  simp only [NN_some, addN, drw_cell, drw_heap, exS, exI, exB, exP, exM, exStr, exV, a0, a1, a2, a3, a4, a5, a6, a7, a8, a9, a10, a11, a12, a13, maxI_eq, Nat.zero_add, Nat.add_zero, Nat.mul_one, Option.isNone_some, Option.isNone_none, addA, Int.toNat_natCast, f0]
  refine ifC (fun gb => ?_) (fun gb => ?_)
  · unfold F_law15_PlanKeeps_k3
    try dsimp only
    rw [i64id (by omega) (by omega)]
    exact ⟨⟨g + 1, met, G, by simp, gi, rfl, Nat.le_trans hml (Nat.add_le_add_left (Nat.mul_le_mul_right _ (Nat.le_succ g)) _), hsM, sG, uz⟩, by show ((gs.length : Int) - ((g : Int) + 1)).toNat < ((gs.length : Int) - (g : Int)).toNat; omega⟩
  have gb : gs[g].1 ≠ 2 := by simpa using gb
  try simp only [NN_some, addN, drw_cell, drw_heap, exS, exI, exB, exP, exM, exStr, exV, a0, a1, a2, a3, a4, a5, a6, a7, a8, a9, a10, a11, a12, a13, maxI_eq, Nat.zero_add, Nat.add_zero, Nat.mul_one, Option.isNone_some, Option.isNone_none, bcz.cell]
  refine ⟨hs0, hs1, ?_⟩
  simp only [NN_some, addN, drw_cell, drw_heap, exS, exI, exB, exP, exM, exStr, exV, a0, a1, a2, a3, a4, a5, a6, a7, a8, a9, a10, a11, a12, a13, maxI_eq, Nat.zero_add, Nat.add_zero, Nat.mul_one, Option.isNone_some, Option.isNone_none, addA, Int.toNat_natCast, f1, f2, f3, f4]
  have hzi := hgz _ (List.getElem_mem gi)
  have vli := vars_len gs[g].2 []
  have vli : (gs[g].2.vars []).length ≤ gs[g].2.size := by simpa using vli
  refine rVars_ok gs[g].2 h2' (iF.upd Uz) (Nat.lt_of_le_of_lt hzi (by decide)) fun z1 p1 c1 G1 hs1v y1 sG1 => ?_
  have bc1 := bcz.upd y1 (by simp)
  have V1 := Uz.after y1
  simp only [NN_some, addN, drw_cell, drw_heap, exS, exI, exB, exP, exM, exStr, exV, a0, a1, a2, a3, a4, a5, a6, a7, a8, a9, a10, a11, a12, a13, maxI_eq, Nat.zero_add, Nat.add_zero, Nat.mul_one, Option.isNone_some, Option.isNone_none, bc1.cell]
  refine Chunk_ok (iF.upd V1) (RdA.keep V1 hp) hz (hg.keep V1) hgz hl hgc hm (fun w' hn _ => absurd ⟨hs0, hs1⟩ hn) fun z2 _ _ y2 => ?_
  rw [Int.toNat_natCast, gath_cnt]
  obtain ⟨k, hk⟩ : ∃ k, k = cntG (gs.take g) := ⟨_, rfl⟩
  rw [← hk]
  have Y2 := y1.after y2
  have hM2 := hsM.upd Y2 (by intro k _ h; cases h)
  have hV2 := hs1v.upd y2 (by intro k _ h; cases h)
  have bc2 := bc1.upd y2 (by simp)
  have bp2 := bpz.upd Y2 (by simp)
  have hSz := (hS6'.upd uz (by intro k _ h; cases h)).upd Y2 (by intro k _ h; cases h)
  have V2 := V1.after y2
  unfold F_law15_PlanKeeps_L2
  refine ⟨fun s z' => ∃ i : Nat, s.i = i ∧ i ≤ (gs[g].2.vars []).length ∧ Upd [] z2 z', fun s _ => ((gs[g].2.vars []).length - s.i).toNat, ⟨0, rfl, by omega, Upd.refl _ _⟩, ?_⟩
  rintro ⟨si⟩ y ⟨i, rfl, hi, uy⟩
  unfold B_law15_PlanKeeps_L2
  refine ifC (fun gc1 => ?_) (fun gc1 => ?_)
  · have gvi : i < (gs[g].2.vars []).length := by have := of_decide_eq_true gc1; dsimp only at this; omega
    have next : ∀ {z' : World}, Upd [] z2 z' → F_law15_PlanKeeps_k2 ⟨(i : Int)⟩ (fun s w' => (∃ i : Nat, s.i = i ∧ i ≤ (gs[g].2.vars []).length ∧ Upd [] z2 w') ∧ (((gs[g].2.vars []).length : Int) - s.i).toNat < (((gs[g].2.vars []).length : Int) - (i : Int)).toNat) z' := fun {z'} u => by
      unfold F_law15_PlanKeeps_k2
      try dsimp only
      rw [i64id (by omega) (by omega)]
      exact ⟨⟨i + 1, by simp, by omega, u⟩, by show (((gs[g].2.vars []).length : Int) - ((i : Int) + 1)).toNat < (((gs[g].2.vars []).length : Int) - (i : Int)).toNat; omega⟩
    have ud := drw_upd y
    have hi0 : (0 : Int) ≤ (i : Int) := by omega
    have hi1 : (i : Int) < ((gs[g].2.vars []).length : Int) := by omega
    unfold F_law15_PlanKeeps_k1
    refine ifC (fun gk => ?_) (fun gk => next (uy.after ud))
    have gk : 0 < k := by have := of_decide_eq_true gk; omega
    obtain ⟨v, hv, hcv⟩ := (hV2.upd uy (by intro k _ h; cases h)).rd.at (i := i) (by omega)
    have hcv : y.cell? (v.add i) = some (.int .i64 (gs[g].2.vars [])[i]) := by rw [hcv, List.getElem?_map, List.getElem?_eq_getElem gvi]; rfl
    subst hv
    refine ⟨hi0, hi1, ?_⟩
    simp only [NN_some, addN, drw_cell, drw_heap, exS, exI, exB, exP, exM, exStr, exV, a0, a1, a2, a3, a4, a5, a6, a7, a8, a9, a10, a11, a12, a13, maxI_eq, Nat.zero_add, Nat.add_zero, Nat.mul_one, Option.isNone_some, Option.isNone_none, Int.toNat_natCast, hcv]
    have UD := uy.after ud
    refine has_ok ((hM2.upd UD (by intro k _ h; cases h))).rd (by omega) (fun _ => ifT rfl ?_) (fun _ => ifF rfl (next UD))
    have bpd := (bp2.upd uy (by simp)).upd ud (by simp)
    have bpy := bp2.upd uy (by simp)
    simp only [NN_some, addN, drw_cell, drw_heap, exS, exI, exB, exP, exM, exStr, exV, a0, a1, a2, a3, a4, a5, a6, a7, a8, a9, a10, a11, a12, a13, maxI_eq, Nat.zero_add, Nat.add_zero, Nat.mul_one, Option.isNone_some, Option.isNone_none, bpy.cell]
    refine ⟨hi0, hi1, ?_⟩
    simp only [NN_some, addN, drw_cell, drw_heap, exS, exI, exB, exP, exM, exStr, exV, a0, a1, a2, a3, a4, a5, a6, a7, a8, a9, a10, a11, a12, a13, maxI_eq, Nat.zero_add, Nat.add_zero, Nat.mul_one, Option.isNone_some, Option.isNone_none, Int.toNat_natCast, hcv]
    have hSd := hSz.upd UD (by intro k _ h; cases h)
    have hEl : (E.map (·.1)).length = E.length := List.length_map ..
    rw [← hEl]
    refine has_ok hSd.rd (by rw [hEl]; omega) (fun _ => ifF rfl (next UD)) (fun hnot => ifT rfl ?_)
    have bcy := bc2.upd uy (by simp)
    simp only [NN_some, addN, drw_cell, drw_heap, exS, exI, exB, exP, exM, exStr, exV, a0, a1, a2, a3, a4, a5, a6, a7, a8, a9, a10, a11, a12, a13, maxI_eq, Nat.zero_add, Nat.add_zero, Nat.mul_one, Option.isNone_some, Option.isNone_none, bcy.cell]
    refine ⟨hi0, hi1, ?_⟩
    simp only [NN_some, addN, drw_cell, drw_heap, exS, exI, exB, exP, exM, exStr, exV, a0, a1, a2, a3, a4, a5, a6, a7, a8, a9, a10, a11, a12, a13, maxI_eq, Nat.zero_add, Nat.add_zero, Nat.mul_one, Option.isNone_some, Option.isNone_none, Int.toNat_natCast, hcv]
    have udd := drw_upd (drw y)
    have UDD := UD.after udd
    have VD := V2.after UDD
    refine ahead_ok (iF.upd VD) (RdA.keep VD hp) hz (hg.keep VD) hgz hl gi (fun z3 y3 => ifF rfl (next (UDD.after y3))) fun ha => ?_
    exfalso
    refine hnot (kept hE gi gb (List.getElem_mem gvi) (by rw [← hk]; exact gk) ?_)
    exact ha
  · have gvi : i = (gs[g].2.vars []).length := by have := of_decide_eq_false gc1; dsimp only at this; omega
    have YY := Y2.after uy
    refine App_rule (hE := eS_30) (hM2.upd uy (by intro k _ h; cases h)) (hV2.upd uy (by intro k _ h; cases h)) (fun v hv => by obtain ⟨x, _, rfl⟩ := List.mem_map.1 hv; rfl) (by omega) fun p8 c8 G8 y8 hs8 u8 g8 => ?_
    unfold F_law15_PlanKeeps_k3
    try dsimp only
    rw [i64id (by omega) (by omega)]
    have zs := uz.size
    have yys := YY.size
    refine ⟨⟨g + 1, met ++ gs[g].2.vars [], G8, by simp, by omega, by rw [List.length_append], by rw [List.length_append]; omega, ?_, fun k hk => ?_, (uz.after YY).fresh u8 sG⟩, by show ((gs.length : Int) - ((g : Int) + 1)).toNat < ((gs.length : Int) - (g : Int)).toNat; omega⟩
    · rw [List.length_append, List.map_append]; exact hs8
    · rcases g8 k hk with g' | g'
      · exact sG k g'
      · omega

end Go.Proofs.Ytdbkbaeeccemkaa
