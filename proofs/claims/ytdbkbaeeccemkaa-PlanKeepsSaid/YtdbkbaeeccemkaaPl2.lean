/- Goals that came in; clauses that are not too large. -/
import Derived.Test.YtdbkbaeeccemkaaSp3
import Derived.Test.YtdbkbaeeccemkaaTm9
import Derived.Test.YtdbkbaeeccemkaaOwn12
namespace Go.Proofs.Ytdbkbaeeccemkaa
open Go Go.D Go.Proofs
set_option linter.unusedSimpArgs false
set_option linter.unusedVariables false
set_option maxRecDepth 8000

/-- Goals in a row. -/
def GoalsA (w : World) (F : List Nat) (gs : List GoalT) (p : Option Addr) : Prop := ∀ i (hi : i < gs.length), ∃ x q c, p = some x ∧ x.block ∈ F ∧ (∀ j, j < 5 → w.cell? (x.add (i * 5 + j)) = (Value.int .i64 gs[i].1 :: tmC (gs[i].2, q, c))[j]?) ∧ gs[i].2.s.size < 2 ^ 63 ∧ RdA w F gs[i].2.l q 0
theorem GoalsA.upd {w w' : World} {F X : List Nat} {gs : List GoalT} {p : Option Addr} (h : GoalsA w F gs p) (u : Upd X w w') (hd : Dis F X) : GoalsA w' F gs p := fun i hi => by
  obtain ⟨x, q, c, e, hx, hc, h1, h2⟩ := h i hi
  refine ⟨x, q, c, e, hx, fun j hj => ?_, h1, RdA.upd' u hd h2⟩
  obtain ⟨v, hv⟩ : ∃ v, w.cell? (x.add (i * 5 + j)) = some v := ⟨_, (hc j hj).trans (List.getElem?_eq_getElem (by simpa [tmC] using hj))⟩
  rw [← hc j hj, hv]
  exact u.cell hv (by rw [add_block]; exact hd _ hx)
theorem GoalsA.keep {w w' : World} {F : List Nat} {gs : List GoalT} {p : Option Addr} (h : GoalsA w F gs p) (u : Upd [] w w') : GoalsA w' F gs p := h.upd u (by intro k _ h; cases h)
theorem GoalsA.sub {w : World} {F G : List Nat} {gs : List GoalT} {p : Option Addr} (h : GoalsA w F gs p) (hs : ∀ k ∈ F, k ∈ G) : GoalsA w G gs p := fun i hi => by
  obtain ⟨x, q, c, e, hx, hc, h1, h2⟩ := h i hi
  exact ⟨x, q, c, e, hs _ hx, hc, h1, RdA.sub hs _ h2⟩
theorem see_goals {w : World} {f : Nat} {cs : List Value} (h : Sees Try.prog w f 25 cs) : ∃ (l : List GoalT) (p : Option Addr) (c : Nat), cs = [.slice p l.length c] ∧ GoalsA w (List.range w.heap.size) l p ∧ l.length < 2 ^ 63 ∧ l.length ≤ c := by
  obtain ⟨p, m, c, cs', g', hg, e3, hmc, hcm, hrd, hrow⟩ := see_slice (by rfl) (sz := 5) (by kernel_rfl) h
  obtain ⟨l, hl, hp⟩ := pick (n := m) (p := fun i (o : GoalT) => ∃ (q : Option Addr) (c : Nat), (cs'.drop (i * 5)).take 5 = Value.int .i64 o.1 :: tmC (o.2, q, c) ∧ tmIn w o.2 q) fun i hi => by
    have hr := hrow i hi
    obtain ⟨g, rfl, hl, hf⟩ := see_struct (fs := _) (by rfl) (sz := 5) (by kernel_rfl) hr
    obtain ⟨cc, hcc⟩ : ∃ cc, cc = (cs'.drop (i * 5)).take 5 := ⟨_, rfl⟩
    rw [← hcc] at hl hf ⊢
    match cc, hl with
    | [c0, c1, c2, c3, c4], _ =>
      have h0 : Sees Try.prog w g 3 [c0] := hf 0 _ rfl
      obtain ⟨k, e0, k0⟩ := see_int (by rfl) h0
      simp only [List.cons.injEq, and_true] at e0
      obtain rfl := e0
      have h1 : Sees Try.prog w g 24 [c1, c2, c3, c4] := hf 1 _ rfl
      obtain ⟨t, qa, ca, ea, ha⟩ := see_tm g h1
      exact ⟨(k, t), qa, ca, by rw [ea]; rfl, ha⟩
  have hmax : maxLen < 2 ^ 63 := by decide
  refine ⟨l, p, c, by rw [hl]; exact e3, fun i hi => ?_, by omega, by omega⟩
  obtain ⟨q, c2, hq, ha⟩ := hp i hi
  obtain ⟨x, hx, hc⟩ := hrd.elem (i := i) (by omega)
  have hc : ∀ j, j < 5 → w.cell? (x.add (i * 5 + j)) = (Value.int .i64 l[i].1 :: tmC (l[i].2, q, c2))[j]? := fun j hj => by
    rw [hc j hj, ← hq, List.getElem?_take, if_pos hj, List.getElem?_drop]
  have c0 : w.cell? (x.add (i * 5 + 0)) = some (.int .i64 l[i].1) := hc 0 (by omega)
  have hbl := cell_block c0
  rw [add_block] at hbl
  exact ⟨x, q, c2, hx, by simpa using hbl, hc, ha.2.1, ha.1⟩

theorem Large15_ok {h : Tm} {gs : List GoalT} {vars : Int} {q gp : Option Addr} {c gc : Nat} {F : List Nat} {w : World} {K : Bool → World → Prop} (hF : In F w) (hs : h.s.size < 2 ^ 63) (hp : RdA w F h.l q 0) (hg : GoalsA w F gs gp)
    (hyes : ∀ w', Upd [] w w' → K true w') (hno : h.size ≤ 6000 → gs.length ≤ 80 → (∀ g ∈ gs, g.2.size ≤ 6000) → ∀ w', Upd [] w w' → K false w') : C_ref15_Large h.kind h.n h.s q h.l.length c gp gs.length gc vars w K := by
  apply C_ref15_Large.of
  unfold F_ref15_Large F_ref15_Large_L1
  refine New_rule fun r w1 hr u1 b1 => ?_
  have bc : ∀ j, w1.cell? ⟨r, j, none⟩ = _ := fun j => b1.cell j
  simp only [NN_some, addN, drw_cell, drw_heap, exS, exI, exB, exP, exM, exStr, exV, a0, a1, a2, a3, a4, a5, a6, a7, a8, a9, a10, a11, a12, a13, maxI_eq, Nat.zero_add, Nat.add_zero, Nat.mul_one, Option.isNone_some, Option.isNone_none, bc]
  have hF1 := hF.upd u1
  refine Large_ok h (RdA.keep u1 hp) hF1 hs fun w2 u2 => ?_
  have U2 := u1.after u2
  refine ifC (fun _ => hyes _ U2) (fun g1 => ?_)
  have hz := not_large g1
  have b2 := b1.upd u2 (by simp)
  have bc2 : ∀ j, w2.cell? ⟨r, j, none⟩ = _ := fun j => b2.cell j
  simp only [NN_some, addN, drw_cell, drw_heap, exS, exI, exB, exP, exM, exStr, exV, a0, a1, a2, a3, a4, a5, a6, a7, a8, a9, a10, a11, a12, a13, maxI_eq, Nat.zero_add, Nat.add_zero, Nat.mul_one, Option.isNone_some, Option.isNone_none, bc2]
  refine ifC (fun _ => hyes _ U2) (fun g2 => ?_)
  have hl : gs.length ≤ 80 := by have := of_decide_eq_false g2; omega
  refine rsize_ok h (RdA.keep U2 hp) (by omega) fun w3 u3 => ?_
  have U3 := U2.after u3
  have b3 := b2.upd u3 (by simp)
  refine ⟨fun s z => ∃ i : Nat, s.i = i ∧ i ≤ gs.length ∧ 0 ≤ s.n ∧ s.n ≤ 6000 + i * 6000 ∧ (∀ j (hj : j < gs.length), j < i → gs[j].2.size ≤ 6000) ∧ Upd [] w3 z, fun s _ => (gs.length - s.i).toNat, ⟨0, rfl, by omega, by show (0 : Int) ≤ (h.size : Int); omega, by show (h.size : Int) ≤ _; omega, fun j hj h0 => absurd h0 (by omega), Upd.refl _ _⟩, ?_⟩
  rintro ⟨sn, si⟩ z ⟨i, rfl, hi, n0, n1, hold, uz⟩
  dsimp only at n0 n1
  unfold B_ref15_Large_L1
  have bz := b3.upd uz (by simp)
  have Uz := U3.after uz
  refine ⟨_, _, _, by simp only [NN_some, addN, drw_cell, drw_heap, exS, exI, exB, exP, exM, exStr, exV, a0, a1, a2, a3, a4, a5, a6, a7, a8, a9, a10, a11, a12, a13, maxI_eq, Nat.zero_add, Nat.add_zero, Nat.mul_one, Option.isNone_some, Option.isNone_none]; exact bz.cell 4, ?_⟩
  refine ifC (fun g => ?_) (fun g => ?_)
  · have gi : i < gs.length := by have := of_decide_eq_true g; dsimp only at this; omega
    obtain ⟨x, qg, cg, e, hx, hc', h1', h2'⟩ := hg.keep Uz i gi
    have cs : ∀ {z' : World}, Upd [] z z' → ∀ j, j < 5 → z'.cell? (x.add (i * 5 + j)) = (Value.int .i64 gs[i].1 :: tmC (gs[i].2, qg, cg))[j]? := fun {z'} u j hj => by
      obtain ⟨v, hv⟩ : ∃ v, z.cell? (x.add (i * 5 + j)) = some v := ⟨_, (hc' j hj).trans (List.getElem?_eq_getElem (by simpa [tmC] using hj))⟩
      rw [← hc' j hj, hv]
      exact u.cell hv (by simp)
    have fin : ∀ {z' : World}, Upd [] z z' → z'.cell? (x.add (i * 5 + 1)) = some (.int .i64 gs[i].2.kind) ∧ z'.cell? (x.add (i * 5 + 2)) = some (.int .i64 gs[i].2.n) ∧ z'.cell? (x.add (i * 5 + 3)) = some (.string gs[i].2.s) ∧ z'.cell? (x.add (i * 5 + 4)) = some (.slice qg gs[i].2.l.length cg) := fun u => ⟨cs u 1 (by omega), cs u 2 (by omega), cs u 3 (by omega), cs u 4 (by omega)⟩
    obtain ⟨f1, f2, f3, f4⟩ := fin (Upd.refl _ z)
    have hs0 : (0 : Int) ≤ (i : Int) := by omega
    have hs1 : (i : Int) < (gs.length : Int) := by omega
    refine ⟨_, _, _, by simp only [NN_some, addN, drw_cell, drw_heap, exS, exI, exB, exP, exM, exStr, exV, a0, a1, a2, a3, a4, a5, a6, a7, a8, a9, a10, a11, a12, a13, maxI_eq, Nat.zero_add, Nat.add_zero, Nat.mul_one, Option.isNone_some, Option.isNone_none]; exact bz.cell 4, hs0, hs1, ?_⟩
    rw [e]
    simp only [NN_some, addN, drw_cell, drw_heap, exS, exI, exB, exP, exM, exStr, exV, a0, a1, a2, a3, a4, a5, a6, a7, a8, a9, a10, a11, a12, a13, maxI_eq, Nat.zero_add, Nat.add_zero, Nat.mul_one, Option.isNone_some, Option.isNone_none, addA, Int.toNat_natCast, f1, f2, f3, f4]
    refine Large_ok gs[i].2 h2' (hF.upd Uz) h1' fun z1 v1 => ?_
    refine ifC (fun _ => hyes _ (Uz.after v1)) (fun g3 => ?_)
    have hzi := not_large g3
    have bz1 := bz.upd v1 (by simp)
    obtain ⟨f1, f2, f3, f4⟩ := fin v1
    refine ⟨_, _, _, bz1.cell 4, hs0, hs1, ?_⟩
    rw [e]
    simp only [NN_some, addN, drw_cell, drw_heap, exS, exI, exB, exP, exM, exStr, exV, a0, a1, a2, a3, a4, a5, a6, a7, a8, a9, a10, a11, a12, a13, maxI_eq, Nat.zero_add, Nat.add_zero, Nat.mul_one, Option.isNone_some, Option.isNone_none, addA, Int.toNat_natCast, f1, f2, f3, f4]
    refine rsize_ok gs[i].2 (RdA.keep v1 h2') (by omega) fun z2 v2 => ?_
    have Uz2 := (Uz.after v1).after v2
    refine ifC (fun _ => hyes _ Uz2) (fun g4 => ?_)
    rw [i64id (x := sn + (gs[i].2.size : Int)) (by omega) (by omega), i64id (by omega) (by omega)]
    refine ⟨⟨i + 1, by simp, by omega, by show 0 ≤ sn + (gs[i].2.size : Int); omega, by show sn + (gs[i].2.size : Int) ≤ _; push_cast; omega, fun j hj hlt => ?_, (uz.after v1).after v2⟩, by show ((gs.length : Int) - ((i : Int) + 1)).toNat < ((gs.length : Int) - (i : Int)).toNat; omega⟩
    by_cases ej : j = i
    · subst ej; exact hzi
    · exact hold j hj (by omega)
  · have gi : i = gs.length := by have := of_decide_eq_false g; dsimp only at this; omega
    subst gi
    exact hno hz hl (fun g hg' => by obtain ⟨j, hj, rfl⟩ := List.getElem_of_mem hg'; exact hold j hj hj) z Uz

end Go.Proofs.Ytdbkbaeeccemkaa

/- A term's variables, as the program tells them. -/
namespace Go.Proofs.Ytdbkbaeeccemkaa
open Go Go.D Go.Proofs
set_option linter.unusedSimpArgs false
set_option linter.unusedVariables false
set_option maxRecDepth 8000

theorem St4q {w1 : World} {r : Nat} {c0 c1 c2 c3 v0 v1 v2 v3 : Value} {K : World → Prop} (hb : Blk w1 r #[c0, c1, c2, c3]) (h0 : v0.oneCell' = true) (h1 : v1.oneCell' = true) (h2 : v2.oneCell' = true) (h3 : v3.oneCell' = true) (hK : ∀ w', Upd [r] w1 w' → Blk w' r #[v0, v1, v2, v3] → K w') :
    St w1 (⟨r, 0, none⟩ : Addr) v0 fun z0 => St z0 (⟨r, 1, none⟩ : Addr) v1 fun z1 => St z1 (⟨r, 2, none⟩ : Addr) v2 fun z2 => St z2 (⟨r, 3, none⟩ : Addr) v3 K := by
  refine St_acc (Upd.refl _ _) hb (by simp) h0 fun z0 y0 b0 => St_acc y0 b0 (by simp) h1 fun z1 y1 b1 => St_acc y1 b1 (by simp) h2 fun z2 y2 b2 => St_acc y2 b2 (by simp) h3 fun z3 y3 b3 => ?_
  simp at b3
  exact hK z3 y3 b3

def nmM (M : List (Int × Int)) : List (Int × Value) := M.map fun x => (x.1, .int .i64 x.2)

theorem look_nm (k : Int) : ∀ M : List (Int × Int), ∃ v : Int, (Go.D.look k (nmM M)).getD (.int .i64 0) = .int .i64 v
  | [] => ⟨0, rfl⟩
  | x :: r => by
    unfold nmM
    rw [List.map_cons, look_cons]
    split
    · exact ⟨x.2, rfl⟩
    · exact look_nm k r

/-- The namer in memory: what it has met. -/
structure Nm (w : World) (b m : Nat) (p : Option Addr) (c : Nat) (G : List Nat) (out : List Int) : Prop where
  blk : Blk w b #[.map (some m), .slice p out.length c]
  map : ∃ M : List (Int × Int), MapAt w m (Value.int .i64) (nmM M) ∧ M.map (·.1) = out
  row : SlAt w 1 p out.length c (out.map (.int .i64)) G
  bm : b ≠ m
  bG : b ∉ G
  mG : m ∉ G

section
variable {w w' : World} {b m c : Nat} {p : Option Addr} {G : List Nat} {out : List Int}

theorem Nm.upd {X : List Nat} (h : Nm w b m p c G out) (u : Upd X w w') (hd : ∀ k ∈ b :: m :: G, k ∉ X) : Nm w' b m p c G out := by
  obtain ⟨M, h1, h2⟩ := h.map
  exact ⟨h.blk.upd u (hd _ (by simp)), ⟨M, h1.upd u (hd _ (by simp)), h2⟩, h.row.upd u (fun k hk => hd k (by simp [hk])), h.bm, h.bG, h.mG⟩

theorem Nm.keep (h : Nm w b m p c G out) (u : Upd [] w w') : Nm w' b m p c G out := h.upd u (by simp)

theorem Nm.low (h : Nm w b m p c G out) : In (b :: m :: G) w := fun k hk => by
  obtain ⟨M, h1, _⟩ := h.map
  rcases List.mem_cons.1 hk with g | g
  · rw [g]; exact h.blk.lt
  · rcases List.mem_cons.1 g with g | g
    · rw [g]; exact h1.lt
    · exact h.row.inn k g

def nmAdd (out : List Int) (n : Int) : List Int := if n ∈ out then out else out ++ [n]

theorem namer_ok {n : Int} {K : Int → Int → ByteArray → Option Addr → Nat → Nat → World → Prop} (h : Nm w b m p c G out) (hl : out.length < 2 ^ 30)
    (hK : ∀ w' i p' c' G', Nm w' b m p' c' G' (nmAdd out n) → Upd (b :: m :: G) w w' → Sub (b :: m :: G') (b :: m :: G) w → K 1 i ⟨#[]⟩ none 0 0 w') : C_term_namer_of (some ⟨b, 0, none⟩) n w K := by
  apply C_term_namer_of.of
  unfold F_term_namer_of
  refine New_rule fun r w1 hr u1 b1 => ?_
  have h1 := h.keep u1
  have low := h.low
  obtain ⟨M, hM, hMo⟩ := h1.map
  have k1 : ∀ {z : World} {i : Int} {p' : Option Addr} {c' : Nat} {G' : List Nat}, Nm z b m p' c' G' (nmAdd out n) → Upd (b :: m :: G) w1 z → Sub (b :: m :: G') (b :: m :: G) w1 → F_term_namer_of_k1 K r i z := fun {z i p' c' G'} hz uz sz => by
    unfold F_term_namer_of_k1
    refine tVar_ok fun z1 v1 => ?_
    have rN : ∀ k ∈ b :: m :: G, k ≠ r := fun k hk e => by have := low k hk; omega
    have bz := (b1.upd uz (fun hx => rN r hx rfl)).upd v1 (by simp)
    simp only [NN_some, addN, drw_cell, drw_heap, exS, exI, exB, exP, exM, exStr, exV, a0, a1, a2, a3, a4, a5, a6, a7, a8, a9, a10, a11, a12, a13, maxI_eq, Nat.zero_add, Nat.add_zero, Nat.mul_one, Option.isNone_some, Option.isNone_none]
    refine St4q bz rfl rfl rfl rfl fun z2 v2 b2 => ?_
    simp only [NN_some, addN, drw_cell, drw_heap, exS, exI, exB, exP, exM, exStr, exV, a0, a1, a2, a3, a4, a5, a6, a7, a8, a9, a10, a11, a12, a13, maxI_eq, Nat.zero_add, Nat.add_zero, Nat.mul_one, Option.isNone_some, Option.isNone_none, b2.cell]
    have zs := uz.size
    have s1 := u1.size
    have rl := b1.lt
    have hrN : ∀ k ∈ b :: m :: G', k ∉ [r] := fun k hk hx => by
      simp only [List.mem_singleton] at hx
      subst hx
      rcases sz k hk with g | g
      · exact rN k g rfl
      · omega
    have U2 : Upd (b :: m :: G) w z2 := (u1.after uz).trans ((v1.after v2)) (fun k hk => .inl hk) (fun k hk => by simp at hk; right; omega)
    exact hK z2 i p' c' G' ((hz.keep v1).upd v2 hrN) U2 (fun k hk => by
      rcases sz k hk with g | g
      · exact .inl g
      · exact .inr (by omega))
  simp only [NN_some, addN, drw_cell, drw_heap, exS, exI, exB, exP, exM, exStr, exV, a0, a1, a2, a3, a4, a5, a6, a7, a8, a9, a10, a11, a12, a13, maxI_eq, Nat.zero_add, Nat.add_zero, Nat.mul_one, Option.isNone_some, Option.isNone_none, h1.blk.cell]
  refine Lookup2_rule (mt := 108) (kt := 3) (et := 3) (keyInt (by rfl)) (by rfl) (z := .int .i64 0) ⟨_, by rfl, by rfl⟩ hM ?_
  obtain ⟨v, hv⟩ := look_nm n M
  have hk : (Go.D.look n (nmM M)).isSome = true ↔ n ∈ out := by
    rw [look_isSome, ← hMo]
    unfold nmM
    rw [List.map_map]
    exact Iff.rfl
  refine ⟨v, _, by rw [hv], ?_⟩
  by_cases hn : n ∈ out
  · refine ifF (by rw [hk.2 hn]; rfl) (k1 (p' := p) (c' := c) (G' := G) (by unfold nmAdd; rw [if_pos hn]; exact h1) (Upd.refl _ _) (Sub.refl _ _))
  · have hnone : Go.D.look n (nmM M) = none := by
      rcases e : Go.D.look n (nmM M) with _ | x
      · rfl
      · exact absurd (hk.1 (by rw [e]; rfl)) hn
    refine ifT (by rw [hnone]; rfl) ?_
    simp only [NN_some, addN, drw_cell, drw_heap, exS, exI, exB, exP, exM, exStr, exV, a0, a1, a2, a3, a4, a5, a6, a7, a8, a9, a10, a11, a12, a13, maxI_eq, Nat.zero_add, Nat.add_zero, Nat.mul_one, Option.isNone_some, Option.isNone_none, h1.blk.cell]
    refine MUp_rule (mt := 108) (kt := 3) (et := 3) (keyInt (by rfl)) (by rfl) hM fun w2 hm2 u2 => ?_
    rw [put_none _ _ _ 0 (by unfold Go.D.look at hnone; simpa using hnone)] at hm2
    have e2 : nmM M ++ [(n, Value.int .i64 (out.length : Int))] = nmM (M ++ [(n, (out.length : Int))]) := by unfold nmM; rw [List.map_append]; rfl
    rw [e2] at hm2
    have b2 := h1.blk.upd u2 (by simp; exact h1.bm)
    have r2 := h1.row.upd u2 (by intro k hk hx; simp at hx; subst hx; exact h1.mG hk)
    simp only [NN_some, addN, drw_cell, drw_heap, exS, exI, exB, exP, exM, exStr, exV, a0, a1, a2, a3, a4, a5, a6, a7, a8, a9, a10, a11, a12, a13, maxI_eq, Nat.zero_add, Nat.add_zero, Nat.mul_one, Option.isNone_some, Option.isNone_none, b2.cell]
    refine BSlL_rule eS_30 [.int .i64 n] (by rfl) (by simp [Value.cells]) (by rfl) (by omega) fun w3 hs3 u3 => ?_
    refine App_rule (hE := eS_30) (r2.upd u3 (by intro k _ h; cases h)) hs3 (by simp [Value.cells, Value.oneCell']) (by omega) fun p4 c4 G4 w4 hs4 u4 s4 => ?_
    have e1 : out.map (Value.int .i64) ++ ([Value.int .i64 n] : List Value).flatMap (fun v => v.cells.toList) = (out ++ [n]).map (.int .i64) := by rw [List.map_append]; simp [Value.cells]
    have e3 : out.length + 1 = (out ++ [n]).length := by simp
    rw [e1, e3] at hs4
    have b4 := (b2.upd u3 (by simp)).upd u4 h1.bG
    refine St_acc (Upd.refl _ _) b4 (by simp) rfl fun w5 u5 b5 => ?_
    simp at b5
    have low1 := h1.low
    have nbG4 : b ∉ G4 := fun hx => by
      rcases s4 b hx with g | g
      · exact h1.bG g
      · have := low1 b (by simp); have := u2.size; have := u3.size; omega
    have nmG4 : m ∉ G4 := fun hx => by
      rcases s4 m hx with g | g
      · exact h1.mG g
      · have := low1 m (by simp); have := u2.size; have := u3.size; omega
    have U5 : Upd (b :: m :: G) w1 w5 := ((u2.mono (fun k hk => .inl (by simp at hk; simp [hk]))).both ((u3.after u4).mono (fun k hk => .inl (by simp [hk])))).both (u5.mono (fun k hk => .inl (by simp at hk; simp [hk])))
    refine k1 (p' := p4) (c' := c4) (G' := G4) ?_ U5 (fun k hk => ?_)
    · unfold nmAdd
      rw [if_neg hn]
      refine ⟨?_, ⟨M ++ [(n, (out.length : Int))], (((hm2.upd u3 (by simp)).upd u4 h1.mG).upd u5 (by simp; exact fun e => h1.bm e.symm)), by rw [List.map_append, hMo]; rfl⟩, hs4.upd u5 (by intro k hk hx; simp at hx; subst hx; exact nbG4 hk), h1.bm, nbG4, nmG4⟩
      rw [← e3]; exact b5
    · rcases List.mem_cons.1 hk with g | g
      · exact .inl (by simp [g])
      · rcases List.mem_cons.1 g with g | g
        · exact .inl (by simp [g])
        · rcases s4 k g with g | g
          · exact .inl (by simp [g])
          · exact .inr (by have := u2.size; have := u3.size; omega)
end

end Go.Proofs.Ytdbkbaeeccemkaa

/- A term is gone through by the namer. -/
namespace Go.Proofs.Ytdbkbaeeccemkaa
open Go Go.D Go.Proofs
set_option linter.unusedSimpArgs false
set_option linter.unusedVariables false
set_option maxRecDepth 8000

def namerV (b : Nat) : Value := .func (.func 67) #[.pointer (some ⟨b, 0, none⟩)] #[]

section
variable {b m : Nat}

theorem nbuild_ok (F : List Nat) (t : Tm) : ∀ {w : World} {q p : Option Addr} {c qc : Nat} {G : List Nat} {out : List Int} {K : Int → Int → ByteArray → Option Addr → Nat → Nat → World → Prop}, RdA w F t.l q 0 → In F w → Dis F (b :: m :: G) → Nm w b m p c G out → out.length + t.size < 2 ^ 29 →
    (∀ w' k n s p1 l1 c1 p' c' G', Nm w' b m p' c' G' (t.vars out) → Upd (b :: m :: G) w w' → Sub (b :: m :: G') (b :: m :: G) w → K k n s p1 l1 c1 w') → C_term_build t.kind t.n t.s q t.l.length qc (namerV b) w K := by
  refine Tm.ind (P := fun t => ∀ {w : World} {q p : Option Addr} {c qc : Nat} {G : List Nat} {out : List Int} {K : Int → Int → ByteArray → Option Addr → Nat → Nat → World → Prop}, RdA w F t.l q 0 → In F w → Dis F (b :: m :: G) → Nm w b m p c G out → out.length + t.size < 2 ^ 29 →
    (∀ w' k n s p1 l1 c1 p' c' G', Nm w' b m p' c' G' (t.vars out) → Upd (b :: m :: G) w w' → Sub (b :: m :: G') (b :: m :: G) w → K k n s p1 l1 c1 w') → C_term_build t.kind t.n t.s q t.l.length qc (namerV b) w K) (fun t ih => ?_) t
  intro w q p c qc G out K hp hF hFd hN hz hK
  apply C_term_build.of
  unfold F_term_build
  have hveq := Tm.vars_eq t out
  have low := hN.low
  refine New_rule fun r w1 hr1 u1 b1 => New_rule fun r1 w2 hr2 u2 b2 => ?_
  have b1' := b1.upd u2 (by simp)
  have U2 := u1.after u2
  have l1 := b1.lt
  have l2 := b2.lt
  have s1 := u1.size
  have s2 := u2.size
  have hN2 := hN.keep U2
  have r1N : ∀ k ∈ b :: m :: G, k ≠ r1 := fun k hk e => by have := low k hk; omega
  have tl := t.size_eq
  have tp := sizeL_pos (l := t.l)
  refine ⟨t.kind, b1'.cell 0, ifC (fun g => ⟨t.n, b1'.cell 1, ?_⟩) (fun g => ⟨t.kind, b1'.cell 0, t.n, b1'.cell 1, t.s, b1'.cell 2, New_rule fun r5 w3 hr5 u3 b3 => St4q b3 rfl rfl rfl rfl fun w4 u4 b4 => ?_⟩)⟩
  · have k1 : t.kind = 1 := by simpa using g
    rw [if_pos k1] at hveq
    refine ⟨_, _, _, rfl, rfl, ?_⟩
    refine Calls.mono (namer_ok (K := fun k n s p1 l1 c1 w' => ∃ p' c' G', Nm w' b m p' c' G' (nmAdd out t.n) ∧ Upd (b :: m :: G) w2 w' ∧ Sub (b :: m :: G') (b :: m :: G) w2) hN2 (by omega) (fun w' i p' c' G' h u s => ⟨p', c', G', h, u, s⟩) : C_term_namer_of (some ⟨b, 0, none⟩) t.n w2 _) ?_
    rintro e w3 ⟨k, n, s, p1, l1', c1, he, p', c', G', h3, u3, s3⟩
    refine ⟨_, he, _, _, _, _, _, _, rfl, St4q (b2.upd u3 (fun hx => r1N r1 hx rfl)) rfl rfl rfl rfl fun w4 u4 b4 => ⟨_, b4.cell 0, _, b4.cell 1, _, b4.cell 2, _, _, _, b4.cell 3, ?_⟩⟩
    have zs := u3.size
    have hr : ∀ k ∈ b :: m :: G', k ∉ [r1] := fun k hk hx => by
      simp only [List.mem_singleton] at hx
      subst hx
      rcases s3 k hk with g | g
      · exact r1N k g rfl
      · omega
    refine hK w4 _ _ _ _ _ _ p' c' G' (by rw [hveq]; exact h3.upd u4 hr) ((U2.after u3).trans u4 (fun k hk => .inl hk) (fun k hk => by simp at hk; right; omega)) (fun k hk => ?_)
    rcases s3 k hk with g | g
    · exact .inl g
    · exact .inr (by omega)
  · have k1 : t.kind ≠ 1 := by simpa using g
    rw [if_neg k1] at hveq
    have U4 : Upd [] w2 w4 := u3.fresh u4 (by intro k hk; simp at hk; omega)
    have V4 := U2.after U4
    have v4s := V4.size
    have b14 := b1'.upd U4 (by simp)
    have b24 := b2.upd U4 (by simp)
    have hp4 := RdA.keep V4 hp
    have hF4 := hF.upd V4
    have l4 := b4.lt
    have s4 := U4.size
    have s3 := u3.size
    refine ⟨_, _, _, b14.cell 3, ?_⟩
    unfold F_term_build_L1
    refine ⟨fun s z => ∃ (i : Nat) (p2 : Option Addr) (c2 : Nat) (G2 : List Nat) (cs : List Value) (pn : Option Addr) (cn : Nat) (Gn : List Nat), s.t25 = i ∧ i ≤ t.l.length ∧ Blk z r5 #[.int .i64 t.kind, .int .i64 t.n, .string t.s, .slice p2 i c2] ∧ SlAt z 4 p2 i c2 cs G2 ∧ Since G2 w4 ∧ Nm z b m pn cn Gn (varsL (t.l.take i) out) ∧ Dis G2 (b :: m :: Gn) ∧ Sub (b :: m :: Gn) (b :: m :: G) w4 ∧ Upd (r5 :: b :: m :: G) w4 z, fun s _ => (t.l.length - s.t25).toNat,
      ⟨0, none, 0, [], [], p, c, G, rfl, by omega, b4, SlAt.nil _ _, (by intro k hk; cases hk), by simpa [varsL] using hN.keep V4, (by intro k hk; cases hk), Sub.refl _ _, Upd.refl _ _⟩, ?_⟩
    rintro ⟨si⟩ z ⟨i, p2, c2, G2, cs, pn, cn, Gn, rfl, hi, bz, hs, sG2, hNz, dis, sub, uz⟩
    unfold B_term_build_L1
    have r5N : r5 ∉ b :: m :: Gn := fun hx => by
      rcases sub r5 hx with g | g
      · have := low r5 g; omega
      · omega
    have zsz := uz.size
    refine ifC (fun g2 => ?_) (fun g2 => ?_)
    · have gi : i < t.l.length := by have := of_decide_eq_true g2; dsimp only at this; omega
      have hFz : Dis F (r5 :: b :: m :: G) := fun k hk hx => by
        rcases List.mem_cons.1 hx with g | g
        · have := hF k hk; omega
        · exact hFd k hk g
      have hpz := RdA.upd' uz hFz hp4
      obtain ⟨x, qi, ci, f1, f2, f3, f4, f5, f6, f7, f8⟩ := hpz.at i gi
      simp only [Nat.zero_add] at f3 f4 f5 f6
      have hs0 : (0 : Int) ≤ (i : Int) := by omega
      have hs1 : (i : Int) < (t.l.length : Int) := by omega
      refine ⟨hs0, hs1, ?_⟩
      rw [f1]
      simp only [NN_some, addN, drw_cell, drw_heap, exS, exI, exB, exP, exM, exStr, exV, a0, a1, a2, a3, a4, a5, a6, a7, a8, a9, a10, a11, a12, a13, maxI_eq, Nat.zero_add, Nat.add_zero, Nat.mul_one, Option.isNone_some, Option.isNone_none, addA, Int.toNat_natCast, f3, f4, f5, f6]
      refine New_rule fun r6 z1 hr6 y1 d1 => ?_
      refine St4q d1 rfl rfl rfl rfl fun z2 y2 d2 => ?_
      have Y2 : Upd [] z z2 := y1.fresh y2 (by intro k hk; simp at hk; omega)
      have yd := drw_upd z2
      have Yd := Y2.after yd
      have ydz := Yd.size
      have bz2 := bz.upd Y2 (by simp)
      refine ⟨_, _, _, bz2.cell 3, ?_⟩
      simp only [NN_some, addN, drw_cell, drw_heap, exS, exI, exB, exP, exM, exStr, exV, a0, a1, a2, a3, a4, a5, a6, a7, a8, a9, a10, a11, a12, a13, maxI_eq, Nat.zero_add, Nat.add_zero, Nat.mul_one, Option.isNone_some, Option.isNone_none, d2.cell]
      have hle := sizeL_take_le (l := t.l) (i + 1)
      have hst := sizeL_take (l := t.l) gi
      have hvl := varsL_len (t.l.take i) out
      have nd := hNz.keep Yd
      have FdN : Dis F (b :: m :: Gn) := fun k hk hx => by
        rcases sub k hx with g | g
        · exact hFd k hk g
        · have := hF4 k hk; omega
      refine ih _ (List.getElem_mem gi) (RdA.keep Yd f8) ((hF4.upd uz).upd Yd) FdN nd (by omega) fun z3 k n s p1 l1' c1 pn3 cn3 Gn3 h3 v3 t3 => ?_
      have bd := bz.upd Yd (by simp)
      have b3' := bd.upd v3 r5N
      have e3 : z3.cell? ⟨r5, 3, none⟩ = (drw z2).cell? ⟨r5, 3, none⟩ := (b3'.cell 3).trans (bd.cell 3).symm
      have hs3 := (hs.upd Yd (by intro k _ h; cases h)).upd v3 dis
      have v3s := v3.size
      simp only [drw_cell] at e3
      refine ⟨e3, BSlL_rule eS_22 [.agg #[.int .i64 k, .int .i64 n, .string s, .slice p1 l1' c1]] (by rfl) (by simp [Value.cells]) (by rfl) (by omega) fun z4 hs4 u4' => ?_⟩
      have b4' := b3'.upd u4' (by simp)
      have e4 : z4.cell? ⟨r5, 3, none⟩ = z2.cell? ⟨r5, 3, none⟩ := by rw [b4'.cell 3, ← b3'.cell 3]; exact e3
      have s4' := u4'.size
      refine ⟨e4, App_rule (hE := eS_22) (hs3.upd u4' (by intro k _ h; cases h)) hs4 (by simp [Value.cells, Value.oneCell']) (by omega) fun p5 c5 G5 z5 hs5 u5 g5 => ?_⟩
      have r5l := bz.lt
      have r5G2 : r5 ∉ G2 := fun hx => by have := sG2 r5 hx; omega
      have b5' := b4'.upd u5 r5G2
      refine St_acc (Upd.refl _ _) b5' (by simp) rfl fun z6 u6 b6 => ?_
      simp at b6
      have inG2 := hs.inn
      have h5 : Nm z6 b m pn3 cn3 Gn3 (t.l[i].vars (varsL (t.l.take i) out)) := by
        refine ((h3.keep u4').upd u5 (fun k hk hx => ?_)).upd u6 (fun k hk hx => ?_)
        · rcases t3 k hk with g | g
          · exact dis k hx g
          · have := inG2 k hx; omega
        · simp only [List.mem_singleton] at hx
          rw [hx] at hk
          rcases t3 r5 hk with g | g
          · exact r5N g
          · omega
      rw [← varsL_take gi] at h5
      have r5G5 : r5 ∉ G5 := fun hx => by
        rcases g5 r5 hx with g | g
        · exact r5G2 g
        · omega
      have low3 := h3.low
      rw [i64id (by omega) (by omega)]
      refine ⟨⟨i + 1, p5, c5, G5, _, pn3, cn3, Gn3, by simp, by omega, b6, hs5.upd u6 (by intro k hk hx; simp at hx; subst hx; exact r5G5 hk), fun k hk => ?_, h5, fun k hk hx => ?_, fun k hk => ?_, ?_⟩, by omega⟩
      · rcases g5 k hk with g | g
        · exact sG2 k g
        · omega
      · rcases g5 k hk with g | g
        · rcases t3 k hx with g1 | g1
          · exact dis k g g1
          · have := inG2 k g; omega
        · have := low3 k hx; omega
      · rcases t3 k hk with g | g
        · exact sub k g
        · right; omega
      · have a1 : Upd (b :: m :: Gn) z z3 := Yd.after v3
        have a2 : Upd (r5 :: (G2 ++ (b :: m :: Gn))) z z6 := ((a1.mono (fun k hk => .inl (by simp only [List.mem_cons, List.mem_append]; exact .inr (.inr (by simpa using hk))))).both ((u4'.after u5).mono (fun k hk => .inl (by simp [hk])))).both (u6.mono (fun k hk => .inl (by simp at hk; simp [hk])))
        refine uz.trans a2 (fun k hk => .inl hk) (fun k hk => ?_)
        rcases List.mem_cons.1 hk with g | g
        · exact .inl (by simp [g])
        · rcases List.mem_append.1 g with g | g
          · exact .inr (sG2 k g)
          · rcases sub k g with g | g
            · exact .inl (List.mem_cons_of_mem _ g)
            · exact .inr g
    · have gi : i = t.l.length := by have := of_decide_eq_false g2; dsimp only at this; omega
      subst gi
      rw [List.take_length, ← hveq] at hNz
      have r1N' : r1 ∉ r5 :: b :: m :: G := fun hx => by
        rcases List.mem_cons.1 hx with g | g
        · omega
        · exact r1N r1 g rfl
      refine ⟨_, bz.cell 0, _, bz.cell 1, _, bz.cell 2, _, _, _, bz.cell 3, St4q (b24.upd uz r1N') rfl rfl rfl rfl fun z2 v2 c2' => ⟨_, c2'.cell 0, _, c2'.cell 1, _, c2'.cell 2, _, _, _, c2'.cell 3, ?_⟩⟩
      have hr : ∀ k ∈ b :: m :: Gn, k ∉ [r1] := fun k hk hx => by
        simp only [List.mem_singleton] at hx
        subst hx
        rcases sub k hk with g | g
        · exact r1N k g rfl
        · omega
      refine hK z2 _ _ _ _ _ _ pn cn Gn (hNz.upd v2 hr) ((V4.trans uz (by simp) (fun k hk => ?_)).trans v2 (fun k hk => .inl hk) (fun k hk => ?_)) (fun k hk => ?_)
      · rcases List.mem_cons.1 hk with g | g
        · exact .inr (by omega)
        · exact .inl g
      · simp at hk; right; omega
      · rcases sub k hk with g | g
        · exact .inl g
        · exact .inr (by omega)

theorem tmay_ok {F : List Nat} (t : Tm) {w : World} {q : Option Addr} {c : Nat} {K : Bool → World → Prop} (hp : RdA w F t.l q 0) (hF : In F w) (hz : t.size < 2 ^ 29) (hK : ∀ w', Upd [] w w' → K (checkT t == 0) w') : C_term_may t.kind t.n t.s q t.l.length c w K := by
  apply C_term_may.of
  unfold F_term_may
  refine New_rule fun r w1 hr u1 b1 => ⟨_, b1.cell 0, _, b1.cell 1, _, b1.cell 2, _, _, _, b1.cell 3, Check_ok t (RdA.keep u1 hp) (hF.upd u1) (by omega) fun w2 u2 => hK w2 (u1.after u2)⟩

theorem rename_ok {F : List Nat} (t : Tm) {w : World} {q : Option Addr} {c : Nat} {K : Int → Int → ByteArray → Option Addr → Nat → Nat → Option Addr → Nat → Nat → World → Prop} (hp : RdA w F t.l q 0) (hF : In F w) (hz : t.size < 2 ^ 28)
    (hK : ∀ w' k n s p1 l1 c1 p c G, SlAt w' 1 p (t.vars []).length c ((t.vars []).map (.int .i64)) G → Since G w → Upd [] w w' → K k n s p1 l1 c1 p (t.vars []).length c w') : C_term_rename t.kind t.n t.s q t.l.length c w K := by
  apply C_term_rename.of
  unfold F_term_rename
  refine New_rule fun r w1 hr u1 b1 => New_rule fun r1 w2 hr1 u2 b2 => New_map fun r2 w3 hr2 u3 hm => New_rule fun r3 w4 hr3 u4 b4 => ?_
  have s1 := u1.size
  have s2 := u2.size
  have s3 := u3.size
  have s4 := u4.size
  have l1 := b1.lt
  have l2 := b2.lt
  have m3 : MapAt w3 r2 (Value.int .i64) [] := MapAt.new _ hm
  have lm := m3.lt
  have U4 := ((u1.after u2).after u3).after u4
  have v4 := U4.size
  have B1 := ((b1.upd u2 (by simp)).upd u3 (by simp)).upd u4 (by simp)
  have B2 := (b2.upd u3 (by simp)).upd u4 (by simp)
  simp only [NN_some, addN, drw_cell, drw_heap, exS, exI, exB, exP, exM, exStr, exV, a0, a1, a2, a3, a4, a5, a6, a7, a8, a9, a10, a11, a12, a13, maxI_eq, Nat.zero_add, Nat.add_zero, Nat.mul_one, Option.isNone_some, Option.isNone_none, B1.cell]
  have hN : Nm w4 r3 r2 none 0 [] [] := ⟨b4, ⟨[], m3.upd u4 (by simp), rfl⟩, SlAt.nil _ _, by omega, by simp, by simp⟩
  refine nbuild_ok F t (RdA.keep U4 hp) (hF.upd U4) (fun k hk hx => ?_) hN (by simp; omega) fun w5 k n s p1 l1' c1 p' c' G' h5 u5 s5 => ?_
  · have := hF k hk
    simp at hx
    omega
  have v5 := u5.size
  have r1N : ∀ k ∈ r3 :: r2 :: G', k ≠ r1 := fun k hk e => by
    rcases s5 k hk with g | g
    · simp at g; omega
    · omega
  have U5 : Upd [] w w5 := U4.fresh u5 (by intro k hk; simp at hk; omega)
  refine New_rule fun r4 w6 hr4 u6 b6 => ?_
  refine St4q b6 rfl rfl rfl rfl fun w7 u7 b7 => ?_
  simp only [NN_some, addN, drw_cell, drw_heap, exS, exI, exB, exP, exM, exStr, exV, a0, a1, a2, a3, a4, a5, a6, a7, a8, a9, a10, a11, a12, a13, maxI_eq, Nat.zero_add, Nat.add_zero, Nat.mul_one, Option.isNone_some, Option.isNone_none, b7.cell]
  have U7 : Upd [] w5 w7 := u6.fresh u7 (by intro k hk; simp at hk; omega)
  have h7 := h5.keep U7
  have ud := drw_upd w7
  have hd := h7.keep ud
  simp only [NN_some, addN, drw_cell, drw_heap, exS, exI, exB, exP, exM, exStr, exV, a0, a1, a2, a3, a4, a5, a6, a7, a8, a9, a10, a11, a12, a13, maxI_eq, Nat.zero_add, Nat.add_zero, Nat.mul_one, Option.isNone_some, Option.isNone_none, h7.blk.cell]
  have B2d : Blk (drw w7) r1 _ := ((B2.upd u5 (by simp; omega)).upd U7 (by simp)).upd ud (by simp)
  refine St4q B2d rfl rfl rfl rfl fun w8 u8 b8 => ?_
  have h8 := hd.upd u8 (fun k hk hx => by simp at hx; exact r1N k hk hx)
  refine ⟨?_, ?_⟩
  · exact (h8.blk.cell 1).trans (by first | rfl | exact (h7.blk.cell 1).symm)
  simp only [NN_some, addN, drw_cell, drw_heap, exS, exI, exB, exP, exM, exStr, exV, a0, a1, a2, a3, a4, a5, a6, a7, a8, a9, a10, a11, a12, a13, maxI_eq, Nat.zero_add, Nat.add_zero, Nat.mul_one, Option.isNone_some, Option.isNone_none, b8.cell]
  have U8 : Upd [] w w8 := ((U5.after U7).after ud).fresh u8 (by intro k hk; simp at hk; omega)
  refine hK w8 _ _ _ _ _ _ p' c' G' h8.row (fun k hk => ?_) U8
  rcases s5 k (by simp [hk]) with g | g
  · simp at g; omega
  · omega

theorem Vars_ok {F : List Nat} (t : Tm) {w : World} {q : Option Addr} {c : Nat} {K : Option Addr → Nat → Nat → World → Prop} (hc : checkT t = 0) (hp : RdA w F t.l q 0) (hF : In F w) (hz : t.size < 2 ^ 28)
    (hK : ∀ w' p c G, SlAt w' 1 p (t.vars []).length c ((t.vars []).map (.int .i64)) G → Since G w → Upd [] w w' → K p (t.vars []).length c w') : C_term_Vars t.kind t.n t.s q t.l.length c w K := by
  apply C_term_Vars.of
  unfold F_term_Vars
  refine New_rule fun r w1 hr u1 b1 => ⟨_, b1.cell 0, _, b1.cell 1, _, b1.cell 2, _, _, _, b1.cell 3, tmay_ok t (RdA.keep u1 hp) (hF.upd u1) (by omega) fun w2 u2 => ifF (by rw [hc]; rfl) ?_⟩
  have b2 := b1.upd u2 (by simp)
  have U2 := u1.after u2
  refine ⟨_, b2.cell 0, _, b2.cell 1, _, b2.cell 2, _, _, _, b2.cell 3, rename_ok t (RdA.keep U2 hp) (hF.upd U2) hz fun w3 k n s p1 l1 c1 p c' G hs sG u3 => New_rule fun r4 w4 hr4 u4 b4 => ?_⟩
  simp only [NN_some, addN, drw_cell, drw_heap, exS, exI, exB, exP, exM, exStr, exV, a0, a1, a2, a3, a4, a5, a6, a7, a8, a9, a10, a11, a12, a13, maxI_eq, Nat.zero_add, Nat.add_zero, Nat.mul_one, Option.isNone_some, Option.isNone_none]
  have s2 := U2.size
  have s3 := u3.size
  refine St4q b4 rfl rfl rfl rfl fun w5 u5 b5 => ?_
  have U4 : Upd [] w3 w5 := u4.fresh u5 (by intro k hk; simp at hk; omega)
  exact hK w5 p c' G (hs.upd U4 (by intro k _ h; cases h)) (fun k hk => by have := sG k hk; omega) ((U2.after u3).after U4)

theorem Vars_none {k n : Int} {s : ByteArray} {w : World} {K : Option Addr → Nat → Nat → World → Prop} (hc : checkT (.mk k n s []) ≠ 0) (hK : ∀ w', Upd [] w w' → K none 0 0 w') : C_term_Vars k n s none 0 0 w K := by
  apply C_term_Vars.of
  unfold F_term_Vars
  refine New_rule fun r w1 hr u1 b1 => ⟨_, b1.cell 0, _, b1.cell 1, _, b1.cell 2, _, _, _, b1.cell 3, ?_⟩
  have h := tmay_ok (F := []) (.mk k n s []) (w := w1) (q := none) (c := 0) (K := fun t w' => t = false ∧ Upd [] w1 w') (RdA.of fun i hi => absurd hi (by show ¬ i < 0; omega)) (by intro k hk; cases hk) (by rw [Tm.size_eq]; show 1 + sizeL [] < _; rw [sizeL]; omega) (fun w' u => ⟨by simpa using hc, u⟩)
  refine Calls.mono h ?_
  rintro e w2 ⟨t, he, rfl, u2⟩
  exact ⟨_, he, ifT rfl (hK w2 (u1.after u2))⟩
end

end Go.Proofs.Ytdbkbaeeccemkaa

/- Spans are noted. -/
namespace Go.Proofs.Ytdbkbaeeccemkaa
open Go Go.D Go.Proofs
set_option linter.unusedSimpArgs false
set_option linter.unusedVariables false
set_option maxRecDepth 8000

theorem look_span (n : Int) : ∀ S : List Spn, (Go.D.look n (spM S) = none ∧ n ∉ S.map (·.1)) ∨ ∃ s ∈ S, s.1 = n ∧ Go.D.look n (spM S) = some (spV s)
  | [] => .inl ⟨rfl, by simp⟩
  | x :: S => by
    unfold spM
    rw [List.map_cons, look_cons]
    by_cases e : n = x.1
    · exact .inr ⟨x, by simp, e.symm, by rw [if_pos e]⟩
    · rw [if_neg e]
      rcases look_span n S with ⟨h1, h2⟩ | ⟨s, h1, h2, h3⟩
      · exact .inl ⟨h1, by simp only [List.map_cons, List.mem_cons, not_or]; exact ⟨e, h2⟩⟩
      · exact .inr ⟨s, by simp [h1], h2, h3⟩

theorem put_span (s : Spn) (k : Int) : ∀ {S : List Spn}, (S.map (·.1)).Nodup → s ∈ S → Go.D.put s.1 (spV (s.1, s.2.1, k)) (spM S) = spM (S.map fun x => if x.1 = s.1 then (x.1, x.2.1, k) else x)
  | [], _, h => by cases h
  | x :: S, hn, h => by
    rw [List.map_cons, List.nodup_cons] at hn
    unfold spM
    rw [List.map_cons, put, List.map_cons, List.map_cons]
    by_cases e : s.1 = x.1
    · have ex : s = x := by
        rcases List.mem_cons.1 h with g | g
        · exact g
        · exact absurd (List.mem_map.2 ⟨s, g, e⟩) hn.1
      subst ex
      rw [if_pos rfl, if_pos rfl]
      have : (S.map fun x => if x.1 = s.1 then (x.1, x.2.1, k) else x) = S := by
        conv => rhs; rw [← List.map_id S]
        refine List.map_congr_left fun y hy => ?_
        rw [if_neg fun e' => hn.1 (List.mem_map.2 ⟨y, hy, e'⟩)]
        rfl
      rw [this]
    · rw [if_neg e, if_neg fun h => e h.symm]
      have hs : s ∈ S := by
        rcases List.mem_cons.1 h with g | g
        · subst g; exact absurd rfl e
        · exact g
      have := put_span s k hn.2 hs
      unfold spM at this
      rw [this]

section
variable {w : World} {b : Nat}

/-- Variables stand in a chunk. -/
theorem note_ok {S : List Spn} {k : Int} {L : List Int} {p : Option Addr} {c : Nat} {G : List Nat} {K : World → Prop} (hm : MapAt w b (Value.int .i64) (spM S)) (ok : (S.map (·.1)).Nodup) (hs : SlAt w 1 p L.length c (L.map (.int .i64)) G) (hb : b ∉ G) (hl : L.length < 2 ^ 40)
    (hK : ∀ w', MapAt w' b (Value.int .i64) (spM (noteL S k L)) → Upd [b] w w' → K w') : C_plan_spans_note (some b) k p L.length c w K := by
  apply C_plan_spans_note.of
  unfold F_plan_spans_note F_plan_spans_note_L1
  refine ⟨fun s z => ∃ i : Nat, s.t12 = i ∧ i ≤ L.length ∧ MapAt z b (Value.int .i64) (spM (noteL S k (L.take i))) ∧ Upd [b] w z, fun s _ => (L.length - s.t12).toNat, ⟨0, rfl, by omega, by simpa [noteL] using hm, Upd.refl _ _⟩, ?_⟩
  rintro ⟨si⟩ z ⟨i, rfl, hi, hmz, uz⟩
  unfold B_plan_spans_note_L1
  refine ifC (fun g => ?_) (fun g => ?_)
  · have gi : i < L.length := by have := of_decide_eq_true g; dsimp only at this; omega
    have hsz := hs.upd uz (fun k hk hx => by simp at hx; subst hx; exact hb hk)
    obtain ⟨bb, off, hp, hc⟩ := int_cell hsz gi
    subst hp
    refine ⟨by show (0 : Int) ≤ (i : Int); omega, by show (i : Int) < _; omega, ?_⟩
    simp only [NN_some, addN, drw_cell, drw_heap, exS, exI, exB, exP, exM, exStr, exV, a0, a1, a2, a3, a4, a5, a6, a7, a8, a9, a10, a11, a12, a13, maxI_eq, Nat.zero_add, Nat.add_zero, Nat.mul_one, Option.isNone_some, Option.isNone_none, Int.toNat_natCast, hc]
    obtain ⟨S', hS'⟩ : ∃ S', S' = noteL S k (L.take i) := ⟨_, rfl⟩
    rw [← hS'] at hmz
    have ok' : (S'.map (·.1)).Nodup := by rw [hS']; exact nodup_noteL ok
    have hstep : noteL S k (L.take (i + 1)) = note1 S' k L[i] := by
      rw [hS', List.take_succ_eq_append_getElem gi]
      unfold noteL
      rw [List.foldl_append]; rfl
    have hlt := hmz.lt
    -- behind the look-up
    have k1 : ∀ {z1 : World} {ub uc : Int} {r : Nat}, Blk z1 r #[.int .i64 L[i], .int .i64 ub, .int .i64 uc] → MapAt z1 b (Value.int .i64) (spM S') → z.heap.size ≤ r → Upd [] z z1 → Go.D.put L[i] (spV (L[i], ub, k)) (spM S') = spM (note1 S' k L[i]) →
        F_plan_spans_note_k1 (some b) k ⟨(i : Int)⟩ (fun s w' => (∃ i : Nat, s.t12 = i ∧ i ≤ L.length ∧ MapAt w' b (Value.int .i64) (spM (noteL S k (L.take i))) ∧ Upd [b] w w') ∧ (L.length - s.t12).toNat < ((L.length : Int) - (i : Int)).toNat) L[i] r z1 := fun {z1 ub uc r} bz hmz1 hr v1 hput => by
      unfold F_plan_spans_note_k1
      refine St_acc (Upd.refl _ _) bz (by simp) rfl fun z2 v2 b2 => ?_
      simp at b2
      simp only [NN_some, addN, drw_cell, drw_heap, exS, exI, exB, exP, exM, exStr, exV, a0, a1, a2, a3, a4, a5, a6, a7, a8, a9, a10, a11, a12, a13, maxI_eq, Nat.zero_add, Nat.add_zero, Nat.mul_one, Option.isNone_some, Option.isNone_none, b2.cell]
      have hm2 := hmz1.upd v2 (by simp; omega)
      refine MUp_rule (mt := 52) (kt := 3) (et := 58) (keyInt (by rfl)) (by rfl) hm2 fun z3 hm3 v3 => ?_
      have e3 : Go.D.put L[i] (.agg #[.int .i64 L[i], .int .i64 ub, .int .i64 k]) (spM S') = spM (note1 S' k L[i]) := hput
      rw [e3, ← hstep] at hm3
      rw [i64id (by omega) (by omega)]
      refine ⟨⟨i + 1, by simp, by omega, hm3, ?_⟩, by omega⟩
      exact uz.both ((v1.fresh v2 (by intro k hk; simp at hk; omega)).after v3)
    refine Lookup2_rule (mt := 52) (kt := 3) (et := 58) (keyInt (by rfl)) (by rfl) (z := .agg #[.int .i64 0, .int .i64 0, .int .i64 0]) ⟨_, by rfl, by rfl⟩ hmz ?_
    rcases look_span L[i] S' with ⟨h1, h2⟩ | ⟨s, h1, h2, h3⟩
    · refine ⟨0, 0, 0, _, by rw [h1]; rfl, New_rule fun r z1 hr v1 d1 => St3q d1 rfl rfl rfl fun z2 v2 d2 => ifT (by first | rfl | (rw [h1]; rfl)) ?_⟩
      refine St3q d2 rfl rfl rfl fun z3 v3 d3 => ?_
      have V3 : Upd [] z z3 := (v1.fresh v2 (by intro k hk; simp at hk; omega)).fresh v3 (by intro k hk; simp at hk; omega)
      refine k1 d3 (hmz.upd V3 (by simp)) (by omega) V3 ?_
      rw [put_none _ _ _ 0 (by unfold Go.D.look at h1; simpa using h1)]
      unfold note1 spM
      rw [if_neg h2, List.map_append]; rfl
    · have h3' : Go.D.look L[i] (spM S') = some (.agg #[.int .i64 s.1, .int .i64 s.2.1, .int .i64 s.2.2]) := h3
      refine ⟨s.1, s.2.1, s.2.2, _, by rw [h3']; rfl, New_rule fun r z1 hr v1 d1 => St3q d1 rfl rfl rfl fun z2 v2 d2 => ifF (by first | rfl | (rw [h3']; rfl)) ?_⟩
      have V2 : Upd [] z z2 := v1.fresh v2 (by intro k hk; simp at hk; omega)
      rw [h2] at d2
      refine k1 d2 (hmz.upd V2 (by simp)) (by omega) V2 ?_
      have := put_span s k ok' h1
      rw [h2] at this
      rw [this]
      unfold note1
      rw [if_pos (by rw [← h2]; exact List.mem_map.2 ⟨s, h1, rfl⟩)]
  · have gi : i = L.length := by have := of_decide_eq_false g; dsimp only at this; omega
    subst gi
    rw [List.take_length] at hmz
    exact hK z hmz uz
end

end Go.Proofs.Ytdbkbaeeccemkaa

/- A clause's spans; may it be planned? -/
namespace Go.Proofs.Ytdbkbaeeccemkaa
open Go Go.D Go.Proofs
set_option linter.unusedSimpArgs false
set_option linter.unusedVariables false
set_option maxRecDepth 8000

theorem St5n {w1 : World} {r : Nat} {arr : Array Value} {v0 v1 v2 v3 v4 : Value} {K : World → Prop} (hb : Blk w1 r arr) (ha : arr.size = 5) (hv : ∀ v ∈ [v0, v1, v2, v3, v4], v.oneCell' = true) (hK : ∀ w', Upd [r] w1 w' → Blk w' r #[v0, v1, v2, v3, v4] → K w') :
    St w1 (⟨r, 0, none⟩ : Addr) v0 fun z0 => St z0 (⟨r, 1, none⟩ : Addr) v1 fun z1 => St z1 (⟨r, 2, none⟩ : Addr) v2 fun z2 => St z2 (⟨r, 3, none⟩ : Addr) v3 fun z3 => St z3 (⟨r, 4, none⟩ : Addr) v4 K := by
  obtain ⟨c0, c1, c2, c3, c4, rfl⟩ : ∃ c0 c1 c2 c3 c4, arr = #[c0, c1, c2, c3, c4] := by
    rcases arr with ⟨l⟩
    match l, ha with
    | [c0, c1, c2, c3, c4], _ => exact ⟨c0, c1, c2, c3, c4, rfl⟩
  refine St_acc (Upd.refl _ _) hb (by simp) (hv _ (by simp)) fun z0 y0 b0 => St_acc y0 b0 (by simp) (hv _ (by simp)) fun z1 y1 b1 => St_acc y1 b1 (by simp) (hv _ (by simp)) fun z2 y2 b2 => St_acc y2 b2 (by simp) (hv _ (by simp)) fun z3 y3 b3 => St_acc y3 b3 (by simp) (hv _ (by simp)) fun z4 y4 b4 => ?_
  simp at b4
  exact hK z4 y4 b4

def stG (hv : List Int) (gs : List GoalT) (i : Nat) : List Spn × Int := (gs.take i).foldl stepG (noteL [] 0 hv, 0)

theorem stG_next {hv : List Int} {gs : List GoalT} {i : Nat} (hi : i < gs.length) : stG hv gs (i + 1) = stepG (stG hv gs i) gs[i] := by
  unfold stG
  rw [List.take_succ_eq_append_getElem hi, List.foldl_append]; rfl
theorem stG_all {hv : List Int} {gs : List GoalT} : stG hv gs gs.length = gath hv gs := by unfold stG gath; rw [List.take_length]
theorem stG_ok (hv : List Int) (gs : List GoalT) (i : Nat) : SpOk (stG hv gs i).1 (stG hv gs i).2 ∧ 0 ≤ (stG hv gs i).2 ∧ (stG hv gs i).2 ≤ i := by
  obtain ⟨a, b, c⟩ := foldG_ok (gs := gs.take i) (x := (noteL [] 0 hv, 0)) (init_ok hv) (by show (0 : Int) ≤ 0; omega)
  refine ⟨a, b, ?_⟩
  have hl : (gs.take i).length ≤ i := by rw [List.length_take]; omega
  have : (stG hv gs i).2 ≤ (0 : Int) + (gs.take i).length := c
  omega

theorem noteL_one (S : List Spn) (k n : Int) : noteL S k [n] = note1 S k n := rfl

section
variable {w : World}

theorem lev_row {b : Nat} {S : List Spn} {k : Int} {K : World → Prop} (hm : MapAt w b (Value.int .i64) (spM S)) (ok : (S.map (·.1)).Nodup)
    (hK : ∀ w', MapAt w' b (Value.int .i64) (spM (note1 S k (-1))) → Upd [b] w w' → K w') :
    BSl Try.prog 30 1 [(0, .int .i64 (-1))] w fun p n c w1 => C_plan_spans_note (some b) k p n c w1 K := by
  refine BSlL_rule eS_30 [.int .i64 (-1)] (by rfl) (by simp [Value.cells]) (by rfl) (by omega) fun w1 hs u1 => ?_
  have hs' : SlAt w1 1 (some ⟨w.heap.size, 0, none⟩) [(-1 : Int)].length 1 ([(-1 : Int)].map (.int .i64)) [w.heap.size] := by simpa [Value.cells] using hs
  have hlt := hm.lt
  have h := note_ok (b := b) (S := S) (k := k) (L := [(-1 : Int)]) (K := K) (hm.upd u1 (by simp)) ok hs' (by simp; omega) (by simp) (fun w2 hm2 u2 => hK w2 (by rw [noteL_one] at hm2; exact hm2) (u1.after u2))
  exact h

theorem gather_ok {c0 c1 c5 : Int} {c2 : ByteArray} {c3P gp : Option Addr} {c3N c3C gc : Nat} {gs : List GoalT} {hv : List Int} {F : List Nat} {K : Option Nat → Int → World → Prop}
    (hhead : ∀ (z : World) (K' : Option Addr → Nat → Nat → World → Prop), Upd [] w z → (∀ w' p c G, SlAt w' 1 p hv.length c (hv.map (.int .i64)) G → Since G z → Upd [] z w' → K' p hv.length c w') → C_term_Vars c0 c1 c2 c3P c3N c3C z K')
    (hg : GoalsA w F gs gp) (hF : In F w) (hck : ∀ g ∈ gs, checkT g.2 = 0) (hz : ∀ g ∈ gs, g.2.size ≤ 6000) (hl : gs.length ≤ 80) (hvl : hv.length < 2 ^ 30)
    (hK : ∀ w' b, MapAt w' b (Value.int .i64) (spM (gath hv gs).1) → w.heap.size ≤ b → Upd [] w w' → K (some b) (gath hv gs).2 w') : C_plan_gather c0 c1 c2 c3P c3N c3C gp gs.length gc c5 w K := by
  apply C_plan_gather.of
  unfold F_plan_gather
  refine New_rule fun r w1 hr u1 b1 => New_map fun b w2 hb u2 hm => ?_
  have m2 : MapAt w2 b (Value.int .i64) (spM []) := MapAt.new _ hm
  have U2 := u1.after u2
  have s1 := u1.size
  have s2 := u2.size
  have l2 := m2.lt
  have B2 := b1.upd u2 (by simp)
  simp only [NN_some, addN, drw_cell, drw_heap, exS, exI, exB, exP, exM, exStr, exV, a0, a1, a2, a3, a4, a5, a6, a7, a8, a9, a10, a11, a12, a13, maxI_eq, Nat.zero_add, Nat.add_zero, Nat.mul_one, Option.isNone_some, Option.isNone_none, B2.cell]
  refine hhead w2 _ U2 fun w3 p c G hs sG u3 => ?_
  refine note_ok (S := []) (m2.upd u3 (by simp)) (by simp) hs (fun hx => by have := sG b hx; omega) (by omega) fun w4 m4 u4 => ?_
  have l1 := b1.lt
  have B4 := (B2.upd u3 (by simp)).upd u4 (by simp; omega)
  simp only [NN_some, addN, drw_cell, drw_heap, exS, exI, exB, exP, exM, exStr, exV, a0, a1, a2, a3, a4, a5, a6, a7, a8, a9, a10, a11, a12, a13, maxI_eq, Nat.zero_add, Nat.add_zero, Nat.mul_one, Option.isNone_some, Option.isNone_none, B4.cell]
  have U4 : Upd [] w w4 := (U2.after u3).fresh u4 (by intro k hk; simp at hk; omega)
  have s4 := u4.size
  have s3 := u3.size
  unfold F_plan_gather_L1
  refine ⟨fun s z => ∃ i : Nat, s.t18 = i ∧ i ≤ gs.length ∧ s.chunk = (stG hv gs i).2 ∧ MapAt z b (Value.int .i64) (spM (stG hv gs i).1) ∧ Upd [b] w4 z, fun s _ => (gs.length - s.t18).toNat, ⟨0, rfl, by omega, by simp [stG], by simpa [stG] using m4, Upd.refl _ _⟩, ?_⟩
  rintro ⟨sc, si⟩ z ⟨i, rfl, hi, e1, mz, uz⟩
  dsimp only at e1
  subst e1
  unfold B_plan_gather_L1
  obtain ⟨ok, k0, ki⟩ := stG_ok hv gs i
  refine ifC (fun g => ?_) (fun g => ?_)
  · have gi : i < gs.length := by have := of_decide_eq_true g; dsimp only at this; omega
    have zs := uz.size
    have Uz : Upd [] w z := U4.fresh uz (by intro k hk; simp at hk; omega)
    obtain ⟨x, qg, cg, e, hx, hc', h1', h2'⟩ := hg.keep Uz i gi
    have f0 := hc' 0 (by omega); have f1 := hc' 1 (by omega); have f2 := hc' 2 (by omega); have f3 := hc' 3 (by omega); have f4 := hc' 4 (by omega)
    simp only [tmC, List.getElem?_cons_succ, List.getElem?_cons_zero, Nat.add_zero] at f0 f1 f2 f3 f4
    have hs0 : (0 : Int) ≤ (i : Int) := by omega
    have hs1 : (i : Int) < (gs.length : Int) := by omega
    refine ⟨hs0, hs1, ?_⟩
    rw [e]
    simp only [NN_some, addN, drw_cell, drw_heap, exS, exI, exB, exP, exM, exStr, exV, a0, a1, a2, a3, a4, a5, a6, a7, a8, a9, a10, a11, a12, a13, maxI_eq, Nat.zero_add, Nat.add_zero, Nat.mul_one, Option.isNone_some, Option.isNone_none, addA, Int.toNat_natCast, f0, f1, f2, f3, f4]
    refine New_rule fun r2 z1 hr2 y1 d1 => ?_
    refine St5n d1 rfl (by simp [Value.oneCell']) fun z2 y2 d2 => ?_
    simp only [NN_some, addN, drw_cell, drw_heap, exS, exI, exB, exP, exM, exStr, exV, a0, a1, a2, a3, a4, a5, a6, a7, a8, a9, a10, a11, a12, a13, maxI_eq, Nat.zero_add, Nat.add_zero, Nat.mul_one, Option.isNone_some, Option.isNone_none, addA, d2.cell]
    have Y2 : Upd [] z z2 := y1.fresh y2 (by intro k hk; simp at hk; omega)
    have mz2 := mz.upd Y2 (by simp)
    have s2z := Y2.size
    have y1s := y1.size
    have lz := mz.lt
    have nr2 : r2 ≠ b := by omega
    obtain ⟨t, ht⟩ : ∃ t, t = gs[i].2 := ⟨_, rfl⟩
    obtain ⟨kd, hkd⟩ : ∃ kd, kd = gs[i].1 := ⟨_, rfl⟩
    have htc := hck _ (List.getElem_mem gi)
    have htz := hz _ (List.getElem_mem gi)
    rw [← ht] at htc htz h1' h2' d2
    rw [← hkd] at d2 ⊢
    have nxt := stG_next (hv := hv) gi
    -- behind the level's notes
    have k1 : ∀ {z3 : World}, MapAt z3 b (Value.int .i64) (spM (levG (stG hv gs i) gs[i])) → Blk z3 r2 #[.int .i64 kd, .int .i64 t.kind, .int .i64 t.n, .string t.s, .slice qg t.l.length cg] → Upd [b] z z3 →
        F_plan_gather_k1 (some b) ⟨(stG hv gs i).2, (i : Int)⟩ (fun s w' => (∃ i : Nat, s.t18 = i ∧ i ≤ gs.length ∧ s.chunk = (stG hv gs i).2 ∧ MapAt w' b (Value.int .i64) (spM (stG hv gs i).1) ∧ Upd [b] w4 w') ∧ (gs.length - s.t18).toNat < ((gs.length : Int) - (i : Int)).toNat) r2 kd z3 := fun {z3} m3 d3 v3 => by
      unfold F_plan_gather_k1
      have V3 : Upd [] w z3 := Uz.fresh v3 (by intro k hk; simp at hk; omega)
      refine ifC (fun g2 => ?_) (fun g2 => ?_)
      · have hne : gs[i].1 ≠ 2 := by rw [← hkd]; simpa using g2
        simp only [NN_some, addN, drw_cell, drw_heap, exS, exI, exB, exP, exM, exStr, exV, a0, a1, a2, a3, a4, a5, a6, a7, a8, a9, a10, a11, a12, a13, maxI_eq, Nat.zero_add, Nat.add_zero, Nat.mul_one, Option.isNone_some, Option.isNone_none, addA, Nat.reduceAdd, d3.cell]
        have v3s := v3.size
        have m3l := m3.lt
        refine Vars_ok (F := F) t htc (RdA.upd' v3 (fun k hk hx => by simp at hx; subst hx; have := hF k hk; omega) h2') (hF.upd V3) (by omega) fun z4 p4 c4 G4 hs4 sG4 y4 => ?_
        have okl := (levG_ok (g := gs[i]) ok k0).nodup
        have vl := vars_len t []
        refine note_ok (m3.upd y4 (by simp)) okl hs4 (fun hx => by have := sG4 b hx; omega) (by simp at vl; omega) fun z5 m5 y5 => ?_
        unfold F_plan_gather_k2
        dsimp only
        rw [i64id (by omega) (by omega), i64id (by omega) (by omega)]
        have est : stG hv gs (i + 1) = (noteL (levG (stG hv gs i) gs[i]) (stG hv gs i).2 (t.vars []), (stG hv gs i).2 + 1) := by
          rw [nxt, ht]
          unfold stepG
          rw [if_neg hne]
        refine ⟨⟨i + 1, by simp, by omega, by rw [est], by rw [est]; exact m5, uz.both (v3.both (y4.after y5))⟩, by omega⟩
      · have heq : gs[i].1 = 2 := by rw [← hkd]; simpa using g2
        unfold F_plan_gather_k2
        dsimp only
        rw [i64id (by omega) (by omega)]
        have est : stG hv gs (i + 1) = (levG (stG hv gs i) gs[i], (stG hv gs i).2) := by
          rw [nxt]
          unfold stepG
          rw [if_pos heq]
        exact ⟨⟨i + 1, by simp, by omega, by rw [est], by rw [est]; exact m3, uz.both v3⟩, by omega⟩
    have Y2b : Upd [b] z z2 := Y2.mono (by simp)
    -- the level is noted
    have both : lvlG gs[i] (stG hv gs i).2 = true → BSl Try.prog 30 1 [(0, .int .i64 (-1))] z2 fun p n c w1 => C_plan_spans_note (some b) 0 p n c w1 fun w2 => BSl Try.prog 30 1 [(0, .int .i64 (-1))] w2 fun p n c w1 => C_plan_spans_note (some b) (stG hv gs i).2 p n c w1 fun z3 =>
        F_plan_gather_k1 (some b) ⟨(stG hv gs i).2, (i : Int)⟩ (fun s w' => (∃ i : Nat, s.t18 = i ∧ i ≤ gs.length ∧ s.chunk = (stG hv gs i).2 ∧ MapAt w' b (Value.int .i64) (spM (stG hv gs i).1) ∧ Upd [b] w4 w') ∧ (gs.length - s.t18).toNat < ((gs.length : Int) - (i : Int)).toNat) r2 kd z3 := fun hlv => by
      refine lev_row mz2 ok.nodup fun z3 m3 y3 => lev_row m3 (nodup_note ok.nodup) fun z4 m4' y4 => k1 ?_ ((d2.upd y3 (by simpa using nr2)).upd y4 (by simpa using nr2)) ((Y2b.both y3).both y4)
      unfold levG
      rw [if_pos hlv]
      exact m4'
    refine ifC (fun g3 => both ?_) (fun g3 => ifC (fun g2 => ifC (fun gk => both ?_) (fun gk => k1 ?_ d2 Y2b)) (fun g2 => k1 ?_ d2 Y2b))
    · unfold lvlG; rw [← hkd, g3]; rfl
    · unfold lvlG; rw [← hkd, g2]; have := of_decide_eq_true gk; simp; right; exact this
    · unfold levG
      rw [if_neg (by unfold lvlG; rw [← hkd, g3]; have := of_decide_eq_false gk; simp; intro _; omega)]
      exact mz2
    · unfold levG
      rw [if_neg (by unfold lvlG; rw [← hkd, g3, g2]; simp)]
      exact mz2
  · have gi : i = gs.length := by have := of_decide_eq_false g; dsimp only at this; omega
    subst gi
    rw [stG_all] at mz ⊢
    exact hK z b mz (by omega) (U4.fresh uz (by intro k hk; simp at hk; omega))
end

end Go.Proofs.Ytdbkbaeeccemkaa
