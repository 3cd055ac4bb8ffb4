/- Terms in memory that are only read; what is wrong with them. -/
import Derived.Test.YtdbkbaeeccemkaaGenAll
import Derived.Test.YtdbkbaeeccemkaaOwn12
import Derived.Test.YtdbkbaeeccemkaaOwn17
namespace Go.Proofs.Ytdbkbaeeccemkaa
open Go Go.D Go.Proofs
set_option linter.unusedSimpArgs false
set_option linter.unusedVariables false
set_option maxRecDepth 8000

/-- A term: kind, number, name, arguments. -/
inductive Tm where
  | mk (kind n : Int) (s : ByteArray) (l : List Tm)

def Tm.kind : Tm → Int | .mk k _ _ _ => k
def Tm.n : Tm → Int | .mk _ n _ _ => n
def Tm.s : Tm → ByteArray | .mk _ _ s _ => s
def Tm.l : Tm → List Tm | .mk _ _ _ l => l

theorem Tm.lt_of_mem {t u : Tm} (h : u ∈ t.l) : SizeOf.sizeOf u < SizeOf.sizeOf t := by
  cases t with
  | mk k n s l =>
    have := List.sizeOf_lt_of_mem (show u ∈ l from h)
    simp; omega

theorem Tm.ind {P : Tm → Prop} (h : ∀ t, (∀ u ∈ t.l, P u) → P t) (t : Tm) : P t :=
  h t fun u hu => Tm.ind h u
termination_by SizeOf.sizeOf t
decreasing_by exact Tm.lt_of_mem hu

/-- A row of terms is read; each block that is read is one of some. -/
def RdA (w : World) (F : List Nat) : List Tm → Option Addr → Nat → Prop
  | [], _, _ => True
  | .mk k n s l :: r, p, i => (∃ x q c, p = some x ∧ x.block ∈ F ∧ w.cell? (x.add (i * 4)) = some (.int .i64 k) ∧ w.cell? (x.add (i * 4 + 1)) = some (.int .i64 n) ∧ w.cell? (x.add (i * 4 + 2)) = some (.string s) ∧
      w.cell? (x.add (i * 4 + 3)) = some (.slice q l.length c) ∧ s.size < 2 ^ 63 ∧ RdA w F l q 0) ∧ RdA w F r p (i + 1)

theorem RdA.cons {w : World} {F : List Nat} {t : Tm} {r : List Tm} {p : Option Addr} {i : Nat} : RdA w F (t :: r) p i ↔ (∃ x q c, p = some x ∧ x.block ∈ F ∧ w.cell? (x.add (i * 4)) = some (.int .i64 t.kind) ∧ w.cell? (x.add (i * 4 + 1)) = some (.int .i64 t.n) ∧ w.cell? (x.add (i * 4 + 2)) = some (.string t.s) ∧
      w.cell? (x.add (i * 4 + 3)) = some (.slice q t.l.length c) ∧ t.s.size < 2 ^ 63 ∧ RdA w F t.l q 0) ∧ RdA w F r p (i + 1) := by
  cases t
  rw [RdA]
  rfl

theorem RdA.at {w : World} {F : List Nat} : ∀ {l : List Tm} {p : Option Addr} {j : Nat}, RdA w F l p j → ∀ i (hi : i < l.length), ∃ x q c, p = some x ∧ x.block ∈ F ∧ w.cell? (x.add ((j + i) * 4)) = some (.int .i64 l[i].kind) ∧ w.cell? (x.add ((j + i) * 4 + 1)) = some (.int .i64 l[i].n) ∧ w.cell? (x.add ((j + i) * 4 + 2)) = some (.string l[i].s) ∧
      w.cell? (x.add ((j + i) * 4 + 3)) = some (.slice q l[i].l.length c) ∧ l[i].s.size < 2 ^ 63 ∧ RdA w F l[i].l q 0
  | [], _, _, _, i, hi => absurd hi (by simp)
  | t :: r, p, j, h, 0, hi => by
    have := (RdA.cons.1 h).1
    simp only [List.getElem_cons_zero, Nat.add_zero]
    exact this
  | t :: r, p, j, h, i + 1, hi => by
    have := RdA.at (RdA.cons.1 h).2 i (by simpa using hi)
    simp only [List.getElem_cons_succ]
    rw [show j + (i + 1) = j + 1 + i by omega]
    exact this

theorem RdA.of {w : World} {F : List Nat} {p : Option Addr} : ∀ {l : List Tm} {j : Nat}, (∀ i (hi : i < l.length), ∃ x q c, p = some x ∧ x.block ∈ F ∧ w.cell? (x.add ((j + i) * 4)) = some (.int .i64 l[i].kind) ∧ w.cell? (x.add ((j + i) * 4 + 1)) = some (.int .i64 l[i].n) ∧ w.cell? (x.add ((j + i) * 4 + 2)) = some (.string l[i].s) ∧
      w.cell? (x.add ((j + i) * 4 + 3)) = some (.slice q l[i].l.length c) ∧ l[i].s.size < 2 ^ 63 ∧ RdA w F l[i].l q 0) → RdA w F l p j
  | [], _, _ => by rw [RdA]; trivial
  | t :: r, j, h => by
    have h0 := h 0 (by simp)
    simp only [List.getElem_cons_zero, Nat.add_zero] at h0
    refine RdA.cons.2 ⟨h0, RdA.of fun i hi => ?_⟩
    have := h (i + 1) (by simpa using hi)
    simp only [List.getElem_cons_succ] at this
    rw [show j + (i + 1) = j + 1 + i by omega] at this
    exact this

theorem RdA.upd {w w' : World} {F G : List Nat} (u : Upd G w w') (hd : Dis F G) : ∀ (t : Tm) {p : Option Addr}, RdA w F t.l p 0 → RdA w' F t.l p 0 := by
  refine Tm.ind fun t ih p h => RdA.of fun i hi => ?_
  obtain ⟨x, q, c, h1, h2, h3, h4, h5, h6, h7, h8⟩ := h.at i hi
  have hx : ∀ j, (x.add j).block ∉ G := fun j => by rw [add_block]; exact hd _ h2
  exact ⟨x, q, c, h1, h2, u.cell h3 (hx _), u.cell h4 (hx _), u.cell h5 (hx _), u.cell h6 (hx _), h7, ih _ (List.getElem_mem hi) h8⟩

/-- The same, of a row. -/
theorem RdA.upd' {w w' : World} {F G : List Nat} (u : Upd G w w') (hd : Dis F G) {l : List Tm} {p : Option Addr} (h : RdA w F l p 0) : RdA w' F l p 0 := RdA.upd u hd (.mk 0 0 ⟨#[]⟩ l) h

theorem RdA.keep {w w' : World} {F : List Nat} (u : Upd [] w w') {l : List Tm} {p : Option Addr} (h : RdA w F l p 0) : RdA w' F l p 0 := RdA.upd' u (by intro k _ h; cases h) h

theorem RdA.sub {w : World} {F G : List Nat} (hs : ∀ k ∈ F, k ∈ G) : ∀ (t : Tm) {p : Option Addr}, RdA w F t.l p 0 → RdA w G t.l p 0 := by
  refine Tm.ind fun t ih p h => RdA.of fun i hi => ?_
  obtain ⟨x, q, c, h1, h2, h3, h4, h5, h6, h7, h8⟩ := h.at i hi
  exact ⟨x, q, c, h1, hs _ h2, h3, h4, h5, h6, h7, ih _ (List.getElem_mem hi) h8⟩

/-! ## What is wrong with a term -/

def partT (k n : Int) (s : ByteArray) (m : Nat) : Bool :=
  if k = 1 then decide (0 ≤ n ∧ n < 1073741824) && s.toList == [] && m == 0
  else if k = 2 then decide (-9007199254740991 ≤ n ∧ n ≤ 9007199254740991) && s.toList == [] && m == 0
  else if k = 3 then n == 0 && decide (s.size ≤ 64) && m == 0
  else if k = 4 then n == 0 && decide (s.size ≤ 64) && decide (1 ≤ m ∧ m ≤ 16)
  else false

mutual
def Tm.right : Tm → Bool
  | .mk k n s l => partT k n s l.length && rightL l
def rightL : List Tm → Bool
  | [] => true
  | t :: r => t.right && rightL r
end

mutual
def Tm.size : Tm → Nat
  | .mk _ _ _ l => sizeL l + 1
def sizeL : List Tm → Nat
  | [] => 0
  | t :: r => t.size + sizeL r
end

mutual
def Tm.depth : Tm → Nat
  | .mk _ _ _ l => depthL l + 1
def depthL : List Tm → Nat
  | [] => 0
  | t :: r => max t.depth (depthL r)
end

theorem Tm.right_eq (t : Tm) : t.right = (partT t.kind t.n t.s t.l.length && rightL t.l) := by cases t; rw [Tm.right]; rfl
theorem Tm.size_eq (t : Tm) : t.size = sizeL t.l + 1 := by cases t; rw [Tm.size]; rfl
theorem Tm.depth_eq (t : Tm) : t.depth = depthL t.l + 1 := by cases t; rw [Tm.depth]; rfl

theorem sizeL_app : ∀ (l r : List Tm), sizeL (l ++ r) = sizeL l + sizeL r
  | [], r => by rw [List.nil_append, sizeL]; omega
  | t :: l, r => by rw [List.cons_append, sizeL, sizeL, sizeL_app l r]; omega
theorem depthL_app : ∀ (l r : List Tm), depthL (l ++ r) = max (depthL l) (depthL r)
  | [], r => by rw [List.nil_append, depthL]; omega
  | t :: l, r => by rw [List.cons_append, depthL, depthL, depthL_app l r]; omega
theorem rightL_app : ∀ (l r : List Tm), rightL (l ++ r) = (rightL l && rightL r)
  | [], r => by rw [List.nil_append, rightL]; simp
  | t :: l, r => by rw [List.cons_append, rightL, rightL, rightL_app l r]; simp [Bool.and_assoc]

theorem sizeL_one (t : Tm) : sizeL [t] = t.size := by rw [sizeL, sizeL]; omega
theorem depthL_one (t : Tm) : depthL [t] = t.depth := by rw [depthL, depthL]; omega
theorem rightL_one (t : Tm) : rightL [t] = t.right := by rw [rightL, rightL]; simp

theorem take_step {α : Type} {l : List α} {i : Nat} (hi : i < l.length) : l.take (i + 1) = l.take i ++ [l[i]] := List.take_succ_eq_append_getElem hi

theorem sizeL_take {l : List Tm} {i : Nat} (hi : i < l.length) : sizeL (l.take (i + 1)) = sizeL (l.take i) + l[i].size := by rw [take_step hi, sizeL_app, sizeL_one]
theorem depthL_take {l : List Tm} {i : Nat} (hi : i < l.length) : depthL (l.take (i + 1)) = max (depthL (l.take i)) l[i].depth := by rw [take_step hi, depthL_app, depthL_one]
theorem rightL_take {l : List Tm} {i : Nat} (hi : i < l.length) : rightL (l.take (i + 1)) = (rightL (l.take i) && l[i].right) := by rw [take_step hi, rightL_app, rightL_one]

theorem sizeL_le : ∀ {l : List Tm} {t : Tm}, t ∈ l → t.size ≤ sizeL l
  | x :: l, t, h => by
    rw [sizeL]
    rcases List.mem_cons.1 h with rfl | h
    · omega
    · have := sizeL_le h; omega
theorem sizeL_take_le {l : List Tm} : ∀ i, sizeL (l.take i) ≤ sizeL l := fun i => by
  have := sizeL_app (l.take i) (l.drop i)
  rw [List.take_append_drop] at this
  omega
theorem sizeL_pos : ∀ {l : List Tm}, l.length ≤ sizeL l
  | [] => by simp
  | t :: l => by
    rw [sizeL, List.length_cons, Tm.size_eq]
    have := sizeL_pos (l := l); omega
theorem depth_le_size : ∀ t : Tm, t.depth ≤ t.size := by
  have aux : ∀ l : List Tm, (∀ t ∈ l, t.depth ≤ t.size) → depthL l ≤ sizeL l := by
    intro l
    induction l with
    | nil => intro _; simp [depthL]
    | cons t l ih =>
      intro h
      rw [depthL, sizeL]
      have := ih fun u hu => h u (by simp [hu])
      have := h t (by simp)
      omega
  refine Tm.ind fun t ih => ?_
  rw [Tm.depth_eq, Tm.size_eq]
  have := aux t.l ih
  omega

/-- What is wrong with a term (0: nothing). -/
def checkT (t : Tm) : Int := if t.right = false then 60 else if 200 < t.depth then 61 else if 4096 < t.size then 62 else 0

end Go.Proofs.Ytdbkbaeeccemkaa

/- What is wrong with a term, as the program and the document find it. -/
namespace Go.Proofs.Ytdbkbaeeccemkaa
open Go Go.D Go.Proofs
set_option linter.unusedSimpArgs false
set_option linter.unusedVariables false
set_option maxRecDepth 8000

theorem noBytes : (⟨#[]⟩ : ByteArray).toList = [] := by
  unfold ByteArray.toList
  rw [ByteArray.toList.loop.eq_1]
  rfl

section
variable {w : World}

theorem natCast_beq0 (m : Nat) : ((m : Int) == 0) = (m == 0) := by
  rcases m with _ | m
  · rfl
  · have h1 : ((m + 1 : Nat) == 0) = false := by simp
    rw [h1, beq_eq_false_iff_ne]; omega

theorem bare_ok {k n : Int} {s : ByteArray} {p : Option Addr} {m c : Nat} {K : Bool → World → Prop} (hK : ∀ w', Upd [] w w' → K (s.toList == [] && m == 0) w') : C_term_bare k n s p m c w K := by
  apply C_term_bare.of
  unfold F_term_bare
  refine New_rule fun r w1 hr u1 b1 => ?_
  have := hK w1 u1
  simp only [NN_some, addN, drw_cell, drw_heap, exS, exI, exB, exP, exM, exStr, exV, a0, a1, a2, a3, a4, a5, a6, a7, a8, a9, a10, a11, a12, a13, maxI_eq, Nat.zero_add, Nat.add_zero, Nat.mul_one, Option.isNone_some, Option.isNone_none, b1.cell, noBytes, natCast_beq0]
  refine ifC (fun g => ?_) (fun g => ?_)
  · rw [g] at this
    simpa using this
  · rw [g] at this
    simpa using this

theorem part_ok {k n : Int} {s : ByteArray} {p : Option Addr} {m c : Nat} {K : Bool → World → Prop} (hK : ∀ w', Upd [] w w' → K (partT k n s m) w') : C_term_part k n s p m c w K := by
  apply C_term_part.of
  unfold F_term_part F_term_part_k1 F_term_part_k2 F_term_part_k3 F_term_part_k4 F_term_part_k5
  refine New_rule fun r w1 hr u1 b1 => ?_
  have hv : ∀ {b : Bool} {w' : World}, Upd [] w w' → partT k n s m = b → K b w' := fun u e => by rw [← e]; exact hK _ u
  simp only [NN_some, addN, drw_cell, drw_heap, exS, exI, exB, exP, exM, exStr, exV, a0, a1, a2, a3, a4, a5, a6, a7, a8, a9, a10, a11, a12, a13, maxI_eq, Nat.zero_add, Nat.add_zero, Nat.mul_one, Option.isNone_some, Option.isNone_none, b1.cell, natCast_beq0]
  have v1 : k = 1 → partT k n s m = (decide (0 ≤ n ∧ n < 1073741824) && s.toList == [] && m == 0) := fun h => by unfold partT; rw [if_pos h]
  have v2 : k = 2 → partT k n s m = (decide (-9007199254740991 ≤ n ∧ n ≤ 9007199254740991) && s.toList == [] && m == 0) := fun h => by unfold partT; rw [if_neg (by omega), if_pos h]
  have v3 : k = 3 → partT k n s m = (n == 0 && decide (s.size ≤ 64) && m == 0) := fun h => by unfold partT; rw [if_neg (by omega), if_neg (by omega), if_pos h]
  have v4 : k = 4 → partT k n s m = (n == 0 && decide (s.size ≤ 64) && decide (1 ≤ m ∧ m ≤ 16)) := fun h => by unfold partT; rw [if_neg (by omega), if_neg (by omega), if_neg (by omega), if_pos h]
  have v5 : k ≠ 1 → k ≠ 2 → k ≠ 3 → k ≠ 4 → partT k n s m = false := fun h1 h2 h3 h4 => by unfold partT; rw [if_neg h1, if_neg h2, if_neg h3, if_neg h4]
  refine ifC (fun g0 => ?_) (fun g0 => ?_)
  all_goals
    simp only [beq_iff_eq, beq_eq_false_iff_ne, ne_eq] at g0
    refine ifC (fun g1 => ?_) (fun g1 => ifC (fun g2 => ?_) (fun g2 => ifC (fun g3 => ?_) (fun g3 => ifC (fun g4 => ?_) (fun g4 => ?_))))
  all_goals simp only [beq_iff_eq, beq_eq_false_iff_ne, ne_eq] at g1
  all_goals try simp only [beq_iff_eq, beq_eq_false_iff_ne, ne_eq] at g2
  all_goals try simp only [beq_iff_eq, beq_eq_false_iff_ne, ne_eq] at g3
  all_goals try simp only [beq_iff_eq, beq_eq_false_iff_ne, ne_eq] at g4
  · refine ifC (fun h1 => ifC (fun h2 => bare_ok fun w2 u2 => hv (u1.after u2) ?_) (fun h2 => hv u1 ?_)) (fun h1 => hv u1 ?_)
    · simp only [ge_iff_le, decide_eq_true_eq] at h1 h2; rw [v1 g1]; simp [h1, h2]
    · simp only [ge_iff_le, decide_eq_true_eq, decide_eq_false_iff_not] at h1 h2; rw [v1 g1]; simp [h2]
    · simp only [ge_iff_le, decide_eq_false_iff_not] at h1; rw [v1 g1]; simp [h1]
  · refine ifC (fun h1 => ifC (fun h2 => bare_ok fun w2 u2 => hv (u1.after u2) ?_) (fun h2 => hv u1 ?_)) (fun h1 => hv u1 ?_)
    · simp only [ge_iff_le, decide_eq_true_eq] at h1 h2; rw [v2 g2]; simp [h1, h2]
    · simp only [ge_iff_le, decide_eq_true_eq, decide_eq_false_iff_not] at h1 h2; rw [v2 g2]; simp [h2]
    · simp only [ge_iff_le, decide_eq_false_iff_not] at h1; rw [v2 g2]; simp [h1]
  · refine ifC (fun h1 => hv u1 ?_) (fun h1 => hv u1 ?_)
    · simp only [decide_eq_true_eq] at h1; rw [v3 g3]; simp [g0, show s.size ≤ 64 by omega]
    · simp only [decide_eq_false_iff_not] at h1; rw [v3 g3]; simp [g0, show ¬ s.size ≤ 64 by omega]
  · refine ifC (fun h1 => ifC (fun h2 => hv u1 ?_) (fun h2 => hv u1 ?_)) (fun h1 => hv u1 ?_)
    · simp only [ge_iff_le, decide_eq_true_eq] at h1 h2; rw [v4 g4]; simp [g0, show s.size ≤ 64 by omega, show 1 ≤ m by omega]; omega
    · simp only [ge_iff_le, decide_eq_true_eq, decide_eq_false_iff_not] at h1 h2; rw [v4 g4]; simp [g0]; omega
    · simp only [decide_eq_false_iff_not] at h1; rw [v4 g4]; simp [g0, show ¬ s.size ≤ 64 by omega]
  · exact hv u1 (v5 g1 g2 g3 g4)
  · refine ifC (fun h1 => ifC (fun h2 => bare_ok fun w2 u2 => hv (u1.after u2) ?_) (fun h2 => hv u1 ?_)) (fun h1 => hv u1 ?_)
    · simp only [ge_iff_le, decide_eq_true_eq] at h1 h2; rw [v1 g1]; simp [h1, h2]
    · simp only [ge_iff_le, decide_eq_true_eq, decide_eq_false_iff_not] at h1 h2; rw [v1 g1]; simp [h2]
    · simp only [ge_iff_le, decide_eq_false_iff_not] at h1; rw [v1 g1]; simp [h1]
  · refine ifC (fun h1 => ifC (fun h2 => bare_ok fun w2 u2 => hv (u1.after u2) ?_) (fun h2 => hv u1 ?_)) (fun h1 => hv u1 ?_)
    · simp only [ge_iff_le, decide_eq_true_eq] at h1 h2; rw [v2 g2]; simp [h1, h2]
    · simp only [ge_iff_le, decide_eq_true_eq, decide_eq_false_iff_not] at h1 h2; rw [v2 g2]; simp [h2]
    · simp only [ge_iff_le, decide_eq_false_iff_not] at h1; rw [v2 g2]; simp [h1]
  · exact hv u1 (by rw [v3 g3]; simp [g0])
  · exact hv u1 (by rw [v4 g4]; simp [g0])
  · exact hv u1 (v5 g1 g2 g3 g4)

/-! ## The program's count -/

theorem count_ok (F : List Nat) (t : Tm) {w : World} {r : Nat} {p : Option Addr} {c : Nat} {ps dp : Int} {bad : Bool} {depth : Int} {K : World → Prop} (hp : RdA w F t.l p 0) (hb : Blk w r #[.int .i64 ps, .int .i64 dp, .bool bad]) (hrF : r ∉ F) (h0 : 0 ≤ ps) (h1 : ps + t.size < 2 ^ 62) (h2 : 0 ≤ depth) (h3 : depth + t.size < 2 ^ 62)
    (hK : ∀ w', Blk w' r #[.int .i64 (ps + t.size), .int .i64 (max dp (depth - 1 + t.depth)), .bool (bad || !t.right)] → Upd [r] w w' → K w') : C_term_count_of (some ⟨r, 0, none⟩) t.kind t.n t.s p t.l.length c depth w K := by
  induction t using Tm.ind generalizing w r p c ps dp bad depth K with | _ t ih => ?_
  apply C_term_count_of.of
  unfold F_term_count_of F_term_count_of_k1
  refine New_rule fun q w1 hq u1 b1 => ?_
  have hb1 := hb.upd u1 (by simp)
  have hqr : q ≠ r := by have := hb.lt; omega
  have hts := Tm.size_eq t
  have hpos := sizeL_pos (l := t.l)
  simp only [NN_some, addN, drw_cell, drw_heap, exS, exI, exB, exP, exM, exStr, exV, a0, a1, a2, a3, a4, a5, a6, a7, a8, a9, a10, a11, a12, a13, maxI_eq, Nat.zero_add, Nat.add_zero, Nat.mul_one, Option.isNone_some, Option.isNone_none, hb1.cell]
  refine St_rule hb1 (by simp) rfl fun w2 u2 hb2 => ?_
  simp at hb2
  simp only [NN_some, addN, drw_cell, drw_heap, exS, exI, exB, exP, exM, exStr, exV, a0, a1, a2, a3, a4, a5, a6, a7, a8, a9, a10, a11, a12, a13, maxI_eq, Nat.zero_add, Nat.add_zero, Nat.mul_one, Option.isNone_some, Option.isNone_none, hb2.cell]
  refine St_rule hb2 (by simp) rfl fun w3 u3 hb3 => ?_
  simp at hb3
  have hq3 := (b1.upd u2 (by simp; omega)).upd u3 (by simp; omega)
  simp only [NN_some, addN, drw_cell, drw_heap, exS, exI, exB, exP, exM, exStr, exV, a0, a1, a2, a3, a4, a5, a6, a7, a8, a9, a10, a11, a12, a13, maxI_eq, Nat.zero_add, Nat.add_zero, Nat.mul_one, Option.isNone_some, Option.isNone_none, hb3.cell, hq3.cell]
  have U3 : Upd [r] w w3 := (u1.after u2).both u3
  -- what follows
  have tail : ∀ {w4 : World} {b4 : Bool}, Upd [r] w w4 → Blk w4 r #[.int .i64 (ps + 1), .int .i64 (max dp depth), .bool b4] → Blk w4 q #[.int .i64 t.kind, .int .i64 t.n, .string t.s, .slice p t.l.length c] → b4 = (bad || !partT t.kind t.n t.s t.l.length) →
      F_term_count_of_L1 (some ⟨r, 0, none⟩) depth p t.l.length c (t.l.length : Int) ⟨0⟩ w4 K := by
    intro w4 b4 U4 hb4 hq4 hbe
    unfold F_term_count_of_L1
    have hp4 : RdA w4 F t.l p 0 := RdA.upd' U4 (by intro k hk hk2; simp at hk2; subst hk2; exact hrF hk) hp
    refine ⟨fun s v => ∃ i : Nat, s.t39 = i ∧ i ≤ t.l.length ∧ Upd [r] w v ∧ Upd [r] w4 v ∧ Blk v r #[.int .i64 (ps + 1 + sizeL (t.l.take i)), .int .i64 (max (max dp depth) (if i = 0 then 0 else depth + depthL (t.l.take i))), .bool (b4 || !rightL (t.l.take i))], fun s _ => (t.l.length - s.t39).toNat, ⟨0, rfl, by omega, U4, Upd.refl _ _, ?_⟩, ?_⟩
    · simpa [sizeL, rightL, show max (max dp depth) 0 = max dp depth by omega] using hb4
    rintro ⟨si⟩ v ⟨i, hi0, hi, uv, uv4, hbv⟩
    dsimp only at hi0
    subst hi0
    unfold B_term_count_of_L1
    dsimp only
    refine ifC (fun g => ?_) (fun g => ?_)
    · simp at g
      have hpv := RdA.upd' uv4 (by intro k hk hk2; simp at hk2; subst hk2; exact hrF hk) hp4
      obtain ⟨x, qq, cc, e1, e2, e3, e4, e5, e6, e7, e8⟩ := hpv.at i g
      simp only [Nat.zero_add] at e3 e4 e5 e6
      simp only [e1, NN_some, addN, drw_cell, drw_heap, exS, exI, exB, exP, exM, exStr, exV, a0, a1, a2, a3, a4, a5, a6, a7, a8, a9, a10, a11, a12, a13, maxI_eq, Nat.zero_add, Nat.add_zero, Nat.mul_one, Option.isNone_some, Option.isNone_none, addA, Int.toNat_natCast, e3, e4, e5, e6]
      refine ⟨by omega, by omega, New_rule fun q2 v1 hq2 z1 bb => ?_⟩
      refine St_acc (Upd.refl _ _) bb (by simp) rfl fun v2 z2 b2 => St_acc z2 b2 (by simp) rfl fun v3 z3 b3 => St_acc z3 b3 (by simp) rfl fun v4 z4 b4' => St_acc z4 b4' (by simp) rfl fun v5 z5 b5 => ?_
      simp at b5
      have Z5 : Upd [] v v5 := z1.fresh z5 (by intro k hk; simp at hk; omega)
      simp only [NN_some, addN, drw_cell, drw_heap, exS, exI, exB, exP, exM, exStr, exV, a0, a1, a2, a3, a4, a5, a6, a7, a8, a9, a10, a11, a12, a13, maxI_eq, Nat.zero_add, Nat.add_zero, Nat.mul_one, Option.isNone_some, Option.isNone_none, b5.cell]
      have hst := sizeL_take (l := t.l) g
      have hsl := sizeL_take_le (l := t.l) (i + 1)
      rw [i64id (x := depth + 1) (by omega) (by omega)]
      refine ih t.l[i] (List.getElem_mem g) (RdA.keep Z5 e8) (hbv.upd Z5 (by simp)) hrF (by omega) (by omega) (by omega) (by omega) fun v6 hb6 u6 => ?_
      rw [i64id (by omega) (by omega)]
      refine ⟨⟨i + 1, by simp, by omega, (uv.before Z5).both u6, (uv4.before Z5).both u6, ?_⟩, by simp; omega⟩
      have hd := depthL_take (l := t.l) g
      have hr' := rightL_take (l := t.l) g
      have hd1 : t.l[i].depth ≥ 1 := by rw [Tm.depth_eq]; omega
      rw [hst, hd, hr', if_neg (by omega)]
      have e9 : max (max (max dp depth) (if i = 0 then 0 else depth + depthL (t.l.take i))) (depth + 1 - 1 + (t.l[i].depth : Int)) = max (max dp depth) (depth + ((max (depthL (t.l.take i)) t.l[i].depth : Nat) : Int)) := by
        by_cases h : i = 0
        · subst h; simp [depthL]; omega
        · rw [if_neg h]; omega
      have e10 : ps + 1 + (sizeL (t.l.take i) : Int) + (t.l[i].size : Int) = ps + 1 + ((sizeL (t.l.take i) + t.l[i].size : Nat) : Int) := by omega
      have e11 : ((b4 || !rightL (t.l.take i)) || !t.l[i].right) = (b4 || !(rightL (t.l.take i) && t.l[i].right)) := by
        cases b4 <;> cases rightL (t.l.take i) <;> cases t.l[i].right <;> rfl
      rw [e9, e10, e11] at hb6
      exact hb6
    · simp at g
      have hii : i = t.l.length := by omega
      rw [hii, List.take_length] at hbv
      refine hK v ?_ uv
      have e9 : max (max dp depth) (if t.l.length = 0 then 0 else depth + (depthL t.l : Int)) = max dp (depth - 1 + (t.depth : Int)) := by
        rw [Tm.depth_eq]
        by_cases h : t.l.length = 0
        · rw [if_pos h, List.eq_nil_of_length_eq_zero h]; simp [depthL]; omega
        · rw [if_neg h]; omega
      have e10 : ps + 1 + (sizeL t.l : Int) = ps + (t.size : Int) := by rw [hts]; omega
      have e11 : (b4 || !rightL t.l) = (bad || !t.right) := by
        rw [hbe, Tm.right_eq]
        cases bad <;> cases rightL t.l <;> cases partT t.kind t.n t.s t.l.length <;> rfl
      rw [e9, e10, e11] at hbv
      exact hbv
  rw [i64id (by omega) (by omega)] at hb3
  refine ifC (fun gb => ?_) (fun gb => ?_)
  · refine St_rule hb3 (by simp) rfl fun w4 u4 hb4 => ?_
    simp at hb4
    have hq4 := hq3.upd u4 (by simp; omega)
    simp only [NN_some, addN, drw_cell, drw_heap, exS, exI, exB, exP, exM, exStr, exV, a0, a1, a2, a3, a4, a5, a6, a7, a8, a9, a10, a11, a12, a13, maxI_eq, Nat.zero_add, Nat.add_zero, Nat.mul_one, Option.isNone_some, Option.isNone_none, hq4.cell]
    exact tail (U3.both u4) hb4 hq4 (by rw [gb]; rfl)
  · refine part_ok fun w4 u4 => ?_
    have hb4 := hb3.upd u4 (by simp)
    refine St_rule hb4 (by simp) rfl fun w5 u5 hb5 => ?_
    simp at hb5
    have hq5 := (hq3.upd u4 (by simp)).upd u5 (by simp; omega)
    simp only [NN_some, addN, drw_cell, drw_heap, exS, exI, exB, exP, exM, exStr, exV, a0, a1, a2, a3, a4, a5, a6, a7, a8, a9, a10, a11, a12, a13, maxI_eq, Nat.zero_add, Nat.add_zero, Nat.mul_one, Option.isNone_some, Option.isNone_none, hq5.cell]
    exact tail ((U3.before u4).both u5) hb5 hq5 (by rw [gb]; rfl)
end

end Go.Proofs.Ytdbkbaeeccemkaa

/- Check, as the program and the document have it; how deep, how large a term is. -/
namespace Go.Proofs.Ytdbkbaeeccemkaa
open Go Go.D Go.Proofs
set_option linter.unusedSimpArgs false
set_option linter.unusedVariables false
set_option maxRecDepth 8000

section
variable {w : World}

theorem measure_ok {F : List Nat} (t : Tm) {p : Option Addr} {c : Nat} {K : Int → Int → Bool → World → Prop} (hp : RdA w F t.l p 0) (hF : In F w) (hz : t.size < 2 ^ 60) (hK : ∀ w', Upd [] w w' → K t.size t.depth (!t.right) w') : C_term_measure t.kind t.n t.s p t.l.length c w K := by
  apply C_term_measure.of
  unfold F_term_measure
  refine New_rule fun r w1 hr u1 b1 => New_rule fun r1 w2 hr1 u2 b2 => New_rule fun r2 w3 hr2 u3 b3 => ?_
  have b1' := (b1.upd u2 (by simp)).upd u3 (by simp)
  have b2' := b2.upd u3 (by simp)
  have U3 : Upd [] w w3 := (u1.after u2).after u3
  simp only [NN_some, addN, drw_cell, drw_heap, exS, exI, exB, exP, exM, exStr, exV, a0, a1, a2, a3, a4, a5, a6, a7, a8, a9, a10, a11, a12, a13, maxI_eq, Nat.zero_add, Nat.add_zero, Nat.mul_one, Option.isNone_some, Option.isNone_none, b1'.cell]
  have hd0 : 1 ≤ t.depth := by rw [Tm.depth_eq]; omega
  refine count_ok F t (RdA.keep U3 hp) b3 (fun hx => by have := hF _ hx; have := (u1.after u2).size; omega) (by omega) (by omega) (by omega) (by omega) fun w4 b4 u4 => ?_
  have U4 : Upd [] w w4 := U3.fresh u4 (by intro k hk; simp at hk; have := (u1.after u2).size; omega)
  have b24 := b2'.upd u4 (by simp; have := b2.lt; omega)
  simp only [NN_some, addN, drw_cell, drw_heap, exS, exI, exB, exP, exM, exStr, exV, a0, a1, a2, a3, a4, a5, a6, a7, a8, a9, a10, a11, a12, a13, maxI_eq, Nat.zero_add, Nat.add_zero, Nat.mul_one, Option.isNone_some, Option.isNone_none, b4.cell]
  refine St_acc (Upd.refl _ _) b24 (by simp) rfl fun v2 z2 c2 => St_acc z2 c2 (by simp) rfl fun v3 z3 c3 => St_acc z3 c3 (by simp) rfl fun v4 z4 c4 => ?_
  simp at c4
  have U5 : Upd [] w v4 := U4.fresh z4 (by intro k hk; simp at hk; have := u1.size; omega)
  simp only [NN_some, addN, drw_cell, drw_heap, exS, exI, exB, exP, exM, exStr, exV, a0, a1, a2, a3, a4, a5, a6, a7, a8, a9, a10, a11, a12, a13, maxI_eq, Nat.zero_add, Nat.add_zero, Nat.mul_one, Option.isNone_some, Option.isNone_none, c4.cell]
  exact hK v4 U5

theorem Check_ok {F : List Nat} (t : Tm) {p : Option Addr} {c : Nat} {K : Int → World → Prop} (hp : RdA w F t.l p 0) (hF : In F w) (hz : t.size < 2 ^ 60) (hK : ∀ w', Upd [] w w' → K (checkT t) w') : C_term_Check t.kind t.n t.s p t.l.length c w K := by
  apply C_term_Check.of
  unfold F_term_Check
  refine New_rule fun r w1 hr u1 b1 => ?_
  simp only [NN_some, addN, drw_cell, drw_heap, exS, exI, exB, exP, exM, exStr, exV, a0, a1, a2, a3, a4, a5, a6, a7, a8, a9, a10, a11, a12, a13, maxI_eq, Nat.zero_add, Nat.add_zero, Nat.mul_one, Option.isNone_some, Option.isNone_none, b1.cell]
  refine measure_ok t (RdA.keep u1 hp) (fun k hk => by have := hF k hk; have := u1.size; omega) hz fun w2 u2 => New_rule fun r1 w3 hr1 u3 b3 => ?_
  refine St_acc (Upd.refl _ _) b3 (by simp) rfl fun v2 z2 c2 => St_acc z2 c2 (by simp) rfl fun v3 z3 c3 => St_acc z3 c3 (by simp) rfl fun v4 z4 c4 => ?_
  simp at c4
  have U : Upd [] w v4 := (u1.after u2).after (u3.fresh z4 (by intro k hk; simp at hk; omega))
  have hv := hK v4 U
  unfold checkT at hv
  simp only [NN_some, addN, drw_cell, drw_heap, exS, exI, exB, exP, exM, exStr, exV, a0, a1, a2, a3, a4, a5, a6, a7, a8, a9, a10, a11, a12, a13, maxI_eq, Nat.zero_add, Nat.add_zero, Nat.mul_one, Option.isNone_some, Option.isNone_none, c4.cell]
  refine ifC (fun g => ?_) (fun g => ifC (fun g2 => ?_) (fun g2 => ifC (fun g3 => ?_) (fun g3 => ?_)))
  · simp at g; rw [if_pos g] at hv; exact hv
  · simp at g g2; rw [if_neg (by simp [g]), if_pos (by omega)] at hv; exact hv
  · simp at g g2 g3; rw [if_neg (by simp [g]), if_neg (by omega), if_pos (by omega)] at hv; exact hv
  · simp at g g2 g3; rw [if_neg (by simp [g]), if_neg (by omega), if_neg (by omega)] at hv; exact hv

/-! ## The document's -/

theorem rsize_ok {F : List Nat} (t : Tm) {w : World} {p : Option Addr} {c : Nat} {K : Int → World → Prop} (hp : RdA w F t.l p 0) (hz : t.size < 2 ^ 60) (hK : ∀ w', Upd [] w w' → K t.size w') : C_ref06_Size t.kind t.n t.s p t.l.length c w K := by
  induction t using Tm.ind generalizing w p c K with | _ t ih => ?_
  apply C_ref06_Size.of
  unfold F_ref06_Size F_ref06_Size_L1
  refine New_rule fun r w1 hr u1 b1 => ?_
  have hts := Tm.size_eq t
  have hpos := sizeL_pos (l := t.l)
  refine ⟨fun s v => ∃ i : Nat, s.i = i ∧ i ≤ t.l.length ∧ Upd [] w v ∧ Upd [] w1 v ∧ s.n = 1 + sizeL (t.l.take i), fun s _ => (t.l.length - s.i).toNat, ⟨0, rfl, by omega, u1, Upd.refl _ _, by simp [sizeL]⟩, ?_⟩
  rintro ⟨sd, si⟩ v ⟨i, hi0, hi, uv, uv2, hri⟩
  dsimp only at hi0 hri
  subst hi0
  unfold B_ref06_Size_L1
  dsimp only
  have bv := b1.upd uv2 (by simp)
  simp only [NN_some, addN, drw_cell, drw_heap, exS, exI, exB, exP, exM, exStr, exV, a0, a1, a2, a3, a4, a5, a6, a7, a8, a9, a10, a11, a12, a13, maxI_eq, Nat.zero_add, Nat.add_zero, Nat.mul_one, Option.isNone_some, Option.isNone_none, bv.cell]
  refine ifC (fun g2 => ?_) (fun g2 => ?_)
  · simp at g2
    obtain ⟨x, q, cc, e1, e2, e3, e4, e5, e6, e7, e8⟩ := (RdA.keep uv hp).at i g2
    simp only [Nat.zero_add] at e3 e4 e5 e6
    simp only [e1, NN_some, addN, drw_cell, drw_heap, exS, exI, exB, exP, exM, exStr, exV, a0, a1, a2, a3, a4, a5, a6, a7, a8, a9, a10, a11, a12, a13, maxI_eq, Nat.zero_add, Nat.add_zero, Nat.mul_one, Option.isNone_some, Option.isNone_none, addA, Int.toNat_natCast, e3, e4, e5, e6]
    have hle := sizeL_le (List.getElem_mem g2)
    have hd' := sizeL_take (l := t.l) g2
    have hle2 := sizeL_take_le (l := t.l) (i + 1)
    refine ⟨by omega, by omega, ih _ (List.getElem_mem g2) e8 (by omega) fun v2 u2' => ?_⟩
    rw [i64id (by omega) (by omega), i64id (by omega) (by omega)]
    exact ⟨⟨i + 1, by simp, by omega, uv.after u2', uv2.after u2', by rw [hd']; omega⟩, by simp; omega⟩
  · simp at g2
    rw [show i = t.l.length by omega, List.take_length] at hri
    have := hK v uv
    rw [hri, show (1 : Int) + (sizeL t.l : Int) = (t.size : Int) by omega]
    exact this

end

end Go.Proofs.Ytdbkbaeeccemkaa

/- Large, as the document has it; which terms are not. -/
namespace Go.Proofs.Ytdbkbaeeccemkaa
open Go Go.D Go.Proofs
set_option linter.unusedSimpArgs false
set_option linter.unusedVariables false
set_option maxRecDepth 8000

mutual
def Tm.large : Tm → Int → Int → Bool × Int
  | .mk _ _ s l, d, n => if 6000 < n + 1 + (s.size / 16 : Nat) ∨ 300 < d ∨ 100 < l.length then (true, n + 1 + (s.size / 16 : Nat)) else largeL l (d + 1) (n + 1 + (s.size / 16 : Nat))
def largeL : List Tm → Int → Int → Bool × Int
  | [], _, n => (false, n)
  | t :: r, d, n => if (t.large d n).1 then (true, (t.large d n).2) else largeL r d (t.large d n).2
end

theorem Tm.large_eq (t : Tm) (d n : Int) : t.large d n = if 6000 < n + 1 + (t.s.size / 16 : Nat) ∨ 300 < d ∨ 100 < t.l.length then (true, n + 1 + (t.s.size / 16 : Nat)) else largeL t.l (d + 1) (n + 1 + (t.s.size / 16 : Nat)) := by
  cases t; rw [Tm.large]; rfl

theorem largeL_fact {d : Int} : ∀ {l : List Tm}, (∀ t ∈ l, ∀ n, 0 ≤ n → n ≤ 6000 → (t.large d n).1 = false → n + t.size ≤ (t.large d n).2 ∧ (t.large d n).2 ≤ 6000) → ∀ n, 0 ≤ n → n ≤ 6000 → (largeL l d n).1 = false → n + sizeL l ≤ (largeL l d n).2 ∧ (largeL l d n).2 ≤ 6000
  | [], _, n, h0, h1, _ => by rw [largeL, sizeL]; dsimp only; omega
  | t :: l, h, n, h0, h1, hf => by
    rw [largeL] at hf ⊢
    by_cases ht : (t.large d n).1 = true
    · rw [if_pos ht] at hf; cases hf
    · rw [if_neg ht] at hf ⊢
      simp only [Bool.not_eq_true] at ht
      obtain ⟨a, b⟩ := h t (by simp) n h0 h1 ht
      obtain ⟨c, e⟩ := largeL_fact (fun u hu => h u (by simp [hu])) _ (by omega) b hf
      rw [sizeL]
      omega

theorem large_fact (t : Tm) : ∀ d n, 0 ≤ n → n ≤ 6000 → (t.large d n).1 = false → n + t.size ≤ (t.large d n).2 ∧ (t.large d n).2 ≤ 6000 := by
  induction t using Tm.ind with | _ t ih => ?_
  intro d n h0 h1 hf
  rw [Tm.large_eq] at hf ⊢
  by_cases hc : 6000 < n + 1 + ((t.s.size / 16 : Nat) : Int) ∨ 300 < d ∨ 100 < t.l.length
  · rw [if_pos hc] at hf; cases hf
  · rw [if_neg hc] at hf ⊢
    obtain ⟨a, b⟩ := largeL_fact (fun u hu n => ih u hu (d + 1) n) _ (by omega) (by omega) hf
    rw [Tm.size_eq]
    omega

/-- A term that is not too large. -/
theorem not_large {t : Tm} (h : (t.large 0 0).1 = false) : t.size ≤ 6000 := by
  have := large_fact t 0 0 (by omega) (by omega) h
  omega

theorem largeL_drop {l : List Tm} {d n : Int} {i : Nat} (hi : i < l.length) : largeL (l.drop i) d n = if (l[i].large d n).1 then (true, (l[i].large d n).2) else largeL (l.drop (i + 1)) d (l[i].large d n).2 := by
  rw [List.drop_eq_getElem_cons hi, largeL]

theorem large_ok {F : List Nat} (t : Tm) {w : World} {r : Nat} {p : Option Addr} {c : Nat} {d n : Int} {K : Bool → World → Prop} (hp : RdA w F t.l p 0) (hs : t.s.size < 2 ^ 63) (hb : Blk w r #[.int .i64 n]) (hr : r ∉ F) (h0 : 0 ≤ n) (h1 : n ≤ 6000) (h2 : 0 ≤ d) (h3 : d ≤ 301)
    (hK : ∀ w', Blk w' r #[.int .i64 (t.large d n).2] → Upd [r] w w' → K (t.large d n).1 w') : C_ref06_large t.kind t.n t.s p t.l.length c d (some ⟨r, 0, none⟩) w K := by
  induction t using Tm.ind generalizing w p c d n K with | _ t ih => ?_
  apply C_ref06_large.of
  unfold F_ref06_large F_ref06_large_k1
  refine New_rule fun q w1 hq u1 b1 => ?_
  have hb1 := hb.upd u1 (by simp)
  have hqr : q ≠ r := by have := hb.lt; omega
  have hbd := hb1.drw
  have hbd0 : (drw w1).cell? ⟨r, 0, none⟩ = some (.int .i64 n) := by rw [hbd.cell]; rfl
  simp only [NN_some, addN, drw_cell, drw_heap, exS, exI, exB, exP, exM, exStr, exV, a0, a1, a2, a3, a4, a5, a6, a7, a8, a9, a10, a11, a12, a13, maxI_eq, Nat.zero_add, Nat.add_zero, Nat.mul_one, Option.isNone_some, Option.isNone_none, b1.cell] at hbd0 ⊢
  simp only [hbd0, NN_some, addN, drw_cell, drw_heap, exS, exI, exB, exP, exM, exStr, exV, a0, a1, a2, a3, a4, a5, a6, a7, a8, a9, a10, a11, a12, a13, maxI_eq, Nat.zero_add, Nat.add_zero, Nat.mul_one, Option.isNone_some, Option.isNone_none]
  obtain ⟨z, hz⟩ : ∃ z : Int, z = ((t.s.size / 16 : Nat) : Int) := ⟨_, rfl⟩
  have hz0 : 0 ≤ z ∧ z < 2 ^ 60 := by omega
  have hle := Tm.large_eq t d n
  rw [← hz] at hle
  have e1 : IntKind.i64.wrap (IntKind.i64.wrap (n + 1) + IntKind.i64.wrap ((t.s.size : Int).tdiv 16)) = n + 1 + z := by
    have : (t.s.size : Int).tdiv 16 = z := by
      rw [hz, Int.tdiv_eq_ediv_of_nonneg (by omega)]; omega
    rw [this, i64id (x := n + 1) (by omega) (by omega), i64id (x := z) (by omega) (by omega), i64id (by omega) (by omega)]
  clear hz
  rw [e1]
  refine ⟨by omega, St_rule hbd (by simp) rfl fun w2 u2 hb2 => ?_⟩
  simp at hb2
  have hb20 : w2.cell? ⟨r, 0, none⟩ = some (.int .i64 (n + 1 + z)) := by rw [hb2.cell]; simp
  have hq2 := (b1.drw).upd u2 (by simp; omega)
  have U2 : Upd [r] w w2 := (u1.after (drw_upd w1)).after u2
  simp only [hb20, NN_some, addN, drw_cell, drw_heap, exS, exI, exB, exP, exM, exStr, exV, a0, a1, a2, a3, a4, a5, a6, a7, a8, a9, a10, a11, a12, a13, maxI_eq, Nat.zero_add, Nat.add_zero, Nat.mul_one, Option.isNone_some, Option.isNone_none]
  have hv : ∀ {w'} {b : Bool} {m : Int}, Blk w' r #[.int .i64 m] → Upd [r] w w' → t.large d n = (b, m) → K b w' := by
    intro w' b m hb' u' e
    have := hK w'
    rw [e] at this
    exact this hb' u'
  refine ifC (fun g => ?_) (fun g => ifC (fun g2 => ?_) (fun g2 => ?_))
  · simp only [decide_eq_true_eq] at g
    exact hv hb2 U2 (by rw [hle, if_pos (by omega)])
  · simp only [decide_eq_true_eq] at g2
    exact hv hb2 U2 (by rw [hle, if_pos (by omega)])
  simp only [decide_eq_true_eq, decide_eq_false_iff_not] at g g2
  simp only [NN_some, addN, drw_cell, drw_heap, exS, exI, exB, exP, exM, exStr, exV, a0, a1, a2, a3, a4, a5, a6, a7, a8, a9, a10, a11, a12, a13, maxI_eq, Nat.zero_add, Nat.add_zero, Nat.mul_one, Option.isNone_some, Option.isNone_none, hq2.cell]
  refine ifC (fun g3 => ?_) (fun g3 => ?_)
  · simp only [decide_eq_true_eq] at g3
    exact hv hb2 U2 (by rw [hle, if_pos (by omega)])
  simp only [decide_eq_false_iff_not] at g3
  rw [if_neg (by omega)] at hle
  unfold F_ref06_large_L1
  refine ⟨fun s v => ∃ (i : Nat) (m : Int), s.i = i ∧ i ≤ t.l.length ∧ Upd [r] w v ∧ Upd [r] w2 v ∧ Blk v r #[.int .i64 m] ∧ 0 ≤ m ∧ m ≤ 6000 ∧ t.large d n = largeL (t.l.drop i) (d + 1) m, fun s _ => (t.l.length - s.i).toNat, ⟨0, _, rfl, by omega, U2, Upd.refl _ _, hb2, by omega, by omega, by rw [hle, List.drop_zero]⟩, ?_⟩
  rintro ⟨si⟩ v ⟨i, m, hi0, hi, uv, uv2, hbm, hm0, hm1, hlm⟩
  dsimp only at hi0
  subst hi0
  unfold B_ref06_large_L1
  dsimp only
  have bv := hq2.upd uv2 (by simp; omega)
  simp only [NN_some, addN, drw_cell, drw_heap, exS, exI, exB, exP, exM, exStr, exV, a0, a1, a2, a3, a4, a5, a6, a7, a8, a9, a10, a11, a12, a13, maxI_eq, Nat.zero_add, Nat.add_zero, Nat.mul_one, Option.isNone_some, Option.isNone_none, bv.cell]
  refine ifC (fun g4 => ?_) (fun g4 => ?_)
  · simp only [decide_eq_true_eq] at g4
    have hi' : i < t.l.length := by omega
    obtain ⟨x, qq, cc, e1', e2, e3, e4, e5, e6, e7, e8⟩ := (RdA.upd' uv (by intro k hk hk2; simp at hk2; subst hk2; exact hr hk) hp).at i hi'
    simp only [Nat.zero_add] at e3 e4 e5 e6
    simp only [e1', NN_some, addN, drw_cell, drw_heap, exS, exI, exB, exP, exM, exStr, exV, a0, a1, a2, a3, a4, a5, a6, a7, a8, a9, a10, a11, a12, a13, maxI_eq, Nat.zero_add, Nat.add_zero, Nat.mul_one, Option.isNone_some, Option.isNone_none, addA, Int.toNat_natCast, e3, e4, e5, e6]
    rw [i64id (x := d + 1) (by omega) (by omega)]
    refine ⟨by omega, by omega, ih _ (List.getElem_mem hi') e8 e7 hbm hm0 hm1 (by omega) (by omega) fun v2 hb3 u3 => ?_⟩
    rw [largeL_drop hi'] at hlm
    refine ifC (fun g5 => ?_) (fun g5 => ?_)
    · rw [if_pos g5] at hlm
      exact hv hb3 (uv.both u3) hlm
    · rw [if_neg (by simp [g5])] at hlm
      obtain ⟨f1, f2⟩ := large_fact t.l[i] (d + 1) m hm0 hm1 g5
      rw [i64id (by omega) (by omega)]
      exact ⟨⟨i + 1, _, by simp, by omega, uv.both u3, uv2.both u3, hb3, by omega, f2, hlm⟩, by simp; omega⟩
  · simp only [decide_eq_false_iff_not] at g4
    rw [show i = t.l.length by omega, List.drop_length, largeL] at hlm
    exact hv hbm uv hlm

theorem Large_ok {F : List Nat} (t : Tm) {w : World} {p : Option Addr} {c : Nat} {K : Bool → World → Prop} (hp : RdA w F t.l p 0) (hF : In F w) (hs : t.s.size < 2 ^ 63) (hK : ∀ w', Upd [] w w' → K (t.large 0 0).1 w') : C_ref06_Large t.kind t.n t.s p t.l.length c w K := by
  apply C_ref06_Large.of
  unfold F_ref06_Large
  refine New_rule fun q w1 hq u1 b1 => New_rule fun r w2 hr u2 b2 => ?_
  simp only [NN_some, addN, drw_cell, drw_heap, exS, exI, exB, exP, exM, exStr, exV, a0, a1, a2, a3, a4, a5, a6, a7, a8, a9, a10, a11, a12, a13, maxI_eq, Nat.zero_add, Nat.add_zero, Nat.mul_one, Option.isNone_some, Option.isNone_none]
  refine St_rule b2 (by simp) rfl fun w3 u3 hb3 => ?_
  simp at hb3
  have hq3 := (b1.upd u2 (by simp)).upd u3 (by simp; have := b1.lt; omega)
  have U3 : Upd [] w w3 := (u1.after u2).fresh u3 (by intro k hk; simp at hk; have := u1.size; omega)
  simp only [NN_some, addN, drw_cell, drw_heap, exS, exI, exB, exP, exM, exStr, exV, a0, a1, a2, a3, a4, a5, a6, a7, a8, a9, a10, a11, a12, a13, maxI_eq, Nat.zero_add, Nat.add_zero, Nat.mul_one, Option.isNone_some, Option.isNone_none, hq3.cell]
  refine large_ok t (RdA.keep U3 hp) hs hb3 (fun hx => by have := hF _ hx; have := u1.size; omega) (by omega) (by omega) (by omega) (by omega) fun w4 hb4 u4 => ?_
  exact hK w4 (U3.fresh u4 (by intro k hk; simp at hk; have := u1.size; omega))

end Go.Proofs.Ytdbkbaeeccemkaa

/- A term that came in; terms that are the same; a term's variables. -/
namespace Go.Proofs.Ytdbkbaeeccemkaa
open Go Go.D Go.Proofs
set_option linter.unusedSimpArgs false
set_option linter.unusedVariables false
set_option maxRecDepth 8000

instance : Inhabited Tm := ⟨.mk 0 0 ⟨#[]⟩ []⟩

/-- A whole number of 64 bits. -/
def i64B (x : Int) : Prop := -2 ^ 63 ≤ x ∧ x < 2 ^ 63

theorem i64B.of {x : Int} (h : (Lit.int .i64 x).wf = true) : i64B x := by
  simp only [Lit.wf, Bool.and_eq_true, decide_eq_true_eq] at h
  have h1 : IntKind.i64.min = -2 ^ 63 := by rfl
  have h2 : IntKind.i64.max = 2 ^ 63 - 1 := by rfl
  rw [h1, h2] at h
  unfold i64B; omega

/-- What is told of a term that came in. -/
def tmIn (w : World) (t : Tm) (p : Option Addr) : Prop := RdA w (List.range w.heap.size) t.l p 0 ∧ t.s.size < 2 ^ 63 ∧ i64B t.kind ∧ i64B t.n

theorem cell_block' {w : World} {a : Addr} {v : Value} (h : w.cell? a = some v) : a.block < w.heap.size := cell_block h

theorem see_tm {w : World} : ∀ (f : Nat) {cs : List Value}, Sees Try.prog w f 24 cs → ∃ (t : Tm) (p : Option Addr) (c : Nat), cs = [.int .i64 t.kind, .int .i64 t.n, .string t.s, .slice p t.l.length c] ∧ tmIn w t p := by
  intro f
  induction f using Nat.strongRecOn with | _ f ih => ?_
  intro cs h
  obtain ⟨g, rfl, hl, hf⟩ := see_struct (fs := _) (by rfl) (sz := 4) (by kernel_rfl) h
  match cs, hl with
  | [c0, c1, c2, c3], _ =>
    have h0 : Sees Try.prog w g 3 [c0] := hf 0 _ rfl
    obtain ⟨k, e0, k0⟩ := see_int (by rfl) h0
    simp only [List.cons.injEq, and_true] at e0
    obtain rfl := e0
    have h1 : Sees Try.prog w g 3 [c1] := hf 1 _ rfl
    obtain ⟨n, e1, k1⟩ := see_int (by rfl) h1
    simp only [List.cons.injEq, and_true] at e1
    obtain rfl := e1
    have h2 : Sees Try.prog w g 9 [c2] := hf 2 _ rfl
    obtain ⟨s, e2, k2⟩ := see_string (by rfl) h2
    simp only [List.cons.injEq, and_true] at e2
    obtain rfl := e2
    have h3 : Sees Try.prog w g 22 [c3] := hf 3 _ rfl
    obtain ⟨p, m, c, cs', g', hg, e3, _, _, hrd, hrow⟩ := see_slice (by rfl) (sz := 4) (by kernel_rfl) h3
    simp only [List.cons.injEq, and_true] at e3
    obtain rfl := e3
    obtain ⟨l, hl, hp⟩ := pick (n := m) (p := fun i (t : Tm) => ∃ (q : Option Addr) (c : Nat), (cs'.drop (i * 4)).take 4 = [.int .i64 t.kind, .int .i64 t.n, .string t.s, .slice q t.l.length c] ∧ tmIn w t q) fun i hi => ih g' (by omega) (hrow i hi)
    have hmax : maxLen < 2 ^ 63 := by decide
    refine ⟨.mk k n s l, p, c, by show [_, _, _, Value.slice p m c] = [_, _, _, .slice p l.length c]; rw [hl]; rfl, RdA.of fun i hi => ?_, by show s.size < 2 ^ 63; omega, i64B.of k0, i64B.of k1⟩
    have hi : i < l.length := hi
    obtain ⟨q, cc, hq, hin, hsz, _, _⟩ := hp i hi
    obtain ⟨x, hx, hc⟩ := hrd.elem (i := i) (by omega)
    have hc : ∀ j, j < 4 → w.cell? (x.add (i * 4 + j)) = ([.int .i64 l[i].kind, .int .i64 l[i].n, .string l[i].s, .slice q l[i].l.length cc] : List Value)[j]? := fun j hj => by
      rw [hc j hj, ← hq, List.getElem?_take, if_pos hj, List.getElem?_drop]
    have c0 := hc 0 (by omega)
    have c1 := hc 1 (by omega)
    have c2 := hc 2 (by omega)
    have c3 := hc 3 (by omega)
    simp only [List.getElem?_cons_zero, List.getElem?_cons_succ, Nat.add_zero] at c0 c1 c2 c3
    have hbl := cell_block c0
    rw [add_block] at hbl
    refine ⟨x, q, cc, hx, by simpa using hbl, ?_⟩
    simp only [Nat.zero_add]
    exact ⟨c0, c1, c2, c3, hsz, hin⟩

section
variable {w : World}

end

end Go.Proofs.Ytdbkbaeeccemkaa

/- Terms that are made. -/
namespace Go.Proofs.Ytdbkbaeeccemkaa
open Go Go.D Go.Proofs
set_option linter.unusedSimpArgs false
set_option linter.unusedVariables false
set_option maxRecDepth 8000

theorem St4 {w w1 : World} {r : Nat} {c0 c1 c2 c3 v0 v1 v2 v3 : Value} {K : World → Prop} (u1 : Upd [] w w1) (hr : w.heap.size ≤ r) (hb : Blk w1 r #[c0, c1, c2, c3]) (h0 : v0.oneCell' = true) (h1 : v1.oneCell' = true) (h2 : v2.oneCell' = true) (h3 : v3.oneCell' = true) (hK : ∀ w', Upd [] w w' → Blk w' r #[v0, v1, v2, v3] → K w') :
    St w1 (⟨r, 0, none⟩ : Addr) v0 fun z0 => St z0 (⟨r, 1, none⟩ : Addr) v1 fun z1 => St z1 (⟨r, 2, none⟩ : Addr) v2 fun z2 => St z2 (⟨r, 3, none⟩ : Addr) v3 K := by
  refine St_acc (Upd.refl _ _) hb (by simp) h0 fun z0 y0 b0 => St_acc y0 b0 (by simp) h1 fun z1 y1 b1 => St_acc y1 b1 (by simp) h2 fun z2 y2 b2 => St_acc y2 b2 (by simp) h3 fun z3 y3 b3 => ?_
  simp at b3
  exact hK z3 (u1.fresh y3 (by intro k hk; simp at hk; omega)) b3

section
variable {w : World}

theorem tVar_ok {n : Int} {K : Int → Int → ByteArray → Option Addr → Nat → Nat → World → Prop} (hK : ∀ w', Upd [] w w' → K 1 n ⟨#[]⟩ none 0 0 w') : C_term_Var n w K := by
  apply C_term_Var.of
  unfold F_term_Var
  refine New_rule fun r w1 hr u1 b1 => ?_
  simp only [NN_some, addN, drw_cell, drw_heap, exS, exI, exB, exP, exM, exStr, exV, a0, a1, a2, a3, a4, a5, a6, a7, a8, a9, a10, a11, a12, a13, maxI_eq, Nat.zero_add, Nat.add_zero, Nat.mul_one, Option.isNone_some, Option.isNone_none]
  refine St4 u1 (by omega) b1 rfl rfl rfl rfl fun w2 u2 b2 => ?_
  simp only [NN_some, addN, drw_cell, drw_heap, exS, exI, exB, exP, exM, exStr, exV, a0, a1, a2, a3, a4, a5, a6, a7, a8, a9, a10, a11, a12, a13, maxI_eq, Nat.zero_add, Nat.add_zero, Nat.mul_one, Option.isNone_some, Option.isNone_none, b2.cell]
  exact hK w2 u2

theorem rVar_ok {n : Int} {K : Int → Int → ByteArray → Option Addr → Nat → Nat → World → Prop} (hK : ∀ w', Upd [] w w' → K 1 n ⟨#[]⟩ none 0 0 w') : C_ref06_Var n w K := by
  apply C_ref06_Var.of
  unfold F_ref06_Var
  refine New_rule fun r w1 hr u1 b1 => ?_
  simp only [NN_some, addN, drw_cell, drw_heap, exS, exI, exB, exP, exM, exStr, exV, a0, a1, a2, a3, a4, a5, a6, a7, a8, a9, a10, a11, a12, a13, maxI_eq, Nat.zero_add, Nat.add_zero, Nat.mul_one, Option.isNone_some, Option.isNone_none]
  refine St4 u1 (by omega) b1 rfl rfl rfl rfl fun w2 u2 b2 => ?_
  simp only [NN_some, addN, drw_cell, drw_heap, exS, exI, exB, exP, exM, exStr, exV, a0, a1, a2, a3, a4, a5, a6, a7, a8, a9, a10, a11, a12, a13, maxI_eq, Nat.zero_add, Nat.add_zero, Nat.mul_one, Option.isNone_some, Option.isNone_none, b2.cell]
  exact hK w2 u2

theorem rAtom_ok {s : ByteArray} {K : Int → Int → ByteArray → Option Addr → Nat → Nat → World → Prop} (hK : ∀ w', Upd [] w w' → K 3 0 s none 0 0 w') : C_ref06_Atom s w K := by
  apply C_ref06_Atom.of
  unfold F_ref06_Atom
  refine New_rule fun r w1 hr u1 b1 => ?_
  simp only [NN_some, addN, drw_cell, drw_heap, exS, exI, exB, exP, exM, exStr, exV, a0, a1, a2, a3, a4, a5, a6, a7, a8, a9, a10, a11, a12, a13, maxI_eq, Nat.zero_add, Nat.add_zero, Nat.mul_one, Option.isNone_some, Option.isNone_none]
  refine St4 u1 (by omega) b1 rfl rfl rfl rfl fun w2 u2 b2 => ?_
  simp only [NN_some, addN, drw_cell, drw_heap, exS, exI, exB, exP, exM, exStr, exV, a0, a1, a2, a3, a4, a5, a6, a7, a8, a9, a10, a11, a12, a13, maxI_eq, Nat.zero_add, Nat.add_zero, Nat.mul_one, Option.isNone_some, Option.isNone_none, b2.cell]
  exact hK w2 u2

end

end Go.Proofs.Ytdbkbaeeccemkaa

/- Rows of terms that are made. -/
namespace Go.Proofs.Ytdbkbaeeccemkaa
open Go Go.D Go.Proofs
set_option linter.unusedSimpArgs false
set_option linter.unusedVariables false
set_option maxRecDepth 8000

/-- A term, and where its arguments lie. -/
abbrev TmP := Tm × Option Addr × Nat

def tmC (x : TmP) : List Value := [.int .i64 x.1.kind, .int .i64 x.1.n, .string x.1.s, .slice x.2.1 x.1.l.length x.2.2]

theorem tmC_len (x : TmP) : (tmC x).length = 4 := rfl

/-- A row of terms: its block G; all that lies under them is read in blocks F. -/
def TmsAt (w : World) (p : Option Addr) (n c : Nat) (l : List Tm) (G F : List Nat) : Prop :=
  ∃ L : List TmP, L.map (·.1) = l ∧ SlAt w 4 p n c (L.flatMap tmC) G ∧ (∀ x ∈ L, x.1.s.size < 2 ^ 63 ∧ RdA w F x.1.l x.2.1 0) ∧ In F w

section
variable {w w' : World} {p : Option Addr} {n c : Nat} {l : List Tm} {G F : List Nat}

theorem TmsAt.nil (w : World) : TmsAt w none 0 0 [] [] [] := ⟨[], rfl, SlAt.nil _ _, (by intro x hx; cases hx), (by intro k hk; cases hk)⟩

theorem TmsAt.len (h : TmsAt w p n c l G F) : n = l.length := by
  obtain ⟨L, h1, h2, _⟩ := h
  have := h2.1
  rw [flat_len tmC_len] at this
  rw [← h1, List.length_map]; omega

theorem TmsAt.upd {X : List Nat} (h : TmsAt w p n c l G F) (u : Upd X w w') (hG : Dis G X) (hF : Dis F X) : TmsAt w' p n c l G F := by
  obtain ⟨L, h1, h2, h3, h4⟩ := h
  exact ⟨L, h1, h2.upd u hG, fun x hx => ⟨(h3 x hx).1, RdA.upd' u hF (h3 x hx).2⟩, h4.upd u⟩

theorem TmsAt.keep (h : TmsAt w p n c l G F) (u : Upd [] w w') : TmsAt w' p n c l G F := h.upd u (by intro k _ h; cases h) (by intro k _ h; cases h)

theorem TmsAt.inn (h : TmsAt w p n c l G F) : In G w ∧ In F w := by
  obtain ⟨L, h1, h2, h3, h4⟩ := h
  exact ⟨h2.inn, h4⟩

/-- It is read. -/
theorem TmsAt.rd (h : TmsAt w p n c l G F) : RdA w (G ++ F) l p 0 := by
  obtain ⟨L, h1, h2, h3, h4⟩ := h
  subst h1
  refine RdA.of fun i hi => ?_
  rw [List.length_map] at hi
  have hlen := h2.1
  rw [flat_len tmC_len] at hlen
  rcases h2.2.2 with ⟨_, hc, _⟩ | ⟨b, off, arr, hp, hG, hb, hs, hc⟩
  · have := h2.2.1; omega
  have hcell : ∀ j, j < 4 → w.cell? ((⟨b, off, none⟩ : Addr).add (i * 4 + j)) = (tmC L[i])[j]? := fun j hj => by
    rw [addN, hb.cell, hc _ (by omega), flat_at tmC_len hi hj]
  simp only [List.getElem_map, Nat.zero_add]
  obtain ⟨h5, h6⟩ := h3 _ (List.getElem_mem hi)
  exact ⟨⟨b, off, none⟩, L[i].2.1, L[i].2.2, hp, by simp [hG], hcell 0 (by omega), hcell 1 (by omega), hcell 2 (by omega), hcell 3 (by omega), h5, RdA.sub (fun k hk => by simp [hk]) _ h6⟩

/-- One more is put behind: the row that holds it alone is made first. -/
theorem TmsAt.push {t : Tm} {q q1 : Option Addr} {m m1 cq : Nat} {G1 F1 : List Nat} {K : Option Addr → Nat → Nat → World → Prop} (h : TmsAt w p n c l G F) (h1 : SlAt w 4 q1 1 m1 (tmC (t, q, cq)) G1) (hs : t.s.size < 2 ^ 63) (hr : RdA w F1 t.l q 0) (hF1 : In F1 w) (hGF : Dis G F) (hGF1 : Dis G F1) (hl : l.length < 2 ^ 30)
    (hK : ∀ p' c' G' w', TmsAt w' p' (n + 1) c' (l ++ [t]) G' (F ++ F1) → Upd G w w' → Sub G' G w → K p' (n + 1) c' w') :
    App Try.prog #[22, 22] 22 #[.slice p n c, .slice q1 1 m1] w K := by
  have hn := h.len
  obtain ⟨L, e1, e2, e3, e4⟩ := h
  refine App_rule (hE := eS_22) e2 h1 (by simp [tmC, Value.oneCell']) (by omega) fun p' c' G' w' hs' u s => ?_
  refine hK p' c' G' w' ⟨L ++ [(t, q, cq)], by rw [List.map_append, e1]; rfl, by rw [List.flatMap_append]; simpa using hs', fun x hx => ?_, fun k hk => ?_⟩ u s
  · rcases List.mem_append.1 hx with g | g
    · obtain ⟨a, b⟩ := e3 x g
      exact ⟨a, RdA.sub (fun k hk => by simp [hk]) _ (RdA.upd' u hGF.symm b)⟩
    · simp at g; subst g
      exact ⟨hs, RdA.sub (fun k hk => by simp [hk]) _ (RdA.upd' u hGF1.symm hr)⟩
  · rcases List.mem_append.1 hk with g | g
    · exact e4.upd u k g
    · exact hF1.upd u k g
end

end Go.Proofs.Ytdbkbaeeccemkaa

/- A term's variables, in order: plain. -/
namespace Go.Proofs.Ytdbkbaeeccemkaa
open Go Go.D Go.Proofs
set_option linter.unusedSimpArgs false
set_option linter.unusedVariables false
set_option maxRecDepth 8000

/-! ## A term's variables, in order; how many cells it takes -/

mutual
def Tm.vars : Tm → List Int → List Int
  | .mk k n _ l, out => if k = 1 then (if n ∈ out then out else out ++ [n]) else varsL l out
def varsL : List Tm → List Int → List Int
  | [], out => out
  | t :: r, out => varsL r (t.vars out)
end

theorem Tm.vars_eq (t : Tm) (out : List Int) : t.vars out = if t.kind = 1 then (if t.n ∈ out then out else out ++ [t.n]) else varsL t.l out := by
  cases t; rw [Tm.vars]; rfl

mutual
def Tm.cost : Tm → Nat
  | .mk k _ _ l => if k = 4 then 1 + l.length + costL l else 0
def costL : List Tm → Nat
  | [] => 0
  | t :: r => t.cost + costL r
end

theorem Tm.cost_eq (t : Tm) : t.cost = if t.kind = 4 then 1 + t.l.length + costL t.l else 0 := by cases t; rw [Tm.cost]; rfl

theorem varsL_app : ∀ (l r : List Tm) (out : List Int), varsL (l ++ r) out = varsL r (varsL l out)
  | [], _, _ => by rw [List.nil_append, varsL]
  | t :: l, r, out => by rw [List.cons_append, varsL, varsL, varsL_app l r]
theorem costL_app : ∀ (l r : List Tm), costL (l ++ r) = costL l + costL r
  | [], r => by rw [List.nil_append, costL]; omega
  | t :: l, r => by rw [List.cons_append, costL, costL, costL_app l r]; omega

theorem varsL_take {l : List Tm} {i : Nat} (hi : i < l.length) (out : List Int) : varsL (l.take (i + 1)) out = l[i].vars (varsL (l.take i) out) := by
  rw [take_step hi, varsL_app, varsL, varsL]
theorem costL_take {l : List Tm} {i : Nat} (hi : i < l.length) : costL (l.take (i + 1)) = costL (l.take i) + l[i].cost := by
  rw [take_step hi, costL_app, costL, costL]; omega

/-- Variables are added behind, each once. -/
theorem vars_grow (t : Tm) : ∀ out : List Int, ∃ z, t.vars out = out ++ z ∧ z.length ≤ t.size ∧ (out.Nodup → (out ++ z).Nodup) := by
  have aux : ∀ l : List Tm, (∀ t ∈ l, ∀ out : List Int, ∃ z, t.vars out = out ++ z ∧ z.length ≤ t.size ∧ (out.Nodup → (out ++ z).Nodup)) → ∀ out : List Int, ∃ z, varsL l out = out ++ z ∧ z.length ≤ sizeL l ∧ (out.Nodup → (out ++ z).Nodup) := by
    intro l
    induction l with
    | nil => intro _ out; exact ⟨[], by rw [varsL]; simp, by simp, by simp⟩
    | cons t l ih =>
      intro h out
      obtain ⟨z1, a1, b1, c1⟩ := h t (by simp) out
      obtain ⟨z2, a2, b2, c2⟩ := ih (fun u hu => h u (by simp [hu])) (out ++ z1)
      refine ⟨z1 ++ z2, by rw [varsL, a1, a2, List.append_assoc], by rw [List.length_append, sizeL]; omega, fun hn => ?_⟩
      have := c2 (c1 hn)
      rw [List.append_assoc] at this
      exact this
  refine Tm.ind (P := fun t => ∀ out : List Int, ∃ z, t.vars out = out ++ z ∧ z.length ≤ t.size ∧ (out.Nodup → (out ++ z).Nodup)) (fun t ih => ?_) t
  intro out
  rw [Tm.vars_eq]
  by_cases h1 : t.kind = 1
  · rw [if_pos h1]
    by_cases h2 : t.n ∈ out
    · rw [if_pos h2]; exact ⟨[], by simp, by simp, by simp⟩
    · rw [if_neg h2]
      refine ⟨[t.n], rfl, by rw [Tm.size_eq]; simp, fun hn => ?_⟩
      rw [List.nodup_append]
      refine ⟨hn, by simp, fun a ha b hb => ?_⟩
      simp at hb
      subst hb
      rintro rfl
      exact h2 ha
  · rw [if_neg h1]
    obtain ⟨z, a, b, c⟩ := aux t.l ih out
    exact ⟨z, a, by rw [Tm.size_eq]; omega, c⟩

theorem cost_le (t : Tm) : t.cost + 1 ≤ 2 * t.size := by
  have aux : ∀ l : List Tm, (∀ t ∈ l, t.cost + 1 ≤ 2 * t.size) → costL l + l.length ≤ 2 * sizeL l := by
    intro l
    induction l with
    | nil => intro _; rw [costL, sizeL]; simp
    | cons t l ih =>
      intro h
      have h1 := h t (by simp)
      have h2 := ih fun u hu => h u (by simp [hu])
      rw [costL, sizeL, List.length_cons]; omega
  refine Tm.ind (P := fun t => t.cost + 1 ≤ 2 * t.size) (fun t ih => ?_) t
  have := aux t.l ih
  rw [Tm.cost_eq, Tm.size_eq]
  split <;> omega

theorem varsL_grow : ∀ (l : List Tm) (out : List Int), ∃ z, varsL l out = out ++ z
  | [], out => ⟨[], by rw [varsL]; simp⟩
  | t :: l, out => by
    obtain ⟨z1, a, _⟩ := vars_grow t out
    obtain ⟨z2, b⟩ := varsL_grow l (out ++ z1)
    exact ⟨z1 ++ z2, by rw [varsL, a, b, List.append_assoc]⟩


theorem vars_mem (t : Tm) : ∀ out : List Int, ∀ n ∈ out, n ∈ t.vars out := fun out n hn => by
  obtain ⟨z, h, _⟩ := vars_grow t out
  rw [h]; simp [hn]
theorem varsL_mem (l : List Tm) : ∀ out : List Int, ∀ n ∈ out, n ∈ varsL l out := fun out n hn => by
  obtain ⟨z, h⟩ := varsL_grow l out
  rw [h]; simp [hn]

/-- Each variable of a term is one of some. -/
def VIn (vs : List Int) (t : Tm) : Prop := ∀ n ∈ t.vars [], n ∈ vs

theorem mem_vars (t : Tm) : ∀ (out : List Int) (n : Int), n ∈ t.vars out ↔ n ∈ out ∨ n ∈ t.vars [] := by
  have aux : ∀ l : List Tm, (∀ t ∈ l, ∀ (out : List Int) (n : Int), n ∈ t.vars out ↔ n ∈ out ∨ n ∈ t.vars []) → ∀ (out : List Int) (n : Int), n ∈ varsL l out ↔ n ∈ out ∨ n ∈ varsL l [] := by
    intro l
    induction l with
    | nil => intro _ out n; simp [varsL]
    | cons t l ih2 =>
      intro ih out n
      have h1 := ih2 fun u hu => ih u (by simp [hu])
      rw [varsL, varsL, h1 (t.vars out), h1 (t.vars []), ih t (by simp) out, or_assoc]
  refine Tm.ind (P := fun t => ∀ (out : List Int) (n : Int), n ∈ t.vars out ↔ n ∈ out ∨ n ∈ t.vars []) (fun t ih => ?_) t
  intro out n
  rw [Tm.vars_eq, Tm.vars_eq]
  by_cases h1 : t.kind = 1
  · simp only [if_pos h1]
    by_cases h2 : t.n ∈ out
    · rw [if_pos h2, if_neg (by simp)]
      simp
      rintro rfl; exact h2
    · rw [if_neg h2, if_neg (by simp)]
      simp
  · simp only [if_neg h1]
    exact aux t.l ih out n

theorem mem_varsL : ∀ (l : List Tm) (out : List Int) (n : Int), n ∈ varsL l out ↔ n ∈ out ∨ ∃ t ∈ l, n ∈ t.vars []
  | [], out, n => by simp [varsL]
  | t :: l, out, n => by
    rw [varsL, mem_varsL l, mem_vars t]
    simp [or_assoc]

theorem mem_vars_comp {t : Tm} (h : t.kind ≠ 1) {u : Tm} (hu : u ∈ t.l) {n : Int} (hn : n ∈ u.vars []) : n ∈ t.vars [] := by
  rw [Tm.vars_eq, if_neg h, mem_varsL]
  exact .inr ⟨u, hu, hn⟩


/-- One more, if it is not there. -/
def addv (out : List Int) (n : Int) : List Int := if n ∈ out then out else out ++ [n]

theorem addv_in {out : List Int} {n : Int} (h : n ∈ out) : addv out n = out := if_pos h
theorem addv_no {out : List Int} {n : Int} (h : n ∉ out) : addv out n = out ++ [n] := if_neg h

theorem mem_addv {out : List Int} {n x : Int} : x ∈ addv out n ↔ x ∈ out ∨ x = n := by
  unfold addv
  split
  · rename_i h
    exact ⟨.inl, fun g => g.elim id fun e => e ▸ h⟩
  · simp

theorem mem_fold {x : Int} : ∀ (X out : List Int), x ∈ X.foldl addv out ↔ x ∈ out ∨ x ∈ X
  | [], out => by simp
  | y :: X, out => by rw [List.foldl_cons, mem_fold X, mem_addv]; simp [or_assoc]

theorem fold_addv : ∀ (X Y acc : List Int), (X.foldl addv Y).foldl addv acc = X.foldl addv (Y.foldl addv acc)
  | [], Y, acc => rfl
  | x :: X, Y, acc => by
    rw [List.foldl_cons, fold_addv X, List.foldl_cons]
    congr 1
    show (addv Y x).foldl addv acc = addv (Y.foldl addv acc) x
    by_cases h : x ∈ Y
    · rw [addv_in h]
      have : x ∈ Y.foldl addv acc := (mem_fold Y acc).2 (.inr h)
      rw [addv_in this]
    · rw [addv_no h, List.foldl_append]; rfl

theorem vars_fold (t : Tm) : ∀ out : List Int, t.vars out = (t.vars []).foldl addv out := by
  have aux : ∀ l : List Tm, (∀ t ∈ l, ∀ out : List Int, t.vars out = (t.vars []).foldl addv out) → ∀ out : List Int, varsL l out = (varsL l []).foldl addv out := by
    intro l
    induction l with
    | nil => intro _ out; rfl
    | cons t l ih =>
      intro h out
      have hl := ih fun u hu => h u (by simp [hu])
      rw [varsL, varsL, hl (t.vars out), h t (by simp) out, hl (t.vars []), fold_addv]
  refine Tm.ind (P := fun t => ∀ out : List Int, t.vars out = (t.vars []).foldl addv out) (fun t ih => ?_) t
  intro out
  rw [Tm.vars_eq, Tm.vars_eq]
  by_cases h1 : t.kind = 1
  · rw [if_pos h1, if_pos h1, if_neg (show t.n ∉ ([] : List Int) by simp)]
    rfl
  · simp only [if_neg h1]
    exact aux t.l ih out

end Go.Proofs.Ytdbkbaeeccemkaa

/- Compounds that are made; a term's variables, in a row. -/
namespace Go.Proofs.Ytdbkbaeeccemkaa
open Go Go.D Go.Proofs
set_option linter.unusedSimpArgs false
set_option linter.unusedVariables false
set_option maxRecDepth 8000

section
variable {w : World}

/-- A row of terms that is read, as cells. -/
theorem RdA.row {F : List Nat} : ∀ {l : List Tm} {p : Option Addr}, RdA w F l p 0 → ∃ L : List TmP, L.map (·.1) = l ∧ Rd w 4 p l.length (L.flatMap tmC) ∧ ∀ x ∈ L, x.1.s.size < 2 ^ 63 ∧ RdA w F x.1.l x.2.1 0 := by
  intro l p h
  obtain ⟨L, hl, hp⟩ := pick (n := l.length) (p := fun i (y : TmP) => ∃ (hi : i < l.length) (x : Addr), y.1 = l[i] ∧ p = some x ∧ (∀ j, j < 4 → w.cell? (x.add (i * 4 + j)) = (tmC y)[j]?) ∧ y.1.s.size < 2 ^ 63 ∧ RdA w F y.1.l y.2.1 0) fun i hi => by
    obtain ⟨x, q, c, e1, _, e3, e4, e5, e6, e7, e8⟩ := RdA.at h i hi
    simp only [Nat.zero_add] at e3 e4 e5 e6
    refine ⟨(l[i], q, c), hi, x, rfl, e1, fun j hj => ?_, e7, e8⟩
    match j, hj with
    | 0, _ => exact e3
    | 1, _ => exact e4
    | 2, _ => exact e5
    | 3, _ => exact e6
  refine ⟨L, List.ext_getElem (by simp [hl]) fun i h1 h2 => ?_, ⟨by rw [flat_len tmC_len, hl], ?_⟩, fun x hx => ?_⟩
  · rw [List.getElem_map]
    obtain ⟨_, _, e, _⟩ := hp i (by omega)
    exact e
  · by_cases h0 : l.length = 0
    · exact .inl h0
    · obtain ⟨_, x, _, e, _⟩ := hp 0 (by omega)
      refine .inr ⟨x, e, fun i hi => ?_⟩
      obtain ⟨_, x', _, e', hc, _⟩ := hp (i / 4) (by omega)
      rw [e] at e'; cases e'
      have := hc (i % 4) (by omega)
      rw [show i / 4 * 4 + i % 4 = i by omega] at this
      rw [this, ← flat_at tmC_len (l := L) (i := i / 4) (j := i % 4) (by omega) (by omega), show i / 4 * 4 + i % 4 = i by omega]
  · obtain ⟨i, hi, rfl⟩ := List.getElem_of_mem hx
    obtain ⟨_, _, _, _, _, a, b⟩ := hp i hi
    exact ⟨a, b⟩

/-- A row that is read is put behind a row of one's own. -/
theorem TmsAt.appR {p q : Option Addr} {n c d : Nat} {l r : List Tm} {G F F1 : List Nat} {K : Option Addr → Nat → Nat → World → Prop} (h : TmsAt w p n c l G F) (hr : RdA w F1 r q 0) (hF1 : In F1 w) (hGF : Dis G F) (hGF1 : Dis G F1) (hl : l.length + r.length < 2 ^ 30)
    (hK : ∀ p' c' G' w', TmsAt w' p' (n + r.length) c' (l ++ r) G' (F ++ F1) → Upd G w w' → Sub G' G w → K p' (n + r.length) c' w') :
    App Try.prog #[22, 22] 22 #[.slice p n c, .slice q r.length d] w K := by
  have hn := h.len
  obtain ⟨L, e1, e2, e3, e4⟩ := h
  obtain ⟨R, g1, g2, g3⟩ := hr.row
  refine AppR_rule (hE := eS_22) (by rfl) e2 g2 (fun v hv => ?_) (by omega) fun p' c' G' w' hs' u s => ?_
  · obtain ⟨x, _, hx⟩ := List.mem_flatMap.1 hv
    simp [tmC] at hx
    rcases hx with rfl | rfl | rfl | rfl <;> rfl
  refine hK p' c' G' w' ⟨L ++ R, by rw [List.map_append, e1, g1], by rw [List.flatMap_append]; exact hs', fun x hx => ?_, fun k hk => ?_⟩ u s
  · rcases List.mem_append.1 hx with g | g
    · obtain ⟨a, b⟩ := e3 x g
      exact ⟨a, RdA.sub (fun k hk => by simp [hk]) _ (RdA.upd' u hGF.symm b)⟩
    · obtain ⟨a, b⟩ := g3 x g
      exact ⟨a, RdA.sub (fun k hk => by simp [hk]) _ (RdA.upd' u hGF1.symm b)⟩
  · rcases List.mem_append.1 hk with g | g
    · exact e4.upd u k g
    · exact hF1.upd u k g

theorem rComp_ok {F : List Nat} {s : ByteArray} {l : List Tm} {p : Option Addr} {c : Nat} {K : Int → Int → ByteArray → Option Addr → Nat → Nat → World → Prop} (h : RdA w F l p 0) (hF : In F w) (hl : l.length < 2 ^ 29) (hne : l ≠ [])
    (hK : ∀ w' p' c' G, RdA w' (G ++ F) l p' 0 → In (G ++ F) w' → Since G w → Upd [] w w' → K 4 0 s p' l.length c' w') : C_ref06_Comp s p l.length c w K := by
  apply C_ref06_Comp.of
  unfold F_ref06_Comp
  have hpos : 0 < l.length := List.length_pos_iff.2 hne
  refine New_rule fun r w1 hr u1 b1 => ifF (by simp; exact hne) ?_
  refine BSlL_rule eS_22 [] (by rfl) (by simp) (by rfl) (by omega) fun w2 hs2 u2 => ?_
  have t2 : TmsAt w2 (some ⟨w1.heap.size, 0, none⟩) 0 0 [] [w1.heap.size] [] := ⟨[], rfl, by simpa using hs2, by simp, (by intro k hk; cases hk)⟩
  have U2 := u1.after u2
  refine t2.appR (RdA.keep U2 h) (hF.upd U2) (by intro k _ h; cases h) (fun k hk hx => by simp at hk; have := hF k hx; have := u1.size; omega) (by simp; omega) fun p' c' G' w3 t3 u3 s3 => ?_
  simp only [Nat.zero_add, List.nil_append] at t3 ⊢
  have hb3 := (b1.upd u2 (by simp)).upd u3 (by have := b1.lt; simp; omega)
  have hG' : Since G' w := fun k hk => by
    rcases s3 k hk with g | g
    · simp at g; have := u1.size; omega
    · have := U2.size; omega
  have hrG' : r ∉ G' := fun hx => by
    rcases s3 r hx with g | g
    · simp at g; have := b1.lt; omega
    · have := b1.lt; have := u2.size; omega
  have hrF : r ∉ F := fun hx => by have := hF r hx; omega
  have U3 : Upd [] w w3 := U2.fresh u3 (by intro k hk; simp at hk; have := u1.size; omega)
  refine St_acc (Upd.refl _ _) hb3 (by simp) rfl fun z0 y0 b0 => St_acc y0 b0 (by simp) rfl fun z1 y1 b1 => St_acc y1 b1 (by simp) rfl fun z2 y2 b2 => St_acc y2 b2 (by simp) rfl fun z3 y3 b3 => ?_
  simp at b3
  simp only [NN_some, addN, drw_cell, drw_heap, exS, exI, exB, exP, exM, exStr, exV, a0, a1, a2, a3, a4, a5, a6, a7, a8, a9, a10, a11, a12, a13, maxI_eq, Nat.zero_add, Nat.add_zero, Nat.mul_one, Option.isNone_some, Option.isNone_none, b3.cell]
  have t4 := t3.upd y3 (fun k hk hx => by simp at hx; subst hx; exact hrG' hk) (fun k hk hx => by simp at hx; subst hx; exact hrF hk)
  refine hK z3 p' c' G' t4.rd (fun k hk => ?_) hG' (U3.fresh y3 (by intro k hk; simp at hk; omega))
  rcases List.mem_append.1 hk with g | g
  · exact t4.inn.1 k g
  · exact t4.inn.2 k g
end

end Go.Proofs.Ytdbkbaeeccemkaa

/- The document's Vars: a row of numbers. -/
namespace Go.Proofs.Ytdbkbaeeccemkaa
open Go Go.D Go.Proofs
set_option linter.unusedSimpArgs false
set_option linter.unusedVariables false
set_option maxRecDepth 8000

section

theorem vars_len (t : Tm) (out : List Int) : (t.vars out).length ≤ out.length + t.size := by
  obtain ⟨z, e, h, _⟩ := vars_grow t out
  rw [e, List.length_append]; omega

theorem varsL_len : ∀ (l : List Tm) (out : List Int), (varsL l out).length ≤ out.length + sizeL l
  | [], out => by rw [varsL]; omega
  | t :: l, out => by
    rw [varsL, sizeL]
    have := varsL_len l (t.vars out)
    have := vars_len t out
    omega

/-- A row's number, read. -/
theorem int_cell {w : World} {p : Option Addr} {n c : Nat} {L : List Int} {G : List Nat} (h : SlAt w 1 p n c (L.map (.int .i64)) G) {i : Nat} (hi : i < L.length) :
    ∃ b off, p = some ⟨b, off, none⟩ ∧ w.cell? ⟨b, off + i, none⟩ = some (.int .i64 L[i]) := by
  have hn := h.1
  rw [List.length_map] at hn
  obtain ⟨b, off, hp, hc⟩ := h.cell (i := i) (by omega)
  refine ⟨b, off, hp, ?_⟩
  rw [hc, List.getElem?_map, List.getElem?_eq_getElem hi]; rfl

theorem rvars_ok (F : List Nat) (t : Tm) : ∀ {w : World} {p op : Option Addr} {c oc : Nat} {out : List Int} {G : List Nat} {K : Option Addr → Nat → Nat → World → Prop}, RdA w F t.l p 0 → In F w → SlAt w 1 op out.length oc (out.map (.int .i64)) G → Dis G F → out.length + t.size < 2 ^ 30 →
    (∀ w' p' c' G', SlAt w' 1 p' (t.vars out).length c' ((t.vars out).map (.int .i64)) G' → Upd G w w' → Sub G' G w → K p' (t.vars out).length c' w') → C_ref06_vars t.kind t.n t.s p t.l.length c op out.length oc w K := by
  refine Tm.ind (P := fun t => ∀ {w : World} {p op : Option Addr} {c oc : Nat} {out : List Int} {G : List Nat} {K : Option Addr → Nat → Nat → World → Prop}, RdA w F t.l p 0 → In F w → SlAt w 1 op out.length oc (out.map (.int .i64)) G → Dis G F → out.length + t.size < 2 ^ 30 →
    (∀ w' p' c' G', SlAt w' 1 p' (t.vars out).length c' ((t.vars out).map (.int .i64)) G' → Upd G w w' → Sub G' G w → K p' (t.vars out).length c' w') → C_ref06_vars t.kind t.n t.s p t.l.length c op out.length oc w K) (fun t ih => ?_) t
  intro w p op c oc out G K hp hF hs hGF hz hK
  apply C_ref06_vars.of
  unfold F_ref06_vars
  have hts := Tm.size_eq t
  refine New_rule fun r w1 hr u1 b1 => ?_
  have hs1 := hs.upd u1 (by intro k _ h; cases h)
  have hveq := Tm.vars_eq t out
  simp only [NN_some, addN, drw_cell, drw_heap, exS, exI, exB, exP, exM, exStr, exV, a0, a1, a2, a3, a4, a5, a6, a7, a8, a9, a10, a11, a12, a13, maxI_eq, Nat.zero_add, Nat.add_zero, Nat.mul_one, Option.isNone_some, Option.isNone_none, b1.cell]
  have hsz := u1.size
  have rG : r ∉ G := fun hx => by have := hs.inn r hx; omega
  by_cases k1 : t.kind = 1
  · rw [if_pos k1] at hveq
    refine ifT (by simp [k1]) ?_
    unfold F_ref06_vars_L1
    refine ⟨fun s z => ∃ i : Nat, s.i = i ∧ i ≤ out.length ∧ Upd [] w1 z ∧ (∀ j (hj : j < out.length), j < i → out[j] ≠ t.n), fun s _ => (out.length - s.i).toNat, ⟨0, rfl, by omega, Upd.refl _ _, fun j _ hj => by omega⟩, ?_⟩
    rintro ⟨si⟩ z ⟨i, hi0, hi, uz, hno⟩
    dsimp only at hi0
    subst hi0
    unfold B_ref06_vars_L1
    dsimp only
    have bz := b1.upd uz (by simp)
    have hsz2 := hs1.upd uz (by intro k _ h; cases h)
    refine ifC (fun g => ?_) (fun g => ?_)
    · simp only [decide_eq_true_eq] at g
      have gi : i < out.length := by omega
      obtain ⟨b, off, rfl, hc⟩ := int_cell hsz2 gi
      simp only [NN_some, addN, drw_cell, drw_heap, exS, exI, exB, exP, exM, exStr, exV, a0, a1, a2, a3, a4, a5, a6, a7, a8, a9, a10, a11, a12, a13, maxI_eq, Nat.zero_add, Nat.add_zero, Nat.mul_one, Option.isNone_some, Option.isNone_none, Int.toNat_natCast, hc, bz.cell]
      refine ⟨by omega, by omega, ifC (fun g2 => ?_) (fun g2 => ?_)⟩
      · simp only [beq_iff_eq] at g2
        have hmem : t.n ∈ out := by rw [← g2]; exact List.getElem_mem gi
        rw [if_pos hmem] at hveq
        rw [hveq] at hK
        exact hK _ _ _ G (hsz2.upd (drw_upd z) (by intro k _ h; cases h)) (((u1.after uz).after (drw_upd z)).mono (by simp)) (Sub.refl _ _)
      · simp only [beq_eq_false_iff_ne, ne_eq] at g2
        rw [i64id (by omega) (by omega)]
        refine ⟨⟨i + 1, by simp, by omega, uz.after (drw_upd z), fun j hj hji => ?_⟩, by simp; omega⟩
        by_cases e : j = i
        · subst e; exact g2
        · exact hno j hj (by omega)
    · simp only [decide_eq_false_iff_not] at g
      obtain rfl : i = out.length := by omega
      have hmem : t.n ∉ out := fun hx => by
        obtain ⟨j, hj, e⟩ := List.getElem_of_mem hx
        exact hno j hj hj e
      rw [if_neg hmem] at hveq
      rw [hveq] at hK
      simp only [NN_some, addN, drw_cell, drw_heap, exS, exI, exB, exP, exM, exStr, exV, a0, a1, a2, a3, a4, a5, a6, a7, a8, a9, a10, a11, a12, a13, maxI_eq, Nat.zero_add, Nat.add_zero, Nat.mul_one, Option.isNone_some, Option.isNone_none, bz.cell]
      refine BSlL_rule eS_30 [.int .i64 t.n] (by rfl) (by simp [Value.cells]) (by rfl) (by omega) fun z2 hs2 u2 => ?_
      refine App_rule (hE := eS_30) (hsz2.upd u2 (by intro k _ h; cases h)) hs2 (by simp [Value.cells, Value.oneCell']) (by omega) fun p' c' G' z3 hs3 u3 s3 => ?_
      have e1 : out.map (Value.int .i64) ++ ([Value.int .i64 t.n] : List Value).flatMap (fun v => v.cells.toList) = (out ++ [t.n]).map (.int .i64) := by rw [List.map_append]; simp [Value.cells]
      have e2 : out.length + 1 = (out ++ [t.n]).length := by simp
      rw [e1, e2] at hs3
      rw [e2]
      have U2 := (u1.after uz).after u2
      exact hK z3 p' c' G' hs3 (U2.after u3) (s3.old U2.size)
  · rw [if_neg k1] at hveq
    refine ifF (by simp [k1]) ?_
    unfold F_ref06_vars_L2
    refine ⟨fun s z => ∃ (i c2 : Nat) (p2 : Option Addr) (G2 : List Nat), s.i_1 = i ∧ i ≤ t.l.length ∧ s.outP_2 = p2 ∧ s.outN_2 = (varsL (t.l.take i) out).length ∧ s.outC_2 = c2 ∧ SlAt z 1 p2 (varsL (t.l.take i) out).length c2 ((varsL (t.l.take i) out).map (.int .i64)) G2 ∧ Upd G w1 z ∧ Sub G2 G w1, fun s _ => (t.l.length - s.i_1).toNat,
      ⟨0, oc, op, G, rfl, by omega, rfl, by simp [varsL], rfl, by simpa [varsL] using hs1, Upd.refl _ _, Sub.refl _ _⟩, ?_⟩
    rintro ⟨sp, sn, sc, si⟩ z ⟨i, c2, p2, G2, hi0, hi, e1, e2, e3, hsz, uz, sz⟩
    dsimp only at hi0 e1 e2 e3
    subst hi0
    have e1 := e1.symm
    have e3 := e3.symm
    subst e1 e3
    subst e2
    unfold B_ref06_vars_L2
    dsimp only
    have bz := b1.upd uz rG
    simp only [NN_some, addN, drw_cell, drw_heap, exS, exI, exB, exP, exM, exStr, exV, a0, a1, a2, a3, a4, a5, a6, a7, a8, a9, a10, a11, a12, a13, maxI_eq, Nat.zero_add, Nat.add_zero, Nat.mul_one, Option.isNone_some, Option.isNone_none, bz.cell]
    refine ifC (fun g => ?_) (fun g => ?_)
    · simp only [decide_eq_true_eq] at g
      have gi : i < t.l.length := by omega
      have hGF1 : Dis F G := hGF.symm
      have hpz := RdA.upd' uz hGF1 (RdA.keep u1 hp)
      obtain ⟨x, q, cq, f1, f2, f3, f4, f5, f6, f7, f8⟩ := hpz.at i gi
      simp only [Nat.zero_add] at f3 f4 f5 f6
      simp only [f1, NN_some, addN, drw_cell, drw_heap, exS, exI, exB, exP, exM, exStr, exV, a0, a1, a2, a3, a4, a5, a6, a7, a8, a9, a10, a11, a12, a13, maxI_eq, Nat.zero_add, Nat.add_zero, Nat.mul_one, Option.isNone_some, Option.isNone_none, addA, Int.toNat_natCast, f3, f4, f5, f6]
      have hle := sizeL_take_le (l := t.l) (i + 1)
      have hst := sizeL_take (l := t.l) gi
      have hvl := varsL_len (t.l.take i) out
      have hG2 : Dis G2 F := fun k hk hx => by
        rcases sz k hk with g2 | g2
        · exact hGF k g2 hx
        · have := hF k hx; have := u1.size; omega
      refine ⟨by omega, by omega, ih _ (List.getElem_mem gi) f8 (fun k hk => Nat.lt_of_lt_of_le (hF k hk) (by have := u1.size; have := uz.size; omega)) hsz hG2 (by omega) fun z2 p' c' G' hs2 u2 s2 => ?_⟩
      rw [← varsL_take gi] at hs2 ⊢
      rw [i64id (by have := sizeL_pos (l := t.l); omega) (by have := sizeL_pos (l := t.l); omega)]
      refine ⟨⟨i + 1, c', p', G', by simp, by omega, rfl, rfl, rfl, hs2, uz.trans u2 (fun k hk => .inl hk) (fun k hk => sz k hk), fun k hk => ?_⟩, by simp; omega⟩
      rcases s2 k hk with g2 | g2
      · exact sz k g2
      · have := uz.size; right; omega
    · simp only [decide_eq_false_iff_not] at g
      obtain rfl : i = t.l.length := by omega
      rw [List.take_length] at hsz ⊢
      rw [hveq] at hK
      exact hK z _ _ G2 hsz (Upd.after u1 uz) (sz.old u1.size)

theorem rVars_ok {F : List Nat} (t : Tm) {w : World} {p : Option Addr} {c : Nat} {K : Option Addr → Nat → Nat → World → Prop} (hp : RdA w F t.l p 0) (hF : In F w) (hz : t.size < 2 ^ 30)
    (hK : ∀ w' p' c' G', SlAt w' 1 p' (t.vars []).length c' ((t.vars []).map (.int .i64)) G' → Upd [] w w' → Since G' w → K p' (t.vars []).length c' w') : C_ref06_Vars t.kind t.n t.s p t.l.length c w K := by
  apply C_ref06_Vars.of
  unfold F_ref06_Vars
  refine New_rule fun r w1 hr u1 b1 => ?_
  simp only [NN_some, addN, drw_cell, drw_heap, exS, exI, exB, exP, exM, exStr, exV, a0, a1, a2, a3, a4, a5, a6, a7, a8, a9, a10, a11, a12, a13, maxI_eq, Nat.zero_add, Nat.add_zero, Nat.mul_one, Option.isNone_some, Option.isNone_none, b1.cell]
  refine rvars_ok F t (out := []) (RdA.keep u1 hp) (hF.upd u1) (SlAt.nil w1 1) (by intro k hk; cases hk) (by simpa using hz) fun w2 p' c' G' hs u s => ?_
  refine hK w2 p' c' G' hs (u1.after u) (fun k hk => ?_)
  rcases s k hk with g | g
  · cases g
  · have := u1.size; omega

end

end Go.Proofs.Ytdbkbaeeccemkaa
