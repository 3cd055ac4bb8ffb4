/- The formulas of this seat's functions, held against the loaded program by the kernel. Printed by a program. -/
import Derived.Test.YtlngmelfjiemlaaGenC
set_option maxRecDepth 100000
set_option linter.unusedVariables false
namespace Go.Proofs.Ytlngmelfjiemlaa
open Go Go.D Go.Proofs

def F_gosem_cut_init (w : World) (R : World → Prop) : Prop :=
  CallX Try.prog 1 [] w fun v w1 => v = (.tuple #[]) ∧
  R w1

def G_gosem_cut_init : Gen where
  loop := lookL []
  plan := fun _ => none

theorem loops_gosem_cut_init : LoopOk Try.prog Try.f2.ntmps G_gosem_cut_init (codeOf Try.f2) := loopOk_none fun _ => rfl

theorem den_gosem_cut_init  (w : World) (R : Value → World → Prop) :
    F_gosem_cut_init w (fun w1 => R (.tuple #[]) w1) = den Try.prog Try.f2.ntmps G_gosem_cut_init (codeOf Try.f2) [] (postD Try.prog Try.f2.results.toList R) (entry [] 0) w := by kernel_rfl

theorem C_gosem_cut_init.of {w : World} {R : World → Prop} (h : F_gosem_cut_init w R) : C_gosem_cut_init w R := by
  refine (calls_of_den (c := codeOf Try.f2) seat_ok seat_mixed Try.func2 (by kernel_rfl) loops_gosem_cut_init (args := []) rfl (R := fun v w1 => v = (.tuple #[] : Value) ∧ R w1) ?_).mono ?_
  · rw [← den_gosem_cut_init]
    simpa using h
  · rintro en w1 ⟨v, he, rfl, h⟩
    exact ⟨he, h⟩

def F_law05_FunctorNobody_k1 (R : Bool → World → Prop) (w1_10 : World) : Prop :=
  R false w1_10

def F_law05_FunctorNobody (o0 : Int) (o1 : ByteArray) (o2 : Int) (w : World) (R : Bool → World → Prop) : Prop :=
  New w (.cells #[.int .i64 o0, .string o1, .int .i64 o2] 23) fun r w1 =>
  ∃ Name : ByteArray, w1.cell? ((⟨r, 0, none⟩ : Addr).add 1) = some (.string Name) ∧
  ∃ N : Int, w1.cell? ((⟨r, 0, none⟩ : Addr).add 2) = some (.int .i64 N) ∧
  C_functor_Table_Put none Name N w1 fun t170 t171 w1_1 =>
  ∃ Name_1 : ByteArray, w1_1.cell? ((⟨r, 0, none⟩ : Addr).add 1) = some (.string Name_1) ∧
  ∃ N_1 : Int, w1_1.cell? ((⟨r, 0, none⟩ : Addr).add 2) = some (.int .i64 N_1) ∧
  C_functor_Table_Find none Name_1 N_1 w1_1 fun t260 t261 w1_2 =>
  ∃ N_2 : Int, w1_2.cell? ((⟨r, 0, none⟩ : Addr).add 2) = some (.int .i64 N_2) ∧
  C_functor_Table_Get none N_2 w1_2 fun t330 t331 t332 w1_3 =>
  C_law05_lives  w1_3 fun t37 w1_4 =>
  If t37
  (If (t170 == (0 : Int))
  (If (t171 == (6 : Int))
  (If (t260 == (0 : Int))
  (If (!t261)
  (If (t330.toList == (⟨#[]⟩ : ByteArray).toList)
  (If (t331 == (0 : Int))
  (If (t332 == (6 : Int))
  (C_functor_Table_Len none w1_4 fun t68 w1_5 =>
  If (t68 == (0 : Int))
  (C_functor_Table_Slots none w1_5 fun t73 w1_6 =>
  If (t73 == (0 : Int))
  (∃ N_3 : Int, w1_6.cell? ((⟨r, 0, none⟩ : Addr).add 2) = some (.int .i64 N_3) ∧
  C_functor_Table_Mark none N_3 w1_6 fun t80 w1_7 =>
  If (t80 == (6 : Int))
  (C_functor_Table_Sweep none w1_7 fun t85 w1_8 =>
  If (t85 == (0 : Int))
  (C_functor_Table_Atoms none w1_8 fun t90 w1_9 =>
  R (t90 == (0 : Int)) w1_9)
  (F_law05_FunctorNobody_k1 R w1_8))
  (F_law05_FunctorNobody_k1 R w1_7))
  (F_law05_FunctorNobody_k1 R w1_6))
  (F_law05_FunctorNobody_k1 R w1_5))
  (F_law05_FunctorNobody_k1 R w1_4))
  (F_law05_FunctorNobody_k1 R w1_4))
  (F_law05_FunctorNobody_k1 R w1_4))
  (F_law05_FunctorNobody_k1 R w1_4))
  (F_law05_FunctorNobody_k1 R w1_4))
  (F_law05_FunctorNobody_k1 R w1_4))
  (F_law05_FunctorNobody_k1 R w1_4))
  (F_law05_FunctorNobody_k1 R w1_4)

def G_law05_FunctorNobody : Gen where
  loop := lookL []
  plan := fun _ => none

theorem loops_law05_FunctorNobody : LoopOk Try.prog Try.f3.ntmps G_law05_FunctorNobody (codeOf Try.f3) := loopOk_none fun _ => rfl

theorem den_law05_FunctorNobody (o0 : Int) (o1 : ByteArray) (o2 : Int) (w : World) (R : Value → World → Prop) :
    F_law05_FunctorNobody o0 o1 o2 w (fun r w1 => R (.bool r) w1) = den Try.prog Try.f3.ntmps G_law05_FunctorNobody (codeOf Try.f3) [] (postD Try.prog Try.f3.results.toList R) (entry [.agg #[.int .i64 o0, .string o1, .int .i64 o2]] 0) w := by kernel_rfl

theorem C_law05_FunctorNobody.of {o0 : Int} {o1 : ByteArray} {o2 : Int} {w : World} {R : Bool → World → Prop} (h : F_law05_FunctorNobody o0 o1 o2 w R) : C_law05_FunctorNobody o0 o1 o2 w R := by
  refine (calls_of_den (c := codeOf Try.f3) seat_ok seat_mixed Try.func3 (by kernel_rfl) loops_law05_FunctorNobody (args := [.agg #[.int .i64 o0, .string o1, .int .i64 o2]]) rfl (R := fun v w1 => ∃ (r : Bool), v = (.bool r : Value) ∧ R r w1) ?_).mono ?_
  · rw [← den_law05_FunctorNobody]
    have e : (fun r w1 => ∃ (r' : Bool), (.bool r : Value) = (.bool r' : Value) ∧ R r' w1) = R := by
      funext r w1
      exact propext ⟨fun ⟨r', he, h⟩ => by simp at he; simp_all, fun h => ⟨_, rfl, h⟩⟩
    simpa only [e] using h
  · rintro en w1 ⟨v, he, r, rfl, h⟩
    exact ⟨_, he, h⟩

def F_law05_FunctorApart_k1 (R : Bool → World → Prop) (w1_3 : World) : Prop :=
  R false w1_3

def F_law05_FunctorApart_k2 (n : Int) (R : Bool → World → Prop) (t661 : Int) (w1_7 : World) : Prop :=
  R (t661 == n) w1_7

def F_law05_FunctorApart_k3 (R : Bool → World → Prop) (w1_8 : World) : Prop :=
  R false w1_8

def F_law05_FunctorApart (a : ByteArray) (n : Int) (b : ByteArray) (m : Int) (w : World) (R : Bool → World → Prop) : Prop :=
  C_atom_New (100 : Int) w fun t210 t211 w1 =>
  C_functor_New (100 : Int) t210 w1 fun t260 t261 w1_1 =>
  C_law05_lives  w1_1 fun t29 w1_2 =>
  If (!t29)
  (F_law05_FunctorApart_k1 R w1_2)
  (If (t211 != (0 : Int))
  (F_law05_FunctorApart_k1 R w1_2)
  (If (t261 != (0 : Int))
  (F_law05_FunctorApart_k1 R w1_2)
  (If t260.isNone
  (R false w1_2)
  (C_functor_Table_Put t260 a n w1_2 fun t470 t471 w1_4 =>
  C_functor_Table_Put t260 b m w1_4 fun t540 t541 w1_5 =>
  If (t471 != (0 : Int))
  (R true w1_5)
  (If (t541 != (0 : Int))
  (R true w1_5)
  (C_functor_Table_Get t260 t470 w1_5 fun t660 t661 t662 w1_6 =>
  If (a.toList == b.toList)
  (If ((t470 == t540) == (n == m))
  (If (t662 == (0 : Int))
  (If (t660.toList == a.toList)
  (F_law05_FunctorApart_k2 n R t661 w1_6)
  (F_law05_FunctorApart_k3 R w1_6))
  (F_law05_FunctorApart_k3 R w1_6))
  (F_law05_FunctorApart_k3 R w1_6))
  (If ((t470 == t540) == false)
  (If (t662 == (0 : Int))
  (If (t660.toList == a.toList)
  (F_law05_FunctorApart_k2 n R t661 w1_6)
  (F_law05_FunctorApart_k3 R w1_6))
  (F_law05_FunctorApart_k3 R w1_6))
  (F_law05_FunctorApart_k3 R w1_6))))))))

def G_law05_FunctorApart : Gen where
  loop := lookL []
  plan := fun _ => none

theorem loops_law05_FunctorApart : LoopOk Try.prog Try.f4.ntmps G_law05_FunctorApart (codeOf Try.f4) := loopOk_none fun _ => rfl

theorem den_law05_FunctorApart (a : ByteArray) (n : Int) (b : ByteArray) (m : Int) (w : World) (R : Value → World → Prop) :
    F_law05_FunctorApart a n b m w (fun r w1 => R (.bool r) w1) = den Try.prog Try.f4.ntmps G_law05_FunctorApart (codeOf Try.f4) [] (postD Try.prog Try.f4.results.toList R) (entry [.string a, .int .i64 n, .string b, .int .i64 m] 0) w := by kernel_rfl

theorem C_law05_FunctorApart.of {a : ByteArray} {n : Int} {b : ByteArray} {m : Int} {w : World} {R : Bool → World → Prop} (h : F_law05_FunctorApart a n b m w R) : C_law05_FunctorApart a n b m w R := by
  refine (calls_of_den (c := codeOf Try.f4) seat_ok seat_mixed Try.func4 (by kernel_rfl) loops_law05_FunctorApart (args := [.string a, .int .i64 n, .string b, .int .i64 m]) rfl (R := fun v w1 => ∃ (r : Bool), v = (.bool r : Value) ∧ R r w1) ?_).mono ?_
  · rw [← den_law05_FunctorApart]
    have e : (fun r w1 => ∃ (r' : Bool), (.bool r : Value) = (.bool r' : Value) ∧ R r' w1) = R := by
      funext r w1
      exact propext ⟨fun ⟨r', he, h⟩ => by simp at he; simp_all, fun h => ⟨_, rfl, h⟩⟩
    simpa only [e] using h
  · rintro en w1 ⟨v, he, r, rfl, h⟩
    exact ⟨_, he, h⟩

structure S_law05_FunctorKeeps_L1 where
  idsP : Option Addr
  idsN : Nat
  idsC : Nat
  i : Int

structure S_law05_FunctorKeeps_L3 where
  i_1 : Int

structure S_law05_FunctorKeeps_L2 where
  n : Int

structure S_law05_FunctorKeeps_L4 where
  i_2 : Int

def F_law05_FunctorKeeps_k1 (R : Bool → World → Prop) (w1_5 : World) : Prop :=
  R false w1_5

def F_law05_FunctorKeeps_k2 (R : Bool → World → Prop) (t221 : Int) (t271 : Int) (w1_3 : World) : Prop :=
  C_law05_lives  w1_3 fun t53 w1_4 =>
  If t53
  (If (t221 == (0 : Int))
  (R (t271 == (0 : Int)) w1_4)
  (F_law05_FunctorKeeps_k1 R w1_4))
  (F_law05_FunctorKeeps_k1 R w1_4)

def F_law05_FunctorKeeps_k3 (R : Bool → World → Prop) (w1_7 : World) : Prop :=
  R false w1_7

def F_law05_FunctorKeeps_k4 (s : S_law05_FunctorKeeps_L1) (Kn : S_law05_FunctorKeeps_L1 → World → Prop) (idx : Int) (w1_9 : World) : Prop :=
  BSl Try.prog 43 1 [(0, .int .i64 idx)] w1_9 fun t87P t87N t87C w1_10 =>
  App Try.prog #[43, 43] 43 #[.slice s.idsP s.idsN s.idsC, .slice t87P t87N t87C] w1_10 fun t88P t88N t88C w1_11 =>
  Kn ⟨t88P, t88N, t88C, (IntKind.i64.wrap ((s.i : Int) + (1 : Int)))⟩ w1_11

def F_law05_FunctorKeeps_k5 (Kr : Bool → World → Prop) (w1_22 : World) : Prop :=
  Kr false w1_22

def F_law05_FunctorKeeps_k6 (s : S_law05_FunctorKeeps_L4) (Kn : S_law05_FunctorKeeps_L4 → World → Prop) (w1_23 : World) : Prop :=
  Kn ⟨(IntKind.i64.wrap ((s.i_2 : Int) + (2 : Int)))⟩ w1_23

/-- One round. -/
def B_law05_FunctorKeeps_L1 (lP_1 : Option Addr) (lN_1 : Nat) (lC_1 : Nat) (rounds_1 : Int) (a : Option Addr) (t : Option Addr) (s : S_law05_FunctorKeeps_L1) (w : World) (Kn : S_law05_FunctorKeeps_L1 → World → Prop) (Kx0 : Option Addr → Nat → Nat → World → Prop) : Prop :=
  If (decide ((s.i : Int) < (lN_1 : Int)))
  (0 ≤ (s.i : Int) ∧ (s.i : Int) < (lN_1 : Int) ∧ NN lP_1 fun a_1 =>
  ∃ Name : ByteArray, (drw w).cell? ((a_1.add ((s.i : Int).toNat * 3)).add 1) = some (.string Name) ∧
  0 ≤ (s.i : Int) ∧ (s.i : Int) < (lN_1 : Int) ∧ NN lP_1 fun a_2 =>
  ∃ N : Int, (drw w).cell? ((a_2.add ((s.i : Int).toNat * 3)).add 2) = some (.int .i64 N) ∧
  C_functor_Table_Put t Name N (drw w) fun t800 t801 w1_8 =>
  If (t801 != (0 : Int))
  (F_law05_FunctorKeeps_k4 s Kn (-1) w1_8)
  (F_law05_FunctorKeeps_k4 s Kn t800 w1_8))
  (Kx0 s.idsP s.idsN s.idsC w)

def F_law05_FunctorKeeps_L1 (lP_1 : Option Addr) (lN_1 : Nat) (lC_1 : Nat) (rounds_1 : Int) (a : Option Addr) (t : Option Addr) (s : S_law05_FunctorKeeps_L1) (w : World) (Kx0 : Option Addr → Nat → Nat → World → Prop) : Prop :=
  LoopS (fun s w Kn => B_law05_FunctorKeeps_L1 lP_1 lN_1 lC_1 rounds_1 a t s w Kn Kx0) s w

/-- One round. -/
def B_law05_FunctorKeeps_L3 (lP_3 : Option Addr) (lN_3 : Nat) (lC_3 : Nat) (rounds_3 : Int) (a_4 : Option Addr) (t_2 : Option Addr) (idsP_4 : Option Addr) (idsN_4 : Nat) (idsC_4 : Nat) (n_1 : Int) (s : S_law05_FunctorKeeps_L3) (w : World) (Kn : S_law05_FunctorKeeps_L3 → World → Prop) (Kx4 : World → Prop) : Prop :=
  If (decide ((s.i_1 : Int) < (lN_3 : Int)))
  (0 ≤ (s.i_1 : Int) ∧ (s.i_1 : Int) < (idsN_4 : Int) ∧ NN idsP_4 fun a_5 =>
  ∃ t108 : Int, w.cell? (a_5.add ((s.i_1 : Int).toNat * 1)) = some (.int .i64 t108) ∧
  C_functor_Table_Mark t_2 t108 w fun t109 w1_13 =>
  Kn ⟨(IntKind.i64.wrap ((s.i_1 : Int) + (2 : Int)))⟩ w1_13)
  (Kx4 w)

def F_law05_FunctorKeeps_L3 (lP_3 : Option Addr) (lN_3 : Nat) (lC_3 : Nat) (rounds_3 : Int) (a_4 : Option Addr) (t_2 : Option Addr) (idsP_4 : Option Addr) (idsN_4 : Nat) (idsC_4 : Nat) (n_1 : Int) (s : S_law05_FunctorKeeps_L3) (w : World) (Kx4 : World → Prop) : Prop :=
  LoopS (fun s w Kn => B_law05_FunctorKeeps_L3 lP_3 lN_3 lC_3 rounds_3 a_4 t_2 idsP_4 idsN_4 idsC_4 n_1 s w Kn Kx4) s w

/-- One round. -/
def B_law05_FunctorKeeps_L2 (lP_2 : Option Addr) (lN_2 : Nat) (lC_2 : Nat) (rounds_2 : Int) (a_3 : Option Addr) (t_1 : Option Addr) (idsP_3 : Option Addr) (idsN_3 : Nat) (idsC_3 : Nat) (s : S_law05_FunctorKeeps_L2) (w : World) (Kn : S_law05_FunctorKeeps_L2 → World → Prop) (Kx2 : World → Prop) : Prop :=
  If (decide ((s.n : Int) < rounds_2))
  (If (decide ((s.n : Int) < (3 : Int)))
  (F_law05_FunctorKeeps_L3 lP_2 lN_2 lC_2 rounds_2 a_3 t_1 idsP_3 idsN_3 idsC_3 (s.n : Int) ⟨(0 : Int)⟩ w
  (fun w1_14 =>
  C_functor_Table_Sweep t_1 w1_14 fun t111 w1_15 =>
  C_functor_Table_Atoms t_1 w1_15 fun t113 w1_16 =>
  C_atom_Table_Sweep a_3 w1_16 fun t115 w1_17 =>
  C_functor_Table_Put t_1 ⟨#[111, 116, 104, 101, 114]⟩ (IntKind.i64.wrap ((1 : Int) + (s.n : Int))) w1_17 fun t1190 t1191 w1_18 =>
  Kn ⟨(IntKind.i64.wrap ((s.n : Int) + (1 : Int)))⟩ w1_18))
  (Kx2 w))
  (Kx2 w)

def F_law05_FunctorKeeps_L2 (lP_2 : Option Addr) (lN_2 : Nat) (lC_2 : Nat) (rounds_2 : Int) (a_3 : Option Addr) (t_1 : Option Addr) (idsP_3 : Option Addr) (idsN_3 : Nat) (idsC_3 : Nat) (s : S_law05_FunctorKeeps_L2) (w : World) (Kx2 : World → Prop) : Prop :=
  LoopS (fun s w Kn => B_law05_FunctorKeeps_L2 lP_2 lN_2 lC_2 rounds_2 a_3 t_1 idsP_3 idsN_3 idsC_3 s w Kn Kx2) s w

/-- One round. -/
def B_law05_FunctorKeeps_L4 (lP_4 : Option Addr) (lN_4 : Nat) (lC_4 : Nat) (t_3 : Option Addr) (idsP_5 : Option Addr) (idsN_5 : Nat) (idsC_5 : Nat) (s : S_law05_FunctorKeeps_L4) (w : World) (Kn : S_law05_FunctorKeeps_L4 → World → Prop) (Kx6 : World → Prop) (Kr : Bool → World → Prop) : Prop :=
  If (decide ((s.i_2 : Int) < (lN_4 : Int)))
  (0 ≤ (s.i_2 : Int) ∧ (s.i_2 : Int) < (idsN_5 : Int) ∧ NN idsP_5 fun a_6 =>
  ∃ t129 : Int, w.cell? (a_6.add ((s.i_2 : Int).toNat * 1)) = some (.int .i64 t129) ∧
  If (decide (t129 < (0 : Int)))
  (F_law05_FunctorKeeps_k6 s Kn w)
  (0 ≤ (s.i_2 : Int) ∧ (s.i_2 : Int) < (idsN_5 : Int) ∧ NN idsP_5 fun a_7 =>
  ∃ t136 : Int, w.cell? (a_7.add ((s.i_2 : Int).toNat * 1)) = some (.int .i64 t136) ∧
  C_functor_Table_Get t_3 t136 w fun t1370 t1371 t1372 w1_20 =>
  0 ≤ (s.i_2 : Int) ∧ (s.i_2 : Int) < (lN_4 : Int) ∧ NN lP_4 fun a_8 =>
  ∃ Name_1 : ByteArray, (drw w1_20).cell? ((a_8.add ((s.i_2 : Int).toNat * 3)).add 1) = some (.string Name_1) ∧
  0 ≤ (s.i_2 : Int) ∧ (s.i_2 : Int) < (lN_4 : Int) ∧ NN lP_4 fun a_9 =>
  ∃ N_1 : Int, (drw w1_20).cell? ((a_9.add ((s.i_2 : Int).toNat * 3)).add 2) = some (.int .i64 N_1) ∧
  C_functor_Table_Find t_3 Name_1 N_1 (drw w1_20) fun t1530 t1531 w1_21 =>
  If (t1372 != (0 : Int))
  (F_law05_FunctorKeeps_k5 Kr w1_21)
  (0 ≤ (s.i_2 : Int) ∧ (s.i_2 : Int) < (lN_4 : Int) ∧ NN lP_4 fun a_10 =>
  ∃ Name_2 : ByteArray, w1_21.cell? ((a_10.add ((s.i_2 : Int).toNat * 3)).add 1) = some (.string Name_2) ∧
  If (!(t1370.toList == Name_2.toList))
  (F_law05_FunctorKeeps_k5 Kr w1_21)
  (0 ≤ (s.i_2 : Int) ∧ (s.i_2 : Int) < (lN_4 : Int) ∧ NN lP_4 fun a_11 =>
  ∃ N_2 : Int, w1_21.cell? ((a_11.add ((s.i_2 : Int).toNat * 3)).add 2) = some (.int .i64 N_2) ∧
  If (t1371 != N_2)
  (F_law05_FunctorKeeps_k5 Kr w1_21)
  (If (!t1531)
  (F_law05_FunctorKeeps_k5 Kr w1_21)
  (0 ≤ (s.i_2 : Int) ∧ (s.i_2 : Int) < (idsN_5 : Int) ∧ NN idsP_5 fun a_12 =>
  ∃ t185 : Int, w1_21.cell? (a_12.add ((s.i_2 : Int).toNat * 1)) = some (.int .i64 t185) ∧
  If (t1530 != t185)
  (Kr false w1_21)
  (F_law05_FunctorKeeps_k6 s Kn w1_21)))))))
  (Kx6 w)

def F_law05_FunctorKeeps_L4 (lP_4 : Option Addr) (lN_4 : Nat) (lC_4 : Nat) (t_3 : Option Addr) (idsP_5 : Option Addr) (idsN_5 : Nat) (idsC_5 : Nat) (s : S_law05_FunctorKeeps_L4) (w : World) (Kx6 : World → Prop) (Kr : Bool → World → Prop) : Prop :=
  LoopS (fun s w Kn => B_law05_FunctorKeeps_L4 lP_4 lN_4 lC_4 t_3 idsP_5 idsN_5 idsC_5 s w Kn Kx6 Kr) s w

def F_law05_FunctorKeeps (lP : Option Addr) (lN : Nat) (lC : Nat) (rounds : Int) (w : World) (R : Bool → World → Prop) : Prop :=
  C_atom_New (16384 : Int) w fun t220 t221 w1 =>
  C_functor_New (16384 : Int) t220 w1 fun t270 t271 w1_1 =>
  C_law05_lives  w1_1 fun t30 w1_2 =>
  If (!t30)
  (F_law05_FunctorKeeps_k2 R t221 t271 w1_2)
  (If (t221 != (0 : Int))
  (F_law05_FunctorKeeps_k2 R t221 t271 w1_2)
  (If (t271 != (0 : Int))
  (F_law05_FunctorKeeps_k2 R t221 t271 w1_2)
  (If t220.isNone
  (F_law05_FunctorKeeps_k2 R t221 t271 w1_2)
  (If t270.isNone
  (F_law05_FunctorKeeps_k2 R t221 t271 w1_2)
  (If (decide ((lN : Int) > (50 : Int)))
  (C_law05_lives  w1_2 fun t53_1 w1_6 =>
  If t53_1
  (If (t221 == (0 : Int))
  (R (t271 == (0 : Int)) w1_6)
  (F_law05_FunctorKeeps_k3 R w1_6))
  (F_law05_FunctorKeeps_k3 R w1_6))
  (F_law05_FunctorKeeps_L1 lP lN lC rounds t220 t270 ⟨none, 0, 0, (0 : Int)⟩ w1_2
  (fun idsP_2 idsN_2 idsC_2 w1_12 =>
  F_law05_FunctorKeeps_L2 lP lN lC rounds t220 t270 idsP_2 idsN_2 idsC_2 ⟨(0 : Int)⟩ w1_12
  (fun w1_19 =>
  F_law05_FunctorKeeps_L4 lP lN lC t270 idsP_2 idsN_2 idsC_2 ⟨(0 : Int)⟩ w1_19
  (fun w1_24 =>
  R true w1_24)
  (fun t4_1 w1_25 =>
  R t4_1 w1_25)))))))))

def lit_law05_FunctorKeeps_L1 (f : (Option Addr) × Nat × Nat × Int × (Option Addr) × (Option Addr)) (s : S_law05_FunctorKeeps_L1) : Env := [⟨0, .slice f.1 f.2.1 f.2.2.1, none⟩, ⟨1, .int .i64 f.2.2.2.1, none⟩, ⟨5, .pointer f.2.2.2.2.1, none⟩, ⟨7, .pointer f.2.2.2.2.2, none⟩, ⟨9, .slice s.idsP s.idsN s.idsC, none⟩, ⟨10, .int .i64 s.i, none⟩]

def dec_law05_FunctorKeeps_L1 (e : Env) (K : ((Option Addr) × Nat × Nat × Int × (Option Addr) × (Option Addr)) → S_law05_FunctorKeeps_L1 → Prop) : Prop :=
  onV (getV e 0) fun u1 =>
  asS u1 fun lP_1 lN_1 lC_1 =>
  onV (getV e 1) fun u2 =>
  asI .i64 u2 fun rounds_1 =>
  onV (getV e 5) fun u3 =>
  asP u3 fun a =>
  onV (getV e 7) fun u4 =>
  asP u4 fun t =>
  onV (getV e 9) fun u5 =>
  asS u5 fun idsP idsN idsC =>
  onV (getV e 10) fun u6 =>
  asI .i64 u6 fun i =>
    K (lP_1, lN_1, lC_1, rounds_1, a, t) ⟨idsP, idsN, idsC, i⟩

theorem dec_law05_FunctorKeeps_L1_ok {N : Nat} (e : Env) (a : Act) (K : ((Option Addr) × Nat × Nat × Int × (Option Addr) × (Option Addr)) → S_law05_FunctorKeeps_L1 → Prop) (hr : Rep N a e) (h0 : dec_law05_FunctorKeeps_L1 e K) : ∃ f s, K f s ∧ Rep N a (lit_law05_FunctorKeeps_L1 f s) := by
  unfold dec_law05_FunctorKeeps_L1 at h0
  obtain ⟨u1, g0, h1⟩ := onV_elim h0
  obtain ⟨lP_1, lN_1, lC_1, rfl, h2⟩ := asS_elim h1
  obtain ⟨u2, g1, h3⟩ := onV_elim h2
  obtain ⟨rounds_1, rfl, h4⟩ := asI_elim h3
  obtain ⟨u3, g5, h5⟩ := onV_elim h4
  obtain ⟨a, rfl, h6⟩ := asP_elim h5
  obtain ⟨u4, g7, h7⟩ := onV_elim h6
  obtain ⟨t, rfl, h8⟩ := asP_elim h7
  obtain ⟨u5, g9, h9⟩ := onV_elim h8
  obtain ⟨idsP, idsN, idsC, rfl, h10⟩ := asS_elim h9
  obtain ⟨u6, g10, h11⟩ := onV_elim h10
  obtain ⟨i, rfl, h12⟩ := asI_elim h11
  exact ⟨_, _, h12, rep_less hr (by simp [lit_law05_FunctorKeeps_L1, g0, g1, g5, g7, g9, g10])⟩

def spec_law05_FunctorKeeps_L1 (Q : Post) (e : Env) (w : World) : Prop :=
  dec_law05_FunctorKeeps_L1 e fun f s => F_law05_FunctorKeeps_L1 f.1 f.2.1 f.2.2.1 f.2.2.2.1 f.2.2.2.2.1 f.2.2.2.2.2 s w (fun idsP_1 idsN_1 idsC_1 w1 => Q (.exit 0) [⟨0, .slice f.1 f.2.1 f.2.2.1, none⟩, ⟨1, .int .i64 f.2.2.2.1, none⟩, ⟨5, .pointer f.2.2.2.2.1, none⟩, ⟨7, .pointer f.2.2.2.2.2, none⟩, ⟨9, .slice idsP_1 idsN_1 idsC_1, none⟩] w1)

def lit_law05_FunctorKeeps_L2 (f : (Option Addr) × Nat × Nat × Int × (Option Addr) × (Option Addr) × (Option Addr) × Nat × Nat) (s : S_law05_FunctorKeeps_L2) : Env := [⟨0, .slice f.1 f.2.1 f.2.2.1, none⟩, ⟨1, .int .i64 f.2.2.2.1, none⟩, ⟨5, .pointer f.2.2.2.2.1, none⟩, ⟨7, .pointer f.2.2.2.2.2.1, none⟩, ⟨9, .slice f.2.2.2.2.2.2.1 f.2.2.2.2.2.2.2.1 f.2.2.2.2.2.2.2.2, none⟩, ⟨13, .int .i64 s.n, none⟩]

def dec_law05_FunctorKeeps_L2 (e : Env) (K : ((Option Addr) × Nat × Nat × Int × (Option Addr) × (Option Addr) × (Option Addr) × Nat × Nat) → S_law05_FunctorKeeps_L2 → Prop) : Prop :=
  onV (getV e 0) fun u1 =>
  asS u1 fun lP_2 lN_2 lC_2 =>
  onV (getV e 1) fun u2 =>
  asI .i64 u2 fun rounds_2 =>
  onV (getV e 5) fun u3 =>
  asP u3 fun a_3 =>
  onV (getV e 7) fun u4 =>
  asP u4 fun t_1 =>
  onV (getV e 9) fun u5 =>
  asS u5 fun idsP_3 idsN_3 idsC_3 =>
  onV (getV e 13) fun u6 =>
  asI .i64 u6 fun n =>
    K (lP_2, lN_2, lC_2, rounds_2, a_3, t_1, idsP_3, idsN_3, idsC_3) ⟨n⟩

theorem dec_law05_FunctorKeeps_L2_ok {N : Nat} (e : Env) (a : Act) (K : ((Option Addr) × Nat × Nat × Int × (Option Addr) × (Option Addr) × (Option Addr) × Nat × Nat) → S_law05_FunctorKeeps_L2 → Prop) (hr : Rep N a e) (h0 : dec_law05_FunctorKeeps_L2 e K) : ∃ f s, K f s ∧ Rep N a (lit_law05_FunctorKeeps_L2 f s) := by
  unfold dec_law05_FunctorKeeps_L2 at h0
  obtain ⟨u1, g0, h1⟩ := onV_elim h0
  obtain ⟨lP_2, lN_2, lC_2, rfl, h2⟩ := asS_elim h1
  obtain ⟨u2, g1, h3⟩ := onV_elim h2
  obtain ⟨rounds_2, rfl, h4⟩ := asI_elim h3
  obtain ⟨u3, g5, h5⟩ := onV_elim h4
  obtain ⟨a_3, rfl, h6⟩ := asP_elim h5
  obtain ⟨u4, g7, h7⟩ := onV_elim h6
  obtain ⟨t_1, rfl, h8⟩ := asP_elim h7
  obtain ⟨u5, g9, h9⟩ := onV_elim h8
  obtain ⟨idsP_3, idsN_3, idsC_3, rfl, h10⟩ := asS_elim h9
  obtain ⟨u6, g13, h11⟩ := onV_elim h10
  obtain ⟨n, rfl, h12⟩ := asI_elim h11
  exact ⟨_, _, h12, rep_less hr (by simp [lit_law05_FunctorKeeps_L2, g0, g1, g5, g7, g9, g13])⟩

def spec_law05_FunctorKeeps_L2 (Q : Post) (e : Env) (w : World) : Prop :=
  dec_law05_FunctorKeeps_L2 e fun f s => F_law05_FunctorKeeps_L2 f.1 f.2.1 f.2.2.1 f.2.2.2.1 f.2.2.2.2.1 f.2.2.2.2.2.1 f.2.2.2.2.2.2.1 f.2.2.2.2.2.2.2.1 f.2.2.2.2.2.2.2.2 s w (fun w1 => Q (.exit 2) [⟨0, .slice f.1 f.2.1 f.2.2.1, none⟩, ⟨7, .pointer f.2.2.2.2.2.1, none⟩, ⟨9, .slice f.2.2.2.2.2.2.1 f.2.2.2.2.2.2.2.1 f.2.2.2.2.2.2.2.2, none⟩] w1)

def lit_law05_FunctorKeeps_L3 (f : (Option Addr) × Nat × Nat × Int × (Option Addr) × (Option Addr) × (Option Addr) × Nat × Nat × Int) (s : S_law05_FunctorKeeps_L3) : Env := [⟨0, .slice f.1 f.2.1 f.2.2.1, none⟩, ⟨1, .int .i64 f.2.2.2.1, none⟩, ⟨5, .pointer f.2.2.2.2.1, none⟩, ⟨7, .pointer f.2.2.2.2.2.1, none⟩, ⟨9, .slice f.2.2.2.2.2.2.1 f.2.2.2.2.2.2.2.1 f.2.2.2.2.2.2.2.2.1, none⟩, ⟨13, .int .i64 f.2.2.2.2.2.2.2.2.2, none⟩, ⟨14, .int .i64 s.i_1, none⟩]

def dec_law05_FunctorKeeps_L3 (e : Env) (K : ((Option Addr) × Nat × Nat × Int × (Option Addr) × (Option Addr) × (Option Addr) × Nat × Nat × Int) → S_law05_FunctorKeeps_L3 → Prop) : Prop :=
  onV (getV e 0) fun u1 =>
  asS u1 fun lP_3 lN_3 lC_3 =>
  onV (getV e 1) fun u2 =>
  asI .i64 u2 fun rounds_3 =>
  onV (getV e 5) fun u3 =>
  asP u3 fun a_4 =>
  onV (getV e 7) fun u4 =>
  asP u4 fun t_2 =>
  onV (getV e 9) fun u5 =>
  asS u5 fun idsP_4 idsN_4 idsC_4 =>
  onV (getV e 13) fun u6 =>
  asI .i64 u6 fun n_1 =>
  onV (getV e 14) fun u7 =>
  asI .i64 u7 fun i_1 =>
    K (lP_3, lN_3, lC_3, rounds_3, a_4, t_2, idsP_4, idsN_4, idsC_4, n_1) ⟨i_1⟩

theorem dec_law05_FunctorKeeps_L3_ok {N : Nat} (e : Env) (a : Act) (K : ((Option Addr) × Nat × Nat × Int × (Option Addr) × (Option Addr) × (Option Addr) × Nat × Nat × Int) → S_law05_FunctorKeeps_L3 → Prop) (hr : Rep N a e) (h0 : dec_law05_FunctorKeeps_L3 e K) : ∃ f s, K f s ∧ Rep N a (lit_law05_FunctorKeeps_L3 f s) := by
  unfold dec_law05_FunctorKeeps_L3 at h0
  obtain ⟨u1, g0, h1⟩ := onV_elim h0
  obtain ⟨lP_3, lN_3, lC_3, rfl, h2⟩ := asS_elim h1
  obtain ⟨u2, g1, h3⟩ := onV_elim h2
  obtain ⟨rounds_3, rfl, h4⟩ := asI_elim h3
  obtain ⟨u3, g5, h5⟩ := onV_elim h4
  obtain ⟨a_4, rfl, h6⟩ := asP_elim h5
  obtain ⟨u4, g7, h7⟩ := onV_elim h6
  obtain ⟨t_2, rfl, h8⟩ := asP_elim h7
  obtain ⟨u5, g9, h9⟩ := onV_elim h8
  obtain ⟨idsP_4, idsN_4, idsC_4, rfl, h10⟩ := asS_elim h9
  obtain ⟨u6, g13, h11⟩ := onV_elim h10
  obtain ⟨n_1, rfl, h12⟩ := asI_elim h11
  obtain ⟨u7, g14, h13⟩ := onV_elim h12
  obtain ⟨i_1, rfl, h14⟩ := asI_elim h13
  exact ⟨_, _, h14, rep_less hr (by simp [lit_law05_FunctorKeeps_L3, g0, g1, g5, g7, g9, g13, g14])⟩

def spec_law05_FunctorKeeps_L3 (Q : Post) (e : Env) (w : World) : Prop :=
  dec_law05_FunctorKeeps_L3 e fun f s => F_law05_FunctorKeeps_L3 f.1 f.2.1 f.2.2.1 f.2.2.2.1 f.2.2.2.2.1 f.2.2.2.2.2.1 f.2.2.2.2.2.2.1 f.2.2.2.2.2.2.2.1 f.2.2.2.2.2.2.2.2.1 f.2.2.2.2.2.2.2.2.2 s w (fun w1 => Q (.exit 4) [⟨0, .slice f.1 f.2.1 f.2.2.1, none⟩, ⟨1, .int .i64 f.2.2.2.1, none⟩, ⟨5, .pointer f.2.2.2.2.1, none⟩, ⟨7, .pointer f.2.2.2.2.2.1, none⟩, ⟨9, .slice f.2.2.2.2.2.2.1 f.2.2.2.2.2.2.2.1 f.2.2.2.2.2.2.2.2.1, none⟩, ⟨13, .int .i64 f.2.2.2.2.2.2.2.2.2, none⟩] w1)

def lit_law05_FunctorKeeps_L4 (f : (Option Addr) × Nat × Nat × (Option Addr) × (Option Addr) × Nat × Nat) (s : S_law05_FunctorKeeps_L4) : Env := [⟨0, .slice f.1 f.2.1 f.2.2.1, none⟩, ⟨7, .pointer f.2.2.2.1, none⟩, ⟨9, .slice f.2.2.2.2.1 f.2.2.2.2.2.1 f.2.2.2.2.2.2, none⟩, ⟨15, .int .i64 s.i_2, none⟩]

def dec_law05_FunctorKeeps_L4 (e : Env) (K : ((Option Addr) × Nat × Nat × (Option Addr) × (Option Addr) × Nat × Nat) → S_law05_FunctorKeeps_L4 → Prop) : Prop :=
  onV (getV e 0) fun u1 =>
  asS u1 fun lP_4 lN_4 lC_4 =>
  onV (getV e 7) fun u2 =>
  asP u2 fun t_3 =>
  onV (getV e 9) fun u3 =>
  asS u3 fun idsP_5 idsN_5 idsC_5 =>
  onV (getV e 15) fun u4 =>
  asI .i64 u4 fun i_2 =>
    K (lP_4, lN_4, lC_4, t_3, idsP_5, idsN_5, idsC_5) ⟨i_2⟩

theorem dec_law05_FunctorKeeps_L4_ok {N : Nat} (e : Env) (a : Act) (K : ((Option Addr) × Nat × Nat × (Option Addr) × (Option Addr) × Nat × Nat) → S_law05_FunctorKeeps_L4 → Prop) (hr : Rep N a e) (h0 : dec_law05_FunctorKeeps_L4 e K) : ∃ f s, K f s ∧ Rep N a (lit_law05_FunctorKeeps_L4 f s) := by
  unfold dec_law05_FunctorKeeps_L4 at h0
  obtain ⟨u1, g0, h1⟩ := onV_elim h0
  obtain ⟨lP_4, lN_4, lC_4, rfl, h2⟩ := asS_elim h1
  obtain ⟨u2, g7, h3⟩ := onV_elim h2
  obtain ⟨t_3, rfl, h4⟩ := asP_elim h3
  obtain ⟨u3, g9, h5⟩ := onV_elim h4
  obtain ⟨idsP_5, idsN_5, idsC_5, rfl, h6⟩ := asS_elim h5
  obtain ⟨u4, g15, h7⟩ := onV_elim h6
  obtain ⟨i_2, rfl, h8⟩ := asI_elim h7
  exact ⟨_, _, h8, rep_less hr (by simp [lit_law05_FunctorKeeps_L4, g0, g7, g9, g15])⟩

def spec_law05_FunctorKeeps_L4 (Q : Post) (e : Env) (w : World) : Prop :=
  dec_law05_FunctorKeeps_L4 e fun f s => F_law05_FunctorKeeps_L4 f.1 f.2.1 f.2.2.1 f.2.2.2.1 f.2.2.2.2.1 f.2.2.2.2.2.1 f.2.2.2.2.2.2 s w (fun w1 => Q (.exit 6) [] w1) (fun t4 w1 => Q .ret [⟨4, .bool t4, none⟩] w1)

def G_law05_FunctorKeeps : Gen where
  loop := lookL [([false, true, false, true, true, true, true, true], spec_law05_FunctorKeeps_L1), ([false, true, false, true, true, true, true, true, true], spec_law05_FunctorKeeps_L2), ([false, true, false, false, false, true, false, false, true, false, true, true, true, true, true, true], spec_law05_FunctorKeeps_L3), ([false, true, false, true, true, true, true, true, true, true], spec_law05_FunctorKeeps_L4)]
  plan := fun id =>
    bif Nat.beq id 9 then some ([0, 0, 0, 6, 14, 30, 0, 0, 192, 448, 960, 2047, 4095, 8191, 8191, 16383, 65535], .take 0 (.take 1 (.take 2 (.take 3 (.take 4 (.take 5 (.take 6 (.take 7 (.take 8 (.take 9 (.take 10 (.take 11 (.take 12 (.take 13 (.take 14 (.take 15 (.take 16 .done))))))))))))))))) else
    bif Nat.beq id 29 then some ([0, 0, 0, 6, 14, 30, 0, 0, 192, 448, 960, 2047, 4095, 8191, 8191, 16383, 65535], .take 0 (.take 1 (.take 2 (.take 3 (.take 4 (.take 5 (.take 6 (.take 7 (.take 8 (.take 9 (.take 10 (.take 11 (.take 12 (.take 13 (.take 14 (.take 15 (.take 16 .done))))))))))))))))) else none

def dx_law05_FunctorKeeps_L1_0 (e : Env) (K : ((Option Addr) × Nat × Nat × Int × (Option Addr) × (Option Addr)) → Option Addr → Nat → Nat → Prop) : Prop :=
  onV (getV e 0) fun u1 =>
  asS u1 fun lP_1 lN_1 lC_1 =>
  onV (getV e 1) fun u2 =>
  asI .i64 u2 fun rounds_1 =>
  onV (getV e 5) fun u3 =>
  asP u3 fun a =>
  onV (getV e 7) fun u4 =>
  asP u4 fun t =>
  onV (getV e 9) fun u5 =>
  asS u5 fun idsP_1 idsN_1 idsC_1 =>
    K (lP_1, lN_1, lC_1, rounds_1, a, t) idsP_1 idsN_1 idsC_1

theorem body_law05_FunctorKeeps_L1 (f : (Option Addr) × Nat × Nat × Int × (Option Addr) × (Option Addr)) (s : S_law05_FunctorKeeps_L1) (w : World) (Kn : ((Option Addr) × Nat × Nat × Int × (Option Addr) × (Option Addr)) → S_law05_FunctorKeeps_L1 → World → Prop) (Kx0 : ((Option Addr) × Nat × Nat × Int × (Option Addr) × (Option Addr)) → Option Addr → Nat → Nat → World → Prop) :
    B_law05_FunctorKeeps_L1 f.1 f.2.1 f.2.2.1 f.2.2.2.1 f.2.2.2.2.1 f.2.2.2.2.2 s w (fun s1 w1 => Kn f s1 w1) (fun idsP_1 idsN_1 idsC_1 w1 => Kx0 f idsP_1 idsN_1 idsC_1 w1) =
    den Try.prog Try.f5.ntmps G_law05_FunctorKeeps (sub (codeOf Try.f5) [false, false, true, false, true, true, true, true, true]) [false, false, true, false, true, true, true, true, true] (roundQ (fun e w => dec_law05_FunctorKeeps_L1 e fun f s => Kn f s w) (fun e w => False) (fun id e w => match Nat.beq id 0 with | true => dx_law05_FunctorKeeps_L1_0 e fun f idsP_1 idsN_1 idsC_1 => Kx0 f idsP_1 idsN_1 idsC_1 w | false => False)) (lit_law05_FunctorKeeps_L1 f s) w := by kernel_rfl

def dx_law05_FunctorKeeps_L2_2 (e : Env) (K : ((Option Addr) × Nat × Nat × Int × (Option Addr) × (Option Addr) × (Option Addr) × Nat × Nat) → Prop) : Prop :=
  onV (getV e 0) fun u1 =>
  asS u1 fun lP_2 lN_2 lC_2 =>
  onV (getV e 1) fun u2 =>
  asI .i64 u2 fun rounds_2 =>
  onV (getV e 5) fun u3 =>
  asP u3 fun a_3 =>
  onV (getV e 7) fun u4 =>
  asP u4 fun t_1 =>
  onV (getV e 9) fun u5 =>
  asS u5 fun idsP_3 idsN_3 idsC_3 =>
    K (lP_2, lN_2, lC_2, rounds_2, a_3, t_1, idsP_3, idsN_3, idsC_3)

theorem body_law05_FunctorKeeps_L2 (f : (Option Addr) × Nat × Nat × Int × (Option Addr) × (Option Addr) × (Option Addr) × Nat × Nat) (s : S_law05_FunctorKeeps_L2) (w : World) (Kn : ((Option Addr) × Nat × Nat × Int × (Option Addr) × (Option Addr) × (Option Addr) × Nat × Nat) → S_law05_FunctorKeeps_L2 → World → Prop) (Kx2 : ((Option Addr) × Nat × Nat × Int × (Option Addr) × (Option Addr) × (Option Addr) × Nat × Nat) → World → Prop) :
    B_law05_FunctorKeeps_L2 f.1 f.2.1 f.2.2.1 f.2.2.2.1 f.2.2.2.2.1 f.2.2.2.2.2.1 f.2.2.2.2.2.2.1 f.2.2.2.2.2.2.2.1 f.2.2.2.2.2.2.2.2 s w (fun s1 w1 => Kn f s1 w1) (fun w1 => Kx2 f w1) =
    den Try.prog Try.f5.ntmps G_law05_FunctorKeeps (sub (codeOf Try.f5) [false, false, true, false, true, true, true, true, true, true]) [false, false, true, false, true, true, true, true, true, true] (roundQ (fun e w => dec_law05_FunctorKeeps_L2 e fun f s => Kn f s w) (fun e w => False) (fun id e w => match Nat.beq id 2 with | true => dx_law05_FunctorKeeps_L2_2 e fun f => Kx2 f w | false => False)) (lit_law05_FunctorKeeps_L2 f s) w := by kernel_rfl

def dx_law05_FunctorKeeps_L3_4 (e : Env) (K : ((Option Addr) × Nat × Nat × Int × (Option Addr) × (Option Addr) × (Option Addr) × Nat × Nat × Int) → Prop) : Prop :=
  onV (getV e 0) fun u1 =>
  asS u1 fun lP_3 lN_3 lC_3 =>
  onV (getV e 1) fun u2 =>
  asI .i64 u2 fun rounds_3 =>
  onV (getV e 5) fun u3 =>
  asP u3 fun a_4 =>
  onV (getV e 7) fun u4 =>
  asP u4 fun t_2 =>
  onV (getV e 9) fun u5 =>
  asS u5 fun idsP_4 idsN_4 idsC_4 =>
  onV (getV e 13) fun u6 =>
  asI .i64 u6 fun n_1 =>
    K (lP_3, lN_3, lC_3, rounds_3, a_4, t_2, idsP_4, idsN_4, idsC_4, n_1)

theorem body_law05_FunctorKeeps_L3 (f : (Option Addr) × Nat × Nat × Int × (Option Addr) × (Option Addr) × (Option Addr) × Nat × Nat × Int) (s : S_law05_FunctorKeeps_L3) (w : World) (Kn : ((Option Addr) × Nat × Nat × Int × (Option Addr) × (Option Addr) × (Option Addr) × Nat × Nat × Int) → S_law05_FunctorKeeps_L3 → World → Prop) (Kx4 : ((Option Addr) × Nat × Nat × Int × (Option Addr) × (Option Addr) × (Option Addr) × Nat × Nat × Int) → World → Prop) :
    B_law05_FunctorKeeps_L3 f.1 f.2.1 f.2.2.1 f.2.2.2.1 f.2.2.2.2.1 f.2.2.2.2.2.1 f.2.2.2.2.2.2.1 f.2.2.2.2.2.2.2.1 f.2.2.2.2.2.2.2.2.1 f.2.2.2.2.2.2.2.2.2 s w (fun s1 w1 => Kn f s1 w1) (fun w1 => Kx4 f w1) =
    den Try.prog Try.f5.ntmps G_law05_FunctorKeeps (sub (codeOf Try.f5) [false, false, true, false, false, false, true, false, false, true, false, true, true, true, true, true, true]) [false, false, true, false, false, false, true, false, false, true, false, true, true, true, true, true, true] (roundQ (fun e w => dec_law05_FunctorKeeps_L3 e fun f s => Kn f s w) (fun e w => False) (fun id e w => match Nat.beq id 4 with | true => dx_law05_FunctorKeeps_L3_4 e fun f => Kx4 f w | false => False)) (lit_law05_FunctorKeeps_L3 f s) w := by kernel_rfl

def dx_law05_FunctorKeeps_L4_6 (e : Env) (K : ((Option Addr) × Nat × Nat × (Option Addr) × (Option Addr) × Nat × Nat) → Prop) : Prop :=
  onV (getV e 0) fun u1 =>
  asS u1 fun lP_4 lN_4 lC_4 =>
  onV (getV e 7) fun u2 =>
  asP u2 fun t_3 =>
  onV (getV e 9) fun u3 =>
  asS u3 fun idsP_5 idsN_5 idsC_5 =>
    K (lP_4, lN_4, lC_4, t_3, idsP_5, idsN_5, idsC_5)

def dx_law05_FunctorKeeps_L4_ret (e : Env) (K : ((Option Addr) × Nat × Nat × (Option Addr) × (Option Addr) × Nat × Nat) → Bool → Prop) : Prop :=
  onV (getV e 0) fun u1 =>
  asS u1 fun lP_4 lN_4 lC_4 =>
  onV (getV e 7) fun u2 =>
  asP u2 fun t_3 =>
  onV (getV e 9) fun u3 =>
  asS u3 fun idsP_5 idsN_5 idsC_5 =>
  onV (getV e 4) fun u4 =>
  asB u4 fun t4 =>
    K (lP_4, lN_4, lC_4, t_3, idsP_5, idsN_5, idsC_5) t4

theorem body_law05_FunctorKeeps_L4 (f : (Option Addr) × Nat × Nat × (Option Addr) × (Option Addr) × Nat × Nat) (s : S_law05_FunctorKeeps_L4) (w : World) (Kn : ((Option Addr) × Nat × Nat × (Option Addr) × (Option Addr) × Nat × Nat) → S_law05_FunctorKeeps_L4 → World → Prop) (Kx6 : ((Option Addr) × Nat × Nat × (Option Addr) × (Option Addr) × Nat × Nat) → World → Prop) (Kr : ((Option Addr) × Nat × Nat × (Option Addr) × (Option Addr) × Nat × Nat) → Bool → World → Prop) :
    B_law05_FunctorKeeps_L4 f.1 f.2.1 f.2.2.1 f.2.2.2.1 f.2.2.2.2.1 f.2.2.2.2.2.1 f.2.2.2.2.2.2 s w (fun s1 w1 => Kn f s1 w1) (fun w1 => Kx6 f w1) (fun t4 w1 => Kr f t4 w1) =
    den Try.prog Try.f5.ntmps G_law05_FunctorKeeps (sub (codeOf Try.f5) [false, false, true, false, true, true, true, true, true, true, true]) [false, false, true, false, true, true, true, true, true, true, true] (roundQ (fun e w => dec_law05_FunctorKeeps_L4 e fun f s => Kn f s w) (fun e w => dx_law05_FunctorKeeps_L4_ret e fun f t4 => Kr f t4 w) (fun id e w => match Nat.beq id 6 with | true => dx_law05_FunctorKeeps_L4_6 e fun f => Kx6 f w | false => False)) (lit_law05_FunctorKeeps_L4 f s) w := by kernel_rfl

theorem ok_law05_FunctorKeeps_L1 : OneOk Try.prog Try.f5.ntmps G_law05_FunctorKeeps (codeOf Try.f5) [false, true, false, true, true, true, true, true] spec_law05_FunctorKeeps_L1 := by
  intro c hc ih Q e w a hr h
  have hcc : sub (codeOf Try.f5) [false, false, true, false, true, true, true, true, true] = c := sub_of_codeAt hc
  obtain ⟨f, s, h, hrep⟩ := dec_law05_FunctorKeeps_L1_ok e a _ hr h
  obtain ⟨J, μ, hj, hround⟩ := h
  refine loop_rule_deep seat_ok seat_mixed ih lit_law05_FunctorKeeps_L1 dec_law05_FunctorKeeps_L1 dec_law05_FunctorKeeps_L1_ok hc f J μ (Kr := fun e w => False) (Kx := fun id e w => match Nat.beq id 0 with | true => (dx_law05_FunctorKeeps_L1_0 e fun f1 idsP_1 idsN_1 idsC_1 => f1 = f ∧ Q (.exit 0) [⟨0, .slice f.1 f.2.1 f.2.2.1, none⟩, ⟨1, .int .i64 f.2.2.2.1, none⟩, ⟨5, .pointer f.2.2.2.2.1, none⟩, ⟨7, .pointer f.2.2.2.2.2, none⟩, ⟨9, .slice idsP_1 idsN_1 idsC_1, none⟩] w) | false => False) ?_ ?_ ?_ s w a hj hrep
  · intro e a w hr h
    exact h.elim
  · intro id e a w hr h0
    (try dsimp only at h0)
    split at h0
    · rename_i hid
      obtain rfl := Nat.eq_of_beq_eq_true hid
      unfold dx_law05_FunctorKeeps_L1_0 at h0
      obtain ⟨u1, g0, h1⟩ := onV_elim h0
      obtain ⟨lP_1, lN_1, lC_1, rfl, h2⟩ := asS_elim h1
      obtain ⟨u2, g1, h3⟩ := onV_elim h2
      obtain ⟨rounds_1, rfl, h4⟩ := asI_elim h3
      obtain ⟨u3, g5, h5⟩ := onV_elim h4
      obtain ⟨a, rfl, h6⟩ := asP_elim h5
      obtain ⟨u4, g7, h7⟩ := onV_elim h6
      obtain ⟨t, rfl, h8⟩ := asP_elim h7
      obtain ⟨u5, g9, h9⟩ := onV_elim h8
      obtain ⟨idsP_1, idsN_1, idsC_1, rfl, h10⟩ := asS_elim h9
      obtain ⟨hf, hq⟩ := h10
      subst hf
      exact ⟨_, rep_less hr (by simp [g0, g1, g5, g7, g9]), hq⟩
    · exact h0.elim
  · intro s w hj
    have hb := hround s w hj
    rw [← hcc]
    have e1 := body_law05_FunctorKeeps_L1 f s w (fun f1 s1 w1 => f1 = f ∧ J s1 w1 ∧ μ s1 w1 < μ s w) (fun f1 idsP_1 idsN_1 idsC_1 w1 => f1 = f ∧ Q (.exit 0) [⟨0, .slice f.1 f.2.1 f.2.2.1, none⟩, ⟨1, .int .i64 f.2.2.2.1, none⟩, ⟨5, .pointer f.2.2.2.2.1, none⟩, ⟨7, .pointer f.2.2.2.2.2, none⟩, ⟨9, .slice idsP_1 idsN_1 idsC_1, none⟩] w1)
    simp only [true_and] at e1
    exact cast e1 hb

theorem ok_law05_FunctorKeeps_L2 : OneOk Try.prog Try.f5.ntmps G_law05_FunctorKeeps (codeOf Try.f5) [false, true, false, true, true, true, true, true, true] spec_law05_FunctorKeeps_L2 := by
  intro c hc ih Q e w a hr h
  have hcc : sub (codeOf Try.f5) [false, false, true, false, true, true, true, true, true, true] = c := sub_of_codeAt hc
  obtain ⟨f, s, h, hrep⟩ := dec_law05_FunctorKeeps_L2_ok e a _ hr h
  obtain ⟨J, μ, hj, hround⟩ := h
  refine loop_rule_deep seat_ok seat_mixed ih lit_law05_FunctorKeeps_L2 dec_law05_FunctorKeeps_L2 dec_law05_FunctorKeeps_L2_ok hc f J μ (Kr := fun e w => False) (Kx := fun id e w => match Nat.beq id 2 with | true => (dx_law05_FunctorKeeps_L2_2 e fun f1 => f1 = f ∧ Q (.exit 2) [⟨0, .slice f.1 f.2.1 f.2.2.1, none⟩, ⟨7, .pointer f.2.2.2.2.2.1, none⟩, ⟨9, .slice f.2.2.2.2.2.2.1 f.2.2.2.2.2.2.2.1 f.2.2.2.2.2.2.2.2, none⟩] w) | false => False) ?_ ?_ ?_ s w a hj hrep
  · intro e a w hr h
    exact h.elim
  · intro id e a w hr h0
    (try dsimp only at h0)
    split at h0
    · rename_i hid
      obtain rfl := Nat.eq_of_beq_eq_true hid
      unfold dx_law05_FunctorKeeps_L2_2 at h0
      obtain ⟨u1, g0, h1⟩ := onV_elim h0
      obtain ⟨lP_2, lN_2, lC_2, rfl, h2⟩ := asS_elim h1
      obtain ⟨u2, g1, h3⟩ := onV_elim h2
      obtain ⟨rounds_2, rfl, h4⟩ := asI_elim h3
      obtain ⟨u3, g5, h5⟩ := onV_elim h4
      obtain ⟨a_3, rfl, h6⟩ := asP_elim h5
      obtain ⟨u4, g7, h7⟩ := onV_elim h6
      obtain ⟨t_1, rfl, h8⟩ := asP_elim h7
      obtain ⟨u5, g9, h9⟩ := onV_elim h8
      obtain ⟨idsP_3, idsN_3, idsC_3, rfl, h10⟩ := asS_elim h9
      obtain ⟨hf, hq⟩ := h10
      subst hf
      exact ⟨_, rep_less hr (by simp [g0, g7, g9]), hq⟩
    · exact h0.elim
  · intro s w hj
    have hb := hround s w hj
    rw [← hcc]
    have e1 := body_law05_FunctorKeeps_L2 f s w (fun f1 s1 w1 => f1 = f ∧ J s1 w1 ∧ μ s1 w1 < μ s w) (fun f1 w1 => f1 = f ∧ Q (.exit 2) [⟨0, .slice f.1 f.2.1 f.2.2.1, none⟩, ⟨7, .pointer f.2.2.2.2.2.1, none⟩, ⟨9, .slice f.2.2.2.2.2.2.1 f.2.2.2.2.2.2.2.1 f.2.2.2.2.2.2.2.2, none⟩] w1)
    simp only [true_and] at e1
    exact cast e1 hb

theorem ok_law05_FunctorKeeps_L3 : OneOk Try.prog Try.f5.ntmps G_law05_FunctorKeeps (codeOf Try.f5) [false, true, false, false, false, true, false, false, true, false, true, true, true, true, true, true] spec_law05_FunctorKeeps_L3 := by
  intro c hc ih Q e w a hr h
  have hcc : sub (codeOf Try.f5) [false, false, true, false, false, false, true, false, false, true, false, true, true, true, true, true, true] = c := sub_of_codeAt hc
  obtain ⟨f, s, h, hrep⟩ := dec_law05_FunctorKeeps_L3_ok e a _ hr h
  obtain ⟨J, μ, hj, hround⟩ := h
  refine loop_rule_deep seat_ok seat_mixed ih lit_law05_FunctorKeeps_L3 dec_law05_FunctorKeeps_L3 dec_law05_FunctorKeeps_L3_ok hc f J μ (Kr := fun e w => False) (Kx := fun id e w => match Nat.beq id 4 with | true => (dx_law05_FunctorKeeps_L3_4 e fun f1 => f1 = f ∧ Q (.exit 4) [⟨0, .slice f.1 f.2.1 f.2.2.1, none⟩, ⟨1, .int .i64 f.2.2.2.1, none⟩, ⟨5, .pointer f.2.2.2.2.1, none⟩, ⟨7, .pointer f.2.2.2.2.2.1, none⟩, ⟨9, .slice f.2.2.2.2.2.2.1 f.2.2.2.2.2.2.2.1 f.2.2.2.2.2.2.2.2.1, none⟩, ⟨13, .int .i64 f.2.2.2.2.2.2.2.2.2, none⟩] w) | false => False) ?_ ?_ ?_ s w a hj hrep
  · intro e a w hr h
    exact h.elim
  · intro id e a w hr h0
    (try dsimp only at h0)
    split at h0
    · rename_i hid
      obtain rfl := Nat.eq_of_beq_eq_true hid
      unfold dx_law05_FunctorKeeps_L3_4 at h0
      obtain ⟨u1, g0, h1⟩ := onV_elim h0
      obtain ⟨lP_3, lN_3, lC_3, rfl, h2⟩ := asS_elim h1
      obtain ⟨u2, g1, h3⟩ := onV_elim h2
      obtain ⟨rounds_3, rfl, h4⟩ := asI_elim h3
      obtain ⟨u3, g5, h5⟩ := onV_elim h4
      obtain ⟨a_4, rfl, h6⟩ := asP_elim h5
      obtain ⟨u4, g7, h7⟩ := onV_elim h6
      obtain ⟨t_2, rfl, h8⟩ := asP_elim h7
      obtain ⟨u5, g9, h9⟩ := onV_elim h8
      obtain ⟨idsP_4, idsN_4, idsC_4, rfl, h10⟩ := asS_elim h9
      obtain ⟨u6, g13, h11⟩ := onV_elim h10
      obtain ⟨n_1, rfl, h12⟩ := asI_elim h11
      obtain ⟨hf, hq⟩ := h12
      subst hf
      exact ⟨_, rep_less hr (by simp [g0, g1, g5, g7, g9, g13]), hq⟩
    · exact h0.elim
  · intro s w hj
    have hb := hround s w hj
    rw [← hcc]
    have e1 := body_law05_FunctorKeeps_L3 f s w (fun f1 s1 w1 => f1 = f ∧ J s1 w1 ∧ μ s1 w1 < μ s w) (fun f1 w1 => f1 = f ∧ Q (.exit 4) [⟨0, .slice f.1 f.2.1 f.2.2.1, none⟩, ⟨1, .int .i64 f.2.2.2.1, none⟩, ⟨5, .pointer f.2.2.2.2.1, none⟩, ⟨7, .pointer f.2.2.2.2.2.1, none⟩, ⟨9, .slice f.2.2.2.2.2.2.1 f.2.2.2.2.2.2.2.1 f.2.2.2.2.2.2.2.2.1, none⟩, ⟨13, .int .i64 f.2.2.2.2.2.2.2.2.2, none⟩] w1)
    simp only [true_and] at e1
    exact cast e1 hb

theorem ok_law05_FunctorKeeps_L4 : OneOk Try.prog Try.f5.ntmps G_law05_FunctorKeeps (codeOf Try.f5) [false, true, false, true, true, true, true, true, true, true] spec_law05_FunctorKeeps_L4 := by
  intro c hc ih Q e w a hr h
  have hcc : sub (codeOf Try.f5) [false, false, true, false, true, true, true, true, true, true, true] = c := sub_of_codeAt hc
  obtain ⟨f, s, h, hrep⟩ := dec_law05_FunctorKeeps_L4_ok e a _ hr h
  obtain ⟨J, μ, hj, hround⟩ := h
  refine loop_rule_deep seat_ok seat_mixed ih lit_law05_FunctorKeeps_L4 dec_law05_FunctorKeeps_L4 dec_law05_FunctorKeeps_L4_ok hc f J μ (Kr := fun e w => dx_law05_FunctorKeeps_L4_ret e fun f1 t4 => f1 = f ∧ Q .ret [⟨4, .bool t4, none⟩] w) (Kx := fun id e w => match Nat.beq id 6 with | true => (dx_law05_FunctorKeeps_L4_6 e fun f1 => f1 = f ∧ Q (.exit 6) [] w) | false => False) ?_ ?_ ?_ s w a hj hrep
  · intro e a w hr h0
    unfold dx_law05_FunctorKeeps_L4_ret at h0
    obtain ⟨u1, g0, h1⟩ := onV_elim h0
    obtain ⟨lP_4, lN_4, lC_4, rfl, h2⟩ := asS_elim h1
    obtain ⟨u2, g7, h3⟩ := onV_elim h2
    obtain ⟨t_3, rfl, h4⟩ := asP_elim h3
    obtain ⟨u3, g9, h5⟩ := onV_elim h4
    obtain ⟨idsP_5, idsN_5, idsC_5, rfl, h6⟩ := asS_elim h5
    obtain ⟨u4, g4, h7⟩ := onV_elim h6
    obtain ⟨t4, rfl, h8⟩ := asB_elim h7
    obtain ⟨hf, hq⟩ := h8
    subst hf
    exact ⟨_, rep_less hr (by simp [g4]), hq⟩
  · intro id e a w hr h0
    (try dsimp only at h0)
    split at h0
    · rename_i hid
      obtain rfl := Nat.eq_of_beq_eq_true hid
      unfold dx_law05_FunctorKeeps_L4_6 at h0
      obtain ⟨u1, g0, h1⟩ := onV_elim h0
      obtain ⟨lP_4, lN_4, lC_4, rfl, h2⟩ := asS_elim h1
      obtain ⟨u2, g7, h3⟩ := onV_elim h2
      obtain ⟨t_3, rfl, h4⟩ := asP_elim h3
      obtain ⟨u3, g9, h5⟩ := onV_elim h4
      obtain ⟨idsP_5, idsN_5, idsC_5, rfl, h6⟩ := asS_elim h5
      obtain ⟨hf, hq⟩ := h6
      subst hf
      exact ⟨_, rep_less hr (by simp), hq⟩
    · exact h0.elim
  · intro s w hj
    have hb := hround s w hj
    rw [← hcc]
    have e1 := body_law05_FunctorKeeps_L4 f s w (fun f1 s1 w1 => f1 = f ∧ J s1 w1 ∧ μ s1 w1 < μ s w) (fun f1 w1 => f1 = f ∧ Q (.exit 6) [] w1) (fun f1 t4 w1 => f1 = f ∧ Q .ret [⟨4, .bool t4, none⟩] w1)
    simp only [true_and] at e1
    exact cast e1 hb

theorem loops_law05_FunctorKeeps : LoopOk Try.prog Try.f5.ntmps G_law05_FunctorKeeps (codeOf Try.f5) := loopOk_list rfl ⟨ok_law05_FunctorKeeps_L1, ⟨ok_law05_FunctorKeeps_L2, ⟨ok_law05_FunctorKeeps_L3, ⟨ok_law05_FunctorKeeps_L4, trivial⟩⟩⟩⟩

theorem den_law05_FunctorKeeps (lP : Option Addr) (lN : Nat) (lC : Nat) (rounds : Int) (w : World) (R : Value → World → Prop) :
    F_law05_FunctorKeeps lP lN lC rounds w (fun r w1 => R (.bool r) w1) = den Try.prog Try.f5.ntmps G_law05_FunctorKeeps (codeOf Try.f5) [] (postD Try.prog Try.f5.results.toList R) (entry [.slice lP lN lC, .int .i64 rounds] 0) w := by kernel_rfl

theorem C_law05_FunctorKeeps.of {lP : Option Addr} {lN : Nat} {lC : Nat} {rounds : Int} {w : World} {R : Bool → World → Prop} (h : F_law05_FunctorKeeps lP lN lC rounds w R) : C_law05_FunctorKeeps lP lN lC rounds w R := by
  refine (calls_of_den (c := codeOf Try.f5) seat_ok seat_mixed Try.func5 (by kernel_rfl) loops_law05_FunctorKeeps (args := [.slice lP lN lC, .int .i64 rounds]) rfl (R := fun v w1 => ∃ (r : Bool), v = (.bool r : Value) ∧ R r w1) ?_).mono ?_
  · rw [← den_law05_FunctorKeeps]
    have e : (fun r w1 => ∃ (r' : Bool), (.bool r : Value) = (.bool r' : Value) ∧ R r' w1) = R := by
      funext r w1
      exact propext ⟨fun ⟨r', he, h⟩ => by simp at he; simp_all, fun h => ⟨_, rfl, h⟩⟩
    simpa only [e] using h
  · rintro en w1 ⟨v, he, r, rfl, h⟩
    exact ⟨_, he, h⟩

structure S_law05_FunctorDoes_L1 where
  i : Int

def F_law05_FunctorDoes_k1 (R : Bool → World → Prop) (w1_5 : World) : Prop :=
  R false w1_5

def F_law05_FunctorDoes_k2 (Kx0 : World → Prop) (w1_7 : World) : Prop :=
  Kx0 w1_7

def F_law05_FunctorDoes_k3 (Kr : Bool → World → Prop) (w1_14 : World) : Prop :=
  Kr false w1_14

def F_law05_FunctorDoes_k4 (s : S_law05_FunctorDoes_L1) (Kn : S_law05_FunctorDoes_L1 → World → Prop) (w1_15 : World) : Prop :=
  Kn ⟨(IntKind.i64.wrap ((s.i : Int) + (1 : Int)))⟩ w1_15

/-- One round. -/
def B_law05_FunctorDoes_L1 (lP_1 : Option Addr) (lN_1 : Nat) (lC_1 : Nat) (a : Option Addr) (b : Option Addr) (t : Option Addr) (x : Option Addr) (s : S_law05_FunctorDoes_L1) (w : World) (Kn : S_law05_FunctorDoes_L1 → World → Prop) (Kx0 : World → Prop) (Kr : Bool → World → Prop) : Prop :=
  If (decide ((s.i : Int) < (lN_1 : Int)))
  (If (decide ((s.i : Int) < (60 : Int)))
  (If (!x.isNone)
  (0 ≤ (s.i : Int) ∧ (s.i : Int) < (lN_1 : Int) ∧ NN lP_1 fun a_1 =>
  ∃ Name : ByteArray, w.cell? ((a_1.add ((s.i : Int).toNat * 3)).add 1) = some (.string Name) ∧
  If (decide ((Name.size : Int) > (1000 : Int)))
  (F_law05_FunctorDoes_k4 s Kn w)
  (0 ≤ (s.i : Int) ∧ (s.i : Int) < (lN_1 : Int) ∧ NN lP_1 fun a_2 =>
  ∃ t900 : Int, (drw w).cell? ((a_2.add ((s.i : Int).toNat * 3)).add 0) = some (.int .i64 t900) ∧
  ∃ t901 : ByteArray, (drw w).cell? ((a_2.add ((s.i : Int).toNat * 3)).add 1) = some (.string t901) ∧
  ∃ t902 : Int, (drw w).cell? ((a_2.add ((s.i : Int).toNat * 3)).add 2) = some (.int .i64 t902) ∧
  C_law05_do t a x t900 t901 t902 (drw w) fun t91 w1_8 =>
  If (!t91)
  (F_law05_FunctorDoes_k3 Kr w1_8)
  (C_functor_Table_Len t w1_8 fun t95 w1_9 =>
  C_ref05_Table_Len x w1_9 fun t97 w1_10 =>
  If (t95 != t97)
  (F_law05_FunctorDoes_k3 Kr w1_10)
  (NN x fun a_3 =>
  ∃ LP : Option Addr, ∃ LN : Nat, ∃ LC : Nat, w1_10.cell? (a_3.add 0) = some (.slice LP LN LC) ∧
  C_functor_Table_Slots t w1_10 fun t102 w1_11 =>
  w1_11.cell? (a_3.add 0) = w1_10.cell? (a_3.add 0) ∧
  If (t102 != (LN : Int))
  (F_law05_FunctorDoes_k3 Kr w1_11)
  (C_atom_Table_Len a w1_11 fun t112 w1_12 =>
  C_ref04_Table_Len b w1_12 fun t114 w1_13 =>
  If (t112 != t114)
  (Kr false w1_13)
  (F_law05_FunctorDoes_k4 s Kn w1_13))))))
  (Kx0 w))
  (F_law05_FunctorDoes_k2 Kx0 w))
  (F_law05_FunctorDoes_k2 Kx0 w)

def F_law05_FunctorDoes_L1 (lP_1 : Option Addr) (lN_1 : Nat) (lC_1 : Nat) (a : Option Addr) (b : Option Addr) (t : Option Addr) (x : Option Addr) (s : S_law05_FunctorDoes_L1) (w : World) (Kx0 : World → Prop) (Kr : Bool → World → Prop) : Prop :=
  LoopS (fun s w Kn => B_law05_FunctorDoes_L1 lP_1 lN_1 lC_1 a b t x s w Kn Kx0 Kr) s w

def F_law05_FunctorDoes_k5 (lP : Option Addr) (lN : Nat) (lC : Nat) (R : Bool → World → Prop) (t160 : Option Addr) (t20 : Option Addr) (t370 : Option Addr) (t42 : Option Addr) (w1_6 : World) : Prop :=
  F_law05_FunctorDoes_L1 lP lN lC t160 t20 t370 t42 ⟨(0 : Int)⟩ w1_6
  (fun w1_16 =>
  R true w1_16)
  (fun t6_1 w1_17 =>
  R t6_1 w1_17)

def F_law05_FunctorDoes (limitx : Int) (names : Int) (lP : Option Addr) (lN : Nat) (lC : Nat) (w : World) (R : Bool → World → Prop) : Prop :=
  C_atom_New names w fun t160 t161 w1 =>
  C_ref04_New names w1 fun t20 w1_1 =>
  C_law05_lives  w1_1 fun t21 w1_2 =>
  If (!t21)
  (R false w1_2)
  (If (!((!t160.isNone) == (!t20.isNone)))
  (R false w1_2)
  (If t20.isNone
  (R (t161 == (1 : Int)) w1_2)
  (C_functor_New limitx t160 w1_2 fun t370 t371 w1_3 =>
  C_ref05_New limitx t20 w1_3 fun t42 w1_4 =>
  If (!((!t370.isNone) == (!t42.isNone)))
  (F_law05_FunctorDoes_k1 R w1_4)
  (If (!((t371 == (0 : Int)) == (!t42.isNone)))
  (F_law05_FunctorDoes_k1 R w1_4)
  (If t42.isNone
  (If (t371 != (1 : Int))
  (R false w1_4)
  (F_law05_FunctorDoes_k5 lP lN lC R t160 t20 t370 t42 w1_4))
  (F_law05_FunctorDoes_k5 lP lN lC R t160 t20 t370 t42 w1_4))))))

def lit_law05_FunctorDoes_L1 (f : (Option Addr) × Nat × Nat × (Option Addr) × (Option Addr) × (Option Addr) × (Option Addr)) (s : S_law05_FunctorDoes_L1) : Env := [⟨2, .slice f.1 f.2.1 f.2.2.1, none⟩, ⟨7, .pointer f.2.2.2.1, none⟩, ⟨9, .pointer f.2.2.2.2.1, none⟩, ⟨10, .pointer f.2.2.2.2.2.1, none⟩, ⟨12, .pointer f.2.2.2.2.2.2, none⟩, ⟨13, .int .i64 s.i, none⟩]

def dec_law05_FunctorDoes_L1 (e : Env) (K : ((Option Addr) × Nat × Nat × (Option Addr) × (Option Addr) × (Option Addr) × (Option Addr)) → S_law05_FunctorDoes_L1 → Prop) : Prop :=
  onV (getV e 2) fun u1 =>
  asS u1 fun lP_1 lN_1 lC_1 =>
  onV (getV e 7) fun u2 =>
  asP u2 fun a =>
  onV (getV e 9) fun u3 =>
  asP u3 fun b =>
  onV (getV e 10) fun u4 =>
  asP u4 fun t =>
  onV (getV e 12) fun u5 =>
  asP u5 fun x =>
  onV (getV e 13) fun u6 =>
  asI .i64 u6 fun i =>
    K (lP_1, lN_1, lC_1, a, b, t, x) ⟨i⟩

theorem dec_law05_FunctorDoes_L1_ok {N : Nat} (e : Env) (a : Act) (K : ((Option Addr) × Nat × Nat × (Option Addr) × (Option Addr) × (Option Addr) × (Option Addr)) → S_law05_FunctorDoes_L1 → Prop) (hr : Rep N a e) (h0 : dec_law05_FunctorDoes_L1 e K) : ∃ f s, K f s ∧ Rep N a (lit_law05_FunctorDoes_L1 f s) := by
  unfold dec_law05_FunctorDoes_L1 at h0
  obtain ⟨u1, g2, h1⟩ := onV_elim h0
  obtain ⟨lP_1, lN_1, lC_1, rfl, h2⟩ := asS_elim h1
  obtain ⟨u2, g7, h3⟩ := onV_elim h2
  obtain ⟨a, rfl, h4⟩ := asP_elim h3
  obtain ⟨u3, g9, h5⟩ := onV_elim h4
  obtain ⟨b, rfl, h6⟩ := asP_elim h5
  obtain ⟨u4, g10, h7⟩ := onV_elim h6
  obtain ⟨t, rfl, h8⟩ := asP_elim h7
  obtain ⟨u5, g12, h9⟩ := onV_elim h8
  obtain ⟨x, rfl, h10⟩ := asP_elim h9
  obtain ⟨u6, g13, h11⟩ := onV_elim h10
  obtain ⟨i, rfl, h12⟩ := asI_elim h11
  exact ⟨_, _, h12, rep_less hr (by simp [lit_law05_FunctorDoes_L1, g2, g7, g9, g10, g12, g13])⟩

def spec_law05_FunctorDoes_L1 (Q : Post) (e : Env) (w : World) : Prop :=
  dec_law05_FunctorDoes_L1 e fun f s => F_law05_FunctorDoes_L1 f.1 f.2.1 f.2.2.1 f.2.2.2.1 f.2.2.2.2.1 f.2.2.2.2.2.1 f.2.2.2.2.2.2 s w (fun w1 => Q (.exit 0) [] w1) (fun t6 w1 => Q .ret [⟨6, .bool t6, none⟩] w1)

def G_law05_FunctorDoes : Gen where
  loop := lookL [([false, true, false, true, true, true, true, true, true, true, true], spec_law05_FunctorDoes_L1)]
  plan := fun id =>
    bif Nat.beq id 15 then some ([0, 0, 0, 0, 0, 24, 56, 127, 255, 511, 1023, 2047, 1023, 8191, 16383, 32767, 65535, 131071, 262143, 131071, 655359, 1703935, 3801087, 7995391, 16777215, 33554431, 67108863, 134217727, 268435455, 134217727, 1073741823, 2147483647, 4294967295], .take 0 (.take 1 (.take 2 (.take 3 (.take 4 (.take 5 (.take 6 (.take 7 (.take 8 (.take 9 (.take 10 (.take 12 (.take 11 (.take 13 (.take 14 (.take 15 (.take 16 (.take 17 (.take 19 (.take 20 (.take 21 (.take 22 (.take 23 (.take 18 (.take 24 (.take 25 (.take 26 (.take 27 (.take 29 (.take 28 (.take 30 (.take 31 (.take 32 .done))))))))))))))))))))))))))))))))) else none

def dx_law05_FunctorDoes_L1_0 (e : Env) (K : ((Option Addr) × Nat × Nat × (Option Addr) × (Option Addr) × (Option Addr) × (Option Addr)) → Prop) : Prop :=
  onV (getV e 2) fun u1 =>
  asS u1 fun lP_1 lN_1 lC_1 =>
  onV (getV e 7) fun u2 =>
  asP u2 fun a =>
  onV (getV e 9) fun u3 =>
  asP u3 fun b =>
  onV (getV e 10) fun u4 =>
  asP u4 fun t =>
  onV (getV e 12) fun u5 =>
  asP u5 fun x =>
    K (lP_1, lN_1, lC_1, a, b, t, x)

def dx_law05_FunctorDoes_L1_ret (e : Env) (K : ((Option Addr) × Nat × Nat × (Option Addr) × (Option Addr) × (Option Addr) × (Option Addr)) → Bool → Prop) : Prop :=
  onV (getV e 2) fun u1 =>
  asS u1 fun lP_1 lN_1 lC_1 =>
  onV (getV e 7) fun u2 =>
  asP u2 fun a =>
  onV (getV e 9) fun u3 =>
  asP u3 fun b =>
  onV (getV e 10) fun u4 =>
  asP u4 fun t =>
  onV (getV e 12) fun u5 =>
  asP u5 fun x =>
  onV (getV e 6) fun u6 =>
  asB u6 fun t6 =>
    K (lP_1, lN_1, lC_1, a, b, t, x) t6

theorem body_law05_FunctorDoes_L1 (f : (Option Addr) × Nat × Nat × (Option Addr) × (Option Addr) × (Option Addr) × (Option Addr)) (s : S_law05_FunctorDoes_L1) (w : World) (Kn : ((Option Addr) × Nat × Nat × (Option Addr) × (Option Addr) × (Option Addr) × (Option Addr)) → S_law05_FunctorDoes_L1 → World → Prop) (Kx0 : ((Option Addr) × Nat × Nat × (Option Addr) × (Option Addr) × (Option Addr) × (Option Addr)) → World → Prop) (Kr : ((Option Addr) × Nat × Nat × (Option Addr) × (Option Addr) × (Option Addr) × (Option Addr)) → Bool → World → Prop) :
    B_law05_FunctorDoes_L1 f.1 f.2.1 f.2.2.1 f.2.2.2.1 f.2.2.2.2.1 f.2.2.2.2.2.1 f.2.2.2.2.2.2 s w (fun s1 w1 => Kn f s1 w1) (fun w1 => Kx0 f w1) (fun t6 w1 => Kr f t6 w1) =
    den Try.prog Try.f6.ntmps G_law05_FunctorDoes (sub (codeOf Try.f6) [false, false, true, false, true, true, true, true, true, true, true, true]) [false, false, true, false, true, true, true, true, true, true, true, true] (roundQ (fun e w => dec_law05_FunctorDoes_L1 e fun f s => Kn f s w) (fun e w => dx_law05_FunctorDoes_L1_ret e fun f t6 => Kr f t6 w) (fun id e w => match Nat.beq id 0 with | true => dx_law05_FunctorDoes_L1_0 e fun f => Kx0 f w | false => False)) (lit_law05_FunctorDoes_L1 f s) w := by kernel_rfl

theorem ok_law05_FunctorDoes_L1 : OneOk Try.prog Try.f6.ntmps G_law05_FunctorDoes (codeOf Try.f6) [false, true, false, true, true, true, true, true, true, true, true] spec_law05_FunctorDoes_L1 := by
  intro c hc ih Q e w a hr h
  have hcc : sub (codeOf Try.f6) [false, false, true, false, true, true, true, true, true, true, true, true] = c := sub_of_codeAt hc
  obtain ⟨f, s, h, hrep⟩ := dec_law05_FunctorDoes_L1_ok e a _ hr h
  obtain ⟨J, μ, hj, hround⟩ := h
  refine loop_rule_deep seat_ok seat_mixed ih lit_law05_FunctorDoes_L1 dec_law05_FunctorDoes_L1 dec_law05_FunctorDoes_L1_ok hc f J μ (Kr := fun e w => dx_law05_FunctorDoes_L1_ret e fun f1 t6 => f1 = f ∧ Q .ret [⟨6, .bool t6, none⟩] w) (Kx := fun id e w => match Nat.beq id 0 with | true => (dx_law05_FunctorDoes_L1_0 e fun f1 => f1 = f ∧ Q (.exit 0) [] w) | false => False) ?_ ?_ ?_ s w a hj hrep
  · intro e a w hr h0
    unfold dx_law05_FunctorDoes_L1_ret at h0
    obtain ⟨u1, g2, h1⟩ := onV_elim h0
    obtain ⟨lP_1, lN_1, lC_1, rfl, h2⟩ := asS_elim h1
    obtain ⟨u2, g7, h3⟩ := onV_elim h2
    obtain ⟨a, rfl, h4⟩ := asP_elim h3
    obtain ⟨u3, g9, h5⟩ := onV_elim h4
    obtain ⟨b, rfl, h6⟩ := asP_elim h5
    obtain ⟨u4, g10, h7⟩ := onV_elim h6
    obtain ⟨t, rfl, h8⟩ := asP_elim h7
    obtain ⟨u5, g12, h9⟩ := onV_elim h8
    obtain ⟨x, rfl, h10⟩ := asP_elim h9
    obtain ⟨u6, g6, h11⟩ := onV_elim h10
    obtain ⟨t6, rfl, h12⟩ := asB_elim h11
    obtain ⟨hf, hq⟩ := h12
    subst hf
    exact ⟨_, rep_less hr (by simp [g6]), hq⟩
  · intro id e a w hr h0
    (try dsimp only at h0)
    split at h0
    · rename_i hid
      obtain rfl := Nat.eq_of_beq_eq_true hid
      unfold dx_law05_FunctorDoes_L1_0 at h0
      obtain ⟨u1, g2, h1⟩ := onV_elim h0
      obtain ⟨lP_1, lN_1, lC_1, rfl, h2⟩ := asS_elim h1
      obtain ⟨u2, g7, h3⟩ := onV_elim h2
      obtain ⟨a, rfl, h4⟩ := asP_elim h3
      obtain ⟨u3, g9, h5⟩ := onV_elim h4
      obtain ⟨b, rfl, h6⟩ := asP_elim h5
      obtain ⟨u4, g10, h7⟩ := onV_elim h6
      obtain ⟨t, rfl, h8⟩ := asP_elim h7
      obtain ⟨u5, g12, h9⟩ := onV_elim h8
      obtain ⟨x, rfl, h10⟩ := asP_elim h9
      obtain ⟨hf, hq⟩ := h10
      subst hf
      exact ⟨_, rep_less hr (by simp), hq⟩
    · exact h0.elim
  · intro s w hj
    have hb := hround s w hj
    rw [← hcc]
    have e1 := body_law05_FunctorDoes_L1 f s w (fun f1 s1 w1 => f1 = f ∧ J s1 w1 ∧ μ s1 w1 < μ s w) (fun f1 w1 => f1 = f ∧ Q (.exit 0) [] w1) (fun f1 t6 w1 => f1 = f ∧ Q .ret [⟨6, .bool t6, none⟩] w1)
    simp only [true_and] at e1
    exact cast e1 hb

theorem loops_law05_FunctorDoes : LoopOk Try.prog Try.f6.ntmps G_law05_FunctorDoes (codeOf Try.f6) := loopOk_list rfl ⟨ok_law05_FunctorDoes_L1, trivial⟩

theorem den_law05_FunctorDoes (limitx : Int) (names : Int) (lP : Option Addr) (lN : Nat) (lC : Nat) (w : World) (R : Value → World → Prop) :
    F_law05_FunctorDoes limitx names lP lN lC w (fun r w1 => R (.bool r) w1) = den Try.prog Try.f6.ntmps G_law05_FunctorDoes (codeOf Try.f6) [] (postD Try.prog Try.f6.results.toList R) (entry [.int .i64 limitx, .int .i64 names, .slice lP lN lC] 0) w := by kernel_rfl

theorem C_law05_FunctorDoes.of {limitx : Int} {names : Int} {lP : Option Addr} {lN : Nat} {lC : Nat} {w : World} {R : Bool → World → Prop} (h : F_law05_FunctorDoes limitx names lP lN lC w R) : C_law05_FunctorDoes limitx names lP lN lC w R := by
  refine (calls_of_den (c := codeOf Try.f6) seat_ok seat_mixed Try.func6 (by kernel_rfl) loops_law05_FunctorDoes (args := [.int .i64 limitx, .int .i64 names, .slice lP lN lC]) rfl (R := fun v w1 => ∃ (r : Bool), v = (.bool r : Value) ∧ R r w1) ?_).mono ?_
  · rw [← den_law05_FunctorDoes]
    have e : (fun r w1 => ∃ (r' : Bool), (.bool r : Value) = (.bool r' : Value) ∧ R r' w1) = R := by
      funext r w1
      exact propext ⟨fun ⟨r', he, h⟩ => by simp at he; simp_all, fun h => ⟨_, rfl, h⟩⟩
    simpa only [e] using h
  · rintro en w1 ⟨v, he, r, rfl, h⟩
    exact ⟨_, he, h⟩

def F_functor_Table_Put (t : Option Addr) (namex : ByteArray) (arity : Int) (w : World) (R : Int → Int → World → Prop) : Prop :=
  C_functor_Table_made t w fun t15 w1 =>
  If (!t15)
  (R (0 : Int) (6 : Int) w1)
  (If (decide (arity < (1 : Int)))
  (R (0 : Int) (1 : Int) w1)
  (If (decide (arity > (16 : Int)))
  (R (0 : Int) (1 : Int) w1)
  (NN t fun a =>
  ∃ atoms : Option Addr, w1.cell? (a.add 0) = some (.pointer atoms) ∧
  C_atom_Table_Intern atoms namex w1 fun t300 t301 w1_1 =>
  If (t301 != (0 : Int))
  (R (0 : Int) t301 w1_1)
  (New w1_1 (.cells #[.int .i64 0, .int .i64 0] 60) fun r w1_2 =>
  St w1_2 ((⟨r, 0, none⟩ : Addr).add 0) (.int .i64 t300) fun w1_3 =>
  St w1_3 ((⟨r, 0, none⟩ : Addr).add 1) (.int .i64 arity) fun w1_4 =>
  NN t fun a_1 =>
  ∃ ids : Option Nat, (drw w1_4).cell? (a_1.add 3) = some (.map ids) ∧
  ∃ t440 : Int, (drw w1_4).cell? ((⟨r, 0, none⟩ : Addr).add 0) = some (.int .i64 t440) ∧
  ∃ t441 : Int, (drw w1_4).cell? ((⟨r, 0, none⟩ : Addr).add 1) = some (.int .i64 t441) ∧
  Run Try.prog (Instr.lookup 55 (.map ids) (.agg #[.int .i64 t440, .int .i64 t441]) true) (drw w1_4) fun v w1_5 => ∃ t450 : Int, ∃ t451 : Bool, v = (.tuple #[.int .i64 t450, .bool t451]) ∧
  If t451
  (R t450 (0 : Int) w1_5)
  (∃ t510 : Int, w1_5.cell? ((⟨r, 0, none⟩ : Addr).add 0) = some (.int .i64 t510) ∧
  ∃ t511 : Int, w1_5.cell? ((⟨r, 0, none⟩ : Addr).add 1) = some (.int .i64 t511) ∧
  C_functor_Table_add t t510 t511 w1_5 fun t520 t521 w1_6 =>
  R t520 t521 w1_6)))))

def G_functor_Table_Put : Gen where
  loop := lookL []
  plan := fun id =>
    bif Nat.beq id 9 then some ([0, 1, 3, 7, 0, 31, 63, 127, 127, 255, 1023], .take 0 (.take 1 (.take 2 (.take 3 (.take 4 (.take 5 (.take 6 (.take 7 (.take 8 (.take 9 (.take 10 .done))))))))))) else none

theorem loops_functor_Table_Put : LoopOk Try.prog Try.f7.ntmps G_functor_Table_Put (codeOf Try.f7) := loopOk_none fun _ => rfl

theorem den_functor_Table_Put (t : Option Addr) (namex : ByteArray) (arity : Int) (w : World) (R : Value → World → Prop) :
    F_functor_Table_Put t namex arity w (fun r0 r1 w1 => R (.tuple #[.int .i64 r0, .int .i64 r1]) w1) = den Try.prog Try.f7.ntmps G_functor_Table_Put (codeOf Try.f7) [] (postD Try.prog Try.f7.results.toList R) (entry [.pointer t, .string namex, .int .i64 arity] 0) w := by kernel_rfl

theorem C_functor_Table_Put.of {t : Option Addr} {namex : ByteArray} {arity : Int} {w : World} {R : Int → Int → World → Prop} (h : F_functor_Table_Put t namex arity w R) : C_functor_Table_Put t namex arity w R := by
  refine (calls_of_den (c := codeOf Try.f7) seat_ok seat_mixed Try.func7 (by kernel_rfl) loops_functor_Table_Put (args := [.pointer t, .string namex, .int .i64 arity]) rfl (R := fun v w1 => ∃ (r0 : Int) (r1 : Int), v = (.tuple #[.int .i64 r0, .int .i64 r1] : Value) ∧ R r0 r1 w1) ?_).mono ?_
  · rw [← den_functor_Table_Put]
    have e : (fun r0 r1 w1 => ∃ (r0' : Int) (r1' : Int), (.tuple #[.int .i64 r0, .int .i64 r1] : Value) = (.tuple #[.int .i64 r0', .int .i64 r1'] : Value) ∧ R r0' r1' w1) = R := by
      funext r0 r1 w1
      exact propext ⟨fun ⟨r0', r1', he, h⟩ => by simp at he; simp_all, fun h => ⟨_, _, rfl, h⟩⟩
    simpa only [e] using h
  · rintro en w1 ⟨v, he, r0, r1, rfl, h⟩
    exact ⟨_, _, he, h⟩

end Go.Proofs.Ytlngmelfjiemlaa
