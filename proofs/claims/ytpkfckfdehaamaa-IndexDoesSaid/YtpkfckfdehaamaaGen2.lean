/- The formulas of this seat's functions, held against the loaded program by the kernel. Printed by a program. -/
import Derived.Test.YtpkfckfdehaamaaGenC
set_option maxRecDepth 100000
set_option linter.unusedVariables false
namespace Go.Proofs.Ytpkfckfdehaamaa
open Go Go.D Go.Proofs

def F_index_KeyOf (t0 : Int) (t1 : Int) (t2 : ByteArray) (t3P : Option Addr) (t3N : Nat) (t3C : Nat) (w : World) (R : Int → ByteArray → Int → World → Prop) : Prop :=
  New w (.cells #[.int .i64 t0, .int .i64 t1, .string t2, .slice t3P t3N t3C] 24) fun r w1 =>
  New w1 (.cells #[.int .i64 0, .string ⟨#[]⟩, .int .i64 0] 26) fun r_1 w1_1 =>
  ∃ Kind : Int, w1_1.cell? ((⟨r, 0, none⟩ : Addr).add 0) = some (.int .i64 Kind) ∧
  If (Kind == (2 : Int))
  (∃ N : Int, w1_1.cell? ((⟨r, 0, none⟩ : Addr).add 1) = some (.int .i64 N) ∧
  St w1_1 ((⟨r_1, 0, none⟩ : Addr).add 0) (.int .i64 1) fun w1_2 =>
  St w1_2 ((⟨r_1, 0, none⟩ : Addr).add 1) (.string ⟨#[]⟩) fun w1_3 =>
  St w1_3 ((⟨r_1, 0, none⟩ : Addr).add 2) (.int .i64 N) fun w1_4 =>
  ∃ r_2 : Int, w1_4.cell? ((⟨r_1, 0, none⟩ : Addr).add 0) = some (.int .i64 r_2) ∧
  ∃ r_3 : ByteArray, w1_4.cell? ((⟨r_1, 0, none⟩ : Addr).add 1) = some (.string r_3) ∧
  ∃ r_4 : Int, w1_4.cell? ((⟨r_1, 0, none⟩ : Addr).add 2) = some (.int .i64 r_4) ∧
  R r_2 r_3 r_4 w1_4)
  (If (Kind == (3 : Int))
  (∃ S : ByteArray, w1_1.cell? ((⟨r, 0, none⟩ : Addr).add 2) = some (.string S) ∧
  St w1_1 ((⟨r_1, 0, none⟩ : Addr).add 0) (.int .i64 2) fun w1_5 =>
  St w1_5 ((⟨r_1, 0, none⟩ : Addr).add 1) (.string S) fun w1_6 =>
  St w1_6 ((⟨r_1, 0, none⟩ : Addr).add 2) (.int .i64 0) fun w1_7 =>
  ∃ r_5 : Int, w1_7.cell? ((⟨r_1, 0, none⟩ : Addr).add 0) = some (.int .i64 r_5) ∧
  ∃ r_6 : ByteArray, w1_7.cell? ((⟨r_1, 0, none⟩ : Addr).add 1) = some (.string r_6) ∧
  ∃ r_7 : Int, w1_7.cell? ((⟨r_1, 0, none⟩ : Addr).add 2) = some (.int .i64 r_7) ∧
  R r_5 r_6 r_7 w1_7)
  (If (Kind == (4 : Int))
  (∃ S_1 : ByteArray, w1_1.cell? ((⟨r, 0, none⟩ : Addr).add 2) = some (.string S_1) ∧
  ∃ LP : Option Addr, ∃ LN : Nat, ∃ LC : Nat, w1_1.cell? ((⟨r, 0, none⟩ : Addr).add 3) = some (.slice LP LN LC) ∧
  St w1_1 ((⟨r_1, 0, none⟩ : Addr).add 0) (.int .i64 3) fun w1_8 =>
  St w1_8 ((⟨r_1, 0, none⟩ : Addr).add 1) (.string S_1) fun w1_9 =>
  St w1_9 ((⟨r_1, 0, none⟩ : Addr).add 2) (.int .i64 (LN : Int)) fun w1_10 =>
  ∃ r_8 : Int, w1_10.cell? ((⟨r_1, 0, none⟩ : Addr).add 0) = some (.int .i64 r_8) ∧
  ∃ r_9 : ByteArray, w1_10.cell? ((⟨r_1, 0, none⟩ : Addr).add 1) = some (.string r_9) ∧
  ∃ r_10 : Int, w1_10.cell? ((⟨r_1, 0, none⟩ : Addr).add 2) = some (.int .i64 r_10) ∧
  R r_8 r_9 r_10 w1_10)
  (St w1_1 ((⟨r_1, 0, none⟩ : Addr).add 0) (.int .i64 0) fun w1_11 =>
  St w1_11 ((⟨r_1, 0, none⟩ : Addr).add 1) (.string ⟨#[]⟩) fun w1_12 =>
  St w1_12 ((⟨r_1, 0, none⟩ : Addr).add 2) (.int .i64 0) fun w1_13 =>
  ∃ r_11 : Int, w1_13.cell? ((⟨r_1, 0, none⟩ : Addr).add 0) = some (.int .i64 r_11) ∧
  ∃ r_12 : ByteArray, w1_13.cell? ((⟨r_1, 0, none⟩ : Addr).add 1) = some (.string r_12) ∧
  ∃ r_13 : Int, w1_13.cell? ((⟨r_1, 0, none⟩ : Addr).add 2) = some (.int .i64 r_13) ∧
  R r_11 r_12 r_13 w1_13)))

def G_index_KeyOf : Gen where
  loop := lookL []
  plan := fun _ => none

theorem loops_index_KeyOf : LoopOk Try.prog Try.f9.ntmps G_index_KeyOf (codeOf Try.f9) := loopOk_none fun _ => rfl

theorem den_index_KeyOf (t0 : Int) (t1 : Int) (t2 : ByteArray) (t3P : Option Addr) (t3N : Nat) (t3C : Nat) (w : World) (R : Value → World → Prop) :
    F_index_KeyOf t0 t1 t2 t3P t3N t3C w (fun r0 r1 r2 w1 => R (.agg #[.int .i64 r0, .string r1, .int .i64 r2]) w1) = den Try.prog Try.f9.ntmps G_index_KeyOf (codeOf Try.f9) [] (postD Try.prog Try.f9.results.toList R) (entry [.agg #[.int .i64 t0, .int .i64 t1, .string t2, .slice t3P t3N t3C]] 0) w := by kernel_rfl

theorem C_index_KeyOf.of {t0 : Int} {t1 : Int} {t2 : ByteArray} {t3P : Option Addr} {t3N : Nat} {t3C : Nat} {w : World} {R : Int → ByteArray → Int → World → Prop} (h : F_index_KeyOf t0 t1 t2 t3P t3N t3C w R) : C_index_KeyOf t0 t1 t2 t3P t3N t3C w R := by
  refine (calls_of_den (c := codeOf Try.f9) seat_ok seat_mixed Try.func9 (by kernel_rfl) loops_index_KeyOf (args := [.agg #[.int .i64 t0, .int .i64 t1, .string t2, .slice t3P t3N t3C]]) rfl (R := fun v w1 => ∃ (r0 : Int) (r1 : ByteArray) (r2 : Int), v = (.agg #[.int .i64 r0, .string r1, .int .i64 r2] : Value) ∧ R r0 r1 r2 w1) ?_).mono ?_
  · rw [← den_index_KeyOf]
    have e : (fun r0 r1 r2 w1 => ∃ (r0' : Int) (r1' : ByteArray) (r2' : Int), (.agg #[.int .i64 r0, .string r1, .int .i64 r2] : Value) = (.agg #[.int .i64 r0', .string r1', .int .i64 r2'] : Value) ∧ R r0' r1' r2' w1) = R := by
      funext r0 r1 r2 w1
      exact propext ⟨fun ⟨r0', r1', r2', he, h⟩ => by simp at he; simp_all, fun h => ⟨_, _, _, rfl, h⟩⟩
    simpa only [e] using h
  · rintro en w1 ⟨v, he, r0, r1, r2, rfl, h⟩
    exact ⟨_, _, _, he, h⟩

def F_ref18_KeyOf (t0 : Int) (t1 : Int) (t2 : ByteArray) (t3P : Option Addr) (t3N : Nat) (t3C : Nat) (w : World) (R : Int → ByteArray → Int → World → Prop) : Prop :=
  New w (.cells #[.int .i64 t0, .int .i64 t1, .string t2, .slice t3P t3N t3C] 24) fun r w1 =>
  New w1 (.cells #[.int .i64 0, .string ⟨#[]⟩, .int .i64 0] 26) fun r_1 w1_1 =>
  ∃ Kind : Int, w1_1.cell? ((⟨r, 0, none⟩ : Addr).add 0) = some (.int .i64 Kind) ∧
  If (Kind == (2 : Int))
  (∃ N : Int, w1_1.cell? ((⟨r, 0, none⟩ : Addr).add 1) = some (.int .i64 N) ∧
  St w1_1 ((⟨r_1, 0, none⟩ : Addr).add 0) (.int .i64 1) fun w1_2 =>
  St w1_2 ((⟨r_1, 0, none⟩ : Addr).add 1) (.string ⟨#[]⟩) fun w1_3 =>
  St w1_3 ((⟨r_1, 0, none⟩ : Addr).add 2) (.int .i64 N) fun w1_4 =>
  ∃ r_2 : Int, w1_4.cell? ((⟨r_1, 0, none⟩ : Addr).add 0) = some (.int .i64 r_2) ∧
  ∃ r_3 : ByteArray, w1_4.cell? ((⟨r_1, 0, none⟩ : Addr).add 1) = some (.string r_3) ∧
  ∃ r_4 : Int, w1_4.cell? ((⟨r_1, 0, none⟩ : Addr).add 2) = some (.int .i64 r_4) ∧
  R r_2 r_3 r_4 w1_4)
  (If (Kind == (3 : Int))
  (∃ S : ByteArray, w1_1.cell? ((⟨r, 0, none⟩ : Addr).add 2) = some (.string S) ∧
  St w1_1 ((⟨r_1, 0, none⟩ : Addr).add 0) (.int .i64 2) fun w1_5 =>
  St w1_5 ((⟨r_1, 0, none⟩ : Addr).add 1) (.string S) fun w1_6 =>
  St w1_6 ((⟨r_1, 0, none⟩ : Addr).add 2) (.int .i64 0) fun w1_7 =>
  ∃ r_5 : Int, w1_7.cell? ((⟨r_1, 0, none⟩ : Addr).add 0) = some (.int .i64 r_5) ∧
  ∃ r_6 : ByteArray, w1_7.cell? ((⟨r_1, 0, none⟩ : Addr).add 1) = some (.string r_6) ∧
  ∃ r_7 : Int, w1_7.cell? ((⟨r_1, 0, none⟩ : Addr).add 2) = some (.int .i64 r_7) ∧
  R r_5 r_6 r_7 w1_7)
  (If (Kind == (4 : Int))
  (∃ S_1 : ByteArray, w1_1.cell? ((⟨r, 0, none⟩ : Addr).add 2) = some (.string S_1) ∧
  ∃ LP : Option Addr, ∃ LN : Nat, ∃ LC : Nat, w1_1.cell? ((⟨r, 0, none⟩ : Addr).add 3) = some (.slice LP LN LC) ∧
  St w1_1 ((⟨r_1, 0, none⟩ : Addr).add 0) (.int .i64 3) fun w1_8 =>
  St w1_8 ((⟨r_1, 0, none⟩ : Addr).add 1) (.string S_1) fun w1_9 =>
  St w1_9 ((⟨r_1, 0, none⟩ : Addr).add 2) (.int .i64 (LN : Int)) fun w1_10 =>
  ∃ r_8 : Int, w1_10.cell? ((⟨r_1, 0, none⟩ : Addr).add 0) = some (.int .i64 r_8) ∧
  ∃ r_9 : ByteArray, w1_10.cell? ((⟨r_1, 0, none⟩ : Addr).add 1) = some (.string r_9) ∧
  ∃ r_10 : Int, w1_10.cell? ((⟨r_1, 0, none⟩ : Addr).add 2) = some (.int .i64 r_10) ∧
  R r_8 r_9 r_10 w1_10)
  (St w1_1 ((⟨r_1, 0, none⟩ : Addr).add 0) (.int .i64 0) fun w1_11 =>
  St w1_11 ((⟨r_1, 0, none⟩ : Addr).add 1) (.string ⟨#[]⟩) fun w1_12 =>
  St w1_12 ((⟨r_1, 0, none⟩ : Addr).add 2) (.int .i64 0) fun w1_13 =>
  ∃ r_11 : Int, w1_13.cell? ((⟨r_1, 0, none⟩ : Addr).add 0) = some (.int .i64 r_11) ∧
  ∃ r_12 : ByteArray, w1_13.cell? ((⟨r_1, 0, none⟩ : Addr).add 1) = some (.string r_12) ∧
  ∃ r_13 : Int, w1_13.cell? ((⟨r_1, 0, none⟩ : Addr).add 2) = some (.int .i64 r_13) ∧
  R r_11 r_12 r_13 w1_13)))

def G_ref18_KeyOf : Gen where
  loop := lookL []
  plan := fun _ => none

theorem loops_ref18_KeyOf : LoopOk Try.prog Try.f10.ntmps G_ref18_KeyOf (codeOf Try.f10) := loopOk_none fun _ => rfl

theorem den_ref18_KeyOf (t0 : Int) (t1 : Int) (t2 : ByteArray) (t3P : Option Addr) (t3N : Nat) (t3C : Nat) (w : World) (R : Value → World → Prop) :
    F_ref18_KeyOf t0 t1 t2 t3P t3N t3C w (fun r0 r1 r2 w1 => R (.agg #[.int .i64 r0, .string r1, .int .i64 r2]) w1) = den Try.prog Try.f10.ntmps G_ref18_KeyOf (codeOf Try.f10) [] (postD Try.prog Try.f10.results.toList R) (entry [.agg #[.int .i64 t0, .int .i64 t1, .string t2, .slice t3P t3N t3C]] 0) w := by kernel_rfl

theorem C_ref18_KeyOf.of {t0 : Int} {t1 : Int} {t2 : ByteArray} {t3P : Option Addr} {t3N : Nat} {t3C : Nat} {w : World} {R : Int → ByteArray → Int → World → Prop} (h : F_ref18_KeyOf t0 t1 t2 t3P t3N t3C w R) : C_ref18_KeyOf t0 t1 t2 t3P t3N t3C w R := by
  refine (calls_of_den (c := codeOf Try.f10) seat_ok seat_mixed Try.func10 (by kernel_rfl) loops_ref18_KeyOf (args := [.agg #[.int .i64 t0, .int .i64 t1, .string t2, .slice t3P t3N t3C]]) rfl (R := fun v w1 => ∃ (r0 : Int) (r1 : ByteArray) (r2 : Int), v = (.agg #[.int .i64 r0, .string r1, .int .i64 r2] : Value) ∧ R r0 r1 r2 w1) ?_).mono ?_
  · rw [← den_ref18_KeyOf]
    have e : (fun r0 r1 r2 w1 => ∃ (r0' : Int) (r1' : ByteArray) (r2' : Int), (.agg #[.int .i64 r0, .string r1, .int .i64 r2] : Value) = (.agg #[.int .i64 r0', .string r1', .int .i64 r2'] : Value) ∧ R r0' r1' r2' w1) = R := by
      funext r0 r1 r2 w1
      exact propext ⟨fun ⟨r0', r1', r2', he, h⟩ => by simp at he; simp_all, fun h => ⟨_, _, _, rfl, h⟩⟩
    simpa only [e] using h
  · rintro en w1 ⟨v, he, r0, r1, r2, rfl, h⟩
    exact ⟨_, _, _, he, h⟩

def F_index_First (t0 : Int) (t1 : Int) (t2 : ByteArray) (t3P : Option Addr) (t3N : Nat) (t3C : Nat) (w : World) (R : Int → ByteArray → Int → World → Prop) : Prop :=
  New w (.cells #[.int .i64 t0, .int .i64 t1, .string t2, .slice t3P t3N t3C] 24) fun r w1 =>
  New w1 (.cells #[.int .i64 0, .string ⟨#[]⟩, .int .i64 0] 26) fun r_1 w1_1 =>
  ∃ Kind : Int, w1_1.cell? ((⟨r, 0, none⟩ : Addr).add 0) = some (.int .i64 Kind) ∧
  If (Kind != (4 : Int))
  (St w1_1 ((⟨r_1, 0, none⟩ : Addr).add 0) (.int .i64 0) fun w1_2 =>
  St w1_2 ((⟨r_1, 0, none⟩ : Addr).add 1) (.string ⟨#[]⟩) fun w1_3 =>
  St w1_3 ((⟨r_1, 0, none⟩ : Addr).add 2) (.int .i64 0) fun w1_4 =>
  ∃ r_2 : Int, w1_4.cell? ((⟨r_1, 0, none⟩ : Addr).add 0) = some (.int .i64 r_2) ∧
  ∃ r_3 : ByteArray, w1_4.cell? ((⟨r_1, 0, none⟩ : Addr).add 1) = some (.string r_3) ∧
  ∃ r_4 : Int, w1_4.cell? ((⟨r_1, 0, none⟩ : Addr).add 2) = some (.int .i64 r_4) ∧
  R r_2 r_3 r_4 w1_4)
  (∃ LP : Option Addr, ∃ LN : Nat, ∃ LC : Nat, w1_1.cell? ((⟨r, 0, none⟩ : Addr).add 3) = some (.slice LP LN LC) ∧
  If ((LN : Int) == (0 : Int))
  (St w1_1 ((⟨r_1, 0, none⟩ : Addr).add 0) (.int .i64 0) fun w1_5 =>
  St w1_5 ((⟨r_1, 0, none⟩ : Addr).add 1) (.string ⟨#[]⟩) fun w1_6 =>
  St w1_6 ((⟨r_1, 0, none⟩ : Addr).add 2) (.int .i64 0) fun w1_7 =>
  ∃ r_5 : Int, w1_7.cell? ((⟨r_1, 0, none⟩ : Addr).add 0) = some (.int .i64 r_5) ∧
  ∃ r_6 : ByteArray, w1_7.cell? ((⟨r_1, 0, none⟩ : Addr).add 1) = some (.string r_6) ∧
  ∃ r_7 : Int, w1_7.cell? ((⟨r_1, 0, none⟩ : Addr).add 2) = some (.int .i64 r_7) ∧
  R r_5 r_6 r_7 w1_7)
  (∃ LP_1 : Option Addr, ∃ LN_1 : Nat, ∃ LC_1 : Nat, w1_1.cell? ((⟨r, 0, none⟩ : Addr).add 3) = some (.slice LP_1 LN_1 LC_1) ∧
  0 ≤ (0 : Int) ∧ (0 : Int) < (LN_1 : Int) ∧ NN LP_1 fun a =>
  ∃ t160 : Int, w1_1.cell? ((a.add ((0 : Int).toNat * 4)).add 0) = some (.int .i64 t160) ∧
  ∃ t161 : Int, w1_1.cell? ((a.add ((0 : Int).toNat * 4)).add 1) = some (.int .i64 t161) ∧
  ∃ t162 : ByteArray, w1_1.cell? ((a.add ((0 : Int).toNat * 4)).add 2) = some (.string t162) ∧
  ∃ t163P : Option Addr, ∃ t163N : Nat, ∃ t163C : Nat, w1_1.cell? ((a.add ((0 : Int).toNat * 4)).add 3) = some (.slice t163P t163N t163C) ∧
  C_index_KeyOf t160 t161 t162 t163P t163N t163C w1_1 fun t170 t171 t172 w1_8 =>
  St w1_8 ((⟨r_1, 0, none⟩ : Addr).add 0) (.int .i64 t170) fun w1_9 =>
  St w1_9 ((⟨r_1, 0, none⟩ : Addr).add 1) (.string t171) fun w1_10 =>
  St w1_10 ((⟨r_1, 0, none⟩ : Addr).add 2) (.int .i64 t172) fun w1_11 =>
  ∃ r_8 : Int, w1_11.cell? ((⟨r_1, 0, none⟩ : Addr).add 0) = some (.int .i64 r_8) ∧
  ∃ r_9 : ByteArray, w1_11.cell? ((⟨r_1, 0, none⟩ : Addr).add 1) = some (.string r_9) ∧
  ∃ r_10 : Int, w1_11.cell? ((⟨r_1, 0, none⟩ : Addr).add 2) = some (.int .i64 r_10) ∧
  R r_8 r_9 r_10 w1_11))

def G_index_First : Gen where
  loop := lookL []
  plan := fun _ => none

theorem loops_index_First : LoopOk Try.prog Try.f11.ntmps G_index_First (codeOf Try.f11) := loopOk_none fun _ => rfl

theorem den_index_First (t0 : Int) (t1 : Int) (t2 : ByteArray) (t3P : Option Addr) (t3N : Nat) (t3C : Nat) (w : World) (R : Value → World → Prop) :
    F_index_First t0 t1 t2 t3P t3N t3C w (fun r0 r1 r2 w1 => R (.agg #[.int .i64 r0, .string r1, .int .i64 r2]) w1) = den Try.prog Try.f11.ntmps G_index_First (codeOf Try.f11) [] (postD Try.prog Try.f11.results.toList R) (entry [.agg #[.int .i64 t0, .int .i64 t1, .string t2, .slice t3P t3N t3C]] 0) w := by kernel_rfl

theorem C_index_First.of {t0 : Int} {t1 : Int} {t2 : ByteArray} {t3P : Option Addr} {t3N : Nat} {t3C : Nat} {w : World} {R : Int → ByteArray → Int → World → Prop} (h : F_index_First t0 t1 t2 t3P t3N t3C w R) : C_index_First t0 t1 t2 t3P t3N t3C w R := by
  refine (calls_of_den (c := codeOf Try.f11) seat_ok seat_mixed Try.func11 (by kernel_rfl) loops_index_First (args := [.agg #[.int .i64 t0, .int .i64 t1, .string t2, .slice t3P t3N t3C]]) rfl (R := fun v w1 => ∃ (r0 : Int) (r1 : ByteArray) (r2 : Int), v = (.agg #[.int .i64 r0, .string r1, .int .i64 r2] : Value) ∧ R r0 r1 r2 w1) ?_).mono ?_
  · rw [← den_index_First]
    have e : (fun r0 r1 r2 w1 => ∃ (r0' : Int) (r1' : ByteArray) (r2' : Int), (.agg #[.int .i64 r0, .string r1, .int .i64 r2] : Value) = (.agg #[.int .i64 r0', .string r1', .int .i64 r2'] : Value) ∧ R r0' r1' r2' w1) = R := by
      funext r0 r1 r2 w1
      exact propext ⟨fun ⟨r0', r1', r2', he, h⟩ => by simp at he; simp_all, fun h => ⟨_, _, _, rfl, h⟩⟩
    simpa only [e] using h
  · rintro en w1 ⟨v, he, r0, r1, r2, rfl, h⟩
    exact ⟨_, _, _, he, h⟩

def F_ref18_First (t0 : Int) (t1 : Int) (t2 : ByteArray) (t3P : Option Addr) (t3N : Nat) (t3C : Nat) (w : World) (R : Int → ByteArray → Int → World → Prop) : Prop :=
  New w (.cells #[.int .i64 t0, .int .i64 t1, .string t2, .slice t3P t3N t3C] 24) fun r w1 =>
  New w1 (.cells #[.int .i64 0, .string ⟨#[]⟩, .int .i64 0] 26) fun r_1 w1_1 =>
  ∃ Kind : Int, w1_1.cell? ((⟨r, 0, none⟩ : Addr).add 0) = some (.int .i64 Kind) ∧
  If (Kind != (4 : Int))
  (St w1_1 ((⟨r_1, 0, none⟩ : Addr).add 0) (.int .i64 0) fun w1_2 =>
  St w1_2 ((⟨r_1, 0, none⟩ : Addr).add 1) (.string ⟨#[]⟩) fun w1_3 =>
  St w1_3 ((⟨r_1, 0, none⟩ : Addr).add 2) (.int .i64 0) fun w1_4 =>
  ∃ r_2 : Int, w1_4.cell? ((⟨r_1, 0, none⟩ : Addr).add 0) = some (.int .i64 r_2) ∧
  ∃ r_3 : ByteArray, w1_4.cell? ((⟨r_1, 0, none⟩ : Addr).add 1) = some (.string r_3) ∧
  ∃ r_4 : Int, w1_4.cell? ((⟨r_1, 0, none⟩ : Addr).add 2) = some (.int .i64 r_4) ∧
  R r_2 r_3 r_4 w1_4)
  (∃ LP : Option Addr, ∃ LN : Nat, ∃ LC : Nat, w1_1.cell? ((⟨r, 0, none⟩ : Addr).add 3) = some (.slice LP LN LC) ∧
  If ((LN : Int) == (0 : Int))
  (St w1_1 ((⟨r_1, 0, none⟩ : Addr).add 0) (.int .i64 0) fun w1_5 =>
  St w1_5 ((⟨r_1, 0, none⟩ : Addr).add 1) (.string ⟨#[]⟩) fun w1_6 =>
  St w1_6 ((⟨r_1, 0, none⟩ : Addr).add 2) (.int .i64 0) fun w1_7 =>
  ∃ r_5 : Int, w1_7.cell? ((⟨r_1, 0, none⟩ : Addr).add 0) = some (.int .i64 r_5) ∧
  ∃ r_6 : ByteArray, w1_7.cell? ((⟨r_1, 0, none⟩ : Addr).add 1) = some (.string r_6) ∧
  ∃ r_7 : Int, w1_7.cell? ((⟨r_1, 0, none⟩ : Addr).add 2) = some (.int .i64 r_7) ∧
  R r_5 r_6 r_7 w1_7)
  (∃ LP_1 : Option Addr, ∃ LN_1 : Nat, ∃ LC_1 : Nat, w1_1.cell? ((⟨r, 0, none⟩ : Addr).add 3) = some (.slice LP_1 LN_1 LC_1) ∧
  0 ≤ (0 : Int) ∧ (0 : Int) < (LN_1 : Int) ∧ NN LP_1 fun a =>
  ∃ t160 : Int, w1_1.cell? ((a.add ((0 : Int).toNat * 4)).add 0) = some (.int .i64 t160) ∧
  ∃ t161 : Int, w1_1.cell? ((a.add ((0 : Int).toNat * 4)).add 1) = some (.int .i64 t161) ∧
  ∃ t162 : ByteArray, w1_1.cell? ((a.add ((0 : Int).toNat * 4)).add 2) = some (.string t162) ∧
  ∃ t163P : Option Addr, ∃ t163N : Nat, ∃ t163C : Nat, w1_1.cell? ((a.add ((0 : Int).toNat * 4)).add 3) = some (.slice t163P t163N t163C) ∧
  C_ref18_KeyOf t160 t161 t162 t163P t163N t163C w1_1 fun t170 t171 t172 w1_8 =>
  St w1_8 ((⟨r_1, 0, none⟩ : Addr).add 0) (.int .i64 t170) fun w1_9 =>
  St w1_9 ((⟨r_1, 0, none⟩ : Addr).add 1) (.string t171) fun w1_10 =>
  St w1_10 ((⟨r_1, 0, none⟩ : Addr).add 2) (.int .i64 t172) fun w1_11 =>
  ∃ r_8 : Int, w1_11.cell? ((⟨r_1, 0, none⟩ : Addr).add 0) = some (.int .i64 r_8) ∧
  ∃ r_9 : ByteArray, w1_11.cell? ((⟨r_1, 0, none⟩ : Addr).add 1) = some (.string r_9) ∧
  ∃ r_10 : Int, w1_11.cell? ((⟨r_1, 0, none⟩ : Addr).add 2) = some (.int .i64 r_10) ∧
  R r_8 r_9 r_10 w1_11))

def G_ref18_First : Gen where
  loop := lookL []
  plan := fun _ => none

theorem loops_ref18_First : LoopOk Try.prog Try.f12.ntmps G_ref18_First (codeOf Try.f12) := loopOk_none fun _ => rfl

theorem den_ref18_First (t0 : Int) (t1 : Int) (t2 : ByteArray) (t3P : Option Addr) (t3N : Nat) (t3C : Nat) (w : World) (R : Value → World → Prop) :
    F_ref18_First t0 t1 t2 t3P t3N t3C w (fun r0 r1 r2 w1 => R (.agg #[.int .i64 r0, .string r1, .int .i64 r2]) w1) = den Try.prog Try.f12.ntmps G_ref18_First (codeOf Try.f12) [] (postD Try.prog Try.f12.results.toList R) (entry [.agg #[.int .i64 t0, .int .i64 t1, .string t2, .slice t3P t3N t3C]] 0) w := by kernel_rfl

theorem C_ref18_First.of {t0 : Int} {t1 : Int} {t2 : ByteArray} {t3P : Option Addr} {t3N : Nat} {t3C : Nat} {w : World} {R : Int → ByteArray → Int → World → Prop} (h : F_ref18_First t0 t1 t2 t3P t3N t3C w R) : C_ref18_First t0 t1 t2 t3P t3N t3C w R := by
  refine (calls_of_den (c := codeOf Try.f12) seat_ok seat_mixed Try.func12 (by kernel_rfl) loops_ref18_First (args := [.agg #[.int .i64 t0, .int .i64 t1, .string t2, .slice t3P t3N t3C]]) rfl (R := fun v w1 => ∃ (r0 : Int) (r1 : ByteArray) (r2 : Int), v = (.agg #[.int .i64 r0, .string r1, .int .i64 r2] : Value) ∧ R r0 r1 r2 w1) ?_).mono ?_
  · rw [← den_ref18_First]
    have e : (fun r0 r1 r2 w1 => ∃ (r0' : Int) (r1' : ByteArray) (r2' : Int), (.agg #[.int .i64 r0, .string r1, .int .i64 r2] : Value) = (.agg #[.int .i64 r0', .string r1', .int .i64 r2'] : Value) ∧ R r0' r1' r2' w1) = R := by
      funext r0 r1 r2 w1
      exact propext ⟨fun ⟨r0', r1', r2', he, h⟩ => by simp at he; simp_all, fun h => ⟨_, _, _, rfl, h⟩⟩
    simpa only [e] using h
  · rintro en w1 ⟨v, he, r0, r1, r2, rfl, h⟩
    exact ⟨_, _, _, he, h⟩

def F_index_Meet_k1 (R : Bool → World → Prop) (w1_2 : World) : Prop :=
  R true w1_2

def F_index_Meet (a0 : Int) (a1 : ByteArray) (a2 : Int) (b0 : Int) (b1 : ByteArray) (b2 : Int) (w : World) (R : Bool → World → Prop) : Prop :=
  New w (.cells #[.int .i64 a0, .string a1, .int .i64 a2] 26) fun r w1 =>
  New w1 (.cells #[.int .i64 b0, .string b1, .int .i64 b2] 26) fun r_1 w1_1 =>
  ∃ Kind : Int, w1_1.cell? ((⟨r, 0, none⟩ : Addr).add 0) = some (.int .i64 Kind) ∧
  If (Kind == (0 : Int))
  (F_index_Meet_k1 R w1_1)
  (∃ Kind_1 : Int, w1_1.cell? ((⟨r_1, 0, none⟩ : Addr).add 0) = some (.int .i64 Kind_1) ∧
  If (Kind_1 == (0 : Int))
  (F_index_Meet_k1 R w1_1)
  (∃ t140 : Int, w1_1.cell? ((⟨r, 0, none⟩ : Addr).add 0) = some (.int .i64 t140) ∧
  ∃ t141 : ByteArray, w1_1.cell? ((⟨r, 0, none⟩ : Addr).add 1) = some (.string t141) ∧
  ∃ t142 : Int, w1_1.cell? ((⟨r, 0, none⟩ : Addr).add 2) = some (.int .i64 t142) ∧
  ∃ t150 : Int, w1_1.cell? ((⟨r_1, 0, none⟩ : Addr).add 0) = some (.int .i64 t150) ∧
  ∃ t151 : ByteArray, w1_1.cell? ((⟨r_1, 0, none⟩ : Addr).add 1) = some (.string t151) ∧
  ∃ t152 : Int, w1_1.cell? ((⟨r_1, 0, none⟩ : Addr).add 2) = some (.int .i64 t152) ∧
  AggEq Try.prog 26 (.agg #[.int .i64 t140, .string t141, .int .i64 t142]) (.agg #[.int .i64 t150, .string t151, .int .i64 t152]) fun bb =>
  R bb w1_1))

def G_index_Meet : Gen where
  loop := lookL []
  plan := fun _ => none

theorem loops_index_Meet : LoopOk Try.prog Try.f13.ntmps G_index_Meet (codeOf Try.f13) := loopOk_none fun _ => rfl

theorem den_index_Meet (a0 : Int) (a1 : ByteArray) (a2 : Int) (b0 : Int) (b1 : ByteArray) (b2 : Int) (w : World) (R : Value → World → Prop) :
    F_index_Meet a0 a1 a2 b0 b1 b2 w (fun r w1 => R (.bool r) w1) = den Try.prog Try.f13.ntmps G_index_Meet (codeOf Try.f13) [] (postD Try.prog Try.f13.results.toList R) (entry [.agg #[.int .i64 a0, .string a1, .int .i64 a2], .agg #[.int .i64 b0, .string b1, .int .i64 b2]] 0) w := by kernel_rfl

theorem C_index_Meet.of {a0 : Int} {a1 : ByteArray} {a2 : Int} {b0 : Int} {b1 : ByteArray} {b2 : Int} {w : World} {R : Bool → World → Prop} (h : F_index_Meet a0 a1 a2 b0 b1 b2 w R) : C_index_Meet a0 a1 a2 b0 b1 b2 w R := by
  refine (calls_of_den (c := codeOf Try.f13) seat_ok seat_mixed Try.func13 (by kernel_rfl) loops_index_Meet (args := [.agg #[.int .i64 a0, .string a1, .int .i64 a2], .agg #[.int .i64 b0, .string b1, .int .i64 b2]]) rfl (R := fun v w1 => ∃ (r : Bool), v = (.bool r : Value) ∧ R r w1) ?_).mono ?_
  · rw [← den_index_Meet]
    have e : (fun r w1 => ∃ (r' : Bool), (.bool r : Value) = (.bool r' : Value) ∧ R r' w1) = R := by
      funext r w1
      exact propext ⟨fun ⟨r', he, h⟩ => by simp at he; simp_all, fun h => ⟨_, rfl, h⟩⟩
    simpa only [e] using h
  · rintro en w1 ⟨v, he, r, rfl, h⟩
    exact ⟨_, he, h⟩

def F_ref18_Meet_k1 (R : Bool → World → Prop) (w1_2 : World) : Prop :=
  R true w1_2

def F_ref18_Meet (a0 : Int) (a1 : ByteArray) (a2 : Int) (b0 : Int) (b1 : ByteArray) (b2 : Int) (w : World) (R : Bool → World → Prop) : Prop :=
  New w (.cells #[.int .i64 a0, .string a1, .int .i64 a2] 26) fun r w1 =>
  New w1 (.cells #[.int .i64 b0, .string b1, .int .i64 b2] 26) fun r_1 w1_1 =>
  ∃ Kind : Int, w1_1.cell? ((⟨r, 0, none⟩ : Addr).add 0) = some (.int .i64 Kind) ∧
  If (Kind == (0 : Int))
  (F_ref18_Meet_k1 R w1_1)
  (∃ Kind_1 : Int, w1_1.cell? ((⟨r_1, 0, none⟩ : Addr).add 0) = some (.int .i64 Kind_1) ∧
  If (Kind_1 == (0 : Int))
  (F_ref18_Meet_k1 R w1_1)
  (∃ t140 : Int, w1_1.cell? ((⟨r, 0, none⟩ : Addr).add 0) = some (.int .i64 t140) ∧
  ∃ t141 : ByteArray, w1_1.cell? ((⟨r, 0, none⟩ : Addr).add 1) = some (.string t141) ∧
  ∃ t142 : Int, w1_1.cell? ((⟨r, 0, none⟩ : Addr).add 2) = some (.int .i64 t142) ∧
  ∃ t150 : Int, w1_1.cell? ((⟨r_1, 0, none⟩ : Addr).add 0) = some (.int .i64 t150) ∧
  ∃ t151 : ByteArray, w1_1.cell? ((⟨r_1, 0, none⟩ : Addr).add 1) = some (.string t151) ∧
  ∃ t152 : Int, w1_1.cell? ((⟨r_1, 0, none⟩ : Addr).add 2) = some (.int .i64 t152) ∧
  AggEq Try.prog 26 (.agg #[.int .i64 t140, .string t141, .int .i64 t142]) (.agg #[.int .i64 t150, .string t151, .int .i64 t152]) fun bb =>
  R bb w1_1))

def G_ref18_Meet : Gen where
  loop := lookL []
  plan := fun _ => none

theorem loops_ref18_Meet : LoopOk Try.prog Try.f14.ntmps G_ref18_Meet (codeOf Try.f14) := loopOk_none fun _ => rfl

theorem den_ref18_Meet (a0 : Int) (a1 : ByteArray) (a2 : Int) (b0 : Int) (b1 : ByteArray) (b2 : Int) (w : World) (R : Value → World → Prop) :
    F_ref18_Meet a0 a1 a2 b0 b1 b2 w (fun r w1 => R (.bool r) w1) = den Try.prog Try.f14.ntmps G_ref18_Meet (codeOf Try.f14) [] (postD Try.prog Try.f14.results.toList R) (entry [.agg #[.int .i64 a0, .string a1, .int .i64 a2], .agg #[.int .i64 b0, .string b1, .int .i64 b2]] 0) w := by kernel_rfl

theorem C_ref18_Meet.of {a0 : Int} {a1 : ByteArray} {a2 : Int} {b0 : Int} {b1 : ByteArray} {b2 : Int} {w : World} {R : Bool → World → Prop} (h : F_ref18_Meet a0 a1 a2 b0 b1 b2 w R) : C_ref18_Meet a0 a1 a2 b0 b1 b2 w R := by
  refine (calls_of_den (c := codeOf Try.f14) seat_ok seat_mixed Try.func14 (by kernel_rfl) loops_ref18_Meet (args := [.agg #[.int .i64 a0, .string a1, .int .i64 a2], .agg #[.int .i64 b0, .string b1, .int .i64 b2]]) rfl (R := fun v w1 => ∃ (r : Bool), v = (.bool r : Value) ∧ R r w1) ?_).mono ?_
  · rw [← den_ref18_Meet]
    have e : (fun r w1 => ∃ (r' : Bool), (.bool r : Value) = (.bool r' : Value) ∧ R r' w1) = R := by
      funext r w1
      exact propext ⟨fun ⟨r', he, h⟩ => by simp at he; simp_all, fun h => ⟨_, rfl, h⟩⟩
    simpa only [e] using h
  · rintro en w1 ⟨v, he, r, rfl, h⟩
    exact ⟨_, he, h⟩

def F_index_New (w : World) (R : Option Addr → World → Prop) : Prop :=
  New w (.map #[] 0) fun r w1 =>
  New w1 (.map #[] 0) fun r_1 w1_1 =>
  New w1_1 (.cells #[.map (some r), .slice none 0 0, .map (some r_1), .int .i64 0, .int .i64 0] 60) fun r_2 w1_2 =>
  R (some ⟨r_2, 0, none⟩) w1_2

def G_index_New : Gen where
  loop := lookL []
  plan := fun _ => none

theorem loops_index_New : LoopOk Try.prog Try.f15.ntmps G_index_New (codeOf Try.f15) := loopOk_none fun _ => rfl

theorem den_index_New  (w : World) (R : Value → World → Prop) :
    F_index_New w (fun r w1 => R (.pointer r) w1) = den Try.prog Try.f15.ntmps G_index_New (codeOf Try.f15) [] (postD Try.prog Try.f15.results.toList R) (entry [] 0) w := by kernel_rfl

theorem C_index_New.of {w : World} {R : Option Addr → World → Prop} (h : F_index_New w R) : C_index_New w R := by
  refine (calls_of_den (c := codeOf Try.f15) seat_ok seat_mixed Try.func15 (by kernel_rfl) loops_index_New (args := []) rfl (R := fun v w1 => ∃ (r : Option Addr), v = (.pointer r : Value) ∧ R r w1) ?_).mono ?_
  · rw [← den_index_New]
    have e : (fun r w1 => ∃ (r' : Option Addr), (.pointer r : Value) = (.pointer r' : Value) ∧ R r' w1) = R := by
      funext r w1
      exact propext ⟨fun ⟨r', he, h⟩ => by simp at he; simp_all, fun h => ⟨_, rfl, h⟩⟩
    simpa only [e] using h
  · rintro en w1 ⟨v, he, r, rfl, h⟩
    exact ⟨_, he, h⟩

def F_law18_do (t : Option Addr) (x : Option Addr) (o0 : Int) (o1 : Int) (o2 : Int) (o3 : ByteArray) (o4 : Int) (o5 : Bool) (w : World) (R : Bool → World → Prop) : Prop :=
  New w (.cells #[.int .i64 o0, .int .i64 o1, .int .i64 o2, .string o3, .int .i64 o4, .bool o5] 40) fun r w1 =>
  ∃ Kind : Int, w1.cell? ((⟨r, 0, none⟩ : Addr).add 0) = some (.int .i64 Kind) ∧
  If (Kind == (1 : Int))
  (∃ Id : Int, (drw w1).cell? ((⟨r, 0, none⟩ : Addr).add 1) = some (.int .i64 Id) ∧
  ∃ Key0 : Int, (drw w1).cell? (((⟨r, 0, none⟩ : Addr).add 2).add 0) = some (.int .i64 Key0) ∧
  ∃ Key1 : ByteArray, (drw w1).cell? (((⟨r, 0, none⟩ : Addr).add 2).add 1) = some (.string Key1) ∧
  ∃ Key2 : Int, (drw w1).cell? (((⟨r, 0, none⟩ : Addr).add 2).add 2) = some (.int .i64 Key2) ∧
  ∃ Front : Bool, (drw w1).cell? ((⟨r, 0, none⟩ : Addr).add 5) = some (.bool Front) ∧
  ∃ Id_1 : Int, (drw w1).cell? ((⟨r, 0, none⟩ : Addr).add 1) = some (.int .i64 Id_1) ∧
  ∃ Key0_1 : Int, (drw w1).cell? (((⟨r, 0, none⟩ : Addr).add 2).add 0) = some (.int .i64 Key0_1) ∧
  ∃ Key1_1 : ByteArray, (drw w1).cell? (((⟨r, 0, none⟩ : Addr).add 2).add 1) = some (.string Key1_1) ∧
  ∃ Key2_1 : Int, (drw w1).cell? (((⟨r, 0, none⟩ : Addr).add 2).add 2) = some (.int .i64 Key2_1) ∧
  ∃ Front_1 : Bool, (drw w1).cell? ((⟨r, 0, none⟩ : Addr).add 5) = some (.bool Front_1) ∧
  C_index_Table_Add t Id Key0 Key1 Key2 Front (drw w1) fun t26 w1_1 =>
  w1_1.cell? ((⟨r, 0, none⟩ : Addr).add 5) = (drw w1).cell? ((⟨r, 0, none⟩ : Addr).add 5) ∧
  (∀ i, i < 3 → w1_1.cell? (((⟨r, 0, none⟩ : Addr).add 2).add i) = (drw w1).cell? (((⟨r, 0, none⟩ : Addr).add 2).add i)) ∧
  w1_1.cell? ((⟨r, 0, none⟩ : Addr).add 1) = (drw w1).cell? ((⟨r, 0, none⟩ : Addr).add 1) ∧
  C_ref18_Table_Add x Id_1 Key0_1 Key1_1 Key2_1 Front_1 w1_1 fun t34 w1_2 =>
  R (t26 == t34) w1_2)
  (If (Kind == (2 : Int))
  (∃ Id_2 : Int, (drw w1).cell? ((⟨r, 0, none⟩ : Addr).add 1) = some (.int .i64 Id_2) ∧
  ∃ Id_3 : Int, (drw w1).cell? ((⟨r, 0, none⟩ : Addr).add 1) = some (.int .i64 Id_3) ∧
  C_index_Table_Drop t Id_2 (drw w1) fun t41 w1_3 =>
  w1_3.cell? ((⟨r, 0, none⟩ : Addr).add 1) = (drw w1).cell? ((⟨r, 0, none⟩ : Addr).add 1) ∧
  C_ref18_Table_Drop x Id_3 w1_3 fun t45 w1_4 =>
  R (t41 == t45) w1_4)
  (If (Kind == (3 : Int))
  (∃ Id_4 : Int, w1.cell? ((⟨r, 0, none⟩ : Addr).add 1) = some (.int .i64 Id_4) ∧
  ∃ Key0_2 : Int, w1.cell? (((⟨r, 0, none⟩ : Addr).add 2).add 0) = some (.int .i64 Key0_2) ∧
  ∃ Key1_2 : ByteArray, w1.cell? (((⟨r, 0, none⟩ : Addr).add 2).add 1) = some (.string Key1_2) ∧
  ∃ Key2_2 : Int, w1.cell? (((⟨r, 0, none⟩ : Addr).add 2).add 2) = some (.int .i64 Key2_2) ∧
  C_index_Table_Next t Id_4 Key0_2 Key1_2 Key2_2 w1 fun t550 t551 w1_5 =>
  ∃ Id_5 : Int, w1_5.cell? ((⟨r, 0, none⟩ : Addr).add 1) = some (.int .i64 Id_5) ∧
  ∃ Key0_3 : Int, w1_5.cell? (((⟨r, 0, none⟩ : Addr).add 2).add 0) = some (.int .i64 Key0_3) ∧
  ∃ Key1_3 : ByteArray, w1_5.cell? (((⟨r, 0, none⟩ : Addr).add 2).add 1) = some (.string Key1_3) ∧
  ∃ Key2_3 : Int, w1_5.cell? (((⟨r, 0, none⟩ : Addr).add 2).add 2) = some (.int .i64 Key2_3) ∧
  C_ref18_Table_Next x Id_5 Key0_3 Key1_3 Key2_3 w1_5 fun t640 t641 w1_6 =>
  If (t550 == t640)
  (R (t551 == t641) w1_6)
  (R false w1_6))
  (If (Kind == (4 : Int))
  (∃ Key0_4 : Int, w1.cell? (((⟨r, 0, none⟩ : Addr).add 2).add 0) = some (.int .i64 Key0_4) ∧
  ∃ Key1_4 : ByteArray, w1.cell? (((⟨r, 0, none⟩ : Addr).add 2).add 1) = some (.string Key1_4) ∧
  ∃ Key2_4 : Int, w1.cell? (((⟨r, 0, none⟩ : Addr).add 2).add 2) = some (.int .i64 Key2_4) ∧
  C_index_Table_Head t Key0_4 Key1_4 Key2_4 w1 fun t810 t811 w1_7 =>
  ∃ Key0_5 : Int, w1_7.cell? (((⟨r, 0, none⟩ : Addr).add 2).add 0) = some (.int .i64 Key0_5) ∧
  ∃ Key1_5 : ByteArray, w1_7.cell? (((⟨r, 0, none⟩ : Addr).add 2).add 1) = some (.string Key1_5) ∧
  ∃ Key2_5 : Int, w1_7.cell? (((⟨r, 0, none⟩ : Addr).add 2).add 2) = some (.int .i64 Key2_5) ∧
  C_ref18_Table_Head x Key0_5 Key1_5 Key2_5 w1_7 fun t880 t881 w1_8 =>
  If (t810 == t880)
  (R (t811 == t881) w1_8)
  (R false w1_8))
  (R true w1))))

def G_law18_do : Gen where
  loop := lookL []
  plan := fun id =>
    bif Nat.beq id 3 then some ([0, 0, 2, 0, 8, 0, 32, 127, 0, 0, 512, 0, 2048, 0, 8192, 32767, 65535, 131071], .take 0 (.take 1 (.take 2 (.take 3 (.take 4 (.take 5 (.take 6 (.take 8 (.take 9 (.take 10 (.take 11 (.take 12 (.take 13 (.take 14 (.take 7 (.take 15 (.take 16 (.take 17 .done)))))))))))))))))) else
    bif Nat.beq id 5 then some ([0, 0, 2, 7, 0, 0, 32, 127, 255, 511], .take 0 (.take 1 (.take 2 (.take 4 (.take 5 (.take 6 (.take 3 (.take 7 (.take 8 (.take 9 .done)))))))))) else none

theorem loops_law18_do : LoopOk Try.prog Try.f16.ntmps G_law18_do (codeOf Try.f16) := loopOk_none fun _ => rfl

theorem den_law18_do (t : Option Addr) (x : Option Addr) (o0 : Int) (o1 : Int) (o2 : Int) (o3 : ByteArray) (o4 : Int) (o5 : Bool) (w : World) (R : Value → World → Prop) :
    F_law18_do t x o0 o1 o2 o3 o4 o5 w (fun r w1 => R (.bool r) w1) = den Try.prog Try.f16.ntmps G_law18_do (codeOf Try.f16) [] (postD Try.prog Try.f16.results.toList R) (entry [.pointer t, .pointer x, .agg #[.int .i64 o0, .int .i64 o1, .int .i64 o2, .string o3, .int .i64 o4, .bool o5]] 0) w := by kernel_rfl

theorem C_law18_do.of {t : Option Addr} {x : Option Addr} {o0 : Int} {o1 : Int} {o2 : Int} {o3 : ByteArray} {o4 : Int} {o5 : Bool} {w : World} {R : Bool → World → Prop} (h : F_law18_do t x o0 o1 o2 o3 o4 o5 w R) : C_law18_do t x o0 o1 o2 o3 o4 o5 w R := by
  refine (calls_of_den (c := codeOf Try.f16) seat_ok seat_mixed Try.func16 (by kernel_rfl) loops_law18_do (args := [.pointer t, .pointer x, .agg #[.int .i64 o0, .int .i64 o1, .int .i64 o2, .string o3, .int .i64 o4, .bool o5]]) rfl (R := fun v w1 => ∃ (r : Bool), v = (.bool r : Value) ∧ R r w1) ?_).mono ?_
  · rw [← den_law18_do]
    have e : (fun r w1 => ∃ (r' : Bool), (.bool r : Value) = (.bool r' : Value) ∧ R r' w1) = R := by
      funext r w1
      exact propext ⟨fun ⟨r', he, h⟩ => by simp at he; simp_all, fun h => ⟨_, rfl, h⟩⟩
    simpa only [e] using h
  · rintro en w1 ⟨v, he, r, rfl, h⟩
    exact ⟨_, he, h⟩

def F_index_Table_Len (t : Option Addr) (w : World) (R : Int → World → Prop) : Prop :=
  C_index_Table_made t w fun t4 w1 =>
  If (!t4)
  (R (0 : Int) w1)
  (NN t fun a =>
  ∃ allP : Option Addr, ∃ allN : Nat, ∃ allC : Nat, w1.cell? (a.add 1) = some (.slice allP allN allC) ∧
  R (allN : Int) w1)

def G_index_Table_Len : Gen where
  loop := lookL []
  plan := fun _ => none

theorem loops_index_Table_Len : LoopOk Try.prog Try.f17.ntmps G_index_Table_Len (codeOf Try.f17) := loopOk_none fun _ => rfl

theorem den_index_Table_Len (t : Option Addr) (w : World) (R : Value → World → Prop) :
    F_index_Table_Len t w (fun r w1 => R (.int .i64 r) w1) = den Try.prog Try.f17.ntmps G_index_Table_Len (codeOf Try.f17) [] (postD Try.prog Try.f17.results.toList R) (entry [.pointer t] 0) w := by kernel_rfl

theorem C_index_Table_Len.of {t : Option Addr} {w : World} {R : Int → World → Prop} (h : F_index_Table_Len t w R) : C_index_Table_Len t w R := by
  refine (calls_of_den (c := codeOf Try.f17) seat_ok seat_mixed Try.func17 (by kernel_rfl) loops_index_Table_Len (args := [.pointer t]) rfl (R := fun v w1 => ∃ (r : Int), v = (.int .i64 r : Value) ∧ R r w1) ?_).mono ?_
  · rw [← den_index_Table_Len]
    have e : (fun r w1 => ∃ (r' : Int), (.int .i64 r : Value) = (.int .i64 r' : Value) ∧ R r' w1) = R := by
      funext r w1
      exact propext ⟨fun ⟨r', he, h⟩ => by simp at he; simp_all, fun h => ⟨_, rfl, h⟩⟩
    simpa only [e] using h
  · rintro en w1 ⟨v, he, r, rfl, h⟩
    exact ⟨_, he, h⟩

structure S_ref15_SameInts_L1 where
  i : Int

/-- One round. -/
def B_ref15_SameInts_L1 (aP_1 : Option Addr) (aN_1 : Nat) (aC_1 : Nat) (bP_1 : Option Addr) (bN_1 : Nat) (bC_1 : Nat) (s : S_ref15_SameInts_L1) (w : World) (Kn : S_ref15_SameInts_L1 → World → Prop) (Kx0 : World → Prop) (Kr : Bool → World → Prop) : Prop :=
  If (decide ((s.i : Int) < (aN_1 : Int)))
  (0 ≤ (s.i : Int) ∧ (s.i : Int) < (aN_1 : Int) ∧ NN aP_1 fun a =>
  ∃ t20 : Int, (drw w).cell? (a.add ((s.i : Int).toNat * 1)) = some (.int .i64 t20) ∧
  0 ≤ (s.i : Int) ∧ (s.i : Int) < (bN_1 : Int) ∧ NN bP_1 fun a_1 =>
  ∃ t24 : Int, (drw w).cell? (a_1.add ((s.i : Int).toNat * 1)) = some (.int .i64 t24) ∧
  If (t20 != t24)
  (Kr false (drw w))
  (Kn ⟨(IntKind.i64.wrap ((s.i : Int) + (1 : Int)))⟩ (drw w)))
  (Kx0 w)

def F_ref15_SameInts_L1 (aP_1 : Option Addr) (aN_1 : Nat) (aC_1 : Nat) (bP_1 : Option Addr) (bN_1 : Nat) (bC_1 : Nat) (s : S_ref15_SameInts_L1) (w : World) (Kx0 : World → Prop) (Kr : Bool → World → Prop) : Prop :=
  LoopS (fun s w Kn => B_ref15_SameInts_L1 aP_1 aN_1 aC_1 bP_1 bN_1 bC_1 s w Kn Kx0 Kr) s w

def F_ref15_SameInts (aP : Option Addr) (aN : Nat) (aC : Nat) (bP : Option Addr) (bN : Nat) (bC : Nat) (w : World) (R : Bool → World → Prop) : Prop :=
  If ((aN : Int) != (bN : Int))
  (R false w)
  (F_ref15_SameInts_L1 aP aN aC bP bN bC ⟨(0 : Int)⟩ w
  (fun w1 =>
  R true w1)
  (fun t4_1 w1_1 =>
  R t4_1 w1_1))

def lit_ref15_SameInts_L1 (f : (Option Addr) × Nat × Nat × (Option Addr) × Nat × Nat) (s : S_ref15_SameInts_L1) : Env := [⟨0, .slice f.1 f.2.1 f.2.2.1, none⟩, ⟨1, .slice f.2.2.2.1 f.2.2.2.2.1 f.2.2.2.2.2, none⟩, ⟨5, .int .i64 s.i, none⟩]

def dec_ref15_SameInts_L1 (e : Env) (K : ((Option Addr) × Nat × Nat × (Option Addr) × Nat × Nat) → S_ref15_SameInts_L1 → Prop) : Prop :=
  onV (getV e 0) fun u1 =>
  asS u1 fun aP_1 aN_1 aC_1 =>
  onV (getV e 1) fun u2 =>
  asS u2 fun bP_1 bN_1 bC_1 =>
  onV (getV e 5) fun u3 =>
  asI .i64 u3 fun i =>
    K (aP_1, aN_1, aC_1, bP_1, bN_1, bC_1) ⟨i⟩

theorem dec_ref15_SameInts_L1_ok {N : Nat} (e : Env) (a : Act) (K : ((Option Addr) × Nat × Nat × (Option Addr) × Nat × Nat) → S_ref15_SameInts_L1 → Prop) (hr : Rep N a e) (h0 : dec_ref15_SameInts_L1 e K) : ∃ f s, K f s ∧ Rep N a (lit_ref15_SameInts_L1 f s) := by
  unfold dec_ref15_SameInts_L1 at h0
  obtain ⟨u1, g0, h1⟩ := onV_elim h0
  obtain ⟨aP_1, aN_1, aC_1, rfl, h2⟩ := asS_elim h1
  obtain ⟨u2, g1, h3⟩ := onV_elim h2
  obtain ⟨bP_1, bN_1, bC_1, rfl, h4⟩ := asS_elim h3
  obtain ⟨u3, g5, h5⟩ := onV_elim h4
  obtain ⟨i, rfl, h6⟩ := asI_elim h5
  exact ⟨_, _, h6, rep_less hr (by simp [lit_ref15_SameInts_L1, g0, g1, g5])⟩

def spec_ref15_SameInts_L1 (Q : Post) (e : Env) (w : World) : Prop :=
  dec_ref15_SameInts_L1 e fun f s => F_ref15_SameInts_L1 f.1 f.2.1 f.2.2.1 f.2.2.2.1 f.2.2.2.2.1 f.2.2.2.2.2 s w (fun w1 => Q (.exit 0) [] w1) (fun t4 w1 => Q .ret [⟨4, .bool t4, none⟩] w1)

def G_ref15_SameInts : Gen where
  loop := lookL [([false, true, false, true, true], spec_ref15_SameInts_L1)]
  plan := fun id =>
    bif Nat.beq id 6 then some ([0, 0, 3, 7, 0, 0, 48, 112, 255], .take 0 (.take 1 (.take 2 (.take 3 (.take 4 (.take 5 (.take 6 (.take 7 (.take 8 .done))))))))) else none

def dx_ref15_SameInts_L1_0 (e : Env) (K : ((Option Addr) × Nat × Nat × (Option Addr) × Nat × Nat) → Prop) : Prop :=
  onV (getV e 0) fun u1 =>
  asS u1 fun aP_1 aN_1 aC_1 =>
  onV (getV e 1) fun u2 =>
  asS u2 fun bP_1 bN_1 bC_1 =>
    K (aP_1, aN_1, aC_1, bP_1, bN_1, bC_1)

def dx_ref15_SameInts_L1_ret (e : Env) (K : ((Option Addr) × Nat × Nat × (Option Addr) × Nat × Nat) → Bool → Prop) : Prop :=
  onV (getV e 0) fun u1 =>
  asS u1 fun aP_1 aN_1 aC_1 =>
  onV (getV e 1) fun u2 =>
  asS u2 fun bP_1 bN_1 bC_1 =>
  onV (getV e 4) fun u3 =>
  asB u3 fun t4 =>
    K (aP_1, aN_1, aC_1, bP_1, bN_1, bC_1) t4

theorem body_ref15_SameInts_L1 (f : (Option Addr) × Nat × Nat × (Option Addr) × Nat × Nat) (s : S_ref15_SameInts_L1) (w : World) (Kn : ((Option Addr) × Nat × Nat × (Option Addr) × Nat × Nat) → S_ref15_SameInts_L1 → World → Prop) (Kx0 : ((Option Addr) × Nat × Nat × (Option Addr) × Nat × Nat) → World → Prop) (Kr : ((Option Addr) × Nat × Nat × (Option Addr) × Nat × Nat) → Bool → World → Prop) :
    B_ref15_SameInts_L1 f.1 f.2.1 f.2.2.1 f.2.2.2.1 f.2.2.2.2.1 f.2.2.2.2.2 s w (fun s1 w1 => Kn f s1 w1) (fun w1 => Kx0 f w1) (fun t4 w1 => Kr f t4 w1) =
    den Try.prog Try.f18.ntmps G_ref15_SameInts (sub (codeOf Try.f18) [false, false, true, false, true, true]) [false, false, true, false, true, true] (roundQ (fun e w => dec_ref15_SameInts_L1 e fun f s => Kn f s w) (fun e w => dx_ref15_SameInts_L1_ret e fun f t4 => Kr f t4 w) (fun id e w => match Nat.beq id 0 with | true => dx_ref15_SameInts_L1_0 e fun f => Kx0 f w | false => False)) (lit_ref15_SameInts_L1 f s) w := by kernel_rfl

theorem ok_ref15_SameInts_L1 : OneOk Try.prog Try.f18.ntmps G_ref15_SameInts (codeOf Try.f18) [false, true, false, true, true] spec_ref15_SameInts_L1 := by
  intro c hc ih Q e w a hr h
  have hcc : sub (codeOf Try.f18) [false, false, true, false, true, true] = c := sub_of_codeAt hc
  obtain ⟨f, s, h, hrep⟩ := dec_ref15_SameInts_L1_ok e a _ hr h
  obtain ⟨J, μ, hj, hround⟩ := h
  refine loop_rule_deep seat_ok seat_mixed ih lit_ref15_SameInts_L1 dec_ref15_SameInts_L1 dec_ref15_SameInts_L1_ok hc f J μ (Kr := fun e w => dx_ref15_SameInts_L1_ret e fun f1 t4 => f1 = f ∧ Q .ret [⟨4, .bool t4, none⟩] w) (Kx := fun id e w => match Nat.beq id 0 with | true => (dx_ref15_SameInts_L1_0 e fun f1 => f1 = f ∧ Q (.exit 0) [] w) | false => False) ?_ ?_ ?_ s w a hj hrep
  · intro e a w hr h0
    unfold dx_ref15_SameInts_L1_ret at h0
    obtain ⟨u1, g0, h1⟩ := onV_elim h0
    obtain ⟨aP_1, aN_1, aC_1, rfl, h2⟩ := asS_elim h1
    obtain ⟨u2, g1, h3⟩ := onV_elim h2
    obtain ⟨bP_1, bN_1, bC_1, rfl, h4⟩ := asS_elim h3
    obtain ⟨u3, g4, h5⟩ := onV_elim h4
    obtain ⟨t4, rfl, h6⟩ := asB_elim h5
    obtain ⟨hf, hq⟩ := h6
    subst hf
    exact ⟨_, rep_less hr (by simp [g4]), hq⟩
  · intro id e a w hr h0
    (try dsimp only at h0)
    split at h0
    · rename_i hid
      obtain rfl := Nat.eq_of_beq_eq_true hid
      unfold dx_ref15_SameInts_L1_0 at h0
      obtain ⟨u1, g0, h1⟩ := onV_elim h0
      obtain ⟨aP_1, aN_1, aC_1, rfl, h2⟩ := asS_elim h1
      obtain ⟨u2, g1, h3⟩ := onV_elim h2
      obtain ⟨bP_1, bN_1, bC_1, rfl, h4⟩ := asS_elim h3
      obtain ⟨hf, hq⟩ := h4
      subst hf
      exact ⟨_, rep_less hr (by simp), hq⟩
    · exact h0.elim
  · intro s w hj
    have hb := hround s w hj
    rw [← hcc]
    have e1 := body_ref15_SameInts_L1 f s w (fun f1 s1 w1 => f1 = f ∧ J s1 w1 ∧ μ s1 w1 < μ s w) (fun f1 w1 => f1 = f ∧ Q (.exit 0) [] w1) (fun f1 t4 w1 => f1 = f ∧ Q .ret [⟨4, .bool t4, none⟩] w1)
    simp only [true_and] at e1
    exact cast e1 hb

theorem loops_ref15_SameInts : LoopOk Try.prog Try.f18.ntmps G_ref15_SameInts (codeOf Try.f18) := loopOk_list rfl ⟨ok_ref15_SameInts_L1, trivial⟩

theorem den_ref15_SameInts (aP : Option Addr) (aN : Nat) (aC : Nat) (bP : Option Addr) (bN : Nat) (bC : Nat) (w : World) (R : Value → World → Prop) :
    F_ref15_SameInts aP aN aC bP bN bC w (fun r w1 => R (.bool r) w1) = den Try.prog Try.f18.ntmps G_ref15_SameInts (codeOf Try.f18) [] (postD Try.prog Try.f18.results.toList R) (entry [.slice aP aN aC, .slice bP bN bC] 0) w := by kernel_rfl

theorem C_ref15_SameInts.of {aP : Option Addr} {aN : Nat} {aC : Nat} {bP : Option Addr} {bN : Nat} {bC : Nat} {w : World} {R : Bool → World → Prop} (h : F_ref15_SameInts aP aN aC bP bN bC w R) : C_ref15_SameInts aP aN aC bP bN bC w R := by
  refine (calls_of_den (c := codeOf Try.f18) seat_ok seat_mixed Try.func18 (by kernel_rfl) loops_ref15_SameInts (args := [.slice aP aN aC, .slice bP bN bC]) rfl (R := fun v w1 => ∃ (r : Bool), v = (.bool r : Value) ∧ R r w1) ?_).mono ?_
  · rw [← den_ref15_SameInts]
    have e : (fun r w1 => ∃ (r' : Bool), (.bool r : Value) = (.bool r' : Value) ∧ R r' w1) = R := by
      funext r w1
      exact propext ⟨fun ⟨r', he, h⟩ => by simp at he; simp_all, fun h => ⟨_, rfl, h⟩⟩
    simpa only [e] using h
  · rintro en w1 ⟨v, he, r, rfl, h⟩
    exact ⟨_, he, h⟩

structure S_index_Table_All_L1 where
  outP : Option Addr
  outN : Nat
  outC : Nat
  idx : Int
  isx : Bool

/-- One round. -/
def B_index_Table_All_L1 (t_1 : Option Addr) (k : Addr) (s : S_index_Table_All_L1) (w : World) (Kn : S_index_Table_All_L1 → World → Prop) (Kx0 : Option Addr → Nat → Nat → World → Prop) : Prop :=
  If s.isx
  (BSl Try.prog 43 1 [(0, .int .i64 s.idx)] w fun t17P t17N t17C w1_2 =>
  App Try.prog #[43, 43] 43 #[.slice s.outP s.outN s.outC, .slice t17P t17N t17C] w1_2 fun t18P t18N t18C w1_3 =>
  ∃ t220 : Int, w1_3.cell? (k.add 0) = some (.int .i64 t220) ∧
  ∃ t221 : ByteArray, w1_3.cell? (k.add 1) = some (.string t221) ∧
  ∃ t222 : Int, w1_3.cell? (k.add 2) = some (.int .i64 t222) ∧
  C_index_Table_Next t_1 (s.idx : Int) t220 t221 t222 w1_3 fun t230 t231 w1_4 =>
  Kn ⟨t18P, t18N, t18C, t230, t231⟩ w1_4)
  (Kx0 s.outP s.outN s.outC w)

def F_index_Table_All_L1 (t_1 : Option Addr) (k : Addr) (s : S_index_Table_All_L1) (w : World) (Kx0 : Option Addr → Nat → Nat → World → Prop) : Prop :=
  LoopS (fun s w Kn => B_index_Table_All_L1 t_1 k s w Kn Kx0) s w

def F_index_Table_All (t : Option Addr) (k0x : Int) (k1x : ByteArray) (k2x : Int) (w : World) (R : Option Addr → Nat → Nat → World → Prop) : Prop :=
  New w (.cells #[.int .i64 k0x, .string k1x, .int .i64 k2x] 26) fun r w1 =>
  ∃ t100 : Int, w1.cell? ((⟨r, 0, none⟩ : Addr).add 0) = some (.int .i64 t100) ∧
  ∃ t101 : ByteArray, w1.cell? ((⟨r, 0, none⟩ : Addr).add 1) = some (.string t101) ∧
  ∃ t102 : Int, w1.cell? ((⟨r, 0, none⟩ : Addr).add 2) = some (.int .i64 t102) ∧
  C_index_Table_Head t t100 t101 t102 w1 fun t110 t111 w1_1 =>
  F_index_Table_All_L1 t ⟨r, 0, none⟩ ⟨none, 0, 0, t110, t111⟩ w1_1
  (fun outP_2 outN_2 outC_2 w1_5 =>
  R outP_2 outN_2 outC_2 w1_5)

def lit_index_Table_All_L1 (f : (Option Addr) × Addr) (s : S_index_Table_All_L1) : Env := [⟨0, .pointer f.1, none⟩, ⟨3, .pointer (some f.2), none⟩, ⟨5, .slice s.outP s.outN s.outC, none⟩, ⟨6, .int .i64 s.idx, none⟩, ⟨7, .bool s.isx, none⟩]

def dec_index_Table_All_L1 (e : Env) (K : ((Option Addr) × Addr) → S_index_Table_All_L1 → Prop) : Prop :=
  onV (getV e 0) fun u1 =>
  asP u1 fun t_1 =>
  onV (getV e 3) fun u2 =>
  asA u2 fun k =>
  onV (getV e 5) fun u3 =>
  asS u3 fun outP outN outC =>
  onV (getV e 6) fun u4 =>
  asI .i64 u4 fun idx =>
  onV (getV e 7) fun u5 =>
  asB u5 fun isx =>
    K (t_1, k) ⟨outP, outN, outC, idx, isx⟩

theorem dec_index_Table_All_L1_ok {N : Nat} (e : Env) (a : Act) (K : ((Option Addr) × Addr) → S_index_Table_All_L1 → Prop) (hr : Rep N a e) (h0 : dec_index_Table_All_L1 e K) : ∃ f s, K f s ∧ Rep N a (lit_index_Table_All_L1 f s) := by
  unfold dec_index_Table_All_L1 at h0
  obtain ⟨u1, g0, h1⟩ := onV_elim h0
  obtain ⟨t_1, rfl, h2⟩ := asP_elim h1
  obtain ⟨u2, g3, h3⟩ := onV_elim h2
  obtain ⟨k, rfl, h4⟩ := asA_elim h3
  obtain ⟨u3, g5, h5⟩ := onV_elim h4
  obtain ⟨outP, outN, outC, rfl, h6⟩ := asS_elim h5
  obtain ⟨u4, g6, h7⟩ := onV_elim h6
  obtain ⟨idx, rfl, h8⟩ := asI_elim h7
  obtain ⟨u5, g7, h9⟩ := onV_elim h8
  obtain ⟨isx, rfl, h10⟩ := asB_elim h9
  exact ⟨_, _, h10, rep_less hr (by simp [lit_index_Table_All_L1, g0, g3, g5, g6, g7])⟩

def spec_index_Table_All_L1 (Q : Post) (e : Env) (w : World) : Prop :=
  dec_index_Table_All_L1 e fun f s => F_index_Table_All_L1 f.1 f.2 s w (fun outP_1 outN_1 outC_1 w1 => Q (.exit 0) [⟨5, .slice outP_1 outN_1 outC_1, none⟩] w1)

def G_index_Table_All : Gen where
  loop := lookL [([false, false, true, true, true], spec_index_Table_All_L1)]
  plan := fun _ => none

def dx_index_Table_All_L1_0 (e : Env) (K : ((Option Addr) × Addr) → Option Addr → Nat → Nat → Prop) : Prop :=
  onV (getV e 0) fun u1 =>
  asP u1 fun t_1 =>
  onV (getV e 3) fun u2 =>
  asA u2 fun k =>
  onV (getV e 5) fun u3 =>
  asS u3 fun outP_1 outN_1 outC_1 =>
    K (t_1, k) outP_1 outN_1 outC_1

theorem body_index_Table_All_L1 (f : (Option Addr) × Addr) (s : S_index_Table_All_L1) (w : World) (Kn : ((Option Addr) × Addr) → S_index_Table_All_L1 → World → Prop) (Kx0 : ((Option Addr) × Addr) → Option Addr → Nat → Nat → World → Prop) :
    B_index_Table_All_L1 f.1 f.2 s w (fun s1 w1 => Kn f s1 w1) (fun outP_1 outN_1 outC_1 w1 => Kx0 f outP_1 outN_1 outC_1 w1) =
    den Try.prog Try.f19.ntmps G_index_Table_All (sub (codeOf Try.f19) [false, false, false, true, true, true]) [false, false, false, true, true, true] (roundQ (fun e w => dec_index_Table_All_L1 e fun f s => Kn f s w) (fun e w => False) (fun id e w => match Nat.beq id 0 with | true => dx_index_Table_All_L1_0 e fun f outP_1 outN_1 outC_1 => Kx0 f outP_1 outN_1 outC_1 w | false => False)) (lit_index_Table_All_L1 f s) w := by kernel_rfl

theorem ok_index_Table_All_L1 : OneOk Try.prog Try.f19.ntmps G_index_Table_All (codeOf Try.f19) [false, false, true, true, true] spec_index_Table_All_L1 := by
  intro c hc ih Q e w a hr h
  have hcc : sub (codeOf Try.f19) [false, false, false, true, true, true] = c := sub_of_codeAt hc
  obtain ⟨f, s, h, hrep⟩ := dec_index_Table_All_L1_ok e a _ hr h
  obtain ⟨J, μ, hj, hround⟩ := h
  refine loop_rule_deep seat_ok seat_mixed ih lit_index_Table_All_L1 dec_index_Table_All_L1 dec_index_Table_All_L1_ok hc f J μ (Kr := fun e w => False) (Kx := fun id e w => match Nat.beq id 0 with | true => (dx_index_Table_All_L1_0 e fun f1 outP_1 outN_1 outC_1 => f1 = f ∧ Q (.exit 0) [⟨5, .slice outP_1 outN_1 outC_1, none⟩] w) | false => False) ?_ ?_ ?_ s w a hj hrep
  · intro e a w hr h
    exact h.elim
  · intro id e a w hr h0
    (try dsimp only at h0)
    split at h0
    · rename_i hid
      obtain rfl := Nat.eq_of_beq_eq_true hid
      unfold dx_index_Table_All_L1_0 at h0
      obtain ⟨u1, g0, h1⟩ := onV_elim h0
      obtain ⟨t_1, rfl, h2⟩ := asP_elim h1
      obtain ⟨u2, g3, h3⟩ := onV_elim h2
      obtain ⟨k, rfl, h4⟩ := asA_elim h3
      obtain ⟨u3, g5, h5⟩ := onV_elim h4
      obtain ⟨outP_1, outN_1, outC_1, rfl, h6⟩ := asS_elim h5
      obtain ⟨hf, hq⟩ := h6
      subst hf
      exact ⟨_, rep_less hr (by simp [g5]), hq⟩
    · exact h0.elim
  · intro s w hj
    have hb := hround s w hj
    rw [← hcc]
    have e1 := body_index_Table_All_L1 f s w (fun f1 s1 w1 => f1 = f ∧ J s1 w1 ∧ μ s1 w1 < μ s w) (fun f1 outP_1 outN_1 outC_1 w1 => f1 = f ∧ Q (.exit 0) [⟨5, .slice outP_1 outN_1 outC_1, none⟩] w1)
    simp only [true_and] at e1
    exact cast e1 hb

theorem loops_index_Table_All : LoopOk Try.prog Try.f19.ntmps G_index_Table_All (codeOf Try.f19) := loopOk_list rfl ⟨ok_index_Table_All_L1, trivial⟩

theorem den_index_Table_All (t : Option Addr) (k0x : Int) (k1x : ByteArray) (k2x : Int) (w : World) (R : Value → World → Prop) :
    F_index_Table_All t k0x k1x k2x w (fun rP rN rC w1 => R (.slice rP rN rC) w1) = den Try.prog Try.f19.ntmps G_index_Table_All (codeOf Try.f19) [] (postD Try.prog Try.f19.results.toList R) (entry [.pointer t, .agg #[.int .i64 k0x, .string k1x, .int .i64 k2x]] 0) w := by kernel_rfl

theorem C_index_Table_All.of {t : Option Addr} {k0x : Int} {k1x : ByteArray} {k2x : Int} {w : World} {R : Option Addr → Nat → Nat → World → Prop} (h : F_index_Table_All t k0x k1x k2x w R) : C_index_Table_All t k0x k1x k2x w R := by
  refine (calls_of_den (c := codeOf Try.f19) seat_ok seat_mixed Try.func19 (by kernel_rfl) loops_index_Table_All (args := [.pointer t, .agg #[.int .i64 k0x, .string k1x, .int .i64 k2x]]) rfl (R := fun v w1 => ∃ (rP : Option Addr) (rN : Nat) (rC : Nat), v = (.slice rP rN rC : Value) ∧ R rP rN rC w1) ?_).mono ?_
  · rw [← den_index_Table_All]
    have e : (fun rP rN rC w1 => ∃ (rP' : Option Addr) (rN' : Nat) (rC' : Nat), (.slice rP rN rC : Value) = (.slice rP' rN' rC' : Value) ∧ R rP' rN' rC' w1) = R := by
      funext rP rN rC w1
      exact propext ⟨fun ⟨rP', rN', rC', he, h⟩ => by simp at he; simp_all, fun h => ⟨_, _, _, rfl, h⟩⟩
    simpa only [e] using h
  · rintro en w1 ⟨v, he, rP, rN, rC, rfl, h⟩
    exact ⟨_, _, _, he, h⟩

structure S_ref18_Table_All_L1 where
  outP : Option Addr
  outN : Nat
  outC : Nat
  i : Int

def F_ref18_Table_All_k1 (s : S_ref18_Table_All_L1) (Kn : S_ref18_Table_All_L1 → World → Prop) (outP_2 : Option Addr) (outN_2 : Nat) (outC_2 : Nat) (w1_4 : World) : Prop :=
  Kn ⟨outP_2, outN_2, outC_2, (IntKind.i64.wrap ((s.i : Int) + (1 : Int)))⟩ w1_4

/-- One round. -/
def B_ref18_Table_All_L1 (t_1 : Option Addr) (k : Addr) (s : S_ref18_Table_All_L1) (w : World) (Kn : S_ref18_Table_All_L1 → World → Prop) (Kx0 : Option Addr → Nat → Nat → World → Prop) : Prop :=
  NN t_1 fun a =>
  ∃ LP : Option Addr, ∃ LN : Nat, ∃ LC : Nat, w.cell? (a.add 0) = some (.slice LP LN LC) ∧
  If (decide ((s.i : Int) < (LN : Int)))
  (NN t_1 fun a_1 =>
  ∃ LP_1 : Option Addr, ∃ LN_1 : Nat, ∃ LC_1 : Nat, (drw w).cell? (a_1.add 0) = some (.slice LP_1 LN_1 LC_1) ∧
  0 ≤ (s.i : Int) ∧ (s.i : Int) < (LN_1 : Int) ∧ NN LP_1 fun a_2 =>
  ∃ Key0 : Int, (drw w).cell? (((a_2.add ((s.i : Int).toNat * 4)).add 1).add 0) = some (.int .i64 Key0) ∧
  ∃ Key1 : ByteArray, (drw w).cell? (((a_2.add ((s.i : Int).toNat * 4)).add 1).add 1) = some (.string Key1) ∧
  ∃ Key2 : Int, (drw w).cell? (((a_2.add ((s.i : Int).toNat * 4)).add 1).add 2) = some (.int .i64 Key2) ∧
  ∃ t240 : Int, (drw w).cell? (k.add 0) = some (.int .i64 t240) ∧
  ∃ t241 : ByteArray, (drw w).cell? (k.add 1) = some (.string t241) ∧
  ∃ t242 : Int, (drw w).cell? (k.add 2) = some (.int .i64 t242) ∧
  C_ref18_Meet Key0 Key1 Key2 t240 t241 t242 (drw w) fun t25 w1_1 =>
  If t25
  (NN t_1 fun a_3 =>
  ∃ LP_2 : Option Addr, ∃ LN_2 : Nat, ∃ LC_2 : Nat, w1_1.cell? (a_3.add 0) = some (.slice LP_2 LN_2 LC_2) ∧
  0 ≤ (s.i : Int) ∧ (s.i : Int) < (LN_2 : Int) ∧ NN LP_2 fun a_4 =>
  ∃ Id : Int, w1_1.cell? ((a_4.add ((s.i : Int).toNat * 4)).add 0) = some (.int .i64 Id) ∧
  BSl Try.prog 43 1 [(0, .int .i64 Id)] w1_1 fun t35P t35N t35C w1_2 =>
  App Try.prog #[43, 43] 43 #[.slice s.outP s.outN s.outC, .slice t35P t35N t35C] w1_2 fun t36P t36N t36C w1_3 =>
  F_ref18_Table_All_k1 s Kn t36P t36N t36C w1_3)
  (F_ref18_Table_All_k1 s Kn s.outP s.outN s.outC w1_1))
  (Kx0 s.outP s.outN s.outC w)

def F_ref18_Table_All_L1 (t_1 : Option Addr) (k : Addr) (s : S_ref18_Table_All_L1) (w : World) (Kx0 : Option Addr → Nat → Nat → World → Prop) : Prop :=
  LoopS (fun s w Kn => B_ref18_Table_All_L1 t_1 k s w Kn Kx0) s w

def F_ref18_Table_All (t : Option Addr) (k0x : Int) (k1x : ByteArray) (k2x : Int) (w : World) (R : Option Addr → Nat → Nat → World → Prop) : Prop :=
  New w (.cells #[.int .i64 k0x, .string k1x, .int .i64 k2x] 26) fun r w1 =>
  F_ref18_Table_All_L1 t ⟨r, 0, none⟩ ⟨none, 0, 0, (0 : Int)⟩ w1
  (fun outP_3 outN_3 outC_3 w1_5 =>
  R outP_3 outN_3 outC_3 w1_5)

def lit_ref18_Table_All_L1 (f : (Option Addr) × Addr) (s : S_ref18_Table_All_L1) : Env := [⟨0, .pointer f.1, none⟩, ⟨3, .pointer (some f.2), none⟩, ⟨5, .slice s.outP s.outN s.outC, none⟩, ⟨6, .int .i64 s.i, none⟩]

def dec_ref18_Table_All_L1 (e : Env) (K : ((Option Addr) × Addr) → S_ref18_Table_All_L1 → Prop) : Prop :=
  onV (getV e 0) fun u1 =>
  asP u1 fun t_1 =>
  onV (getV e 3) fun u2 =>
  asA u2 fun k =>
  onV (getV e 5) fun u3 =>
  asS u3 fun outP outN outC =>
  onV (getV e 6) fun u4 =>
  asI .i64 u4 fun i =>
    K (t_1, k) ⟨outP, outN, outC, i⟩

theorem dec_ref18_Table_All_L1_ok {N : Nat} (e : Env) (a : Act) (K : ((Option Addr) × Addr) → S_ref18_Table_All_L1 → Prop) (hr : Rep N a e) (h0 : dec_ref18_Table_All_L1 e K) : ∃ f s, K f s ∧ Rep N a (lit_ref18_Table_All_L1 f s) := by
  unfold dec_ref18_Table_All_L1 at h0
  obtain ⟨u1, g0, h1⟩ := onV_elim h0
  obtain ⟨t_1, rfl, h2⟩ := asP_elim h1
  obtain ⟨u2, g3, h3⟩ := onV_elim h2
  obtain ⟨k, rfl, h4⟩ := asA_elim h3
  obtain ⟨u3, g5, h5⟩ := onV_elim h4
  obtain ⟨outP, outN, outC, rfl, h6⟩ := asS_elim h5
  obtain ⟨u4, g6, h7⟩ := onV_elim h6
  obtain ⟨i, rfl, h8⟩ := asI_elim h7
  exact ⟨_, _, h8, rep_less hr (by simp [lit_ref18_Table_All_L1, g0, g3, g5, g6])⟩

def spec_ref18_Table_All_L1 (Q : Post) (e : Env) (w : World) : Prop :=
  dec_ref18_Table_All_L1 e fun f s => F_ref18_Table_All_L1 f.1 f.2 s w (fun outP_1 outN_1 outC_1 w1 => Q (.exit 0) [⟨5, .slice outP_1 outN_1 outC_1, none⟩] w1)

def G_ref18_Table_All : Gen where
  loop := lookL [([false, true, false, true, true], spec_ref18_Table_All_L1)]
  plan := fun id =>
    bif Nat.beq id 5 then some ([0, 1, 3, 7, 0, 31, 63, 127, 0, 511], .take 0 (.take 1 (.take 2 (.take 3 (.take 4 (.take 5 (.take 6 (.take 7 (.take 8 (.take 9 .done)))))))))) else none

def dx_ref18_Table_All_L1_0 (e : Env) (K : ((Option Addr) × Addr) → Option Addr → Nat → Nat → Prop) : Prop :=
  onV (getV e 0) fun u1 =>
  asP u1 fun t_1 =>
  onV (getV e 3) fun u2 =>
  asA u2 fun k =>
  onV (getV e 5) fun u3 =>
  asS u3 fun outP_1 outN_1 outC_1 =>
    K (t_1, k) outP_1 outN_1 outC_1

theorem body_ref18_Table_All_L1 (f : (Option Addr) × Addr) (s : S_ref18_Table_All_L1) (w : World) (Kn : ((Option Addr) × Addr) → S_ref18_Table_All_L1 → World → Prop) (Kx0 : ((Option Addr) × Addr) → Option Addr → Nat → Nat → World → Prop) :
    B_ref18_Table_All_L1 f.1 f.2 s w (fun s1 w1 => Kn f s1 w1) (fun outP_1 outN_1 outC_1 w1 => Kx0 f outP_1 outN_1 outC_1 w1) =
    den Try.prog Try.f20.ntmps G_ref18_Table_All (sub (codeOf Try.f20) [false, false, true, false, true, true]) [false, false, true, false, true, true] (roundQ (fun e w => dec_ref18_Table_All_L1 e fun f s => Kn f s w) (fun e w => False) (fun id e w => match Nat.beq id 0 with | true => dx_ref18_Table_All_L1_0 e fun f outP_1 outN_1 outC_1 => Kx0 f outP_1 outN_1 outC_1 w | false => False)) (lit_ref18_Table_All_L1 f s) w := by kernel_rfl

theorem ok_ref18_Table_All_L1 : OneOk Try.prog Try.f20.ntmps G_ref18_Table_All (codeOf Try.f20) [false, true, false, true, true] spec_ref18_Table_All_L1 := by
  intro c hc ih Q e w a hr h
  have hcc : sub (codeOf Try.f20) [false, false, true, false, true, true] = c := sub_of_codeAt hc
  obtain ⟨f, s, h, hrep⟩ := dec_ref18_Table_All_L1_ok e a _ hr h
  obtain ⟨J, μ, hj, hround⟩ := h
  refine loop_rule_deep seat_ok seat_mixed ih lit_ref18_Table_All_L1 dec_ref18_Table_All_L1 dec_ref18_Table_All_L1_ok hc f J μ (Kr := fun e w => False) (Kx := fun id e w => match Nat.beq id 0 with | true => (dx_ref18_Table_All_L1_0 e fun f1 outP_1 outN_1 outC_1 => f1 = f ∧ Q (.exit 0) [⟨5, .slice outP_1 outN_1 outC_1, none⟩] w) | false => False) ?_ ?_ ?_ s w a hj hrep
  · intro e a w hr h
    exact h.elim
  · intro id e a w hr h0
    (try dsimp only at h0)
    split at h0
    · rename_i hid
      obtain rfl := Nat.eq_of_beq_eq_true hid
      unfold dx_ref18_Table_All_L1_0 at h0
      obtain ⟨u1, g0, h1⟩ := onV_elim h0
      obtain ⟨t_1, rfl, h2⟩ := asP_elim h1
      obtain ⟨u2, g3, h3⟩ := onV_elim h2
      obtain ⟨k, rfl, h4⟩ := asA_elim h3
      obtain ⟨u3, g5, h5⟩ := onV_elim h4
      obtain ⟨outP_1, outN_1, outC_1, rfl, h6⟩ := asS_elim h5
      obtain ⟨hf, hq⟩ := h6
      subst hf
      exact ⟨_, rep_less hr (by simp [g5]), hq⟩
    · exact h0.elim
  · intro s w hj
    have hb := hround s w hj
    rw [← hcc]
    have e1 := body_ref18_Table_All_L1 f s w (fun f1 s1 w1 => f1 = f ∧ J s1 w1 ∧ μ s1 w1 < μ s w) (fun f1 outP_1 outN_1 outC_1 w1 => f1 = f ∧ Q (.exit 0) [⟨5, .slice outP_1 outN_1 outC_1, none⟩] w1)
    simp only [true_and] at e1
    exact cast e1 hb

theorem loops_ref18_Table_All : LoopOk Try.prog Try.f20.ntmps G_ref18_Table_All (codeOf Try.f20) := loopOk_list rfl ⟨ok_ref18_Table_All_L1, trivial⟩

theorem den_ref18_Table_All (t : Option Addr) (k0x : Int) (k1x : ByteArray) (k2x : Int) (w : World) (R : Value → World → Prop) :
    F_ref18_Table_All t k0x k1x k2x w (fun rP rN rC w1 => R (.slice rP rN rC) w1) = den Try.prog Try.f20.ntmps G_ref18_Table_All (codeOf Try.f20) [] (postD Try.prog Try.f20.results.toList R) (entry [.pointer t, .agg #[.int .i64 k0x, .string k1x, .int .i64 k2x]] 0) w := by kernel_rfl

theorem C_ref18_Table_All.of {t : Option Addr} {k0x : Int} {k1x : ByteArray} {k2x : Int} {w : World} {R : Option Addr → Nat → Nat → World → Prop} (h : F_ref18_Table_All t k0x k1x k2x w R) : C_ref18_Table_All t k0x k1x k2x w R := by
  refine (calls_of_den (c := codeOf Try.f20) seat_ok seat_mixed Try.func20 (by kernel_rfl) loops_ref18_Table_All (args := [.pointer t, .agg #[.int .i64 k0x, .string k1x, .int .i64 k2x]]) rfl (R := fun v w1 => ∃ (rP : Option Addr) (rN : Nat) (rC : Nat), v = (.slice rP rN rC : Value) ∧ R rP rN rC w1) ?_).mono ?_
  · rw [← den_ref18_Table_All]
    have e : (fun rP rN rC w1 => ∃ (rP' : Option Addr) (rN' : Nat) (rC' : Nat), (.slice rP rN rC : Value) = (.slice rP' rN' rC' : Value) ∧ R rP' rN' rC' w1) = R := by
      funext rP rN rC w1
      exact propext ⟨fun ⟨rP', rN', rC', he, h⟩ => by simp at he; simp_all, fun h => ⟨_, _, _, rfl, h⟩⟩
    simpa only [e] using h
  · rintro en w1 ⟨v, he, rP, rN, rC, rfl, h⟩
    exact ⟨_, _, _, he, h⟩

def F_index_Table_Drop_k1 (t : Option Addr) (idx : Int) (R : Int → World → Prop) (w1_14 : World) : Prop :=
  NN t fun a_7 =>
  ∃ atx_1 : Option Nat, w1_14.cell? (a_7.add 2) = some (.map atx_1) ∧
  Del Try.prog #[56, 3] 0 #[.map atx_1, .int .i64 idx] w1_14 fun v_4 w1_15 =>
  R (0 : Int) w1_15

def F_index_Table_Drop (t : Option Addr) (idx : Int) (w : World) (R : Int → World → Prop) : Prop :=
  C_index_Table_made t w fun t8 w1 =>
  If (!t8)
  (R (6 : Int) w1)
  (NN t fun a =>
  ∃ atx : Option Nat, w1.cell? (a.add 2) = some (.map atx) ∧
  Run Try.prog (Instr.lookup 56 (.map atx) (.int .i64 idx) true) w1 fun v w1_1 => ∃ t1600 : Int, ∃ t1601 : ByteArray, ∃ t1602 : Int, ∃ t1603 : Int, ∃ t161 : Bool, v = (.tuple #[.agg #[.int .i64 t1600, .string t1601, .int .i64 t1602, .int .i64 t1603], .bool t161]) ∧
  New w1_1 (.cells #[.int .i64 0, .string ⟨#[]⟩, .int .i64 0, .int .i64 0] 64) fun r w1_2 =>
  St w1_2 ((⟨r, 0, none⟩ : Addr).add 0) (.int .i64 t1600) fun w1_3 =>
  St w1_3 ((⟨r, 0, none⟩ : Addr).add 1) (.string t1601) fun w1_4 =>
  St w1_4 ((⟨r, 0, none⟩ : Addr).add 2) (.int .i64 t1602) fun w1_5 =>
  St w1_5 ((⟨r, 0, none⟩ : Addr).add 3) (.int .i64 t1603) fun w1_6 =>
  If (!t161)
  (R (4 : Int) w1_6)
  (NN t fun a_1 =>
  ∃ allP : Option Addr, ∃ allN : Nat, ∃ allC : Nat, (drw w1_6).cell? (a_1.add 1) = some (.slice allP allN allC) ∧
  ∃ rank : Int, (drw w1_6).cell? ((⟨r, 0, none⟩ : Addr).add 3) = some (.int .i64 rank) ∧
  C_index_cut allP allN allC rank (drw w1_6) fun t28P t28N t28C w1_7 =>
  NN t fun a_2 =>
  St w1_7 ((a_2.add 1).add 0) (.slice t28P t28N t28C) fun w1_8 =>
  NN t fun a_3 =>
  ∃ rows : Option Nat, (drw w1_8).cell? (a_3.add 0) = some (.map rows) ∧
  ∃ key0 : Int, (drw w1_8).cell? (((⟨r, 0, none⟩ : Addr).add 0).add 0) = some (.int .i64 key0) ∧
  ∃ key1 : ByteArray, (drw w1_8).cell? (((⟨r, 0, none⟩ : Addr).add 0).add 1) = some (.string key1) ∧
  ∃ key2 : Int, (drw w1_8).cell? (((⟨r, 0, none⟩ : Addr).add 0).add 2) = some (.int .i64 key2) ∧
  NN t fun a_4 =>
  ∃ rows_1 : Option Nat, (drw w1_8).cell? (a_4.add 0) = some (.map rows_1) ∧
  ∃ key0_1 : Int, (drw w1_8).cell? (((⟨r, 0, none⟩ : Addr).add 0).add 0) = some (.int .i64 key0_1) ∧
  ∃ key1_1 : ByteArray, (drw w1_8).cell? (((⟨r, 0, none⟩ : Addr).add 0).add 1) = some (.string key1_1) ∧
  ∃ key2_1 : Int, (drw w1_8).cell? (((⟨r, 0, none⟩ : Addr).add 0).add 2) = some (.int .i64 key2_1) ∧
  ∃ rank_1 : Int, (drw w1_8).cell? ((⟨r, 0, none⟩ : Addr).add 3) = some (.int .i64 rank_1) ∧
  Run Try.prog (Instr.lookup 55 (.map rows_1) (.agg #[.int .i64 key0_1, .string key1_1, .int .i64 key2_1]) false) (drw w1_8) fun v_1 w1_9 => ∃ t43P : Option Addr, ∃ t43N : Nat, ∃ t43C : Nat, v_1 = (.slice t43P t43N t43C) ∧
  w1_9.cell? ((⟨r, 0, none⟩ : Addr).add 3) = (drw w1_8).cell? ((⟨r, 0, none⟩ : Addr).add 3) ∧
  (∀ i, i < 3 → w1_9.cell? (((⟨r, 0, none⟩ : Addr).add 0).add i) = (drw w1_8).cell? (((⟨r, 0, none⟩ : Addr).add 0).add i)) ∧
  w1_9.cell? (a_3.add 0) = (drw w1_8).cell? (a_3.add 0) ∧
  C_index_cut t43P t43N t43C rank_1 w1_9 fun t46P t46N t46C w1_10 =>
  (∀ i, i < 3 → w1_10.cell? (((⟨r, 0, none⟩ : Addr).add 0).add i) = (drw w1_8).cell? (((⟨r, 0, none⟩ : Addr).add 0).add i)) ∧
  w1_10.cell? (a_3.add 0) = (drw w1_8).cell? (a_3.add 0) ∧
  MUp Try.prog 55 (.map rows) (.agg #[.int .i64 key0, .string key1, .int .i64 key2]) (.slice t46P t46N t46C) w1_10 fun w1_11 =>
  NN t fun a_5 =>
  ∃ rows_2 : Option Nat, (drw w1_11).cell? (a_5.add 0) = some (.map rows_2) ∧
  ∃ key0_2 : Int, (drw w1_11).cell? (((⟨r, 0, none⟩ : Addr).add 0).add 0) = some (.int .i64 key0_2) ∧
  ∃ key1_2 : ByteArray, (drw w1_11).cell? (((⟨r, 0, none⟩ : Addr).add 0).add 1) = some (.string key1_2) ∧
  ∃ key2_2 : Int, (drw w1_11).cell? (((⟨r, 0, none⟩ : Addr).add 0).add 2) = some (.int .i64 key2_2) ∧
  Run Try.prog (Instr.lookup 55 (.map rows_2) (.agg #[.int .i64 key0_2, .string key1_2, .int .i64 key2_2]) false) (drw w1_11) fun v_2 w1_12 => ∃ t53P : Option Addr, ∃ t53N : Nat, ∃ t53C : Nat, v_2 = (.slice t53P t53N t53C) ∧
  If ((t53N : Int) == (0 : Int))
  (NN t fun a_6 =>
  ∃ rows_3 : Option Nat, (drw w1_12).cell? (a_6.add 0) = some (.map rows_3) ∧
  ∃ key0_3 : Int, (drw w1_12).cell? (((⟨r, 0, none⟩ : Addr).add 0).add 0) = some (.int .i64 key0_3) ∧
  ∃ key1_3 : ByteArray, (drw w1_12).cell? (((⟨r, 0, none⟩ : Addr).add 0).add 1) = some (.string key1_3) ∧
  ∃ key2_3 : Int, (drw w1_12).cell? (((⟨r, 0, none⟩ : Addr).add 0).add 2) = some (.int .i64 key2_3) ∧
  Del Try.prog #[55, 26] 0 #[.map rows_3, .agg #[.int .i64 key0_3, .string key1_3, .int .i64 key2_3]] (drw w1_12) fun v_3 w1_13 =>
  F_index_Table_Drop_k1 t idx R w1_13)
  (F_index_Table_Drop_k1 t idx R w1_12)))

def G_index_Table_Drop : Gen where
  loop := lookL []
  plan := fun id =>
    bif Nat.beq id 6 then some ([0, 0, 2, 6, 14, 0, 32, 126, 255, 511, 1023], .take 0 (.take 1 (.take 2 (.take 3 (.take 4 (.take 5 (.take 6 (.take 7 (.take 8 (.take 9 (.take 10 .done))))))))))) else
    bif Nat.beq id 7 then some ([0, 1, 3, 7, 0, 16, 0, 64, 192, 448, 0, 1024, 4032, 0, 8192, 32704, 65535], .take 0 (.take 1 (.take 2 (.take 3 (.take 4 (.take 5 (.take 6 (.take 7 (.take 8 (.take 9 (.take 10 (.take 11 (.take 13 (.take 14 (.take 12 (.take 15 (.take 16 .done))))))))))))))))) else
    bif Nat.beq id 8 then some ([0, 1, 3, 7, 0, 16, 63, 127, 255], .take 0 (.take 1 (.take 2 (.take 3 (.take 4 (.take 5 (.take 6 (.take 7 (.take 8 .done))))))))) else
    bif Nat.beq id 9 then some ([0, 1, 3, 7, 0, 16, 63], .take 0 (.take 1 (.take 2 (.take 3 (.take 4 (.take 5 (.take 6 .done))))))) else none

theorem loops_index_Table_Drop : LoopOk Try.prog Try.f21.ntmps G_index_Table_Drop (codeOf Try.f21) := loopOk_none fun _ => rfl

theorem den_index_Table_Drop (t : Option Addr) (idx : Int) (w : World) (R : Value → World → Prop) :
    F_index_Table_Drop t idx w (fun r w1 => R (.int .i64 r) w1) = den Try.prog Try.f21.ntmps G_index_Table_Drop (codeOf Try.f21) [] (postD Try.prog Try.f21.results.toList R) (entry [.pointer t, .int .i64 idx] 0) w := by kernel_rfl

theorem C_index_Table_Drop.of {t : Option Addr} {idx : Int} {w : World} {R : Int → World → Prop} (h : F_index_Table_Drop t idx w R) : C_index_Table_Drop t idx w R := by
  refine (calls_of_den (c := codeOf Try.f21) seat_ok seat_mixed Try.func21 (by kernel_rfl) loops_index_Table_Drop (args := [.pointer t, .int .i64 idx]) rfl (R := fun v w1 => ∃ (r : Int), v = (.int .i64 r : Value) ∧ R r w1) ?_).mono ?_
  · rw [← den_index_Table_Drop]
    have e : (fun r w1 => ∃ (r' : Int), (.int .i64 r : Value) = (.int .i64 r' : Value) ∧ R r' w1) = R := by
      funext r w1
      exact propext ⟨fun ⟨r', he, h⟩ => by simp at he; simp_all, fun h => ⟨_, rfl, h⟩⟩
    simpa only [e] using h
  · rintro en w1 ⟨v, he, r, rfl, h⟩
    exact ⟨_, he, h⟩

end Go.Proofs.Ytpkfckfdehaamaa
