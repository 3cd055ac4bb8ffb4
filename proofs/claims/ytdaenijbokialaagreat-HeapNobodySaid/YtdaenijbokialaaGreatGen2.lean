/- The formulas of this seat's functions, held against the loaded program by the kernel. Printed by a program. -/
import Derived.Test.YtdaenijbokialaaGreatGenC
set_option maxRecDepth 100000
set_option linter.unusedVariables false
namespace Go.Proofs.YtdaenijbokialaaGreat
open Go Go.D Go.Proofs

def F_law20_HeapNobody_k1 (R : Bool → World → Prop) (w1_26 : World) : Prop :=
  R false w1_26

def F_law20_HeapNobody (t0 : Int) (t1 : Int) (t2 : ByteArray) (t3P : Option Addr) (t3N : Nat) (t3C : Nat) (wx : Int) (i : Int) (w : World) (R : Bool → World → Prop) : Prop :=
  New w (.cells #[.int .i64 t0, .int .i64 t1, .string t2, .slice t3P t3N t3C] 31) fun r w1 =>
  C_heap_Heap_Atom none ⟨#[97]⟩ w1 fun t310 t311 w1_1 =>
  C_heap_Heap_Int none i w1_1 fun t370 t371 w1_2 =>
  C_heap_Heap_Var none w1_2 fun t420 t421 w1_3 =>
  C_heap_Heap_Struct none ⟨#[97]⟩ i w1_3 fun t480 t481 w1_4 =>
  C_heap_Heap_Arg none wx i w1_4 fun t550 t551 w1_5 =>
  C_heap_Heap_Bind none wx wx w1_5 fun t620 t621 w1_6 =>
  C_heap_Heap_Unify none wx wx w1_6 fun t690 t691 w1_7 =>
  C_heap_Heap_Open none w1_7 fun t740 t741 w1_8 =>
  ∃ t790 : Int, w1_8.cell? ((⟨r, 0, none⟩ : Addr).add 0) = some (.int .i64 t790) ∧
  ∃ t791 : Int, w1_8.cell? ((⟨r, 0, none⟩ : Addr).add 1) = some (.int .i64 t791) ∧
  ∃ t792 : ByteArray, w1_8.cell? ((⟨r, 0, none⟩ : Addr).add 2) = some (.string t792) ∧
  ∃ t793P : Option Addr, ∃ t793N : Nat, ∃ t793C : Nat, w1_8.cell? ((⟨r, 0, none⟩ : Addr).add 3) = some (.slice t793P t793N t793C) ∧
  C_heap_Heap_Encode none t790 t791 t792 t793P t793N t793C none w1_8 fun t800 t801 w1_9 =>
  BSl Tryz.prog 36 1 [(0, .int .u64 wx)] w1_9 fun t86P t86N t86C w1_10 =>
  C_heap_Heap_Decode none t86P t86N t86C w1_10 fun t870P t870N t870C t871P t871N t871C t872 w1_11 =>
  C_law20_lives  w1_11 fun t91 w1_12 =>
  If t91
  (If (t311 == (6 : Int))
  (If (t371 == (6 : Int))
  (If (t421 == (6 : Int))
  (If (t481 == (6 : Int))
  (If (t551 == (6 : Int))
  (If (t621 == (6 : Int))
  (If (t691 == (6 : Int))
  (If (t741 == (6 : Int))
  (If (t801 == (6 : Int))
  (If (t872 == (6 : Int))
  (C_heap_Heap_Put none wx i wx w1_12 fun t137 w1_13 =>
  If (t137 == (6 : Int))
  (C_heap_Heap_Deref none wx w1_13 fun t143 w1_14 =>
  If (t143 == (0 : Int))
  (C_heap_Heap_Is none wx ⟨#[97]⟩ (0 : Int) w1_14 fun t149 w1_15 =>
  If (!t149)
  (C_heap_Heap_Reaches none wx wx w1_15 fun t156 w1_16 =>
  If (!t156)
  (C_heap_Heap_Undo none i w1_16 fun t162 w1_17 =>
  If (t162 == (6 : Int))
  (C_heap_Heap_Back none w1_17 fun t167 w1_18 =>
  If (t167 == (6 : Int))
  (C_heap_Heap_Close none w1_18 fun t172 w1_19 =>
  If (t172 == (6 : Int))
  (C_heap_Heap_Key none wx w1_19 fun t1780 t1781 t1782 w1_20 =>
  AggEq Tryz.prog 43 (.agg #[.int .i64 t1780, .string t1781, .int .i64 t1782]) (.agg #[.int .i64 0, .string ⟨#[]⟩, .int .i64 0]) fun bb =>
  If bb
  (C_heap_Heap_Pool none w1_20 fun t184 w1_21 =>
  If t184.isNone
  (C_heap_Heap_Trail none w1_21 fun t189 w1_22 =>
  If t189.isNone
  (C_heap_Heap_Atoms none w1_22 fun t194 w1_23 =>
  If t194.isNone
  (C_heap_Heap_Functors none w1_23 fun t199 w1_24 =>
  If t199.isNone
  (C_heap_Heap_Cell none i w1_24 fun t205 w1_25 =>
  R (t205 == (0 : Int)) w1_25)
  (F_law20_HeapNobody_k1 R w1_24))
  (F_law20_HeapNobody_k1 R w1_23))
  (F_law20_HeapNobody_k1 R w1_22))
  (F_law20_HeapNobody_k1 R w1_21))
  (F_law20_HeapNobody_k1 R w1_20))
  (F_law20_HeapNobody_k1 R w1_19))
  (F_law20_HeapNobody_k1 R w1_18))
  (F_law20_HeapNobody_k1 R w1_17))
  (F_law20_HeapNobody_k1 R w1_16))
  (F_law20_HeapNobody_k1 R w1_15))
  (F_law20_HeapNobody_k1 R w1_14))
  (F_law20_HeapNobody_k1 R w1_13))
  (F_law20_HeapNobody_k1 R w1_12))
  (F_law20_HeapNobody_k1 R w1_12))
  (F_law20_HeapNobody_k1 R w1_12))
  (F_law20_HeapNobody_k1 R w1_12))
  (F_law20_HeapNobody_k1 R w1_12))
  (F_law20_HeapNobody_k1 R w1_12))
  (F_law20_HeapNobody_k1 R w1_12))
  (F_law20_HeapNobody_k1 R w1_12))
  (F_law20_HeapNobody_k1 R w1_12))
  (F_law20_HeapNobody_k1 R w1_12))
  (F_law20_HeapNobody_k1 R w1_12)

def G_law20_HeapNobody : Gen where
  loop := lookL []
  plan := fun _ => none

theorem loops_law20_HeapNobody : LoopOk Tryz.prog Tryz.f10.ntmps G_law20_HeapNobody (codeOf Tryz.f10) := loopOk_none fun _ => rfl

theorem den_law20_HeapNobody (t0 : Int) (t1 : Int) (t2 : ByteArray) (t3P : Option Addr) (t3N : Nat) (t3C : Nat) (wx : Int) (i : Int) (w : World) (R : Value → World → Prop) :
    F_law20_HeapNobody t0 t1 t2 t3P t3N t3C wx i w (fun r w1 => R (.bool r) w1) = den Tryz.prog Tryz.f10.ntmps G_law20_HeapNobody (codeOf Tryz.f10) [] (postD Tryz.prog Tryz.f10.results.toList R) (entry [.agg #[.int .i64 t0, .int .i64 t1, .string t2, .slice t3P t3N t3C], .int .u64 wx, .int .i64 i] 0) w := by kernel_rfl

theorem C_law20_HeapNobody.of {t0 : Int} {t1 : Int} {t2 : ByteArray} {t3P : Option Addr} {t3N : Nat} {t3C : Nat} {wx : Int} {i : Int} {w : World} {R : Bool → World → Prop} (h : F_law20_HeapNobody t0 t1 t2 t3P t3N t3C wx i w R) : C_law20_HeapNobody t0 t1 t2 t3P t3N t3C wx i w R := by
  refine (calls_of_den (c := codeOf Tryz.f10) seat_ok seat_mixed Tryz.func10 (by kernel_rfl) loops_law20_HeapNobody (args := [.agg #[.int .i64 t0, .int .i64 t1, .string t2, .slice t3P t3N t3C], .int .u64 wx, .int .i64 i]) rfl (R := fun v w1 => ∃ (r : Bool), v = (.bool r : Value) ∧ R r w1) ?_).mono ?_
  · rw [← den_law20_HeapNobody]
    have e : (fun r w1 => ∃ (r' : Bool), (.bool r : Value) = (.bool r' : Value) ∧ R r' w1) = R := by
      funext r w1
      exact propext ⟨fun ⟨r', he, h⟩ => by first | (simp at he; simp_all) | (cases he; exact h), fun h => ⟨_, rfl, h⟩⟩
    simpa only [e] using h
  · rintro en w1 ⟨v, he, r, rfl, h⟩
    exact ⟨_, he, h⟩

end Go.Proofs.YtdaenijbokialaaGreat
