/- The formulas of this seat's functions, held against the loaded program by the kernel. Printed by a program. -/
import Derived.Test.YtdaenijbokialaaGreatGenC
set_option maxRecDepth 100000
set_option linter.unusedVariables false
namespace Go.Proofs.YtdaenijbokialaaGreat
open Go Go.D Go.Proofs

def F_law20_HeapWords_k1 (R : Bool → World → Prop) (w1_5 : World) : Prop :=
  R false w1_5

def F_law20_HeapWords_k2 (R : Bool → World → Prop) (w1_18 : World) : Prop :=
  R false w1_18

def F_law20_HeapWords (t0 : Int) (t1 : Int) (t2 : ByteArray) (t3P : Option Addr) (t3N : Nat) (t3C : Nat) (a : Int) (b : Int) (i : Int) (w : World) (R : Bool → World → Prop) : Prop :=
  New w (.cells #[.int .i64 t0, .int .i64 t1, .string t2, .slice t3P t3N t3C] 31) fun r w1 =>
  ∃ t210 : Int, w1.cell? ((⟨r, 0, none⟩ : Addr).add 0) = some (.int .i64 t210) ∧
  ∃ t211 : Int, w1.cell? ((⟨r, 0, none⟩ : Addr).add 1) = some (.int .i64 t211) ∧
  ∃ t212 : ByteArray, w1.cell? ((⟨r, 0, none⟩ : Addr).add 2) = some (.string t212) ∧
  ∃ t213P : Option Addr, ∃ t213N : Nat, ∃ t213C : Nat, w1.cell? ((⟨r, 0, none⟩ : Addr).add 3) = some (.slice t213P t213N t213C) ∧
  C_ref06_Large t210 t211 t212 t213P t213N t213C w1 fun t22 w1_1 =>
  If t22
  (C_law20_lives  w1_1 fun t23 w1_2 =>
  R t23 w1_2)
  (C_heap_New (16384 : Int) (100 : Int) w1_1 fun t250 t251 w1_3 =>
  C_law20_lives  w1_3 fun t28 w1_4 =>
  If (!t28)
  (F_law20_HeapWords_k1 R w1_4)
  (If (t251 != (0 : Int))
  (F_law20_HeapWords_k1 R w1_4)
  (If t250.isNone
  (R false w1_4)
  (∃ t390 : Int, w1_4.cell? ((⟨r, 0, none⟩ : Addr).add 0) = some (.int .i64 t390) ∧
  ∃ t391 : Int, w1_4.cell? ((⟨r, 0, none⟩ : Addr).add 1) = some (.int .i64 t391) ∧
  ∃ t392 : ByteArray, w1_4.cell? ((⟨r, 0, none⟩ : Addr).add 2) = some (.string t392) ∧
  ∃ t393P : Option Addr, ∃ t393N : Nat, ∃ t393C : Nat, w1_4.cell? ((⟨r, 0, none⟩ : Addr).add 3) = some (.slice t393P t393N t393C) ∧
  C_heap_Heap_Encode t250 t390 t391 t392 t393P t393N t393C none w1_4 fun t400 t401 w1_6 =>
  C_heap_Heap_Unify t250 a b w1_6 fun t450 t451 w1_7 =>
  C_heap_Heap_Bind t250 a b w1_7 fun t520 t521 w1_8 =>
  C_heap_Heap_Arg t250 a i w1_8 fun t590 t591 w1_9 =>
  BSl Tryz.prog 36 2 [(0, .int .u64 a), (1, .int .u64 b)] w1_9 fun t66P t66N t66C w1_10 =>
  C_heap_Heap_Decode t250 t66P t66N t66C w1_10 fun t670P t670N t670C t671P t671N t671C t672 w1_11 =>
  C_heap_Heap_Put t250 a i b w1_11 fun t75 w1_12 =>
  C_heap_Heap_Reaches t250 a b w1_12 fun t79 w1_13 =>
  C_heap_Heap_Is t250 a ⟨#[102]⟩ i w1_13 fun t83 w1_14 =>
  C_heap_Heap_Key t250 a w1_14 fun t860 t861 t862 w1_15 =>
  C_heap_Heap_Cell t250 i w1_15 fun t89 w1_16 =>
  C_heap_Heap_Deref t250 a w1_16 fun t92 w1_17 =>
  If (t92 != (0 : Int))
  (R true w1_17)
  (If (t451 == (1 : Int))
  (If (t521 == (1 : Int))
  (If (t591 == (1 : Int))
  (R (t672 == (1 : Int)) w1_17)
  (F_law20_HeapWords_k2 R w1_17))
  (F_law20_HeapWords_k2 R w1_17))
  (F_law20_HeapWords_k2 R w1_17))))))

def G_law20_HeapWords : Gen where
  loop := lookL []
  plan := fun _ => none

theorem loops_law20_HeapWords : LoopOk Tryz.prog Tryz.f6.ntmps G_law20_HeapWords (codeOf Tryz.f6) := loopOk_none fun _ => rfl

theorem C_law20_HeapWords.of {t0 : Int} {t1 : Int} {t2 : ByteArray} {t3P : Option Addr} {t3N : Nat} {t3C : Nat} {a : Int} {b : Int} {i : Int} {w : World} {R : Bool → World → Prop} (h : F_law20_HeapWords t0 t1 t2 t3P t3N t3C a b i w R) : C_law20_HeapWords t0 t1 t2 t3P t3N t3C a b i w R := ofS2 (Fm := F_law20_HeapWords t0 t1 t2 t3P t3N t3C a b i w) Tryz.func6 (by kernel_rfl) loops_law20_HeapWords rfl (fun _ => by kernel_rfl) h

end Go.Proofs.YtdaenijbokialaaGreat
