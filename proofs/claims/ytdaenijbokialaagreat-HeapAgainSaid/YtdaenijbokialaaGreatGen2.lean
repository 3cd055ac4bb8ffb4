/- The formulas of this seat's functions, held against the loaded program by the kernel. Printed by a program. -/
import Derived.Test.YtdaenijbokialaaGreatGenC
set_option maxRecDepth 100000
set_option linter.unusedVariables false
namespace Go.Proofs.YtdaenijbokialaaGreat
open Go Go.D Go.Proofs

def F_law20_HeapAgain_k1 (R : Bool → World → Prop) (w1_6 : World) : Prop :=
  C_law20_lives  w1_6 fun t30 w1_7 =>
  R t30 w1_7

def F_law20_HeapAgain_k2 (R : Bool → World → Prop) (w1_11 : World) : Prop :=
  R false w1_11

def F_law20_HeapAgain_k3 (R : Bool → World → Prop) (w1_21 : World) : Prop :=
  R false w1_21

def F_law20_HeapAgain (a0 : Int) (a1 : Int) (a2 : ByteArray) (a3P : Option Addr) (a3N : Nat) (a3C : Nat) (b0 : Int) (b1 : Int) (b2 : ByteArray) (b3P : Option Addr) (b3N : Nat) (b3C : Nat) (w : World) (R : Bool → World → Prop) : Prop :=
  New w (.cells #[.int .i64 a0, .int .i64 a1, .string a2, .slice a3P a3N a3C] 31) fun r w1 =>
  New w1 (.cells #[.int .i64 b0, .int .i64 b1, .string b2, .slice b3P b3N b3C] 31) fun r_1 w1_1 =>
  ∃ t140 : Int, w1_1.cell? ((⟨r, 0, none⟩ : Addr).add 0) = some (.int .i64 t140) ∧
  ∃ t141 : Int, w1_1.cell? ((⟨r, 0, none⟩ : Addr).add 1) = some (.int .i64 t141) ∧
  ∃ t142 : ByteArray, w1_1.cell? ((⟨r, 0, none⟩ : Addr).add 2) = some (.string t142) ∧
  ∃ t143P : Option Addr, ∃ t143N : Nat, ∃ t143C : Nat, w1_1.cell? ((⟨r, 0, none⟩ : Addr).add 3) = some (.slice t143P t143N t143C) ∧
  C_ref06_Large t140 t141 t142 t143P t143N t143C w1_1 fun t15 w1_2 =>
  If t15
  (F_law20_HeapAgain_k1 R w1_2)
  (∃ t170 : Int, w1_2.cell? ((⟨r_1, 0, none⟩ : Addr).add 0) = some (.int .i64 t170) ∧
  ∃ t171 : Int, w1_2.cell? ((⟨r_1, 0, none⟩ : Addr).add 1) = some (.int .i64 t171) ∧
  ∃ t172 : ByteArray, w1_2.cell? ((⟨r_1, 0, none⟩ : Addr).add 2) = some (.string t172) ∧
  ∃ t173P : Option Addr, ∃ t173N : Nat, ∃ t173C : Nat, w1_2.cell? ((⟨r_1, 0, none⟩ : Addr).add 3) = some (.slice t173P t173N t173C) ∧
  C_ref06_Large t170 t171 t172 t173P t173N t173C w1_2 fun t18 w1_3 =>
  If t18
  (F_law20_HeapAgain_k1 R w1_3)
  (∃ t210 : Int, w1_3.cell? ((⟨r, 0, none⟩ : Addr).add 0) = some (.int .i64 t210) ∧
  ∃ t211 : Int, w1_3.cell? ((⟨r, 0, none⟩ : Addr).add 1) = some (.int .i64 t211) ∧
  ∃ t212 : ByteArray, w1_3.cell? ((⟨r, 0, none⟩ : Addr).add 2) = some (.string t212) ∧
  ∃ t213P : Option Addr, ∃ t213N : Nat, ∃ t213C : Nat, w1_3.cell? ((⟨r, 0, none⟩ : Addr).add 3) = some (.slice t213P t213N t213C) ∧
  C_ref06_Check t210 t211 t212 t213P t213N t213C w1_3 fun t22 w1_4 =>
  If (t22 != (0 : Int))
  (F_law20_HeapAgain_k1 R w1_4)
  (∃ t260 : Int, w1_4.cell? ((⟨r_1, 0, none⟩ : Addr).add 0) = some (.int .i64 t260) ∧
  ∃ t261 : Int, w1_4.cell? ((⟨r_1, 0, none⟩ : Addr).add 1) = some (.int .i64 t261) ∧
  ∃ t262 : ByteArray, w1_4.cell? ((⟨r_1, 0, none⟩ : Addr).add 2) = some (.string t262) ∧
  ∃ t263P : Option Addr, ∃ t263N : Nat, ∃ t263C : Nat, w1_4.cell? ((⟨r_1, 0, none⟩ : Addr).add 3) = some (.slice t263P t263N t263C) ∧
  C_ref06_Check t260 t261 t262 t263P t263N t263C w1_4 fun t27 w1_5 =>
  If (t27 != (0 : Int))
  (C_law20_lives  w1_5 fun t30_1 w1_8 =>
  R t30_1 w1_8)
  (C_heap_New (65536 : Int) (100 : Int) w1_5 fun t320 t321 w1_9 =>
  C_law20_lives  w1_9 fun t35 w1_10 =>
  If (!t35)
  (F_law20_HeapAgain_k2 R w1_10)
  (If (t321 != (0 : Int))
  (F_law20_HeapAgain_k2 R w1_10)
  (If t320.isNone
  (R false w1_10)
  (∃ t460 : Int, w1_10.cell? ((⟨r, 0, none⟩ : Addr).add 0) = some (.int .i64 t460) ∧
  ∃ t461 : Int, w1_10.cell? ((⟨r, 0, none⟩ : Addr).add 1) = some (.int .i64 t461) ∧
  ∃ t462 : ByteArray, w1_10.cell? ((⟨r, 0, none⟩ : Addr).add 2) = some (.string t462) ∧
  ∃ t463P : Option Addr, ∃ t463N : Nat, ∃ t463C : Nat, w1_10.cell? ((⟨r, 0, none⟩ : Addr).add 3) = some (.slice t463P t463N t463C) ∧
  C_heap_Heap_Encode t320 t460 t461 t462 t463P t463N t463C none w1_10 fun t470 t471 w1_12 =>
  C_heap_Heap_Pool t320 w1_12 fun t49 w1_13 =>
  C_pool_Pool_Top t49 w1_13 fun t50 w1_14 =>
  C_heap_Heap_Open t320 w1_14 fun t530 t531 w1_15 =>
  If (t531 != (0 : Int))
  (R false w1_15)
  (∃ t600 : Int, w1_15.cell? ((⟨r_1, 0, none⟩ : Addr).add 0) = some (.int .i64 t600) ∧
  ∃ t601 : Int, w1_15.cell? ((⟨r_1, 0, none⟩ : Addr).add 1) = some (.int .i64 t601) ∧
  ∃ t602 : ByteArray, w1_15.cell? ((⟨r_1, 0, none⟩ : Addr).add 2) = some (.string t602) ∧
  ∃ t603P : Option Addr, ∃ t603N : Nat, ∃ t603C : Nat, w1_15.cell? ((⟨r_1, 0, none⟩ : Addr).add 3) = some (.slice t603P t603N t603C) ∧
  C_heap_Heap_Encode t320 t600 t601 t602 t603P t603N t603C none w1_15 fun t610 t611 w1_16 =>
  C_heap_Heap_Back t320 w1_16 fun t65 w1_17 =>
  If (t65 != (0 : Int))
  (R false w1_17)
  (C_heap_Heap_Pool t320 w1_17 fun t69 w1_18 =>
  C_pool_Pool_Top t69 w1_18 fun t70 w1_19 =>
  If (t70 != t50)
  (R false w1_19)
  (∃ t760 : Int, w1_19.cell? ((⟨r_1, 0, none⟩ : Addr).add 0) = some (.int .i64 t760) ∧
  ∃ t761 : Int, w1_19.cell? ((⟨r_1, 0, none⟩ : Addr).add 1) = some (.int .i64 t761) ∧
  ∃ t762 : ByteArray, w1_19.cell? ((⟨r_1, 0, none⟩ : Addr).add 2) = some (.string t762) ∧
  ∃ t763P : Option Addr, ∃ t763N : Nat, ∃ t763C : Nat, w1_19.cell? ((⟨r_1, 0, none⟩ : Addr).add 3) = some (.slice t763P t763N t763C) ∧
  C_heap_Heap_Encode t320 t760 t761 t762 t763P t763N t763C none w1_19 fun t770 t771 w1_20 =>
  If (t611 == (0 : Int))
  (If (t771 == (0 : Int))
  (R (t610 == t770) w1_20)
  (F_law20_HeapAgain_k3 R w1_20))
  (F_law20_HeapAgain_k3 R w1_20)))))))))))

def G_law20_HeapAgain : Gen where
  loop := lookL []
  plan := fun _ => none

theorem loops_law20_HeapAgain : LoopOk Tryz.prog Tryz.f8.ntmps G_law20_HeapAgain (codeOf Tryz.f8) := loopOk_none fun _ => rfl

theorem den_law20_HeapAgain (a0 : Int) (a1 : Int) (a2 : ByteArray) (a3P : Option Addr) (a3N : Nat) (a3C : Nat) (b0 : Int) (b1 : Int) (b2 : ByteArray) (b3P : Option Addr) (b3N : Nat) (b3C : Nat) (w : World) (R : Value → World → Prop) :
    F_law20_HeapAgain a0 a1 a2 a3P a3N a3C b0 b1 b2 b3P b3N b3C w (fun r w1 => R (.bool r) w1) = den Tryz.prog Tryz.f8.ntmps G_law20_HeapAgain (codeOf Tryz.f8) [] (postD Tryz.prog Tryz.f8.results.toList R) (entry [.agg #[.int .i64 a0, .int .i64 a1, .string a2, .slice a3P a3N a3C], .agg #[.int .i64 b0, .int .i64 b1, .string b2, .slice b3P b3N b3C]] 0) w := by kernel_rfl

theorem C_law20_HeapAgain.of {a0 : Int} {a1 : Int} {a2 : ByteArray} {a3P : Option Addr} {a3N : Nat} {a3C : Nat} {b0 : Int} {b1 : Int} {b2 : ByteArray} {b3P : Option Addr} {b3N : Nat} {b3C : Nat} {w : World} {R : Bool → World → Prop} (h : F_law20_HeapAgain a0 a1 a2 a3P a3N a3C b0 b1 b2 b3P b3N b3C w R) : C_law20_HeapAgain a0 a1 a2 a3P a3N a3C b0 b1 b2 b3P b3N b3C w R := by
  refine (calls_of_den (c := codeOf Tryz.f8) seat_ok seat_mixed Tryz.func8 (by kernel_rfl) loops_law20_HeapAgain (args := [.agg #[.int .i64 a0, .int .i64 a1, .string a2, .slice a3P a3N a3C], .agg #[.int .i64 b0, .int .i64 b1, .string b2, .slice b3P b3N b3C]]) rfl (R := fun v w1 => ∃ (r : Bool), v = (.bool r : Value) ∧ R r w1) ?_).mono ?_
  · rw [← den_law20_HeapAgain]
    have e : (fun r w1 => ∃ (r' : Bool), (.bool r : Value) = (.bool r' : Value) ∧ R r' w1) = R := by
      funext r w1
      exact propext ⟨fun ⟨r', he, h⟩ => by first | (simp at he; simp_all) | (cases he; exact h), fun h => ⟨_, rfl, h⟩⟩
    simpa only [e] using h
  · rintro en w1 ⟨v, he, r, rfl, h⟩
    exact ⟨_, he, h⟩

end Go.Proofs.YtdaenijbokialaaGreat
