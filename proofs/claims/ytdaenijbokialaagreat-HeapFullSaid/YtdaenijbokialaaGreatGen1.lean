/- The formulas of this seat's functions, held against the loaded program by the kernel. Printed by a program. -/
import Derived.Test.YtdaenijbokialaaGreatGenC
set_option maxRecDepth 100000
set_option linter.unusedVariables false
namespace Go.Proofs.YtdaenijbokialaaGreat
open Go Go.D Go.Proofs

def F_law20_HeapFull_k1 (R : Bool → World → Prop) (w1_3 : World) : Prop :=
  C_law20_lives  w1_3 fun t32 w1_4 =>
  R t32 w1_4

def F_law20_HeapFull_k2 (R : Bool → World → Prop) (w1_8 : World) : Prop :=
  R false w1_8

def F_law20_HeapFull_k3 (cells : Int) (R : Bool → World → Prop) (t350 : Option Addr) (w1_19 : World) : Prop :=
  C_heap_Heap_Back t350 w1_19 fun t102 w1_20 =>
  If (t102 != (0 : Int))
  (R false w1_20)
  (C_heap_Heap_Pool t350 w1_20 fun t106 w1_21 =>
  C_pool_Pool_Top t106 w1_21 fun t107 w1_22 =>
  If (t107 != (0 : Int))
  (R false w1_22)
  (C_heap_Heap_Var t350 w1_22 fun t1120 t1121 w1_23 =>
  R ((t1121 == (0 : Int)) == (decide (cells > (0 : Int)))) w1_23))

def F_law20_HeapFull_k4 (cells : Int) (R : Bool → World → Prop) (r : Nat) (t350 : Option Addr) (t640 : Int) (t641 : Int) (w1_13 : World) : Prop :=
  If (t641 == (0 : Int))
  (BSl Tryz.prog 36 1 [(0, .int .u64 t640)] w1_13 fun t86P t86N t86C w1_14 =>
  C_heap_Heap_Decode t350 t86P t86N t86C w1_14 fun t870P t870N t870C t871P t871N t871C t872 w1_15 =>
  If (t872 != (0 : Int))
  (R false w1_15)
  (∃ t950 : Int, w1_15.cell? ((⟨r, 0, none⟩ : Addr).add 0) = some (.int .i64 t950) ∧
  ∃ t951 : Int, w1_15.cell? ((⟨r, 0, none⟩ : Addr).add 1) = some (.int .i64 t951) ∧
  ∃ t952 : ByteArray, w1_15.cell? ((⟨r, 0, none⟩ : Addr).add 2) = some (.string t952) ∧
  ∃ t953P : Option Addr, ∃ t953N : Nat, ∃ t953C : Nat, w1_15.cell? ((⟨r, 0, none⟩ : Addr).add 3) = some (.slice t953P t953N t953C) ∧
  BSl Tryz.prog 22 1 [(0, .agg #[.int .i64 t950, .int .i64 t951, .string t952, .slice t953P t953N t953C])] w1_15 fun t96P t96N t96C w1_16 =>
  C_ref20_Renamed t96P t96N t96C w1_16 fun t97P t97N t97C w1_17 =>
  C_ref07_Same t870P t870N t870C t97P t97N t97C w1_17 fun t98 w1_18 =>
  If (!t98)
  (R false w1_18)
  (F_law20_HeapFull_k3 cells R t350 w1_18)))
  (F_law20_HeapFull_k3 cells R t350 w1_13)

def F_law20_HeapFull (cells : Int) (t0 : Int) (t1 : Int) (t2 : ByteArray) (t3P : Option Addr) (t3N : Nat) (t3C : Nat) (w : World) (R : Bool → World → Prop) : Prop :=
  New w (.cells #[.int .i64 t0, .int .i64 t1, .string t2, .slice t3P t3N t3C] 31) fun r w1 =>
  If (decide (cells < (0 : Int)))
  (F_law20_HeapFull_k1 R w1)
  (If (decide (cells > (200 : Int)))
  (F_law20_HeapFull_k1 R w1)
  (∃ t240 : Int, w1.cell? ((⟨r, 0, none⟩ : Addr).add 0) = some (.int .i64 t240) ∧
  ∃ t241 : Int, w1.cell? ((⟨r, 0, none⟩ : Addr).add 1) = some (.int .i64 t241) ∧
  ∃ t242 : ByteArray, w1.cell? ((⟨r, 0, none⟩ : Addr).add 2) = some (.string t242) ∧
  ∃ t243P : Option Addr, ∃ t243N : Nat, ∃ t243C : Nat, w1.cell? ((⟨r, 0, none⟩ : Addr).add 3) = some (.slice t243P t243N t243C) ∧
  C_ref06_Large t240 t241 t242 t243P t243N t243C w1 fun t25 w1_1 =>
  If t25
  (F_law20_HeapFull_k1 R w1_1)
  (∃ t280 : Int, w1_1.cell? ((⟨r, 0, none⟩ : Addr).add 0) = some (.int .i64 t280) ∧
  ∃ t281 : Int, w1_1.cell? ((⟨r, 0, none⟩ : Addr).add 1) = some (.int .i64 t281) ∧
  ∃ t282 : ByteArray, w1_1.cell? ((⟨r, 0, none⟩ : Addr).add 2) = some (.string t282) ∧
  ∃ t283P : Option Addr, ∃ t283N : Nat, ∃ t283C : Nat, w1_1.cell? ((⟨r, 0, none⟩ : Addr).add 3) = some (.slice t283P t283N t283C) ∧
  C_ref06_Check t280 t281 t282 t283P t283N t283C w1_1 fun t29 w1_2 =>
  If (t29 != (0 : Int))
  (C_law20_lives  w1_2 fun t32_1 w1_5 =>
  R t32_1 w1_5)
  (C_heap_New cells (0 : Int) w1_2 fun t350 t351 w1_6 =>
  C_law20_lives  w1_6 fun t38 w1_7 =>
  If (!t38)
  (F_law20_HeapFull_k2 R w1_7)
  (If (t351 != (0 : Int))
  (F_law20_HeapFull_k2 R w1_7)
  (If t350.isNone
  (R false w1_7)
  (C_heap_Heap_Open t350 w1_7 fun t500 t501 w1_9 =>
  If (t501 != (0 : Int))
  (R false w1_9)
  (∃ t550 : Int, (drw w1_9).cell? ((⟨r, 0, none⟩ : Addr).add 0) = some (.int .i64 t550) ∧
  ∃ t551 : Int, (drw w1_9).cell? ((⟨r, 0, none⟩ : Addr).add 1) = some (.int .i64 t551) ∧
  ∃ t552 : ByteArray, (drw w1_9).cell? ((⟨r, 0, none⟩ : Addr).add 2) = some (.string t552) ∧
  ∃ t553P : Option Addr, ∃ t553N : Nat, ∃ t553C : Nat, (drw w1_9).cell? ((⟨r, 0, none⟩ : Addr).add 3) = some (.slice t553P t553N t553C) ∧
  ∃ t570 : Int, (drw w1_9).cell? ((⟨r, 0, none⟩ : Addr).add 0) = some (.int .i64 t570) ∧
  ∃ t571 : Int, (drw w1_9).cell? ((⟨r, 0, none⟩ : Addr).add 1) = some (.int .i64 t571) ∧
  ∃ t572 : ByteArray, (drw w1_9).cell? ((⟨r, 0, none⟩ : Addr).add 2) = some (.string t572) ∧
  ∃ t573P : Option Addr, ∃ t573N : Nat, ∃ t573C : Nat, (drw w1_9).cell? ((⟨r, 0, none⟩ : Addr).add 3) = some (.slice t573P t573N t573C) ∧
  C_law20_cost t550 t551 t552 t553P t553N t553C (drw w1_9) fun t56 w1_10 =>
  (∀ i_, i_ < 4 → w1_10.cell? ((⟨r, 0, none⟩ : Addr).add i_) = (drw w1_9).cell? ((⟨r, 0, none⟩ : Addr).add i_)) ∧
  C_ref06_Vars t570 t571 t572 t573P t573N t573C w1_10 fun t58P t58N t58C w1_11 =>
  ∃ t630 : Int, w1_11.cell? ((⟨r, 0, none⟩ : Addr).add 0) = some (.int .i64 t630) ∧
  ∃ t631 : Int, w1_11.cell? ((⟨r, 0, none⟩ : Addr).add 1) = some (.int .i64 t631) ∧
  ∃ t632 : ByteArray, w1_11.cell? ((⟨r, 0, none⟩ : Addr).add 2) = some (.string t632) ∧
  ∃ t633P : Option Addr, ∃ t633N : Nat, ∃ t633C : Nat, w1_11.cell? ((⟨r, 0, none⟩ : Addr).add 3) = some (.slice t633P t633N t633C) ∧
  C_heap_Heap_Encode t350 t630 t631 t632 t633P t633N t633C none w1_11 fun t640 t641 w1_12 =>
  If (!((t641 == (0 : Int)) == (decide ((IntKind.i64.wrap (t56 + (t58N : Int))) ≤ cells))))
  (R false w1_12)
  (If (t641 != (0 : Int))
  (If (t641 != (2 : Int))
  (R false w1_12)
  (F_law20_HeapFull_k4 cells R r t350 t640 t641 w1_12))
  (F_law20_HeapFull_k4 cells R r t350 t640 t641 w1_12))))))))))

def G_law20_HeapFull : Gen where
  loop := lookL []
  plan := fun id =>
    bif Nat.beq id 9 then some ([0, 1, 0, 7, 15, 31, 63], .take 0 (.take 2 (.take 1 (.take 3 (.take 4 (.take 5 (.take 6 .done))))))) else none

theorem loops_law20_HeapFull : LoopOk Tryz.prog Tryz.f7.ntmps G_law20_HeapFull (codeOf Tryz.f7) := loopOk_none fun _ => rfl

theorem C_law20_HeapFull.of {cells : Int} {t0 : Int} {t1 : Int} {t2 : ByteArray} {t3P : Option Addr} {t3N : Nat} {t3C : Nat} {w : World} {R : Bool → World → Prop} (h : F_law20_HeapFull cells t0 t1 t2 t3P t3N t3C w R) : C_law20_HeapFull cells t0 t1 t2 t3P t3N t3C w R := ofS2 (Fm := F_law20_HeapFull cells t0 t1 t2 t3P t3N t3C w) Tryz.func7 (by kernel_rfl) loops_law20_HeapFull rfl (fun _ => by kernel_rfl) h

end Go.Proofs.YtdaenijbokialaaGreat
