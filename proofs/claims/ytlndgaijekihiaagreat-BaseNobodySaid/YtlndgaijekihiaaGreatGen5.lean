/- The formulas of this seat's functions, held against the loaded program by the kernel. Printed by a program. -/
import Derived.Test.YtlndgaijekihiaaGreatGenC
set_option maxRecDepth 100000
set_option linter.unusedVariables false
namespace Go.Proofs.YtlndgaijekihiaaGreat
open Go Go.D Go.Proofs

def F_term_part_k1 (R : Bool → World → Prop) (w1_2 : World) : Prop :=
  R false w1_2

def F_term_part_k2 (R : Bool → World → Prop) (w1_4 : World) : Prop :=
  R false w1_4

def F_term_part_k3 (R : Bool → World → Prop) (w1_5 : World) : Prop :=
  R false w1_5

def F_term_part_k4 (R : Bool → World → Prop) (w1_7 : World) : Prop :=
  R false w1_7

def F_term_part_k5 (R : Bool → World → Prop) (w1_9 : World) : Prop :=
  R false w1_9

def F_term_part (t0 : Int) (t1 : Int) (t2 : ByteArray) (t3P : Option Addr) (t3N : Nat) (t3C : Nat) (w : World) (R : Bool → World → Prop) : Prop :=
  New w (.cells #[.int .i64 t0, .int .i64 t1, .string t2, .slice t3P t3N t3C] 24) fun r w1 =>
  ∃ N : Int, w1.cell? ((⟨r, 0, none⟩ : Addr).add 1) = some (.int .i64 N) ∧
  If (N == (0 : Int))
  (∃ S : ByteArray, w1.cell? ((⟨r, 0, none⟩ : Addr).add 2) = some (.string S) ∧
  ∃ Kind : Int, w1.cell? ((⟨r, 0, none⟩ : Addr).add 0) = some (.int .i64 Kind) ∧
  If (Kind == (1 : Int))
  (∃ N_1 : Int, w1.cell? ((⟨r, 0, none⟩ : Addr).add 1) = some (.int .i64 N_1) ∧
  If (decide (N_1 ≥ (0 : Int)))
  (∃ N_2 : Int, w1.cell? ((⟨r, 0, none⟩ : Addr).add 1) = some (.int .i64 N_2) ∧
  If (decide (N_2 < (1073741824 : Int)))
  (∃ t260 : Int, w1.cell? ((⟨r, 0, none⟩ : Addr).add 0) = some (.int .i64 t260) ∧
  ∃ t261 : Int, w1.cell? ((⟨r, 0, none⟩ : Addr).add 1) = some (.int .i64 t261) ∧
  ∃ t262 : ByteArray, w1.cell? ((⟨r, 0, none⟩ : Addr).add 2) = some (.string t262) ∧
  ∃ t263P : Option Addr, ∃ t263N : Nat, ∃ t263C : Nat, w1.cell? ((⟨r, 0, none⟩ : Addr).add 3) = some (.slice t263P t263N t263C) ∧
  C_term_bare t260 t261 t262 t263P t263N t263C w1 fun t27 w1_1 =>
  R t27 w1_1)
  (F_term_part_k1 R w1))
  (F_term_part_k1 R w1))
  (If (Kind == (2 : Int))
  (∃ N_3 : Int, w1.cell? ((⟨r, 0, none⟩ : Addr).add 1) = some (.int .i64 N_3) ∧
  If (decide (N_3 ≥ (-9007199254740991)))
  (∃ N_4 : Int, w1.cell? ((⟨r, 0, none⟩ : Addr).add 1) = some (.int .i64 N_4) ∧
  If (decide (N_4 ≤ (9007199254740991 : Int)))
  (∃ t400 : Int, w1.cell? ((⟨r, 0, none⟩ : Addr).add 0) = some (.int .i64 t400) ∧
  ∃ t401 : Int, w1.cell? ((⟨r, 0, none⟩ : Addr).add 1) = some (.int .i64 t401) ∧
  ∃ t402 : ByteArray, w1.cell? ((⟨r, 0, none⟩ : Addr).add 2) = some (.string t402) ∧
  ∃ t403P : Option Addr, ∃ t403N : Nat, ∃ t403C : Nat, w1.cell? ((⟨r, 0, none⟩ : Addr).add 3) = some (.slice t403P t403N t403C) ∧
  C_term_bare t400 t401 t402 t403P t403N t403C w1 fun t41 w1_3 =>
  R t41 w1_3)
  (F_term_part_k2 R w1))
  (F_term_part_k2 R w1))
  (If (Kind == (3 : Int))
  (If (decide ((S.size : Int) ≤ (64 : Int)))
  (∃ LP : Option Addr, ∃ LN : Nat, ∃ LC : Nat, w1.cell? ((⟨r, 0, none⟩ : Addr).add 3) = some (.slice LP LN LC) ∧
  R ((LN : Int) == (0 : Int)) w1)
  (R false w1))
  (If (Kind == (4 : Int))
  (If (decide ((S.size : Int) ≤ (64 : Int)))
  (∃ LP_1 : Option Addr, ∃ LN_1 : Nat, ∃ LC_1 : Nat, w1.cell? ((⟨r, 0, none⟩ : Addr).add 3) = some (.slice LP_1 LN_1 LC_1) ∧
  If (decide ((LN_1 : Int) ≥ (1 : Int)))
  (∃ LP_2 : Option Addr, ∃ LN_2 : Nat, ∃ LC_2 : Nat, w1.cell? ((⟨r, 0, none⟩ : Addr).add 3) = some (.slice LP_2 LN_2 LC_2) ∧
  R (decide ((LN_2 : Int) ≤ (16 : Int))) w1)
  (F_term_part_k3 R w1))
  (F_term_part_k3 R w1))
  (R false w1)))))
  (∃ Kind_1 : Int, w1.cell? ((⟨r, 0, none⟩ : Addr).add 0) = some (.int .i64 Kind_1) ∧
  If (Kind_1 == (1 : Int))
  (∃ N_5 : Int, w1.cell? ((⟨r, 0, none⟩ : Addr).add 1) = some (.int .i64 N_5) ∧
  If (decide (N_5 ≥ (0 : Int)))
  (∃ N_6 : Int, w1.cell? ((⟨r, 0, none⟩ : Addr).add 1) = some (.int .i64 N_6) ∧
  If (decide (N_6 < (1073741824 : Int)))
  (∃ t260_1 : Int, w1.cell? ((⟨r, 0, none⟩ : Addr).add 0) = some (.int .i64 t260_1) ∧
  ∃ t261_1 : Int, w1.cell? ((⟨r, 0, none⟩ : Addr).add 1) = some (.int .i64 t261_1) ∧
  ∃ t262_1 : ByteArray, w1.cell? ((⟨r, 0, none⟩ : Addr).add 2) = some (.string t262_1) ∧
  ∃ t263P_1 : Option Addr, ∃ t263N_1 : Nat, ∃ t263C_1 : Nat, w1.cell? ((⟨r, 0, none⟩ : Addr).add 3) = some (.slice t263P_1 t263N_1 t263C_1) ∧
  C_term_bare t260_1 t261_1 t262_1 t263P_1 t263N_1 t263C_1 w1 fun t27_1 w1_6 =>
  R t27_1 w1_6)
  (F_term_part_k4 R w1))
  (F_term_part_k4 R w1))
  (If (Kind_1 == (2 : Int))
  (∃ N_7 : Int, w1.cell? ((⟨r, 0, none⟩ : Addr).add 1) = some (.int .i64 N_7) ∧
  If (decide (N_7 ≥ (-9007199254740991)))
  (∃ N_8 : Int, w1.cell? ((⟨r, 0, none⟩ : Addr).add 1) = some (.int .i64 N_8) ∧
  If (decide (N_8 ≤ (9007199254740991 : Int)))
  (∃ t400_1 : Int, w1.cell? ((⟨r, 0, none⟩ : Addr).add 0) = some (.int .i64 t400_1) ∧
  ∃ t401_1 : Int, w1.cell? ((⟨r, 0, none⟩ : Addr).add 1) = some (.int .i64 t401_1) ∧
  ∃ t402_1 : ByteArray, w1.cell? ((⟨r, 0, none⟩ : Addr).add 2) = some (.string t402_1) ∧
  ∃ t403P_1 : Option Addr, ∃ t403N_1 : Nat, ∃ t403C_1 : Nat, w1.cell? ((⟨r, 0, none⟩ : Addr).add 3) = some (.slice t403P_1 t403N_1 t403C_1) ∧
  C_term_bare t400_1 t401_1 t402_1 t403P_1 t403N_1 t403C_1 w1 fun t41_1 w1_8 =>
  R t41_1 w1_8)
  (F_term_part_k5 R w1))
  (F_term_part_k5 R w1))
  (If (Kind_1 == (3 : Int))
  (R false w1)
  (If (Kind_1 == (4 : Int))
  (R false w1)
  (R false w1)))))

def G_term_part : Gen where
  loop := lookL []
  plan := fun _ => none

theorem loops_term_part : LoopOk Tryz.prog Tryz.f108.ntmps G_term_part (codeOf Tryz.f108) := loopOk_none fun _ => rfl

theorem C_term_part.of {t0 : Int} {t1 : Int} {t2 : ByteArray} {t3P : Option Addr} {t3N : Nat} {t3C : Nat} {w : World} {R : Bool → World → Prop} (h : F_term_part t0 t1 t2 t3P t3N t3C w R) : C_term_part t0 t1 t2 t3P t3N t3C w R := ofS2 (Fm := F_term_part t0 t1 t2 t3P t3N t3C w) Tryz.func108 (by kernel_rfl) loops_term_part rfl (fun _ => by kernel_rfl) h

def F_term_bare (t0 : Int) (t1 : Int) (t2 : ByteArray) (t3P : Option Addr) (t3N : Nat) (t3C : Nat) (w : World) (R : Bool → World → Prop) : Prop :=
  New w (.cells #[.int .i64 t0, .int .i64 t1, .string t2, .slice t3P t3N t3C] 24) fun r w1 =>
  ∃ S : ByteArray, w1.cell? ((⟨r, 0, none⟩ : Addr).add 2) = some (.string S) ∧
  If (S.toList == (⟨#[]⟩ : ByteArray).toList)
  (∃ LP : Option Addr, ∃ LN : Nat, ∃ LC : Nat, w1.cell? ((⟨r, 0, none⟩ : Addr).add 3) = some (.slice LP LN LC) ∧
  R ((LN : Int) == (0 : Int)) w1)
  (R false w1)

def G_term_bare : Gen where
  loop := lookL []
  plan := fun _ => none

theorem loops_term_bare : LoopOk Tryz.prog Tryz.f109.ntmps G_term_bare (codeOf Tryz.f109) := loopOk_none fun _ => rfl

theorem C_term_bare.of {t0 : Int} {t1 : Int} {t2 : ByteArray} {t3P : Option Addr} {t3N : Nat} {t3C : Nat} {w : World} {R : Bool → World → Prop} (h : F_term_bare t0 t1 t2 t3P t3N t3C w R) : C_term_bare t0 t1 t2 t3P t3N t3C w R := ofS2 (Fm := F_term_bare t0 t1 t2 t3P t3N t3C w) Tryz.func109 (by kernel_rfl) loops_term_bare rfl (fun _ => by kernel_rfl) h

end Go.Proofs.YtlndgaijekihiaaGreat
