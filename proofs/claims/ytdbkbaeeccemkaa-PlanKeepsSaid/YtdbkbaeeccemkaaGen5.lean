/- The formulas of this seat's functions, held against the loaded program by the kernel. Printed by a program. -/
import Derived.Test.YtdbkbaeeccemkaaGenC
set_option maxRecDepth 100000
set_option linter.unusedVariables false
namespace Go.Proofs.Ytdbkbaeeccemkaa
open Go Go.D Go.Proofs

def F_term_namer_of_k1 (R : Int → Int → ByteArray → Option Addr → Nat → Nat → World → Prop) (r : Nat) (i : Int) (w1_6 : World) : Prop :=
  C_term_Var i w1_6 fun t400 t401 t402 t403P t403N t403C w1_7 =>
  St w1_7 ((⟨r, 0, none⟩ : Addr).add 0) (.int .i64 t400) fun w1_8 =>
  St w1_8 ((⟨r, 0, none⟩ : Addr).add 1) (.int .i64 t401) fun w1_9 =>
  St w1_9 ((⟨r, 0, none⟩ : Addr).add 2) (.string t402) fun w1_10 =>
  St w1_10 ((⟨r, 0, none⟩ : Addr).add 3) (.slice t403P t403N t403C) fun w1_11 =>
  ∃ r_1 : Int, w1_11.cell? ((⟨r, 0, none⟩ : Addr).add 0) = some (.int .i64 r_1) ∧
  ∃ r_2 : Int, w1_11.cell? ((⟨r, 0, none⟩ : Addr).add 1) = some (.int .i64 r_2) ∧
  ∃ r_3 : ByteArray, w1_11.cell? ((⟨r, 0, none⟩ : Addr).add 2) = some (.string r_3) ∧
  ∃ rP : Option Addr, ∃ rN : Nat, ∃ rC : Nat, w1_11.cell? ((⟨r, 0, none⟩ : Addr).add 3) = some (.slice rP rN rC) ∧
  R r_1 r_2 r_3 rP rN rC w1_11

def F_term_namer_of (m : Option Addr) (n : Int) (w : World) (R : Int → Int → ByteArray → Option Addr → Nat → Nat → World → Prop) : Prop :=
  New w (.cells #[.int .i64 0, .int .i64 0, .string ⟨#[]⟩, .slice none 0 0] 24) fun r w1 =>
  NN m fun a =>
  ∃ atx : Option Nat, w1.cell? (a.add 0) = some (.map atx) ∧
  Run Try.prog (Instr.lookup 108 (.map atx) (.int .i64 n) true) w1 fun v w1_1 => ∃ t130 : Int, ∃ t131 : Bool, v = (.tuple #[.int .i64 t130, .bool t131]) ∧
  If (!t131)
  (NN m fun a_1 =>
  ∃ lP : Option Addr, ∃ lN : Nat, ∃ lC : Nat, w1_1.cell? (a_1.add 1) = some (.slice lP lN lC) ∧
  NN m fun a_2 =>
  ∃ atx_1 : Option Nat, w1_1.cell? (a_2.add 0) = some (.map atx_1) ∧
  MUp Try.prog 108 (.map atx_1) (.int .i64 n) (.int .i64 (lN : Int)) w1_1 fun w1_2 =>
  NN m fun a_3 =>
  ∃ lP_1 : Option Addr, ∃ lN_1 : Nat, ∃ lC_1 : Nat, w1_2.cell? (a_3.add 1) = some (.slice lP_1 lN_1 lC_1) ∧
  BSl Try.prog 30 1 [(0, .int .i64 n)] w1_2 fun t35P t35N t35C w1_3 =>
  App Try.prog #[30, 30] 30 #[.slice lP_1 lN_1 lC_1, .slice t35P t35N t35C] w1_3 fun t36P t36N t36C w1_4 =>
  NN m fun a_4 =>
  St w1_4 ((a_4.add 1).add 0) (.slice t36P t36N t36C) fun w1_5 =>
  F_term_namer_of_k1 R r (lN : Int) w1_5)
  (F_term_namer_of_k1 R r t130 w1_1)

def G_term_namer_of : Gen where
  loop := lookL []
  plan := fun _ => none

theorem loops_term_namer_of : LoopOk Try.prog Try.f67.ntmps G_term_namer_of (codeOf Try.f67) := loopOk_none fun _ => rfl

theorem C_term_namer_of.of {m : Option Addr} {n : Int} {w : World} {R : Int → Int → ByteArray → Option Addr → Nat → Nat → World → Prop} (h : F_term_namer_of m n w R) : C_term_namer_of m n w R := ofS7 (Fm := F_term_namer_of m n w) Try.func67 (by kernel_rfl) loops_term_namer_of rfl (fun _ => by kernel_rfl) h

def F_term_part_k1 (R : Bool → World → Prop) (w1_2 : World) : Prop :=
  R false w1_2

def F_term_part_k2 (R : Bool → World → Prop) (w1_4 : World) : Prop :=
  R false w1_4

def F_term_part_k3 (R : Bool → World → Prop) (w1_5 : World) : Prop :=
  R false w1_5

def F_term_part_k4 (R : Bool → World → Prop) (w1_7 : World) : Prop :=
  R false w1_7

def F_term_part_k5 (R : Bool → World → Prop) (w1_9 : World) : Prop :=
  R false w1_9

def F_term_part (t0 : Int) (t1 : Int) (t2 : ByteArray) (t3P : Option Addr) (t3N : Nat) (t3C : Nat) (w : World) (R : Bool → World → Prop) : Prop :=
  New w (.cells #[.int .i64 t0, .int .i64 t1, .string t2, .slice t3P t3N t3C] 24) fun r w1 =>
  ∃ N : Int, w1.cell? ((⟨r, 0, none⟩ : Addr).add 1) = some (.int .i64 N) ∧
  If (N == (0 : Int))
  (∃ S : ByteArray, w1.cell? ((⟨r, 0, none⟩ : Addr).add 2) = some (.string S) ∧
  ∃ Kind : Int, w1.cell? ((⟨r, 0, none⟩ : Addr).add 0) = some (.int .i64 Kind) ∧
  If (Kind == (1 : Int))
  (∃ N_1 : Int, w1.cell? ((⟨r, 0, none⟩ : Addr).add 1) = some (.int .i64 N_1) ∧
  If (decide (N_1 ≥ (0 : Int)))
  (∃ N_2 : Int, w1.cell? ((⟨r, 0, none⟩ : Addr).add 1) = some (.int .i64 N_2) ∧
  If (decide (N_2 < (1073741824 : Int)))
  (∃ t260 : Int, w1.cell? ((⟨r, 0, none⟩ : Addr).add 0) = some (.int .i64 t260) ∧
  ∃ t261 : Int, w1.cell? ((⟨r, 0, none⟩ : Addr).add 1) = some (.int .i64 t261) ∧
  ∃ t262 : ByteArray, w1.cell? ((⟨r, 0, none⟩ : Addr).add 2) = some (.string t262) ∧
  ∃ t263P : Option Addr, ∃ t263N : Nat, ∃ t263C : Nat, w1.cell? ((⟨r, 0, none⟩ : Addr).add 3) = some (.slice t263P t263N t263C) ∧
  C_term_bare t260 t261 t262 t263P t263N t263C w1 fun t27 w1_1 =>
  R t27 w1_1)
  (F_term_part_k1 R w1))
  (F_term_part_k1 R w1))
  (If (Kind == (2 : Int))
  (∃ N_3 : Int, w1.cell? ((⟨r, 0, none⟩ : Addr).add 1) = some (.int .i64 N_3) ∧
  If (decide (N_3 ≥ (-9007199254740991)))
  (∃ N_4 : Int, w1.cell? ((⟨r, 0, none⟩ : Addr).add 1) = some (.int .i64 N_4) ∧
  If (decide (N_4 ≤ (9007199254740991 : Int)))
  (∃ t400 : Int, w1.cell? ((⟨r, 0, none⟩ : Addr).add 0) = some (.int .i64 t400) ∧
  ∃ t401 : Int, w1.cell? ((⟨r, 0, none⟩ : Addr).add 1) = some (.int .i64 t401) ∧
  ∃ t402 : ByteArray, w1.cell? ((⟨r, 0, none⟩ : Addr).add 2) = some (.string t402) ∧
  ∃ t403P : Option Addr, ∃ t403N : Nat, ∃ t403C : Nat, w1.cell? ((⟨r, 0, none⟩ : Addr).add 3) = some (.slice t403P t403N t403C) ∧
  C_term_bare t400 t401 t402 t403P t403N t403C w1 fun t41 w1_3 =>
  R t41 w1_3)
  (F_term_part_k2 R w1))
  (F_term_part_k2 R w1))
  (If (Kind == (3 : Int))
  (If (decide ((S.size : Int) ≤ (64 : Int)))
  (∃ LP : Option Addr, ∃ LN : Nat, ∃ LC : Nat, w1.cell? ((⟨r, 0, none⟩ : Addr).add 3) = some (.slice LP LN LC) ∧
  R ((LN : Int) == (0 : Int)) w1)
  (R false w1))
  (If (Kind == (4 : Int))
  (If (decide ((S.size : Int) ≤ (64 : Int)))
  (∃ LP_1 : Option Addr, ∃ LN_1 : Nat, ∃ LC_1 : Nat, w1.cell? ((⟨r, 0, none⟩ : Addr).add 3) = some (.slice LP_1 LN_1 LC_1) ∧
  If (decide ((LN_1 : Int) ≥ (1 : Int)))
  (∃ LP_2 : Option Addr, ∃ LN_2 : Nat, ∃ LC_2 : Nat, w1.cell? ((⟨r, 0, none⟩ : Addr).add 3) = some (.slice LP_2 LN_2 LC_2) ∧
  R (decide ((LN_2 : Int) ≤ (16 : Int))) w1)
  (F_term_part_k3 R w1))
  (F_term_part_k3 R w1))
  (R false w1)))))
  (∃ Kind_1 : Int, w1.cell? ((⟨r, 0, none⟩ : Addr).add 0) = some (.int .i64 Kind_1) ∧
  If (Kind_1 == (1 : Int))
  (∃ N_5 : Int, w1.cell? ((⟨r, 0, none⟩ : Addr).add 1) = some (.int .i64 N_5) ∧
  If (decide (N_5 ≥ (0 : Int)))
  (∃ N_6 : Int, w1.cell? ((⟨r, 0, none⟩ : Addr).add 1) = some (.int .i64 N_6) ∧
  If (decide (N_6 < (1073741824 : Int)))
  (∃ t260_1 : Int, w1.cell? ((⟨r, 0, none⟩ : Addr).add 0) = some (.int .i64 t260_1) ∧
  ∃ t261_1 : Int, w1.cell? ((⟨r, 0, none⟩ : Addr).add 1) = some (.int .i64 t261_1) ∧
  ∃ t262_1 : ByteArray, w1.cell? ((⟨r, 0, none⟩ : Addr).add 2) = some (.string t262_1) ∧
  ∃ t263P_1 : Option Addr, ∃ t263N_1 : Nat, ∃ t263C_1 : Nat, w1.cell? ((⟨r, 0, none⟩ : Addr).add 3) = some (.slice t263P_1 t263N_1 t263C_1) ∧
  C_term_bare t260_1 t261_1 t262_1 t263P_1 t263N_1 t263C_1 w1 fun t27_1 w1_6 =>
  R t27_1 w1_6)
  (F_term_part_k4 R w1))
  (F_term_part_k4 R w1))
  (If (Kind_1 == (2 : Int))
  (∃ N_7 : Int, w1.cell? ((⟨r, 0, none⟩ : Addr).add 1) = some (.int .i64 N_7) ∧
  If (decide (N_7 ≥ (-9007199254740991)))
  (∃ N_8 : Int, w1.cell? ((⟨r, 0, none⟩ : Addr).add 1) = some (.int .i64 N_8) ∧
  If (decide (N_8 ≤ (9007199254740991 : Int)))
  (∃ t400_1 : Int, w1.cell? ((⟨r, 0, none⟩ : Addr).add 0) = some (.int .i64 t400_1) ∧
  ∃ t401_1 : Int, w1.cell? ((⟨r, 0, none⟩ : Addr).add 1) = some (.int .i64 t401_1) ∧
  ∃ t402_1 : ByteArray, w1.cell? ((⟨r, 0, none⟩ : Addr).add 2) = some (.string t402_1) ∧
  ∃ t403P_1 : Option Addr, ∃ t403N_1 : Nat, ∃ t403C_1 : Nat, w1.cell? ((⟨r, 0, none⟩ : Addr).add 3) = some (.slice t403P_1 t403N_1 t403C_1) ∧
  C_term_bare t400_1 t401_1 t402_1 t403P_1 t403N_1 t403C_1 w1 fun t41_1 w1_8 =>
  R t41_1 w1_8)
  (F_term_part_k5 R w1))
  (F_term_part_k5 R w1))
  (If (Kind_1 == (3 : Int))
  (R false w1)
  (If (Kind_1 == (4 : Int))
  (R false w1)
  (R false w1)))))

def G_term_part : Gen where
  loop := lookL []
  plan := fun _ => none

theorem loops_term_part : LoopOk Try.prog Try.f81.ntmps G_term_part (codeOf Try.f81) := loopOk_none fun _ => rfl

theorem C_term_part.of {t0 : Int} {t1 : Int} {t2 : ByteArray} {t3P : Option Addr} {t3N : Nat} {t3C : Nat} {w : World} {R : Bool → World → Prop} (h : F_term_part t0 t1 t2 t3P t3N t3C w R) : C_term_part t0 t1 t2 t3P t3N t3C w R := ofS2 (Fm := F_term_part t0 t1 t2 t3P t3N t3C w) Try.func81 (by kernel_rfl) loops_term_part rfl (fun _ => by kernel_rfl) h

def F_term_Var (n : Int) (w : World) (R : Int → Int → ByteArray → Option Addr → Nat → Nat → World → Prop) : Prop :=
  New w (.cells #[.int .i64 0, .int .i64 0, .string ⟨#[]⟩, .slice none 0 0] 24) fun r w1 =>
  St w1 ((⟨r, 0, none⟩ : Addr).add 0) (.int .i64 1) fun w1_1 =>
  St w1_1 ((⟨r, 0, none⟩ : Addr).add 1) (.int .i64 n) fun w1_2 =>
  St w1_2 ((⟨r, 0, none⟩ : Addr).add 2) (.string ⟨#[]⟩) fun w1_3 =>
  St w1_3 ((⟨r, 0, none⟩ : Addr).add 3) (.slice none 0 0) fun w1_4 =>
  ∃ r_1 : Int, w1_4.cell? ((⟨r, 0, none⟩ : Addr).add 0) = some (.int .i64 r_1) ∧
  ∃ r_2 : Int, w1_4.cell? ((⟨r, 0, none⟩ : Addr).add 1) = some (.int .i64 r_2) ∧
  ∃ r_3 : ByteArray, w1_4.cell? ((⟨r, 0, none⟩ : Addr).add 2) = some (.string r_3) ∧
  ∃ rP : Option Addr, ∃ rN : Nat, ∃ rC : Nat, w1_4.cell? ((⟨r, 0, none⟩ : Addr).add 3) = some (.slice rP rN rC) ∧
  R r_1 r_2 r_3 rP rN rC w1_4

def G_term_Var : Gen where
  loop := lookL []
  plan := fun _ => none

theorem loops_term_Var : LoopOk Try.prog Try.f82.ntmps G_term_Var (codeOf Try.f82) := loopOk_none fun _ => rfl

theorem C_term_Var.of {n : Int} {w : World} {R : Int → Int → ByteArray → Option Addr → Nat → Nat → World → Prop} (h : F_term_Var n w R) : C_term_Var n w R := ofS7 (Fm := F_term_Var n w) Try.func82 (by kernel_rfl) loops_term_Var rfl (fun _ => by kernel_rfl) h

def F_term_bare (t0 : Int) (t1 : Int) (t2 : ByteArray) (t3P : Option Addr) (t3N : Nat) (t3C : Nat) (w : World) (R : Bool → World → Prop) : Prop :=
  New w (.cells #[.int .i64 t0, .int .i64 t1, .string t2, .slice t3P t3N t3C] 24) fun r w1 =>
  ∃ S : ByteArray, w1.cell? ((⟨r, 0, none⟩ : Addr).add 2) = some (.string S) ∧
  If (S.toList == (⟨#[]⟩ : ByteArray).toList)
  (∃ LP : Option Addr, ∃ LN : Nat, ∃ LC : Nat, w1.cell? ((⟨r, 0, none⟩ : Addr).add 3) = some (.slice LP LN LC) ∧
  R ((LN : Int) == (0 : Int)) w1)
  (R false w1)

def G_term_bare : Gen where
  loop := lookL []
  plan := fun _ => none

theorem loops_term_bare : LoopOk Try.prog Try.f87.ntmps G_term_bare (codeOf Try.f87) := loopOk_none fun _ => rfl

theorem C_term_bare.of {t0 : Int} {t1 : Int} {t2 : ByteArray} {t3P : Option Addr} {t3N : Nat} {t3C : Nat} {w : World} {R : Bool → World → Prop} (h : F_term_bare t0 t1 t2 t3P t3N t3C w R) : C_term_bare t0 t1 t2 t3P t3N t3C w R := ofS2 (Fm := F_term_bare t0 t1 t2 t3P t3N t3C w) Try.func87 (by kernel_rfl) loops_term_bare rfl (fun _ => by kernel_rfl) h

end Go.Proofs.Ytdbkbaeeccemkaa
