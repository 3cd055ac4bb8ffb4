/- The formulas of this seat's functions, held against the loaded program by the kernel. Printed by a program. -/
import Derived.Test.YtlndgaijekihiaaGreatGenC
set_option maxRecDepth 100000
set_option linter.unusedVariables false
namespace Go.Proofs.YtlndgaijekihiaaGreat
open Go Go.D Go.Proofs

def F_cmp_isNaN (x : ByteArray) (w : World) (R : Bool → World → Prop) : Prop :=
  R (!(x.toList == x.toList)) w

def G_cmp_isNaN : Gen where
  loop := lookL []
  plan := fun _ => none

theorem loops_cmp_isNaN : LoopOk Tryz.prog Tryz.f57.ntmps G_cmp_isNaN (codeOf Tryz.f57) := loopOk_none fun _ => rfl

theorem C_cmp_isNaN.of {x : ByteArray} {w : World} {R : Bool → World → Prop} (h : F_cmp_isNaN x w R) : C_cmp_isNaN x w R := ofS2 (Fm := F_cmp_isNaN x w) Tryz.func57 (by kernel_rfl) loops_cmp_isNaN rfl (fun _ => by kernel_rfl) h

def F_cmp_isNaN__2 (x : Int) (w : World) (R : Bool → World → Prop) : Prop :=
  R (x != x) w

def G_cmp_isNaN__2 : Gen where
  loop := lookL []
  plan := fun _ => none

theorem loops_cmp_isNaN__2 : LoopOk Tryz.prog Tryz.f58.ntmps G_cmp_isNaN__2 (codeOf Tryz.f58) := loopOk_none fun _ => rfl

theorem C_cmp_isNaN__2.of {x : Int} {w : World} {R : Bool → World → Prop} (h : F_cmp_isNaN__2 x w R) : C_cmp_isNaN__2 x w R := ofS2 (Fm := F_cmp_isNaN__2 x w) Tryz.func58 (by kernel_rfl) loops_cmp_isNaN__2 rfl (fun _ => by kernel_rfl) h

def F_index_cut (rP : Option Addr) (rN : Nat) (rC : Nat) (rank : Int) (w : World) (R : Option Addr → Nat → Nat → World → Prop) : Prop :=
  C_index_row_place rP rN rC rank w fun t8 w1 =>
  C_slices_Delete rP rN rC t8 (IntKind.i64.wrap (t8 + (1 : Int))) w1 fun t13P t13N t13C w1_1 =>
  R t13P t13N t13C w1_1

def G_index_cut : Gen where
  loop := lookL []
  plan := fun _ => none

theorem loops_index_cut : LoopOk Tryz.prog Tryz.f59.ntmps G_index_cut (codeOf Tryz.f59) := loopOk_none fun _ => rfl

theorem C_index_cut.of {rP : Option Addr} {rN : Nat} {rC : Nat} {rank : Int} {w : World} {R : Option Addr → Nat → Nat → World → Prop} (h : F_index_cut rP rN rC rank w R) : C_index_cut rP rN rC rank w R := ofS9 (Fm := F_index_cut rP rN rC rank w) Tryz.func59 (by kernel_rfl) loops_index_cut rfl (fun _ => by kernel_rfl) h

def F_slices_Insert (sP : Option Addr) (sN : Nat) (sC : Nat) (i : Int) (vP : Option Addr) (vN : Nat) (vC : Nat) (w : World) (R : Option Addr → Nat → Nat → World → Prop) : Prop :=
  0 ≤ i ∧ i ≤ (sN : Int) ∧
  If ((vN : Int) == (0 : Int))
  (R sP sN sC w)
  (If (i == (sN : Int))
  (App Tryz.prog #[96, 95] 96 #[.slice sP sN sC, .slice vP vN vC] w fun t25P t25N t25C w1 =>
  R t25P t25N t25C w1)
  (If (decide ((IntKind.i64.wrap ((sN : Int) + (vN : Int))) > (sC : Int)))
  (0 ≤ i ∧ i ≤ (sC : Int) ∧
  App Tryz.prog #[96, 3] 96 #[.slice sP i.toNat sC, .int .i64 (IntKind.i64.wrap ((IntKind.i64.wrap ((sN : Int) + (vN : Int))) - i))] w fun t40P t40N t40C w1_1 =>
  0 ≤ i ∧ i ≤ (t40N : Int) ∧
  Cpy Tryz.prog #[96, 95] 3 #[.slice (adv t40P t40C i.toNat 2) (t40N - i.toNat) (t40C - i.toNat), .slice vP vN vC] w1_1 fun t45 w1_2 =>
  0 ≤ (IntKind.i64.wrap (i + (vN : Int))) ∧ (IntKind.i64.wrap (i + (vN : Int))) ≤ (t40N : Int) ∧
  0 ≤ i ∧ i ≤ (sN : Int) ∧
  Cpy Tryz.prog #[96, 96] 3 #[.slice (adv t40P t40C (IntKind.i64.wrap (i + (vN : Int))).toNat 2) (t40N - (IntKind.i64.wrap (i + (vN : Int))).toNat) (t40C - (IntKind.i64.wrap (i + (vN : Int))).toNat), .slice (adv sP sC i.toNat 2) (sN - i.toNat) (sC - i.toNat)] (drw w1_2) fun t54 w1_3 =>
  R t40P t40N t40C w1_3)
  (0 ≤ (IntKind.i64.wrap ((sN : Int) + (vN : Int))) ∧ (IntKind.i64.wrap ((sN : Int) + (vN : Int))) ≤ (sC : Int) ∧
  0 ≤ (IntKind.i64.wrap (i + (vN : Int))) ∧ (IntKind.i64.wrap (i + (vN : Int))) ≤ ((IntKind.i64.wrap ((sN : Int) + (vN : Int))).toNat : Int) ∧
  CallX Tryz.prog 87 [.slice vP vN vC, .slice (adv sP sC (IntKind.i64.wrap (i + (vN : Int))).toNat 2) ((IntKind.i64.wrap ((sN : Int) + (vN : Int))).toNat - (IntKind.i64.wrap (i + (vN : Int))).toNat) (sC - (IntKind.i64.wrap (i + (vN : Int))).toNat)] w fun v w1_4 => ∃ t67 : Bool, v = (.bool t67) ∧
  If (!t67)
  (0 ≤ (IntKind.i64.wrap (i + (vN : Int))) ∧ (IntKind.i64.wrap (i + (vN : Int))) ≤ ((IntKind.i64.wrap ((sN : Int) + (vN : Int))).toNat : Int) ∧
  0 ≤ i ∧ i ≤ ((IntKind.i64.wrap ((sN : Int) + (vN : Int))).toNat : Int) ∧
  Cpy Tryz.prog #[96, 96] 3 #[.slice (adv sP sC (IntKind.i64.wrap (i + (vN : Int))).toNat 2) ((IntKind.i64.wrap ((sN : Int) + (vN : Int))).toNat - (IntKind.i64.wrap (i + (vN : Int))).toNat) (sC - (IntKind.i64.wrap (i + (vN : Int))).toNat), .slice (adv sP sC i.toNat 2) ((IntKind.i64.wrap ((sN : Int) + (vN : Int))).toNat - i.toNat) (sC - i.toNat)] (drw w1_4) fun t77 w1_5 =>
  0 ≤ i ∧ i ≤ ((IntKind.i64.wrap ((sN : Int) + (vN : Int))).toNat : Int) ∧
  Cpy Tryz.prog #[96, 95] 3 #[.slice (adv sP sC i.toNat 2) ((IntKind.i64.wrap ((sN : Int) + (vN : Int))).toNat - i.toNat) (sC - i.toNat), .slice vP vN vC] w1_5 fun t82 w1_6 =>
  R sP ((IntKind.i64.wrap ((sN : Int) + (vN : Int))).toNat) sC w1_6)
  (0 ≤ (sN : Int) ∧ (sN : Int) ≤ ((IntKind.i64.wrap ((sN : Int) + (vN : Int))).toNat : Int) ∧
  Cpy Tryz.prog #[96, 95] 3 #[.slice (adv sP sC (sN : Int).toNat 2) ((IntKind.i64.wrap ((sN : Int) + (vN : Int))).toNat - (sN : Int).toNat) (sC - (sN : Int).toNat), .slice vP vN vC] w1_4 fun t88 w1_7 =>
  0 ≤ i ∧ i ≤ ((IntKind.i64.wrap ((sN : Int) + (vN : Int))).toNat : Int) ∧
  C_slices_rotateRight (adv sP sC i.toNat 2) ((IntKind.i64.wrap ((sN : Int) + (vN : Int))).toNat - i.toNat) (sC - i.toNat) (vN : Int) w1_7 fun w1_8 =>
  R sP ((IntKind.i64.wrap ((sN : Int) + (vN : Int))).toNat) sC w1_8))))

def G_slices_Insert : Gen where
  loop := lookL []
  plan := fun id =>
    bif Nat.beq id 11 then some ([0, 0, 0, 6, 15, 0, 0, 96, 255], .take 0 (.take 1 (.take 2 (.take 3 (.take 4 (.take 5 (.take 6 (.take 7 (.take 8 .done))))))))) else
    bif Nat.beq id 15 then some ([0, 0, 0, 6, 15, 0, 0, 96, 255], .take 0 (.take 1 (.take 2 (.take 3 (.take 4 (.take 5 (.take 6 (.take 7 (.take 8 .done))))))))) else none

theorem loops_slices_Insert : LoopOk Tryz.prog Tryz.f61.ntmps G_slices_Insert (codeOf Tryz.f61) := loopOk_none fun _ => rfl

theorem C_slices_Insert.of {sP : Option Addr} {sN : Nat} {sC : Nat} {i : Int} {vP : Option Addr} {vN : Nat} {vC : Nat} {w : World} {R : Option Addr → Nat → Nat → World → Prop} (h : F_slices_Insert sP sN sC i vP vN vC w R) : C_slices_Insert sP sN sC i vP vN vC w R := ofS9 (Fm := F_slices_Insert sP sN sC i vP vN vC w) Tryz.func61 (by kernel_rfl) loops_slices_Insert rfl (fun _ => by kernel_rfl) h

def F_index_row_place (rP : Option Addr) (rN : Nat) (rC : Nat) (rank : Int) (w : World) (R : Int → World → Prop) : Prop :=
  C_slices_BinarySearchFunc rP rN rC rank (.func (.func 90) #[] #[]) w fun t100 t101 w1 =>
  R t100 w1

def G_index_row_place : Gen where
  loop := lookL []
  plan := fun _ => none

theorem loops_index_row_place : LoopOk Tryz.prog Tryz.f62.ntmps G_index_row_place (codeOf Tryz.f62) := loopOk_none fun _ => rfl

theorem C_index_row_place.of {rP : Option Addr} {rN : Nat} {rC : Nat} {rank : Int} {w : World} {R : Int → World → Prop} (h : F_index_row_place rP rN rC rank w R) : C_index_row_place rP rN rC rank w R := ofS8 (Fm := F_index_row_place rP rN rC rank w) Tryz.func62 (by kernel_rfl) loops_index_row_place rfl (fun _ => by kernel_rfl) h

def F_term_Check (t0 : Int) (t1 : Int) (t2 : ByteArray) (t3P : Option Addr) (t3N : Nat) (t3C : Nat) (w : World) (R : Int → World → Prop) : Prop :=
  New w (.cells #[.int .i64 t0, .int .i64 t1, .string t2, .slice t3P t3N t3C] 24) fun r w1 =>
  ∃ t40 : Int, w1.cell? ((⟨r, 0, none⟩ : Addr).add 0) = some (.int .i64 t40) ∧
  ∃ t41 : Int, w1.cell? ((⟨r, 0, none⟩ : Addr).add 1) = some (.int .i64 t41) ∧
  ∃ t42 : ByteArray, w1.cell? ((⟨r, 0, none⟩ : Addr).add 2) = some (.string t42) ∧
  ∃ t43P : Option Addr, ∃ t43N : Nat, ∃ t43C : Nat, w1.cell? ((⟨r, 0, none⟩ : Addr).add 3) = some (.slice t43P t43N t43C) ∧
  C_term_measure t40 t41 t42 t43P t43N t43C w1 fun t50 t51 t52 w1_1 =>
  New w1_1 (.cells #[.int .i64 0, .int .i64 0, .bool false] 146) fun r_1 w1_2 =>
  St w1_2 ((⟨r_1, 0, none⟩ : Addr).add 0) (.int .i64 t50) fun w1_3 =>
  St w1_3 ((⟨r_1, 0, none⟩ : Addr).add 1) (.int .i64 t51) fun w1_4 =>
  St w1_4 ((⟨r_1, 0, none⟩ : Addr).add 2) (.bool t52) fun w1_5 =>
  ∃ bad : Bool, w1_5.cell? ((⟨r_1, 0, none⟩ : Addr).add 2) = some (.bool bad) ∧
  If bad
  (R (60 : Int) w1_5)
  (∃ depth : Int, w1_5.cell? ((⟨r_1, 0, none⟩ : Addr).add 1) = some (.int .i64 depth) ∧
  If (decide (depth > (200 : Int)))
  (R (61 : Int) w1_5)
  (∃ parts : Int, w1_5.cell? ((⟨r_1, 0, none⟩ : Addr).add 0) = some (.int .i64 parts) ∧
  If (decide (parts > (4096 : Int)))
  (R (62 : Int) w1_5)
  (R (0 : Int) w1_5)))

def G_term_Check : Gen where
  loop := lookL []
  plan := fun _ => none

theorem loops_term_Check : LoopOk Tryz.prog Tryz.f63.ntmps G_term_Check (codeOf Tryz.f63) := loopOk_none fun _ => rfl

theorem C_term_Check.of {t0 : Int} {t1 : Int} {t2 : ByteArray} {t3P : Option Addr} {t3N : Nat} {t3C : Nat} {w : World} {R : Int → World → Prop} (h : F_term_Check t0 t1 t2 t3P t3N t3C w R) : C_term_Check t0 t1 t2 t3P t3N t3C w R := ofS8 (Fm := F_term_Check t0 t1 t2 t3P t3N t3C w) Tryz.func63 (by kernel_rfl) loops_term_Check rfl (fun _ => by kernel_rfl) h

def F_term_Clone (t0 : Int) (t1 : Int) (t2 : ByteArray) (t3P : Option Addr) (t3N : Nat) (t3C : Nat) (w : World) (R : Int → Int → ByteArray → Option Addr → Nat → Nat → World → Prop) : Prop :=
  New w (.cells #[.int .i64 t0, .int .i64 t1, .string t2, .slice t3P t3N t3C] 24) fun r w1 =>
  New w1 (.cells #[.int .i64 0, .int .i64 0, .string ⟨#[]⟩, .slice none 0 0] 24) fun r_1 w1_1 =>
  ∃ t30 : Int, w1_1.cell? ((⟨r, 0, none⟩ : Addr).add 0) = some (.int .i64 t30) ∧
  ∃ t31 : Int, w1_1.cell? ((⟨r, 0, none⟩ : Addr).add 1) = some (.int .i64 t31) ∧
  ∃ t32 : ByteArray, w1_1.cell? ((⟨r, 0, none⟩ : Addr).add 2) = some (.string t32) ∧
  ∃ t33P : Option Addr, ∃ t33N : Nat, ∃ t33C : Nat, w1_1.cell? ((⟨r, 0, none⟩ : Addr).add 3) = some (.slice t33P t33N t33C) ∧
  C_term_may t30 t31 t32 t33P t33N t33C w1_1 fun t4 w1_2 =>
  If (!t4)
  (St w1_2 ((⟨r_1, 0, none⟩ : Addr).add 0) (.int .i64 0) fun w1_3 =>
  St w1_3 ((⟨r_1, 0, none⟩ : Addr).add 1) (.int .i64 0) fun w1_4 =>
  St w1_4 ((⟨r_1, 0, none⟩ : Addr).add 2) (.string ⟨#[]⟩) fun w1_5 =>
  St w1_5 ((⟨r_1, 0, none⟩ : Addr).add 3) (.slice none 0 0) fun w1_6 =>
  ∃ r_2 : Int, w1_6.cell? ((⟨r_1, 0, none⟩ : Addr).add 0) = some (.int .i64 r_2) ∧
  ∃ r_3 : Int, w1_6.cell? ((⟨r_1, 0, none⟩ : Addr).add 1) = some (.int .i64 r_3) ∧
  ∃ r_4 : ByteArray, w1_6.cell? ((⟨r_1, 0, none⟩ : Addr).add 2) = some (.string r_4) ∧
  ∃ rP : Option Addr, ∃ rN : Nat, ∃ rC : Nat, w1_6.cell? ((⟨r_1, 0, none⟩ : Addr).add 3) = some (.slice rP rN rC) ∧
  R r_2 r_3 r_4 rP rN rC w1_6)
  (∃ t70 : Int, w1_2.cell? ((⟨r, 0, none⟩ : Addr).add 0) = some (.int .i64 t70) ∧
  ∃ t71 : Int, w1_2.cell? ((⟨r, 0, none⟩ : Addr).add 1) = some (.int .i64 t71) ∧
  ∃ t72 : ByteArray, w1_2.cell? ((⟨r, 0, none⟩ : Addr).add 2) = some (.string t72) ∧
  ∃ t73P : Option Addr, ∃ t73N : Nat, ∃ t73C : Nat, w1_2.cell? ((⟨r, 0, none⟩ : Addr).add 3) = some (.slice t73P t73N t73C) ∧
  C_term_build t70 t71 t72 t73P t73N t73C (.func (.func 94) #[] #[]) w1_2 fun t80 t81 t82 t83P t83N t83C w1_7 =>
  St w1_7 ((⟨r_1, 0, none⟩ : Addr).add 0) (.int .i64 t80) fun w1_8 =>
  St w1_8 ((⟨r_1, 0, none⟩ : Addr).add 1) (.int .i64 t81) fun w1_9 =>
  St w1_9 ((⟨r_1, 0, none⟩ : Addr).add 2) (.string t82) fun w1_10 =>
  St w1_10 ((⟨r_1, 0, none⟩ : Addr).add 3) (.slice t83P t83N t83C) fun w1_11 =>
  ∃ r_5 : Int, w1_11.cell? ((⟨r_1, 0, none⟩ : Addr).add 0) = some (.int .i64 r_5) ∧
  ∃ r_6 : Int, w1_11.cell? ((⟨r_1, 0, none⟩ : Addr).add 1) = some (.int .i64 r_6) ∧
  ∃ r_7 : ByteArray, w1_11.cell? ((⟨r_1, 0, none⟩ : Addr).add 2) = some (.string r_7) ∧
  ∃ rP_1 : Option Addr, ∃ rN_1 : Nat, ∃ rC_1 : Nat, w1_11.cell? ((⟨r_1, 0, none⟩ : Addr).add 3) = some (.slice rP_1 rN_1 rC_1) ∧
  R r_5 r_6 r_7 rP_1 rN_1 rC_1 w1_11)

def G_term_Clone : Gen where
  loop := lookL []
  plan := fun _ => none

theorem loops_term_Clone : LoopOk Tryz.prog Tryz.f64.ntmps G_term_Clone (codeOf Tryz.f64) := loopOk_none fun _ => rfl

theorem C_term_Clone.of {t0 : Int} {t1 : Int} {t2 : ByteArray} {t3P : Option Addr} {t3N : Nat} {t3C : Nat} {w : World} {R : Int → Int → ByteArray → Option Addr → Nat → Nat → World → Prop} (h : F_term_Clone t0 t1 t2 t3P t3N t3C w R) : C_term_Clone t0 t1 t2 t3P t3N t3C w R := ofS15 (Fm := F_term_Clone t0 t1 t2 t3P t3N t3C w) Tryz.func64 (by kernel_rfl) loops_term_Clone rfl (fun _ => by kernel_rfl) h

def F_index_row_after (rP : Option Addr) (rN : Nat) (rC : Nat) (rank : Int) (w : World) (R : Int → Int → Bool → World → Prop) : Prop :=
  New w (.cells #[.int .i64 0, .int .i64 0] 105) fun r w1 =>
  C_index_row_place rP rN rC (IntKind.i64.wrap (rank + (1 : Int))) w1 fun t10 w1_1 =>
  If (t10 == (rN : Int))
  (St w1_1 ((⟨r, 0, none⟩ : Addr).add 0) (.int .i64 0) fun w1_2 =>
  St w1_2 ((⟨r, 0, none⟩ : Addr).add 1) (.int .i64 0) fun w1_3 =>
  ∃ r_1 : Int, w1_3.cell? ((⟨r, 0, none⟩ : Addr).add 0) = some (.int .i64 r_1) ∧
  ∃ r_2 : Int, w1_3.cell? ((⟨r, 0, none⟩ : Addr).add 1) = some (.int .i64 r_2) ∧
  R r_1 r_2 false w1_3)
  (0 ≤ t10 ∧ t10 < (rN : Int) ∧ NN rP fun a =>
  ∃ t190 : Int, w1_1.cell? ((a.add (t10.toNat * 2)).add 0) = some (.int .i64 t190) ∧
  ∃ t191 : Int, w1_1.cell? ((a.add (t10.toNat * 2)).add 1) = some (.int .i64 t191) ∧
  St w1_1 ((⟨r, 0, none⟩ : Addr).add 0) (.int .i64 t190) fun w1_4 =>
  St w1_4 ((⟨r, 0, none⟩ : Addr).add 1) (.int .i64 t191) fun w1_5 =>
  ∃ r_3 : Int, w1_5.cell? ((⟨r, 0, none⟩ : Addr).add 0) = some (.int .i64 r_3) ∧
  ∃ r_4 : Int, w1_5.cell? ((⟨r, 0, none⟩ : Addr).add 1) = some (.int .i64 r_4) ∧
  R r_3 r_4 true w1_5)

def G_index_row_after : Gen where
  loop := lookL []
  plan := fun _ => none

theorem loops_index_row_after : LoopOk Tryz.prog Tryz.f65.ntmps G_index_row_after (codeOf Tryz.f65) := loopOk_none fun _ => rfl

theorem C_index_row_after.of {rP : Option Addr} {rN : Nat} {rC : Nat} {rank : Int} {w : World} {R : Int → Int → Bool → World → Prop} (h : F_index_row_after rP rN rC rank w R) : C_index_row_after rP rN rC rank w R := ofS16 (Fm := F_index_row_after rP rN rC rank w) Tryz.func65 (by kernel_rfl) loops_index_row_after rfl (fun _ => by kernel_rfl) h

def F_ref06_Atom (sx : ByteArray) (w : World) (R : Int → Int → ByteArray → Option Addr → Nat → Nat → World → Prop) : Prop :=
  New w (.cells #[.int .i64 0, .int .i64 0, .string ⟨#[]⟩, .slice none 0 0] 24) fun r w1 =>
  St w1 ((⟨r, 0, none⟩ : Addr).add 0) (.int .i64 3) fun w1_1 =>
  St w1_1 ((⟨r, 0, none⟩ : Addr).add 1) (.int .i64 0) fun w1_2 =>
  St w1_2 ((⟨r, 0, none⟩ : Addr).add 2) (.string sx) fun w1_3 =>
  St w1_3 ((⟨r, 0, none⟩ : Addr).add 3) (.slice none 0 0) fun w1_4 =>
  ∃ r_1 : Int, w1_4.cell? ((⟨r, 0, none⟩ : Addr).add 0) = some (.int .i64 r_1) ∧
  ∃ r_2 : Int, w1_4.cell? ((⟨r, 0, none⟩ : Addr).add 1) = some (.int .i64 r_2) ∧
  ∃ r_3 : ByteArray, w1_4.cell? ((⟨r, 0, none⟩ : Addr).add 2) = some (.string r_3) ∧
  ∃ rP : Option Addr, ∃ rN : Nat, ∃ rC : Nat, w1_4.cell? ((⟨r, 0, none⟩ : Addr).add 3) = some (.slice rP rN rC) ∧
  R r_1 r_2 r_3 rP rN rC w1_4

def G_ref06_Atom : Gen where
  loop := lookL []
  plan := fun _ => none

theorem loops_ref06_Atom : LoopOk Tryz.prog Tryz.f66.ntmps G_ref06_Atom (codeOf Tryz.f66) := loopOk_none fun _ => rfl

theorem C_ref06_Atom.of {sx : ByteArray} {w : World} {R : Int → Int → ByteArray → Option Addr → Nat → Nat → World → Prop} (h : F_ref06_Atom sx w R) : C_ref06_Atom sx w R := ofS15 (Fm := F_ref06_Atom sx w) Tryz.func66 (by kernel_rfl) loops_ref06_Atom rfl (fun _ => by kernel_rfl) h

def F_slices_Delete (sP : Option Addr) (sN : Nat) (sC : Nat) (i : Int) (j : Int) (w : World) (R : Option Addr → Nat → Nat → World → Prop) : Prop :=
  0 ≤ i ∧ i ≤ j ∧ j ≤ (sN : Int) ∧ (sN : Int) ≤ (sC : Int) ∧
  If (i == j)
  (R sP sN sC w)
  (0 ≤ i ∧ i ≤ (sC : Int) ∧
  0 ≤ j ∧ j ≤ (sN : Int) ∧
  App Tryz.prog #[96, 96] 96 #[.slice sP i.toNat sC, .slice (adv sP sC j.toNat 2) (sN - j.toNat) (sC - j.toNat)] (drw w) fun t26P t26N t26C w1 =>
  0 ≤ (t26N : Int) ∧ (t26N : Int) ≤ (sN : Int) ∧ (sN : Int) ≤ (t26C : Int) ∧
  Clr Tryz.prog #[96] 0 #[.slice (adv t26P t26C (t26N : Int).toNat 2) ((sN : Int).toNat - (t26N : Int).toNat) (t26C - (t26N : Int).toNat)] w1 fun v w1_1 =>
  R t26P t26N t26C w1_1)

def G_slices_Delete : Gen where
  loop := lookL []
  plan := fun id =>
    bif Nat.beq id 5 then some ([0, 0, 3, 0, 0, 24, 63, 127], .take 0 (.take 1 (.take 2 (.take 3 (.take 4 (.take 5 (.take 6 (.take 7 .done)))))))) else none

theorem loops_slices_Delete : LoopOk Tryz.prog Tryz.f77.ntmps G_slices_Delete (codeOf Tryz.f77) := loopOk_none fun _ => rfl

theorem C_slices_Delete.of {sP : Option Addr} {sN : Nat} {sC : Nat} {i : Int} {j : Int} {w : World} {R : Option Addr → Nat → Nat → World → Prop} (h : F_slices_Delete sP sN sC i j w R) : C_slices_Delete sP sN sC i j w R := ofS9 (Fm := F_slices_Delete sP sN sC i j w) Tryz.func77 (by kernel_rfl) loops_slices_Delete rfl (fun _ => by kernel_rfl) h

def F_cmp_Less_k1 (x : Int) (y : Int) (R : Bool → World → Prop) (w1_2 : World) : Prop :=
  R (decide (x < y)) w1_2

def F_cmp_Less (x : Int) (y : Int) (w : World) (R : Bool → World → Prop) : Prop :=
  C_cmp_isNaN__2 x w fun t6 w1 =>
  If t6
  (C_cmp_isNaN__2 y w1 fun t9 w1_1 =>
  If (!t9)
  (R true w1_1)
  (F_cmp_Less_k1 x y R w1_1))
  (F_cmp_Less_k1 x y R w1)

def G_cmp_Less : Gen where
  loop := lookL []
  plan := fun _ => none

theorem loops_cmp_Less : LoopOk Tryz.prog Tryz.f84.ntmps G_cmp_Less (codeOf Tryz.f84) := loopOk_none fun _ => rfl

theorem C_cmp_Less.of {x : Int} {y : Int} {w : World} {R : Bool → World → Prop} (h : F_cmp_Less x y w R) : C_cmp_Less x y w R := ofS2 (Fm := F_cmp_Less x y w) Tryz.func84 (by kernel_rfl) loops_cmp_Less rfl (fun _ => by kernel_rfl) h

def F_slices_rotateRight (sP : Option Addr) (sN : Nat) (sC : Nat) (r : Int) (w : World) (R : World → Prop) : Prop :=
  C_slices_rotateLeft sP sN sC (IntKind.i64.wrap ((sN : Int) - r)) w fun w1 =>
  R w1

def G_slices_rotateRight : Gen where
  loop := lookL []
  plan := fun _ => none

theorem loops_slices_rotateRight : LoopOk Tryz.prog Tryz.f88.ntmps G_slices_rotateRight (codeOf Tryz.f88) := loopOk_none fun _ => rfl

theorem C_slices_rotateRight.of {sP : Option Addr} {sN : Nat} {sC : Nat} {r : Int} {w : World} {R : World → Prop} (h : F_slices_rotateRight sP sN sC r w R) : C_slices_rotateRight sP sN sC r w R := ofS1 (Fm := F_slices_rotateRight sP sN sC r w) Tryz.func88 (by kernel_rfl) loops_slices_rotateRight rfl (fun _ => by kernel_rfl) h

structure S_slices_BinarySearchFunc_L1 where
  i : Int
  j : Int

/-- One round. -/
def B_slices_BinarySearchFunc_L1 (xP_1 : Option Addr) (xN_1 : Nat) (xC_1 : Nat) (target_1 : Int) (cmp_1 : Value) (n : Int) (s : S_slices_BinarySearchFunc_L1) (w : World) (Kn : S_slices_BinarySearchFunc_L1 → World → Prop) (Kx0 : Int → World → Prop) : Prop :=
  If (decide ((s.i : Int) < (s.j : Int)))
  (0 ≤ (1 : Int) ∧
  0 ≤ (IntKind.i64.wrap (shrI .u64 (IntKind.u64.wrap (IntKind.i64.wrap ((s.i : Int) + (s.j : Int)))) (1 : Int))) ∧ (IntKind.i64.wrap (shrI .u64 (IntKind.u64.wrap (IntKind.i64.wrap ((s.i : Int) + (s.j : Int)))) (1 : Int))) < (xN_1 : Int) ∧ NN xP_1 fun a =>
  ∃ t280 : Int, w.cell? ((a.add ((IntKind.i64.wrap (shrI .u64 (IntKind.u64.wrap (IntKind.i64.wrap ((s.i : Int) + (s.j : Int)))) (1 : Int))).toNat * 2)).add 0) = some (.int .i64 t280) ∧
  ∃ t281 : Int, w.cell? ((a.add ((IntKind.i64.wrap (shrI .u64 (IntKind.u64.wrap (IntKind.i64.wrap ((s.i : Int) + (s.j : Int)))) (1 : Int))).toNat * 2)).add 1) = some (.int .i64 t281) ∧
  CallV Tryz.prog cmp_1 [.agg #[.int .i64 t280, .int .i64 t281], .int .i64 target_1] w fun v w1 => ∃ t30 : Int, v = (.int .i64 t30) ∧
  If (decide (t30 < (0 : Int)))
  (Kn ⟨(IntKind.i64.wrap ((IntKind.i64.wrap (shrI .u64 (IntKind.u64.wrap (IntKind.i64.wrap ((s.i : Int) + (s.j : Int)))) (1 : Int))) + (1 : Int))), (s.j : Int)⟩ w1)
  (Kn ⟨(s.i : Int), (IntKind.i64.wrap (shrI .u64 (IntKind.u64.wrap (IntKind.i64.wrap ((s.i : Int) + (s.j : Int)))) (1 : Int)))⟩ w1))
  (Kx0 (s.i : Int) w)

def F_slices_BinarySearchFunc_L1 (xP_1 : Option Addr) (xN_1 : Nat) (xC_1 : Nat) (target_1 : Int) (cmp_1 : Value) (n : Int) (s : S_slices_BinarySearchFunc_L1) (w : World) (Kx0 : Int → World → Prop) : Prop :=
  LoopS (fun s w Kn => B_slices_BinarySearchFunc_L1 xP_1 xN_1 xC_1 target_1 cmp_1 n s w Kn Kx0) s w

def F_slices_BinarySearchFunc (xP : Option Addr) (xN : Nat) (xC : Nat) (target : Int) (cmp : Value) (w : World) (R : Int → Bool → World → Prop) : Prop :=
  F_slices_BinarySearchFunc_L1 xP xN xC target cmp (xN : Int) ⟨(0 : Int), (xN : Int)⟩ w
  (fun i_2 w1_1 =>
  If (decide (i_2 < (xN : Int)))
  (0 ≤ i_2 ∧ i_2 < (xN : Int) ∧ NN xP fun a_1 =>
  ∃ t440 : Int, w1_1.cell? ((a_1.add (i_2.toNat * 2)).add 0) = some (.int .i64 t440) ∧
  ∃ t441 : Int, w1_1.cell? ((a_1.add (i_2.toNat * 2)).add 1) = some (.int .i64 t441) ∧
  CallV Tryz.prog cmp [.agg #[.int .i64 t440, .int .i64 t441], .int .i64 target] w1_1 fun v_1 w1_2 => ∃ t46 : Int, v_1 = (.int .i64 t46) ∧
  R i_2 (t46 == (0 : Int)) w1_2)
  (R i_2 false w1_1))

def lit_slices_BinarySearchFunc_L1 (f : (Option Addr) × Nat × Nat × Int × Value × Int) (s : S_slices_BinarySearchFunc_L1) : Env := [⟨0, .slice f.1 f.2.1 f.2.2.1, none⟩, ⟨1, .int .i64 f.2.2.2.1, none⟩, ⟨2, f.2.2.2.2.1, none⟩, ⟨8, .int .i64 f.2.2.2.2.2, none⟩, ⟨9, .int .i64 s.i, none⟩, ⟨10, .int .i64 s.j, none⟩]

def dec_slices_BinarySearchFunc_L1 (e : Env) (K : ((Option Addr) × Nat × Nat × Int × Value × Int) → S_slices_BinarySearchFunc_L1 → Prop) : Prop :=
  oS e 0 fun xP_1 xN_1 xC_1 =>
  oI e 1 .i64 fun target_1 =>
  oV e 2 fun cmp_1 =>
  oI e 8 .i64 fun n =>
  oI e 9 .i64 fun i =>
  oI e 10 .i64 fun j =>
    K (xP_1, xN_1, xC_1, target_1, cmp_1, n) ⟨i, j⟩

theorem dec_slices_BinarySearchFunc_L1_ok {N : Nat} (e : Env) (a : Act) (K : ((Option Addr) × Nat × Nat × Int × Value × Int) → S_slices_BinarySearchFunc_L1 → Prop) (hr : Rep N a e) (h0 : dec_slices_BinarySearchFunc_L1 e K) : ∃ f s, K f s ∧ Rep N a (lit_slices_BinarySearchFunc_L1 f s) := by
  unfold dec_slices_BinarySearchFunc_L1 at h0
  obtain ⟨xP_1, xN_1, xC_1, g0, h1⟩ := oS_elim h0
  obtain ⟨target_1, g1, h2⟩ := oI_elim h1
  obtain ⟨cmp_1, g2, h3⟩ := oV_elim h2
  obtain ⟨n, g8, h4⟩ := oI_elim h3
  obtain ⟨i, g9, h5⟩ := oI_elim h4
  obtain ⟨j, g10, h6⟩ := oI_elim h5
  exact ⟨_, _, h6, rep_less hr (by simp [lit_slices_BinarySearchFunc_L1, g0, g1, g2, g8, g9, g10])⟩

def spec_slices_BinarySearchFunc_L1 (Q : Post) (e : Env) (w : World) : Prop :=
  dec_slices_BinarySearchFunc_L1 e fun f s => F_slices_BinarySearchFunc_L1 f.1 f.2.1 f.2.2.1 f.2.2.2.1 f.2.2.2.2.1 f.2.2.2.2.2 s w (fun i_1 w1 => Q (.exit 0) [⟨0, .slice f.1 f.2.1 f.2.2.1, none⟩, ⟨1, .int .i64 f.2.2.2.1, none⟩, ⟨2, f.2.2.2.2.1, none⟩, ⟨8, .int .i64 f.2.2.2.2.2, none⟩, ⟨9, .int .i64 i_1, none⟩] w1)

def G_slices_BinarySearchFunc : Gen where
  loop := lookL [([false, false, true, true, true], spec_slices_BinarySearchFunc_L1)]
  plan := fun _ => none

def dx_slices_BinarySearchFunc_L1_0 (e : Env) (K : ((Option Addr) × Nat × Nat × Int × Value × Int) → Int → Prop) : Prop :=
  oS e 0 fun xP_1 xN_1 xC_1 =>
  oI e 1 .i64 fun target_1 =>
  oV e 2 fun cmp_1 =>
  oI e 8 .i64 fun n =>
  oI e 9 .i64 fun i_1 =>
    K (xP_1, xN_1, xC_1, target_1, cmp_1, n) i_1

theorem body_slices_BinarySearchFunc_L1 (f : (Option Addr) × Nat × Nat × Int × Value × Int) (s : S_slices_BinarySearchFunc_L1) (w : World) (Kn : ((Option Addr) × Nat × Nat × Int × Value × Int) → S_slices_BinarySearchFunc_L1 → World → Prop) (Kx0 : ((Option Addr) × Nat × Nat × Int × Value × Int) → Int → World → Prop) :
    B_slices_BinarySearchFunc_L1 f.1 f.2.1 f.2.2.1 f.2.2.2.1 f.2.2.2.2.1 f.2.2.2.2.2 s w (fun s1 w1 => Kn f s1 w1) (fun i_1 w1 => Kx0 f i_1 w1) =
    den Tryz.prog Tryz.f89.ntmps G_slices_BinarySearchFunc (sub (codeOf Tryz.f89) [false, false, false, true, true, true]) [false, false, false, true, true, true] (roundQ (fun e w => dec_slices_BinarySearchFunc_L1 e fun f s => Kn f s w) (fun e w => False) (fun id e w => match Nat.beq id 0 with | true => dx_slices_BinarySearchFunc_L1_0 e fun f i_1 => Kx0 f i_1 w | false => False)) (lit_slices_BinarySearchFunc_L1 f s) w := by kernel_rfl

theorem ok_slices_BinarySearchFunc_L1 : OneOk Tryz.prog Tryz.f89.ntmps G_slices_BinarySearchFunc (codeOf Tryz.f89) [false, false, true, true, true] spec_slices_BinarySearchFunc_L1 := by
  intro c hc ih Q e w a hr h
  have hcc : sub (codeOf Tryz.f89) [false, false, false, true, true, true] = c := sub_of_codeAt hc
  obtain ⟨f, s, h, hrep⟩ := dec_slices_BinarySearchFunc_L1_ok e a _ hr h
  obtain ⟨J, μ, hj, hround⟩ := h
  refine loop_rule_deep seat_ok seat_mixed ih lit_slices_BinarySearchFunc_L1 dec_slices_BinarySearchFunc_L1 dec_slices_BinarySearchFunc_L1_ok hc f J μ (Kr := fun e w => False) (Kx := fun id e w => match Nat.beq id 0 with | true => (dx_slices_BinarySearchFunc_L1_0 e fun f1 i_1 => f1 = f ∧ Q (.exit 0) [⟨0, .slice f.1 f.2.1 f.2.2.1, none⟩, ⟨1, .int .i64 f.2.2.2.1, none⟩, ⟨2, f.2.2.2.2.1, none⟩, ⟨8, .int .i64 f.2.2.2.2.2, none⟩, ⟨9, .int .i64 i_1, none⟩] w) | false => False) ?_ ?_ ?_ s w a hj hrep
  · intro e a w hr h
    exact h.elim
  · intro id e a w hr h0
    (try dsimp only at h0)
    split at h0
    · rename_i hid
      obtain rfl := Nat.eq_of_beq_eq_true hid
      unfold dx_slices_BinarySearchFunc_L1_0 at h0
      obtain ⟨xP_1, xN_1, xC_1, g0, h1⟩ := oS_elim h0
      obtain ⟨target_1, g1, h2⟩ := oI_elim h1
      obtain ⟨cmp_1, g2, h3⟩ := oV_elim h2
      obtain ⟨n, g8, h4⟩ := oI_elim h3
      obtain ⟨i_1, g9, h5⟩ := oI_elim h4
      obtain ⟨hf, hq⟩ := h5
      subst hf
      exact ⟨_, rep_less hr (by simp [g0, g1, g2, g8, g9]), hq⟩
    · exact h0.elim
  · intro s w hj
    have hb := hround s w hj
    rw [← hcc]
    have e1 := body_slices_BinarySearchFunc_L1 f s w (fun f1 s1 w1 => f1 = f ∧ J s1 w1 ∧ μ s1 w1 < μ s w) (fun f1 i_1 w1 => f1 = f ∧ Q (.exit 0) [⟨0, .slice f.1 f.2.1 f.2.2.1, none⟩, ⟨1, .int .i64 f.2.2.2.1, none⟩, ⟨2, f.2.2.2.2.1, none⟩, ⟨8, .int .i64 f.2.2.2.2.2, none⟩, ⟨9, .int .i64 i_1, none⟩] w1)
    simp only [true_and] at e1
    exact cast e1 hb

theorem loops_slices_BinarySearchFunc : LoopOk Tryz.prog Tryz.f89.ntmps G_slices_BinarySearchFunc (codeOf Tryz.f89) := loopOk_list rfl ⟨ok_slices_BinarySearchFunc_L1, trivial⟩

theorem C_slices_BinarySearchFunc.of {xP : Option Addr} {xN : Nat} {xC : Nat} {target : Int} {cmp : Value} {w : World} {R : Int → Bool → World → Prop} (h : F_slices_BinarySearchFunc xP xN xC target cmp w R) : C_slices_BinarySearchFunc xP xN xC target cmp w R := ofS4 (Fm := F_slices_BinarySearchFunc xP xN xC target cmp w) Tryz.func89 (by kernel_rfl) loops_slices_BinarySearchFunc rfl (fun _ => by kernel_rfl) h

def F_index_row_place_1 (e0 : Int) (e1 : Int) (rank : Int) (w : World) (R : Int → World → Prop) : Prop :=
  New w (.cells #[.int .i64 e0, .int .i64 e1] 105) fun r w1 =>
  ∃ rank_1 : Int, w1.cell? ((⟨r, 0, none⟩ : Addr).add 0) = some (.int .i64 rank_1) ∧
  C_cmp_Compare__2 rank_1 rank w1 fun t8 w1_1 =>
  R t8 w1_1

def G_index_row_place_1 : Gen where
  loop := lookL []
  plan := fun _ => none

theorem loops_index_row_place_1 : LoopOk Tryz.prog Tryz.f90.ntmps G_index_row_place_1 (codeOf Tryz.f90) := loopOk_none fun _ => rfl

theorem C_index_row_place_1.of {e0 : Int} {e1 : Int} {rank : Int} {w : World} {R : Int → World → Prop} (h : F_index_row_place_1 e0 e1 rank w R) : C_index_row_place_1 e0 e1 rank w R := ofS8 (Fm := F_index_row_place_1 e0 e1 rank w) Tryz.func90 (by kernel_rfl) loops_index_row_place_1 rfl (fun _ => by kernel_rfl) h

def F_term_measure (t0 : Int) (t1 : Int) (t2 : ByteArray) (t3P : Option Addr) (t3N : Nat) (t3C : Nat) (w : World) (R : Int → Int → Bool → World → Prop) : Prop :=
  New w (.cells #[.int .i64 t0, .int .i64 t1, .string t2, .slice t3P t3N t3C] 24) fun r w1 =>
  New w1 (.cells #[.int .i64 0, .int .i64 0, .bool false] 146) fun r_1 w1_1 =>
  New w1_1 (.cells #[.int .i64 0, .int .i64 0, .bool false] 146) fun r_2 w1_2 =>
  ∃ t40 : Int, w1_2.cell? ((⟨r, 0, none⟩ : Addr).add 0) = some (.int .i64 t40) ∧
  ∃ t41 : Int, w1_2.cell? ((⟨r, 0, none⟩ : Addr).add 1) = some (.int .i64 t41) ∧
  ∃ t42 : ByteArray, w1_2.cell? ((⟨r, 0, none⟩ : Addr).add 2) = some (.string t42) ∧
  ∃ t43P : Option Addr, ∃ t43N : Nat, ∃ t43C : Nat, w1_2.cell? ((⟨r, 0, none⟩ : Addr).add 3) = some (.slice t43P t43N t43C) ∧
  C_term_count_of (some ⟨r_2, 0, none⟩) t40 t41 t42 t43P t43N t43C (1 : Int) w1_2 fun w1_3 =>
  ∃ t60 : Int, w1_3.cell? ((⟨r_2, 0, none⟩ : Addr).add 0) = some (.int .i64 t60) ∧
  ∃ t61 : Int, w1_3.cell? ((⟨r_2, 0, none⟩ : Addr).add 1) = some (.int .i64 t61) ∧
  ∃ t62 : Bool, w1_3.cell? ((⟨r_2, 0, none⟩ : Addr).add 2) = some (.bool t62) ∧
  St w1_3 ((⟨r_1, 0, none⟩ : Addr).add 0) (.int .i64 t60) fun w1_4 =>
  St w1_4 ((⟨r_1, 0, none⟩ : Addr).add 1) (.int .i64 t61) fun w1_5 =>
  St w1_5 ((⟨r_1, 0, none⟩ : Addr).add 2) (.bool t62) fun w1_6 =>
  ∃ r_3 : Int, w1_6.cell? ((⟨r_1, 0, none⟩ : Addr).add 0) = some (.int .i64 r_3) ∧
  ∃ r_4 : Int, w1_6.cell? ((⟨r_1, 0, none⟩ : Addr).add 1) = some (.int .i64 r_4) ∧
  ∃ r_5 : Bool, w1_6.cell? ((⟨r_1, 0, none⟩ : Addr).add 2) = some (.bool r_5) ∧
  R r_3 r_4 r_5 w1_6

def G_term_measure : Gen where
  loop := lookL []
  plan := fun _ => none

theorem loops_term_measure : LoopOk Tryz.prog Tryz.f91.ntmps G_term_measure (codeOf Tryz.f91) := loopOk_none fun _ => rfl

theorem C_term_measure.of {t0 : Int} {t1 : Int} {t2 : ByteArray} {t3P : Option Addr} {t3N : Nat} {t3C : Nat} {w : World} {R : Int → Int → Bool → World → Prop} (h : F_term_measure t0 t1 t2 t3P t3N t3C w R) : C_term_measure t0 t1 t2 t3P t3N t3C w R := ofS17 (Fm := F_term_measure t0 t1 t2 t3P t3N t3C w) Tryz.func91 (by kernel_rfl) loops_term_measure rfl (fun _ => by kernel_rfl) h

def F_term_may (t0 : Int) (t1 : Int) (t2 : ByteArray) (t3P : Option Addr) (t3N : Nat) (t3C : Nat) (w : World) (R : Bool → World → Prop) : Prop :=
  New w (.cells #[.int .i64 t0, .int .i64 t1, .string t2, .slice t3P t3N t3C] 24) fun r w1 =>
  ∃ t30 : Int, w1.cell? ((⟨r, 0, none⟩ : Addr).add 0) = some (.int .i64 t30) ∧
  ∃ t31 : Int, w1.cell? ((⟨r, 0, none⟩ : Addr).add 1) = some (.int .i64 t31) ∧
  ∃ t32 : ByteArray, w1.cell? ((⟨r, 0, none⟩ : Addr).add 2) = some (.string t32) ∧
  ∃ t33P : Option Addr, ∃ t33N : Nat, ∃ t33C : Nat, w1.cell? ((⟨r, 0, none⟩ : Addr).add 3) = some (.slice t33P t33N t33C) ∧
  C_term_Check t30 t31 t32 t33P t33N t33C w1 fun t4 w1_1 =>
  R (t4 == (0 : Int)) w1_1

def G_term_may : Gen where
  loop := lookL []
  plan := fun _ => none

theorem loops_term_may : LoopOk Tryz.prog Tryz.f92.ntmps G_term_may (codeOf Tryz.f92) := loopOk_none fun _ => rfl

theorem C_term_may.of {t0 : Int} {t1 : Int} {t2 : ByteArray} {t3P : Option Addr} {t3N : Nat} {t3C : Nat} {w : World} {R : Bool → World → Prop} (h : F_term_may t0 t1 t2 t3P t3N t3C w R) : C_term_may t0 t1 t2 t3P t3N t3C w R := ofS2 (Fm := F_term_may t0 t1 t2 t3P t3N t3C w) Tryz.func92 (by kernel_rfl) loops_term_may rfl (fun _ => by kernel_rfl) h

structure S_term_build_L1 where
  t25 : Int

/-- One round. -/
def B_term_build_L1 (of_1 : Value) (t4 : Addr) (u : Addr) (t23P : Option Addr) (t23N : Nat) (t23C : Nat) (t24 : Int) (s : S_term_build_L1) (w : World) (Kn : S_term_build_L1 → World → Prop) (Kx0 : World → Prop) : Prop :=
  If (decide ((s.t25 : Int) < t24))
  (0 ≤ (s.t25 : Int) ∧ (s.t25 : Int) < (t23N : Int) ∧ NN t23P fun a =>
  ∃ t280 : Int, w.cell? ((a.add ((s.t25 : Int).toNat * 4)).add 0) = some (.int .i64 t280) ∧
  ∃ t281 : Int, w.cell? ((a.add ((s.t25 : Int).toNat * 4)).add 1) = some (.int .i64 t281) ∧
  ∃ t282 : ByteArray, w.cell? ((a.add ((s.t25 : Int).toNat * 4)).add 2) = some (.string t282) ∧
  ∃ t283P : Option Addr, ∃ t283N : Nat, ∃ t283C : Nat, w.cell? ((a.add ((s.t25 : Int).toNat * 4)).add 3) = some (.slice t283P t283N t283C) ∧
  New w (.cells #[.int .i64 0, .int .i64 0, .string ⟨#[]⟩, .slice none 0 0] 24) fun r_6 w1_12 =>
  St w1_12 ((⟨r_6, 0, none⟩ : Addr).add 0) (.int .i64 t280) fun w1_13 =>
  St w1_13 ((⟨r_6, 0, none⟩ : Addr).add 1) (.int .i64 t281) fun w1_14 =>
  St w1_14 ((⟨r_6, 0, none⟩ : Addr).add 2) (.string t282) fun w1_15 =>
  St w1_15 ((⟨r_6, 0, none⟩ : Addr).add 3) (.slice t283P t283N t283C) fun w1_16 =>
  ∃ LP_1 : Option Addr, ∃ LN_1 : Nat, ∃ LC_1 : Nat, (drw w1_16).cell? (u.add 3) = some (.slice LP_1 LN_1 LC_1) ∧
  ∃ t310 : Int, (drw w1_16).cell? ((⟨r_6, 0, none⟩ : Addr).add 0) = some (.int .i64 t310) ∧
  ∃ t311 : Int, (drw w1_16).cell? ((⟨r_6, 0, none⟩ : Addr).add 1) = some (.int .i64 t311) ∧
  ∃ t312 : ByteArray, (drw w1_16).cell? ((⟨r_6, 0, none⟩ : Addr).add 2) = some (.string t312) ∧
  ∃ t313P : Option Addr, ∃ t313N : Nat, ∃ t313C : Nat, (drw w1_16).cell? ((⟨r_6, 0, none⟩ : Addr).add 3) = some (.slice t313P t313N t313C) ∧
  C_term_build t310 t311 t312 t313P t313N t313C of_1 (drw w1_16) fun t330 t331 t332 t333P t333N t333C w1_17 =>
  w1_17.cell? (u.add 3) = (drw w1_16).cell? (u.add 3) ∧
  BSl Tryz.prog 22 1 [(0, .agg #[.int .i64 t330, .int .i64 t331, .string t332, .slice t333P t333N t333C])] w1_17 fun t34P t34N t34C w1_18 =>
  w1_18.cell? (u.add 3) = (drw w1_16).cell? (u.add 3) ∧
  App Tryz.prog #[22, 22] 22 #[.slice LP_1 LN_1 LC_1, .slice t34P t34N t34C] w1_18 fun t35P t35N t35C w1_19 =>
  St w1_19 ((u.add 3).add 0) (.slice t35P t35N t35C) fun w1_20 =>
  Kn ⟨(IntKind.i64.wrap ((s.t25 : Int) + (1 : Int)))⟩ w1_20)
  (Kx0 w)

def F_term_build_L1 (of_1 : Value) (t4 : Addr) (u : Addr) (t23P : Option Addr) (t23N : Nat) (t23C : Nat) (t24 : Int) (s : S_term_build_L1) (w : World) (Kx0 : World → Prop) : Prop :=
  LoopS (fun s w Kn => B_term_build_L1 of_1 t4 u t23P t23N t23C t24 s w Kn Kx0) s w

def F_term_build (t0 : Int) (t1 : Int) (t2 : ByteArray) (t3P : Option Addr) (t3N : Nat) (t3C : Nat) (of : Value) (w : World) (R : Int → Int → ByteArray → Option Addr → Nat → Nat → World → Prop) : Prop :=
  New w (.cells #[.int .i64 t0, .int .i64 t1, .string t2, .slice t3P t3N t3C] 24) fun r w1 =>
  New w1 (.cells #[.int .i64 0, .int .i64 0, .string ⟨#[]⟩, .slice none 0 0] 24) fun r_1 w1_1 =>
  ∃ Kind : Int, w1_1.cell? ((⟨r, 0, none⟩ : Addr).add 0) = some (.int .i64 Kind) ∧
  If (Kind == (1 : Int))
  (∃ N : Int, w1_1.cell? ((⟨r, 0, none⟩ : Addr).add 1) = some (.int .i64 N) ∧
  CallV Tryz.prog of [.int .i64 N] w1_1 fun v w1_2 => ∃ t140 : Int, ∃ t141 : Int, ∃ t142 : ByteArray, ∃ t143P : Option Addr, ∃ t143N : Nat, ∃ t143C : Nat, v = (.agg #[.int .i64 t140, .int .i64 t141, .string t142, .slice t143P t143N t143C]) ∧
  St w1_2 ((⟨r_1, 0, none⟩ : Addr).add 0) (.int .i64 t140) fun w1_3 =>
  St w1_3 ((⟨r_1, 0, none⟩ : Addr).add 1) (.int .i64 t141) fun w1_4 =>
  St w1_4 ((⟨r_1, 0, none⟩ : Addr).add 2) (.string t142) fun w1_5 =>
  St w1_5 ((⟨r_1, 0, none⟩ : Addr).add 3) (.slice t143P t143N t143C) fun w1_6 =>
  ∃ r_2 : Int, w1_6.cell? ((⟨r_1, 0, none⟩ : Addr).add 0) = some (.int .i64 r_2) ∧
  ∃ r_3 : Int, w1_6.cell? ((⟨r_1, 0, none⟩ : Addr).add 1) = some (.int .i64 r_3) ∧
  ∃ r_4 : ByteArray, w1_6.cell? ((⟨r_1, 0, none⟩ : Addr).add 2) = some (.string r_4) ∧
  ∃ rP : Option Addr, ∃ rN : Nat, ∃ rC : Nat, w1_6.cell? ((⟨r_1, 0, none⟩ : Addr).add 3) = some (.slice rP rN rC) ∧
  R r_2 r_3 r_4 rP rN rC w1_6)
  (∃ Kind_1 : Int, w1_1.cell? ((⟨r, 0, none⟩ : Addr).add 0) = some (.int .i64 Kind_1) ∧
  ∃ N_1 : Int, w1_1.cell? ((⟨r, 0, none⟩ : Addr).add 1) = some (.int .i64 N_1) ∧
  ∃ S : ByteArray, w1_1.cell? ((⟨r, 0, none⟩ : Addr).add 2) = some (.string S) ∧
  New w1_1 (.cells #[.int .i64 0, .int .i64 0, .string ⟨#[]⟩, .slice none 0 0] 24) fun r_5 w1_7 =>
  St w1_7 ((⟨r_5, 0, none⟩ : Addr).add 0) (.int .i64 Kind_1) fun w1_8 =>
  St w1_8 ((⟨r_5, 0, none⟩ : Addr).add 1) (.int .i64 N_1) fun w1_9 =>
  St w1_9 ((⟨r_5, 0, none⟩ : Addr).add 2) (.string S) fun w1_10 =>
  St w1_10 ((⟨r_5, 0, none⟩ : Addr).add 3) (.slice none 0 0) fun w1_11 =>
  ∃ LP : Option Addr, ∃ LN : Nat, ∃ LC : Nat, w1_11.cell? ((⟨r, 0, none⟩ : Addr).add 3) = some (.slice LP LN LC) ∧
  F_term_build_L1 of ⟨r_1, 0, none⟩ ⟨r_5, 0, none⟩ LP LN LC (LN : Int) ⟨(0 : Int)⟩ w1_11
  (fun w1_21 =>
  ∃ t380 : Int, w1_21.cell? ((⟨r_5, 0, none⟩ : Addr).add 0) = some (.int .i64 t380) ∧
  ∃ t381 : Int, w1_21.cell? ((⟨r_5, 0, none⟩ : Addr).add 1) = some (.int .i64 t381) ∧
  ∃ t382 : ByteArray, w1_21.cell? ((⟨r_5, 0, none⟩ : Addr).add 2) = some (.string t382) ∧
  ∃ t383P : Option Addr, ∃ t383N : Nat, ∃ t383C : Nat, w1_21.cell? ((⟨r_5, 0, none⟩ : Addr).add 3) = some (.slice t383P t383N t383C) ∧
  St w1_21 ((⟨r_1, 0, none⟩ : Addr).add 0) (.int .i64 t380) fun w1_22 =>
  St w1_22 ((⟨r_1, 0, none⟩ : Addr).add 1) (.int .i64 t381) fun w1_23 =>
  St w1_23 ((⟨r_1, 0, none⟩ : Addr).add 2) (.string t382) fun w1_24 =>
  St w1_24 ((⟨r_1, 0, none⟩ : Addr).add 3) (.slice t383P t383N t383C) fun w1_25 =>
  ∃ r_7 : Int, w1_25.cell? ((⟨r_1, 0, none⟩ : Addr).add 0) = some (.int .i64 r_7) ∧
  ∃ r_8 : Int, w1_25.cell? ((⟨r_1, 0, none⟩ : Addr).add 1) = some (.int .i64 r_8) ∧
  ∃ r_9 : ByteArray, w1_25.cell? ((⟨r_1, 0, none⟩ : Addr).add 2) = some (.string r_9) ∧
  ∃ rP_1 : Option Addr, ∃ rN_1 : Nat, ∃ rC_1 : Nat, w1_25.cell? ((⟨r_1, 0, none⟩ : Addr).add 3) = some (.slice rP_1 rN_1 rC_1) ∧
  R r_7 r_8 r_9 rP_1 rN_1 rC_1 w1_25))

def lit_term_build_L1 (f : Value × Addr × Addr × (Option Addr) × Nat × Nat × Int) (s : S_term_build_L1) : Env := [⟨1, f.1, none⟩, ⟨4, .pointer (some f.2.1), none⟩, ⟨5, .pointer (some f.2.2.1), none⟩, ⟨23, .slice f.2.2.2.1 f.2.2.2.2.1 f.2.2.2.2.2.1, none⟩, ⟨24, .int .i64 f.2.2.2.2.2.2, none⟩, ⟨25, .int .i64 s.t25, none⟩]

def dec_term_build_L1 (e : Env) (K : (Value × Addr × Addr × (Option Addr) × Nat × Nat × Int) → S_term_build_L1 → Prop) : Prop :=
  oV e 1 fun of_1 =>
  oA e 4 fun t4 =>
  oA e 5 fun u =>
  oS e 23 fun t23P t23N t23C =>
  oI e 24 .i64 fun t24 =>
  oI e 25 .i64 fun t25 =>
    K (of_1, t4, u, t23P, t23N, t23C, t24) ⟨t25⟩

theorem dec_term_build_L1_ok {N : Nat} (e : Env) (a : Act) (K : (Value × Addr × Addr × (Option Addr) × Nat × Nat × Int) → S_term_build_L1 → Prop) (hr : Rep N a e) (h0 : dec_term_build_L1 e K) : ∃ f s, K f s ∧ Rep N a (lit_term_build_L1 f s) := by
  unfold dec_term_build_L1 at h0
  obtain ⟨of_1, g1, h1⟩ := oV_elim h0
  obtain ⟨t4, g4, h2⟩ := oA_elim h1
  obtain ⟨u, g5, h3⟩ := oA_elim h2
  obtain ⟨t23P, t23N, t23C, g23, h4⟩ := oS_elim h3
  obtain ⟨t24, g24, h5⟩ := oI_elim h4
  obtain ⟨t25, g25, h6⟩ := oI_elim h5
  exact ⟨_, _, h6, rep_less hr (by simp [lit_term_build_L1, g1, g4, g5, g23, g24, g25])⟩

def spec_term_build_L1 (Q : Post) (e : Env) (w : World) : Prop :=
  dec_term_build_L1 e fun f s => F_term_build_L1 f.1 f.2.1 f.2.2.1 f.2.2.2.1 f.2.2.2.2.1 f.2.2.2.2.2.1 f.2.2.2.2.2.2 s w (fun w1 => Q (.exit 0) [⟨4, .pointer (some f.2.1), none⟩, ⟨5, .pointer (some f.2.2.1), none⟩] w1)

def G_term_build : Gen where
  loop := lookL [([false, true, false, true, true, true], spec_term_build_L1)]
  plan := fun id =>
    bif Nat.beq id 7 then some ([0, 1, 0, 0, 12, 28, 63, 127, 255], .take 0 (.take 1 (.take 2 (.take 3 (.take 4 (.take 5 (.take 6 (.take 7 (.take 8 .done))))))))) else none

def dx_term_build_L1_0 (e : Env) (K : (Value × Addr × Addr × (Option Addr) × Nat × Nat × Int) → Prop) : Prop :=
  oV e 1 fun of_1 =>
  oA e 4 fun t4 =>
  oA e 5 fun u =>
  oS e 23 fun t23P t23N t23C =>
  oI e 24 .i64 fun t24 =>
    K (of_1, t4, u, t23P, t23N, t23C, t24)

theorem body_term_build_L1 (f : Value × Addr × Addr × (Option Addr) × Nat × Nat × Int) (s : S_term_build_L1) (w : World) (Kn : (Value × Addr × Addr × (Option Addr) × Nat × Nat × Int) → S_term_build_L1 → World → Prop) (Kx0 : (Value × Addr × Addr × (Option Addr) × Nat × Nat × Int) → World → Prop) :
    B_term_build_L1 f.1 f.2.1 f.2.2.1 f.2.2.2.1 f.2.2.2.2.1 f.2.2.2.2.2.1 f.2.2.2.2.2.2 s w (fun s1 w1 => Kn f s1 w1) (fun w1 => Kx0 f w1) =
    den Tryz.prog Tryz.f93.ntmps G_term_build (sub (codeOf Tryz.f93) [false, false, true, false, true, true, true]) [false, false, true, false, true, true, true] (roundQ (fun e w => dec_term_build_L1 e fun f s => Kn f s w) (fun e w => False) (fun id e w => match Nat.beq id 0 with | true => dx_term_build_L1_0 e fun f => Kx0 f w | false => False)) (lit_term_build_L1 f s) w := by kernel_rfl

theorem ok_term_build_L1 : OneOk Tryz.prog Tryz.f93.ntmps G_term_build (codeOf Tryz.f93) [false, true, false, true, true, true] spec_term_build_L1 := by
  intro c hc ih Q e w a hr h
  have hcc : sub (codeOf Tryz.f93) [false, false, true, false, true, true, true] = c := sub_of_codeAt hc
  obtain ⟨f, s, h, hrep⟩ := dec_term_build_L1_ok e a _ hr h
  obtain ⟨J, μ, hj, hround⟩ := h
  refine loop_rule_deep seat_ok seat_mixed ih lit_term_build_L1 dec_term_build_L1 dec_term_build_L1_ok hc f J μ (Kr := fun e w => False) (Kx := fun id e w => match Nat.beq id 0 with | true => (dx_term_build_L1_0 e fun f1 => f1 = f ∧ Q (.exit 0) [⟨4, .pointer (some f.2.1), none⟩, ⟨5, .pointer (some f.2.2.1), none⟩] w) | false => False) ?_ ?_ ?_ s w a hj hrep
  · intro e a w hr h
    exact h.elim
  · intro id e a w hr h0
    (try dsimp only at h0)
    split at h0
    · rename_i hid
      obtain rfl := Nat.eq_of_beq_eq_true hid
      unfold dx_term_build_L1_0 at h0
      obtain ⟨of_1, g1, h1⟩ := oV_elim h0
      obtain ⟨t4, g4, h2⟩ := oA_elim h1
      obtain ⟨u, g5, h3⟩ := oA_elim h2
      obtain ⟨t23P, t23N, t23C, g23, h4⟩ := oS_elim h3
      obtain ⟨t24, g24, h5⟩ := oI_elim h4
      obtain ⟨hf, hq⟩ := h5
      subst hf
      exact ⟨_, rep_less hr (by simp [g4, g5]), hq⟩
    · exact h0.elim
  · intro s w hj
    have hb := hround s w hj
    rw [← hcc]
    have e1 := body_term_build_L1 f s w (fun f1 s1 w1 => f1 = f ∧ J s1 w1 ∧ μ s1 w1 < μ s w) (fun f1 w1 => f1 = f ∧ Q (.exit 0) [⟨4, .pointer (some f.2.1), none⟩, ⟨5, .pointer (some f.2.2.1), none⟩] w1)
    simp only [true_and] at e1
    exact cast e1 hb

theorem loops_term_build : LoopOk Tryz.prog Tryz.f93.ntmps G_term_build (codeOf Tryz.f93) := loopOk_list rfl ⟨ok_term_build_L1, trivial⟩

theorem C_term_build.of {t0 : Int} {t1 : Int} {t2 : ByteArray} {t3P : Option Addr} {t3N : Nat} {t3C : Nat} {of : Value} {w : World} {R : Int → Int → ByteArray → Option Addr → Nat → Nat → World → Prop} (h : F_term_build t0 t1 t2 t3P t3N t3C of w R) : C_term_build t0 t1 t2 t3P t3N t3C of w R := ofS15 (Fm := F_term_build t0 t1 t2 t3P t3N t3C of w) Tryz.func93 (by kernel_rfl) loops_term_build rfl (fun _ => by kernel_rfl) h

def F_term_Var (n : Int) (w : World) (R : Int → Int → ByteArray → Option Addr → Nat → Nat → World → Prop) : Prop :=
  New w (.cells #[.int .i64 0, .int .i64 0, .string ⟨#[]⟩, .slice none 0 0] 24) fun r w1 =>
  St w1 ((⟨r, 0, none⟩ : Addr).add 0) (.int .i64 1) fun w1_1 =>
  St w1_1 ((⟨r, 0, none⟩ : Addr).add 1) (.int .i64 n) fun w1_2 =>
  St w1_2 ((⟨r, 0, none⟩ : Addr).add 2) (.string ⟨#[]⟩) fun w1_3 =>
  St w1_3 ((⟨r, 0, none⟩ : Addr).add 3) (.slice none 0 0) fun w1_4 =>
  ∃ r_1 : Int, w1_4.cell? ((⟨r, 0, none⟩ : Addr).add 0) = some (.int .i64 r_1) ∧
  ∃ r_2 : Int, w1_4.cell? ((⟨r, 0, none⟩ : Addr).add 1) = some (.int .i64 r_2) ∧
  ∃ r_3 : ByteArray, w1_4.cell? ((⟨r, 0, none⟩ : Addr).add 2) = some (.string r_3) ∧
  ∃ rP : Option Addr, ∃ rN : Nat, ∃ rC : Nat, w1_4.cell? ((⟨r, 0, none⟩ : Addr).add 3) = some (.slice rP rN rC) ∧
  R r_1 r_2 r_3 rP rN rC w1_4

def G_term_Var : Gen where
  loop := lookL []
  plan := fun _ => none

theorem loops_term_Var : LoopOk Tryz.prog Tryz.f94.ntmps G_term_Var (codeOf Tryz.f94) := loopOk_none fun _ => rfl

theorem C_term_Var.of {n : Int} {w : World} {R : Int → Int → ByteArray → Option Addr → Nat → Nat → World → Prop} (h : F_term_Var n w R) : C_term_Var n w R := ofS15 (Fm := F_term_Var n w) Tryz.func94 (by kernel_rfl) loops_term_Var rfl (fun _ => by kernel_rfl) h

def F_slices_rotateLeft (sP : Option Addr) (sN : Nat) (sC : Nat) (r : Int) (w : World) (R : World → Prop) : Prop :=
  0 ≤ r ∧ r ≤ (sC : Int) ∧
  C_slices_Reverse sP r.toNat sC w fun w1 =>
  0 ≤ r ∧ r ≤ (sN : Int) ∧
  C_slices_Reverse (adv sP sC r.toNat 2) (sN - r.toNat) (sC - r.toNat) w1 fun w1_1 =>
  C_slices_Reverse sP sN sC w1_1 fun w1_2 =>
  R w1_2

def G_slices_rotateLeft : Gen where
  loop := lookL []
  plan := fun _ => none

theorem loops_slices_rotateLeft : LoopOk Tryz.prog Tryz.f103.ntmps G_slices_rotateLeft (codeOf Tryz.f103) := loopOk_none fun _ => rfl

theorem C_slices_rotateLeft.of {sP : Option Addr} {sN : Nat} {sC : Nat} {r : Int} {w : World} {R : World → Prop} (h : F_slices_rotateLeft sP sN sC r w R) : C_slices_rotateLeft sP sN sC r w R := ofS1 (Fm := F_slices_rotateLeft sP sN sC r w) Tryz.func103 (by kernel_rfl) loops_slices_rotateLeft rfl (fun _ => by kernel_rfl) h

structure S_term_count_of_L1 where
  t39 : Int

/-- One round. -/
def B_term_count_of_L1 (cx_1 : Option Addr) (depth_2 : Int) (t37P : Option Addr) (t37N : Nat) (t37C : Nat) (t38 : Int) (s : S_term_count_of_L1) (w : World) (Kn : S_term_count_of_L1 → World → Prop) (Kx0 : World → Prop) : Prop :=
  If (decide ((s.t39 : Int) < t38))
  (0 ≤ (s.t39 : Int) ∧ (s.t39 : Int) < (t37N : Int) ∧ NN t37P fun a_7 =>
  ∃ t420 : Int, w.cell? ((a_7.add ((s.t39 : Int).toNat * 4)).add 0) = some (.int .i64 t420) ∧
  ∃ t421 : Int, w.cell? ((a_7.add ((s.t39 : Int).toNat * 4)).add 1) = some (.int .i64 t421) ∧
  ∃ t422 : ByteArray, w.cell? ((a_7.add ((s.t39 : Int).toNat * 4)).add 2) = some (.string t422) ∧
  ∃ t423P : Option Addr, ∃ t423N : Nat, ∃ t423C : Nat, w.cell? ((a_7.add ((s.t39 : Int).toNat * 4)).add 3) = some (.slice t423P t423N t423C) ∧
  New w (.cells #[.int .i64 0, .int .i64 0, .string ⟨#[]⟩, .slice none 0 0] 24) fun r_1 w1_7 =>
  St w1_7 ((⟨r_1, 0, none⟩ : Addr).add 0) (.int .i64 t420) fun w1_8 =>
  St w1_8 ((⟨r_1, 0, none⟩ : Addr).add 1) (.int .i64 t421) fun w1_9 =>
  St w1_9 ((⟨r_1, 0, none⟩ : Addr).add 2) (.string t422) fun w1_10 =>
  St w1_10 ((⟨r_1, 0, none⟩ : Addr).add 3) (.slice t423P t423N t423C) fun w1_11 =>
  ∃ t440 : Int, w1_11.cell? ((⟨r_1, 0, none⟩ : Addr).add 0) = some (.int .i64 t440) ∧
  ∃ t441 : Int, w1_11.cell? ((⟨r_1, 0, none⟩ : Addr).add 1) = some (.int .i64 t441) ∧
  ∃ t442 : ByteArray, w1_11.cell? ((⟨r_1, 0, none⟩ : Addr).add 2) = some (.string t442) ∧
  ∃ t443P : Option Addr, ∃ t443N : Nat, ∃ t443C : Nat, w1_11.cell? ((⟨r_1, 0, none⟩ : Addr).add 3) = some (.slice t443P t443N t443C) ∧
  C_term_count_of cx_1 t440 t441 t442 t443P t443N t443C (IntKind.i64.wrap (depth_2 + (1 : Int))) w1_11 fun w1_12 =>
  Kn ⟨(IntKind.i64.wrap ((s.t39 : Int) + (1 : Int)))⟩ w1_12)
  (Kx0 w)

def F_term_count_of_L1 (cx_1 : Option Addr) (depth_2 : Int) (t37P : Option Addr) (t37N : Nat) (t37C : Nat) (t38 : Int) (s : S_term_count_of_L1) (w : World) (Kx0 : World → Prop) : Prop :=
  LoopS (fun s w Kn => B_term_count_of_L1 cx_1 depth_2 t37P t37N t37C t38 s w Kn Kx0) s w

def F_term_count_of_k1 (cx : Option Addr) (depth : Int) (R : World → Prop) (r : Nat) (w1_6 : World) : Prop :=
  ∃ LP : Option Addr, ∃ LN : Nat, ∃ LC : Nat, w1_6.cell? ((⟨r, 0, none⟩ : Addr).add 3) = some (.slice LP LN LC) ∧
  F_term_count_of_L1 cx depth LP LN LC (LN : Int) ⟨(0 : Int)⟩ w1_6
  (fun w1_13 =>
  R w1_13)

def F_term_count_of (cx : Option Addr) (t0 : Int) (t1 : Int) (t2 : ByteArray) (t3P : Option Addr) (t3N : Nat) (t3C : Nat) (depth : Int) (w : World) (R : World → Prop) : Prop :=
  New w (.cells #[.int .i64 t0, .int .i64 t1, .string t2, .slice t3P t3N t3C] 24) fun r w1 =>
  NN cx fun a =>
  ∃ parts : Int, w1.cell? (a.add 0) = some (.int .i64 parts) ∧
  NN cx fun a_1 =>
  St w1 ((a_1.add 0).add 0) (.int .i64 (IntKind.i64.wrap (parts + (1 : Int)))) fun w1_1 =>
  NN cx fun a_2 =>
  ∃ depth_1 : Int, w1_1.cell? (a_2.add 1) = some (.int .i64 depth_1) ∧
  NN cx fun a_3 =>
  St w1_1 ((a_3.add 1).add 0) (.int .i64 (maxI depth_1 depth)) fun w1_2 =>
  NN cx fun a_4 =>
  ∃ bad : Bool, w1_2.cell? (a_4.add 2) = some (.bool bad) ∧
  If bad
  (NN cx fun a_5 =>
  St w1_2 ((a_5.add 2).add 0) (.bool true) fun w1_3 =>
  F_term_count_of_k1 cx depth R r w1_3)
  (∃ t300 : Int, w1_2.cell? ((⟨r, 0, none⟩ : Addr).add 0) = some (.int .i64 t300) ∧
  ∃ t301 : Int, w1_2.cell? ((⟨r, 0, none⟩ : Addr).add 1) = some (.int .i64 t301) ∧
  ∃ t302 : ByteArray, w1_2.cell? ((⟨r, 0, none⟩ : Addr).add 2) = some (.string t302) ∧
  ∃ t303P : Option Addr, ∃ t303N : Nat, ∃ t303C : Nat, w1_2.cell? ((⟨r, 0, none⟩ : Addr).add 3) = some (.slice t303P t303N t303C) ∧
  C_term_part t300 t301 t302 t303P t303N t303C w1_2 fun t31 w1_4 =>
  NN cx fun a_6 =>
  St w1_4 ((a_6.add 2).add 0) (.bool (!t31)) fun w1_5 =>
  F_term_count_of_k1 cx depth R r w1_5)

def lit_term_count_of_L1 (f : (Option Addr) × Int × (Option Addr) × Nat × Nat × Int) (s : S_term_count_of_L1) : Env := [⟨0, .pointer f.1, none⟩, ⟨2, .int .i64 f.2.1, none⟩, ⟨37, .slice f.2.2.1 f.2.2.2.1 f.2.2.2.2.1, none⟩, ⟨38, .int .i64 f.2.2.2.2.2, none⟩, ⟨39, .int .i64 s.t39, none⟩]

def dec_term_count_of_L1 (e : Env) (K : ((Option Addr) × Int × (Option Addr) × Nat × Nat × Int) → S_term_count_of_L1 → Prop) : Prop :=
  oP e 0 fun cx_1 =>
  oI e 2 .i64 fun depth_2 =>
  oS e 37 fun t37P t37N t37C =>
  oI e 38 .i64 fun t38 =>
  oI e 39 .i64 fun t39 =>
    K (cx_1, depth_2, t37P, t37N, t37C, t38) ⟨t39⟩

theorem dec_term_count_of_L1_ok {N : Nat} (e : Env) (a : Act) (K : ((Option Addr) × Int × (Option Addr) × Nat × Nat × Int) → S_term_count_of_L1 → Prop) (hr : Rep N a e) (h0 : dec_term_count_of_L1 e K) : ∃ f s, K f s ∧ Rep N a (lit_term_count_of_L1 f s) := by
  unfold dec_term_count_of_L1 at h0
  obtain ⟨cx_1, g0, h1⟩ := oP_elim h0
  obtain ⟨depth_2, g2, h2⟩ := oI_elim h1
  obtain ⟨t37P, t37N, t37C, g37, h3⟩ := oS_elim h2
  obtain ⟨t38, g38, h4⟩ := oI_elim h3
  obtain ⟨t39, g39, h5⟩ := oI_elim h4
  exact ⟨_, _, h5, rep_less hr (by simp [lit_term_count_of_L1, g0, g2, g37, g38, g39])⟩

def spec_term_count_of_L1 (Q : Post) (e : Env) (w : World) : Prop :=
  dec_term_count_of_L1 e fun f s => F_term_count_of_L1 f.1 f.2.1 f.2.2.1 f.2.2.2.1 f.2.2.2.2.1 f.2.2.2.2.2 s w (fun w1 => Q (.exit 0) [] w1)

def G_term_count_of : Gen where
  loop := lookL [([false, true, true, true, true, true], spec_term_count_of_L1)]
  plan := fun _ => none

def dx_term_count_of_L1_0 (e : Env) (K : ((Option Addr) × Int × (Option Addr) × Nat × Nat × Int) → Prop) : Prop :=
  oP e 0 fun cx_1 =>
  oI e 2 .i64 fun depth_2 =>
  oS e 37 fun t37P t37N t37C =>
  oI e 38 .i64 fun t38 =>
    K (cx_1, depth_2, t37P, t37N, t37C, t38)

theorem body_term_count_of_L1 (f : (Option Addr) × Int × (Option Addr) × Nat × Nat × Int) (s : S_term_count_of_L1) (w : World) (Kn : ((Option Addr) × Int × (Option Addr) × Nat × Nat × Int) → S_term_count_of_L1 → World → Prop) (Kx0 : ((Option Addr) × Int × (Option Addr) × Nat × Nat × Int) → World → Prop) :
    B_term_count_of_L1 f.1 f.2.1 f.2.2.1 f.2.2.2.1 f.2.2.2.2.1 f.2.2.2.2.2 s w (fun s1 w1 => Kn f s1 w1) (fun w1 => Kx0 f w1) =
    den Tryz.prog Tryz.f104.ntmps G_term_count_of (sub (codeOf Tryz.f104) [false, false, true, true, true, true, true]) [false, false, true, true, true, true, true] (roundQ (fun e w => dec_term_count_of_L1 e fun f s => Kn f s w) (fun e w => False) (fun id e w => match Nat.beq id 0 with | true => dx_term_count_of_L1_0 e fun f => Kx0 f w | false => False)) (lit_term_count_of_L1 f s) w := by kernel_rfl

theorem ok_term_count_of_L1 : OneOk Tryz.prog Tryz.f104.ntmps G_term_count_of (codeOf Tryz.f104) [false, true, true, true, true, true] spec_term_count_of_L1 := by
  intro c hc ih Q e w a hr h
  have hcc : sub (codeOf Tryz.f104) [false, false, true, true, true, true, true] = c := sub_of_codeAt hc
  obtain ⟨f, s, h, hrep⟩ := dec_term_count_of_L1_ok e a _ hr h
  obtain ⟨J, μ, hj, hround⟩ := h
  refine loop_rule_deep seat_ok seat_mixed ih lit_term_count_of_L1 dec_term_count_of_L1 dec_term_count_of_L1_ok hc f J μ (Kr := fun e w => False) (Kx := fun id e w => match Nat.beq id 0 with | true => (dx_term_count_of_L1_0 e fun f1 => f1 = f ∧ Q (.exit 0) [] w) | false => False) ?_ ?_ ?_ s w a hj hrep
  · intro e a w hr h
    exact h.elim
  · intro id e a w hr h0
    (try dsimp only at h0)
    split at h0
    · rename_i hid
      obtain rfl := Nat.eq_of_beq_eq_true hid
      unfold dx_term_count_of_L1_0 at h0
      obtain ⟨cx_1, g0, h1⟩ := oP_elim h0
      obtain ⟨depth_2, g2, h2⟩ := oI_elim h1
      obtain ⟨t37P, t37N, t37C, g37, h3⟩ := oS_elim h2
      obtain ⟨t38, g38, h4⟩ := oI_elim h3
      obtain ⟨hf, hq⟩ := h4
      subst hf
      exact ⟨_, rep_less hr (by simp), hq⟩
    · exact h0.elim
  · intro s w hj
    have hb := hround s w hj
    rw [← hcc]
    have e1 := body_term_count_of_L1 f s w (fun f1 s1 w1 => f1 = f ∧ J s1 w1 ∧ μ s1 w1 < μ s w) (fun f1 w1 => f1 = f ∧ Q (.exit 0) [] w1)
    simp only [true_and] at e1
    exact cast e1 hb

theorem loops_term_count_of : LoopOk Tryz.prog Tryz.f104.ntmps G_term_count_of (codeOf Tryz.f104) := loopOk_list rfl ⟨ok_term_count_of_L1, trivial⟩

theorem C_term_count_of.of {cx : Option Addr} {t0 : Int} {t1 : Int} {t2 : ByteArray} {t3P : Option Addr} {t3N : Nat} {t3C : Nat} {depth : Int} {w : World} {R : World → Prop} (h : F_term_count_of cx t0 t1 t2 t3P t3N t3C depth w R) : C_term_count_of cx t0 t1 t2 t3P t3N t3C depth w R := ofS1 (Fm := F_term_count_of cx t0 t1 t2 t3P t3N t3C depth w) Tryz.func104 (by kernel_rfl) loops_term_count_of rfl (fun _ => by kernel_rfl) h

structure S_slices_Reverse_L1 where
  i : Int
  j : Int

/-- One round. -/
def B_slices_Reverse_L1 (sP_1 : Option Addr) (sN_1 : Nat) (sC_1 : Nat) (s : S_slices_Reverse_L1) (w : World) (Kn : S_slices_Reverse_L1 → World → Prop) (Kx0 : World → Prop) : Prop :=
  If (decide ((s.i : Int) < (s.j : Int)))
  (0 ≤ (s.j : Int) ∧ (s.j : Int) < (sN_1 : Int) ∧ NN sP_1 fun a =>
  ∃ t210 : Int, (drw w).cell? ((a.add ((s.j : Int).toNat * 2)).add 0) = some (.int .i64 t210) ∧
  ∃ t211 : Int, (drw w).cell? ((a.add ((s.j : Int).toNat * 2)).add 1) = some (.int .i64 t211) ∧
  0 ≤ (s.i : Int) ∧ (s.i : Int) < (sN_1 : Int) ∧ NN sP_1 fun a_1 =>
  ∃ t250 : Int, (drw w).cell? ((a_1.add ((s.i : Int).toNat * 2)).add 0) = some (.int .i64 t250) ∧
  ∃ t251 : Int, (drw w).cell? ((a_1.add ((s.i : Int).toNat * 2)).add 1) = some (.int .i64 t251) ∧
  0 ≤ (s.i : Int) ∧ (s.i : Int) < (sN_1 : Int) ∧ NN sP_1 fun a_2 =>
  St (drw w) ((a_2.add ((s.i : Int).toNat * 2)).add 0) (.int .i64 t210) fun w1 =>
  St w1 ((a_2.add ((s.i : Int).toNat * 2)).add 1) (.int .i64 t211) fun w1_1 =>
  0 ≤ (s.j : Int) ∧ (s.j : Int) < (sN_1 : Int) ∧ NN sP_1 fun a_3 =>
  St w1_1 ((a_3.add ((s.j : Int).toNat * 2)).add 0) (.int .i64 t250) fun w1_2 =>
  St w1_2 ((a_3.add ((s.j : Int).toNat * 2)).add 1) (.int .i64 t251) fun w1_3 =>
  Kn ⟨(IntKind.i64.wrap ((s.i : Int) + (1 : Int))), (IntKind.i64.wrap ((s.j : Int) - (1 : Int)))⟩ w1_3)
  (Kx0 w)

def F_slices_Reverse_L1 (sP_1 : Option Addr) (sN_1 : Nat) (sC_1 : Nat) (s : S_slices_Reverse_L1) (w : World) (Kx0 : World → Prop) : Prop :=
  LoopS (fun s w Kn => B_slices_Reverse_L1 sP_1 sN_1 sC_1 s w Kn Kx0) s w

def F_slices_Reverse (sP : Option Addr) (sN : Nat) (sC : Nat) (w : World) (R : World → Prop) : Prop :=
  F_slices_Reverse_L1 sP sN sC ⟨(0 : Int), (IntKind.i64.wrap ((sN : Int) - (1 : Int)))⟩ w
  (fun w1_4 =>
  R w1_4)

def lit_slices_Reverse_L1 (f : (Option Addr) × Nat × Nat) (s : S_slices_Reverse_L1) : Env := [⟨0, .slice f.1 f.2.1 f.2.2, none⟩, ⟨2, .int .i64 s.i, none⟩, ⟨3, .int .i64 s.j, none⟩]

def dec_slices_Reverse_L1 (e : Env) (K : ((Option Addr) × Nat × Nat) → S_slices_Reverse_L1 → Prop) : Prop :=
  oS e 0 fun sP_1 sN_1 sC_1 =>
  oI e 2 .i64 fun i =>
  oI e 3 .i64 fun j =>
    K (sP_1, sN_1, sC_1) ⟨i, j⟩

theorem dec_slices_Reverse_L1_ok {N : Nat} (e : Env) (a : Act) (K : ((Option Addr) × Nat × Nat) → S_slices_Reverse_L1 → Prop) (hr : Rep N a e) (h0 : dec_slices_Reverse_L1 e K) : ∃ f s, K f s ∧ Rep N a (lit_slices_Reverse_L1 f s) := by
  unfold dec_slices_Reverse_L1 at h0
  obtain ⟨sP_1, sN_1, sC_1, g0, h1⟩ := oS_elim h0
  obtain ⟨i, g2, h2⟩ := oI_elim h1
  obtain ⟨j, g3, h3⟩ := oI_elim h2
  exact ⟨_, _, h3, rep_less hr (by simp [lit_slices_Reverse_L1, g0, g2, g3])⟩

def spec_slices_Reverse_L1 (Q : Post) (e : Env) (w : World) : Prop :=
  dec_slices_Reverse_L1 e fun f s => F_slices_Reverse_L1 f.1 f.2.1 f.2.2 s w (fun w1 => Q (.exit 0) [] w1)

def G_slices_Reverse : Gen where
  loop := lookL [([false, true], spec_slices_Reverse_L1)]
  plan := fun id =>
    bif Nat.beq id 3 then some ([0, 0, 0, 0, 0, 0, 48, 112, 0, 0, 768, 1792, 4083, 8179, 16383, 32767], .take 0 (.take 1 (.take 2 (.take 3 (.take 4 (.take 5 (.take 6 (.take 7 (.take 8 (.take 9 (.take 10 (.take 11 (.take 12 (.take 13 (.take 14 (.take 15 .done)))))))))))))))) else none

def dx_slices_Reverse_L1_0 (e : Env) (K : ((Option Addr) × Nat × Nat) → Prop) : Prop :=
  oS e 0 fun sP_1 sN_1 sC_1 =>
    K (sP_1, sN_1, sC_1)

theorem body_slices_Reverse_L1 (f : (Option Addr) × Nat × Nat) (s : S_slices_Reverse_L1) (w : World) (Kn : ((Option Addr) × Nat × Nat) → S_slices_Reverse_L1 → World → Prop) (Kx0 : ((Option Addr) × Nat × Nat) → World → Prop) :
    B_slices_Reverse_L1 f.1 f.2.1 f.2.2 s w (fun s1 w1 => Kn f s1 w1) (fun w1 => Kx0 f w1) =
    den Tryz.prog Tryz.f107.ntmps G_slices_Reverse (sub (codeOf Tryz.f107) [false, false, true]) [false, false, true] (roundQ (fun e w => dec_slices_Reverse_L1 e fun f s => Kn f s w) (fun e w => False) (fun id e w => match Nat.beq id 0 with | true => dx_slices_Reverse_L1_0 e fun f => Kx0 f w | false => False)) (lit_slices_Reverse_L1 f s) w := by kernel_rfl

theorem ok_slices_Reverse_L1 : OneOk Tryz.prog Tryz.f107.ntmps G_slices_Reverse (codeOf Tryz.f107) [false, true] spec_slices_Reverse_L1 := by
  intro c hc ih Q e w a hr h
  have hcc : sub (codeOf Tryz.f107) [false, false, true] = c := sub_of_codeAt hc
  obtain ⟨f, s, h, hrep⟩ := dec_slices_Reverse_L1_ok e a _ hr h
  obtain ⟨J, μ, hj, hround⟩ := h
  refine loop_rule_deep seat_ok seat_mixed ih lit_slices_Reverse_L1 dec_slices_Reverse_L1 dec_slices_Reverse_L1_ok hc f J μ (Kr := fun e w => False) (Kx := fun id e w => match Nat.beq id 0 with | true => (dx_slices_Reverse_L1_0 e fun f1 => f1 = f ∧ Q (.exit 0) [] w) | false => False) ?_ ?_ ?_ s w a hj hrep
  · intro e a w hr h
    exact h.elim
  · intro id e a w hr h0
    (try dsimp only at h0)
    split at h0
    · rename_i hid
      obtain rfl := Nat.eq_of_beq_eq_true hid
      unfold dx_slices_Reverse_L1_0 at h0
      obtain ⟨sP_1, sN_1, sC_1, g0, h1⟩ := oS_elim h0
      obtain ⟨hf, hq⟩ := h1
      subst hf
      exact ⟨_, rep_less hr (by simp), hq⟩
    · exact h0.elim
  · intro s w hj
    have hb := hround s w hj
    rw [← hcc]
    have e1 := body_slices_Reverse_L1 f s w (fun f1 s1 w1 => f1 = f ∧ J s1 w1 ∧ μ s1 w1 < μ s w) (fun f1 w1 => f1 = f ∧ Q (.exit 0) [] w1)
    simp only [true_and] at e1
    exact cast e1 hb

theorem loops_slices_Reverse : LoopOk Tryz.prog Tryz.f107.ntmps G_slices_Reverse (codeOf Tryz.f107) := loopOk_list rfl ⟨ok_slices_Reverse_L1, trivial⟩

theorem C_slices_Reverse.of {sP : Option Addr} {sN : Nat} {sC : Nat} {w : World} {R : World → Prop} (h : F_slices_Reverse sP sN sC w R) : C_slices_Reverse sP sN sC w R := ofS1 (Fm := F_slices_Reverse sP sN sC w) Tryz.func107 (by kernel_rfl) loops_slices_Reverse rfl (fun _ => by kernel_rfl) h

end Go.Proofs.YtlndgaijekihiaaGreat
