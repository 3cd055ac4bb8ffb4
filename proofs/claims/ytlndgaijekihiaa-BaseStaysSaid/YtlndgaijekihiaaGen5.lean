import Derived.Test.YtlndgaijekihiaaGenC
set_option maxRecDepth 100000
set_option linter.unusedVariables false
namespace Go.Proofs.Ytlndgaijekihiaa
open Go Go.D Go.Proofs
def F_slices_Insert (sP : Option Addr) (sN : Nat) (sC : Nat) (i : Int) (vP : Option Addr) (vN : Nat) (vC : Nat) (w : World) (R : Option Addr → Nat → Nat → World → Prop) : Prop :=
 0 ≤ i ∧ i ≤ (sN : Int) ∧
 If ((vN : Int) == (0 : Int))
 (R sP sN sC w)
 (If (i == (sN : Int))
 (App Try.prog #[106, 105] 106 #[.slice sP sN sC, .slice vP vN vC] w fun t25P t25N t25C w1 =>
 R t25P t25N t25C w1)
 (If (decide ((IntKind.i64.wrap ((sN : Int) + (vN : Int))) > (sC : Int)))
 (0 ≤ i ∧ i ≤ (sC : Int) ∧
 App Try.prog #[106, 3] 106 #[.slice sP i.toNat sC, .int .i64 (IntKind.i64.wrap ((IntKind.i64.wrap ((sN : Int) + (vN : Int))) - i))] w fun t40P t40N t40C w1_1 =>
 0 ≤ i ∧ i ≤ (t40N : Int) ∧
 Cpy Try.prog #[106, 105] 3 #[.slice (adv t40P t40C i.toNat 2) (t40N - i.toNat) (t40C - i.toNat), .slice vP vN vC] w1_1 fun t45 w1_2 =>
 0 ≤ (IntKind.i64.wrap (i + (vN : Int))) ∧ (IntKind.i64.wrap (i + (vN : Int))) ≤ (t40N : Int) ∧
 0 ≤ i ∧ i ≤ (sN : Int) ∧
 Cpy Try.prog #[106, 106] 3 #[.slice (adv t40P t40C (IntKind.i64.wrap (i + (vN : Int))).toNat 2) (t40N - (IntKind.i64.wrap (i + (vN : Int))).toNat) (t40C - (IntKind.i64.wrap (i + (vN : Int))).toNat), .slice (adv sP sC i.toNat 2) (sN - i.toNat) (sC - i.toNat)] (drw w1_2) fun t54 w1_3 =>
 R t40P t40N t40C w1_3)
 (0 ≤ (IntKind.i64.wrap ((sN : Int) + (vN : Int))) ∧ (IntKind.i64.wrap ((sN : Int) + (vN : Int))) ≤ (sC : Int) ∧
 0 ≤ (IntKind.i64.wrap (i + (vN : Int))) ∧ (IntKind.i64.wrap (i + (vN : Int))) ≤ ((IntKind.i64.wrap ((sN : Int) + (vN : Int))).toNat : Int) ∧
 CallX Try.prog 79 [.slice vP vN vC, .slice (adv sP sC (IntKind.i64.wrap (i + (vN : Int))).toNat 2) ((IntKind.i64.wrap ((sN : Int) + (vN : Int))).toNat - (IntKind.i64.wrap (i + (vN : Int))).toNat) (sC - (IntKind.i64.wrap (i + (vN : Int))).toNat)] w fun v w1_4 => ∃ t67 : Bool, v = (.bool t67) ∧
 If (!t67)
 (0 ≤ (IntKind.i64.wrap (i + (vN : Int))) ∧ (IntKind.i64.wrap (i + (vN : Int))) ≤ ((IntKind.i64.wrap ((sN : Int) + (vN : Int))).toNat : Int) ∧
 0 ≤ i ∧ i ≤ ((IntKind.i64.wrap ((sN : Int) + (vN : Int))).toNat : Int) ∧
 Cpy Try.prog #[106, 106] 3 #[.slice (adv sP sC (IntKind.i64.wrap (i + (vN : Int))).toNat 2) ((IntKind.i64.wrap ((sN : Int) + (vN : Int))).toNat - (IntKind.i64.wrap (i + (vN : Int))).toNat) (sC - (IntKind.i64.wrap (i + (vN : Int))).toNat), .slice (adv sP sC i.toNat 2) ((IntKind.i64.wrap ((sN : Int) + (vN : Int))).toNat - i.toNat) (sC - i.toNat)] (drw w1_4) fun t77 w1_5 =>
 0 ≤ i ∧ i ≤ ((IntKind.i64.wrap ((sN : Int) + (vN : Int))).toNat : Int) ∧
 Cpy Try.prog #[106, 105] 3 #[.slice (adv sP sC i.toNat 2) ((IntKind.i64.wrap ((sN : Int) + (vN : Int))).toNat - i.toNat) (sC - i.toNat), .slice vP vN vC] w1_5 fun t82 w1_6 =>
 R sP ((IntKind.i64.wrap ((sN : Int) + (vN : Int))).toNat) sC w1_6)
 (0 ≤ (sN : Int) ∧ (sN : Int) ≤ ((IntKind.i64.wrap ((sN : Int) + (vN : Int))).toNat : Int) ∧
 Cpy Try.prog #[106, 105] 3 #[.slice (adv sP sC (sN : Int).toNat 2) ((IntKind.i64.wrap ((sN : Int) + (vN : Int))).toNat - (sN : Int).toNat) (sC - (sN : Int).toNat), .slice vP vN vC] w1_4 fun t88 w1_7 =>
 0 ≤ i ∧ i ≤ ((IntKind.i64.wrap ((sN : Int) + (vN : Int))).toNat : Int) ∧
 C_slices_rotateRight (adv sP sC i.toNat 2) ((IntKind.i64.wrap ((sN : Int) + (vN : Int))).toNat - i.toNat) (sC - i.toNat) (vN : Int) w1_7 fun w1_8 =>
 R sP ((IntKind.i64.wrap ((sN : Int) + (vN : Int))).toNat) sC w1_8))))
def G_slices_Insert : Gen where
 loop := lookL []
 plan := fun id =>
  bif Nat.beq id 11 || Nat.beq id 15 then some ([0, 0, 0, 6, 15, 0, 0, 96, 255], .take 0 (.take 1 (.take 2 (.take 3 (.take 4 (.take 5 (.take 6 (.take 7 (.take 8 .done))))))))) else none
theorem C_slices_Insert.of {sP : Option Addr} {sN : Nat} {sC : Nat} {i : Int} {vP : Option Addr} {vN : Nat} {vC : Nat} {w : World} {R : Option Addr → Nat → Nat → World → Prop} (h : F_slices_Insert sP sN sC i vP vN vC w R) : C_slices_Insert sP sN sC i vP vN vC w R := ofS6 (Fm := F_slices_Insert sP sN sC i vP vN vC w) Try.func64 (by kernel_rfl) (L1 G_slices_Insert Try.f64 fun _ => rfl) rfl (fun _ => by kernel_rfl) h
def F_index_row_place (rP : Option Addr) (rN : Nat) (rC : Nat) (rank : Int) (w : World) (R : Int → World → Prop) : Prop :=
 C_slices_BinarySearchFunc rP rN rC rank (.func (.func 82) #[] #[]) w fun t100 t101 w1 =>
 R t100 w1
theorem C_index_row_place.of {rP : Option Addr} {rN : Nat} {rC : Nat} {rank : Int} {w : World} {R : Int → World → Prop} (h : F_index_row_place rP rN rC rank w R) : C_index_row_place rP rN rC rank w R := ofS5 (Fm := F_index_row_place rP rN rC rank w) Try.func65 (by kernel_rfl) (L0 Try.f65) rfl (fun _ => by kernel_rfl) h
def F_term_Check (t0 : Int) (t1 : Int) (t2 : ByteArray) (t3P : Option Addr) (t3N : Nat) (t3C : Nat) (w : World) (R : Int → World → Prop) : Prop :=
 New w (.cells #[.int .i64 t0, .int .i64 t1, .string t2, .slice t3P t3N t3C] 31) fun r w1 =>
 ∃ t40, w1.cell? (Addr.add ⟨r, 0, none⟩ 0) = some (.int .i64 t40) ∧
 ∃ t41, w1.cell? (Addr.add ⟨r, 0, none⟩ 1) = some (.int .i64 t41) ∧
 ∃ t42, w1.cell? (Addr.add ⟨r, 0, none⟩ 2) = some (.string t42) ∧
 ∃ t43P t43N t43C, w1.cell? (Addr.add ⟨r, 0, none⟩ 3) = some (.slice t43P t43N t43C) ∧
 C_term_measure t40 t41 t42 t43P t43N t43C w1 fun t50 t51 t52 w1_1 =>
 New w1_1 (.cells #[.int .i64 0, .int .i64 0, .bool false] 145) fun r_1 w1_2 =>
 St w1_2 (Addr.add ⟨r_1, 0, none⟩ 0) (.int .i64 t50) fun w1_3 =>
 St w1_3 (Addr.add ⟨r_1, 0, none⟩ 1) (.int .i64 t51) fun w1_4 =>
 St w1_4 (Addr.add ⟨r_1, 0, none⟩ 2) (.bool t52) fun w1_5 =>
 ∃ bad, w1_5.cell? (Addr.add ⟨r_1, 0, none⟩ 2) = some (.bool bad) ∧
 If bad
 (R (60 : Int) w1_5)
 (∃ depth, w1_5.cell? (Addr.add ⟨r_1, 0, none⟩ 1) = some (.int .i64 depth) ∧
 If (decide (depth > (200 : Int)))
 (R (61 : Int) w1_5)
 (∃ parts, w1_5.cell? (Addr.add ⟨r_1, 0, none⟩ 0) = some (.int .i64 parts) ∧
 If (decide (parts > (4096 : Int)))
 (R (62 : Int) w1_5)
 (R (0 : Int) w1_5)))
theorem C_term_Check.of {t0 : Int} {t1 : Int} {t2 : ByteArray} {t3P : Option Addr} {t3N : Nat} {t3C : Nat} {w : World} {R : Int → World → Prop} (h : F_term_Check t0 t1 t2 t3P t3N t3C w R) : C_term_Check t0 t1 t2 t3P t3N t3C w R := ofS5 (Fm := F_term_Check t0 t1 t2 t3P t3N t3C w) Try.func66 (by kernel_rfl) (L0 Try.f66) rfl (fun _ => by kernel_rfl) h
def F_term_Clone (t0 : Int) (t1 : Int) (t2 : ByteArray) (t3P : Option Addr) (t3N : Nat) (t3C : Nat) (w : World) (R : Int → Int → ByteArray → Option Addr → Nat → Nat → World → Prop) : Prop :=
 New w (.cells #[.int .i64 t0, .int .i64 t1, .string t2, .slice t3P t3N t3C] 31) fun r w1 =>
 New w1 (.cells #[.int .i64 0, .int .i64 0, .string ⟨#[]⟩, .slice none 0 0] 31) fun r_1 w1_1 =>
 ∃ t30, w1_1.cell? (Addr.add ⟨r, 0, none⟩ 0) = some (.int .i64 t30) ∧
 ∃ t31, w1_1.cell? (Addr.add ⟨r, 0, none⟩ 1) = some (.int .i64 t31) ∧
 ∃ t32, w1_1.cell? (Addr.add ⟨r, 0, none⟩ 2) = some (.string t32) ∧
 ∃ t33P t33N t33C, w1_1.cell? (Addr.add ⟨r, 0, none⟩ 3) = some (.slice t33P t33N t33C) ∧
 C_term_may t30 t31 t32 t33P t33N t33C w1_1 fun t4 w1_2 =>
 If (!t4)
 (St w1_2 (Addr.add ⟨r_1, 0, none⟩ 0) (.int .i64 0) fun w1_3 =>
 St w1_3 (Addr.add ⟨r_1, 0, none⟩ 1) (.int .i64 0) fun w1_4 =>
 St w1_4 (Addr.add ⟨r_1, 0, none⟩ 2) (.string ⟨#[]⟩) fun w1_5 =>
 St w1_5 (Addr.add ⟨r_1, 0, none⟩ 3) (.slice none 0 0) fun w1_6 =>
 ∃ r_2, w1_6.cell? (Addr.add ⟨r_1, 0, none⟩ 0) = some (.int .i64 r_2) ∧
 ∃ r_3, w1_6.cell? (Addr.add ⟨r_1, 0, none⟩ 1) = some (.int .i64 r_3) ∧
 ∃ r_4, w1_6.cell? (Addr.add ⟨r_1, 0, none⟩ 2) = some (.string r_4) ∧
 ∃ rP rN rC, w1_6.cell? (Addr.add ⟨r_1, 0, none⟩ 3) = some (.slice rP rN rC) ∧
 R r_2 r_3 r_4 rP rN rC w1_6)
 (∃ t70, w1_2.cell? (Addr.add ⟨r, 0, none⟩ 0) = some (.int .i64 t70) ∧
 ∃ t71, w1_2.cell? (Addr.add ⟨r, 0, none⟩ 1) = some (.int .i64 t71) ∧
 ∃ t72, w1_2.cell? (Addr.add ⟨r, 0, none⟩ 2) = some (.string t72) ∧
 ∃ t73P t73N t73C, w1_2.cell? (Addr.add ⟨r, 0, none⟩ 3) = some (.slice t73P t73N t73C) ∧
 C_term_build t70 t71 t72 t73P t73N t73C (.func (.func 86) #[] #[]) w1_2 fun t80 t81 t82 t83P t83N t83C w1_7 =>
 St w1_7 (Addr.add ⟨r_1, 0, none⟩ 0) (.int .i64 t80) fun w1_8 =>
 St w1_8 (Addr.add ⟨r_1, 0, none⟩ 1) (.int .i64 t81) fun w1_9 =>
 St w1_9 (Addr.add ⟨r_1, 0, none⟩ 2) (.string t82) fun w1_10 =>
 St w1_10 (Addr.add ⟨r_1, 0, none⟩ 3) (.slice t83P t83N t83C) fun w1_11 =>
 ∃ r_5, w1_11.cell? (Addr.add ⟨r_1, 0, none⟩ 0) = some (.int .i64 r_5) ∧
 ∃ r_6, w1_11.cell? (Addr.add ⟨r_1, 0, none⟩ 1) = some (.int .i64 r_6) ∧
 ∃ r_7, w1_11.cell? (Addr.add ⟨r_1, 0, none⟩ 2) = some (.string r_7) ∧
 ∃ rP_1 rN_1 rC_1, w1_11.cell? (Addr.add ⟨r_1, 0, none⟩ 3) = some (.slice rP_1 rN_1 rC_1) ∧
 R r_5 r_6 r_7 rP_1 rN_1 rC_1 w1_11)
theorem C_term_Clone.of {t0 : Int} {t1 : Int} {t2 : ByteArray} {t3P : Option Addr} {t3N : Nat} {t3C : Nat} {w : World} {R : Int → Int → ByteArray → Option Addr → Nat → Nat → World → Prop} (h : F_term_Clone t0 t1 t2 t3P t3N t3C w R) : C_term_Clone t0 t1 t2 t3P t3N t3C w R := ofS7 (Fm := F_term_Clone t0 t1 t2 t3P t3N t3C w) Try.func67 (by kernel_rfl) (L0 Try.f67) rfl (fun _ => by kernel_rfl) h
def F_index_row_after (rP : Option Addr) (rN : Nat) (rC : Nat) (rank : Int) (w : World) (R : Int → Int → Bool → World → Prop) : Prop :=
 New w (.cells #[.int .i64 0, .int .i64 0] 115) fun r w1 =>
 C_index_row_place rP rN rC (IntKind.i64.wrap (rank + (1 : Int))) w1 fun t10 w1_1 =>
 If (t10 == (rN : Int))
 (St w1_1 (Addr.add ⟨r, 0, none⟩ 0) (.int .i64 0) fun w1_2 =>
 St w1_2 (Addr.add ⟨r, 0, none⟩ 1) (.int .i64 0) fun w1_3 =>
 ∃ r_1, w1_3.cell? (Addr.add ⟨r, 0, none⟩ 0) = some (.int .i64 r_1) ∧
 ∃ r_2, w1_3.cell? (Addr.add ⟨r, 0, none⟩ 1) = some (.int .i64 r_2) ∧
 R r_1 r_2 false w1_3)
 (0 ≤ t10 ∧ t10 < (rN : Int) ∧ NN rP fun a =>
 ∃ t190, w1_1.cell? ((a.add (t10.toNat * 2)).add 0) = some (.int .i64 t190) ∧
 ∃ t191, w1_1.cell? ((a.add (t10.toNat * 2)).add 1) = some (.int .i64 t191) ∧
 St w1_1 (Addr.add ⟨r, 0, none⟩ 0) (.int .i64 t190) fun w1_4 =>
 St w1_4 (Addr.add ⟨r, 0, none⟩ 1) (.int .i64 t191) fun w1_5 =>
 ∃ r_3, w1_5.cell? (Addr.add ⟨r, 0, none⟩ 0) = some (.int .i64 r_3) ∧
 ∃ r_4, w1_5.cell? (Addr.add ⟨r, 0, none⟩ 1) = some (.int .i64 r_4) ∧
 R r_3 r_4 true w1_5)
theorem C_index_row_after.of {rP : Option Addr} {rN : Nat} {rC : Nat} {rank : Int} {w : World} {R : Int → Int → Bool → World → Prop} (h : F_index_row_after rP rN rC rank w R) : C_index_row_after rP rN rC rank w R := ofS15 (Fm := F_index_row_after rP rN rC rank w) Try.func78 (by kernel_rfl) (L0 Try.f78) rfl (fun _ => by kernel_rfl) h
def F_slices_rotateRight (sP : Option Addr) (sN : Nat) (sC : Nat) (r : Int) (w : World) (R : World → Prop) : Prop :=
 C_slices_rotateLeft sP sN sC (IntKind.i64.wrap ((sN : Int) - r)) w fun w1 =>
 R w1
theorem C_slices_rotateRight.of {sP : Option Addr} {sN : Nat} {sC : Nat} {r : Int} {w : World} {R : World → Prop} (h : F_slices_rotateRight sP sN sC r w R) : C_slices_rotateRight sP sN sC r w R := ofS1 (Fm := F_slices_rotateRight sP sN sC r w) Try.func80 (by kernel_rfl) (L0 Try.f80) rfl (fun _ => by kernel_rfl) h
structure S_slices_BinarySearchFunc_L1 where
 i : Int
 j : Int
def B_slices_BinarySearchFunc_L1 (xP_1 : Option Addr) (xN_1 : Nat) (xC_1 : Nat) (target_1 : Int) (cmp_1 : Value) (n : Int) (s : S_slices_BinarySearchFunc_L1) (w : World) (Kn : S_slices_BinarySearchFunc_L1 → World → Prop) (Kx0 : Int → World → Prop) : Prop :=
 If (decide (s.i < s.j))
 (0 ≤ (1 : Int) ∧
 0 ≤ (IntKind.i64.wrap (shrI .u64 (IntKind.u64.wrap (IntKind.i64.wrap (s.i + s.j))) (1 : Int))) ∧ (IntKind.i64.wrap (shrI .u64 (IntKind.u64.wrap (IntKind.i64.wrap (s.i + s.j))) (1 : Int))) < (xN_1 : Int) ∧ NN xP_1 fun a =>
 ∃ t280, w.cell? ((a.add ((IntKind.i64.wrap (shrI .u64 (IntKind.u64.wrap (IntKind.i64.wrap (s.i + s.j))) (1 : Int))).toNat * 2)).add 0) = some (.int .i64 t280) ∧
 ∃ t281, w.cell? ((a.add ((IntKind.i64.wrap (shrI .u64 (IntKind.u64.wrap (IntKind.i64.wrap (s.i + s.j))) (1 : Int))).toNat * 2)).add 1) = some (.int .i64 t281) ∧
 CallV Try.prog cmp_1 [.agg #[.int .i64 t280, .int .i64 t281], .int .i64 target_1] w fun v w1 => ∃ t30 : Int, v = (.int .i64 t30) ∧
 If (decide (t30 < (0 : Int)))
 (Kn ⟨(IntKind.i64.wrap ((IntKind.i64.wrap (shrI .u64 (IntKind.u64.wrap (IntKind.i64.wrap (s.i + s.j))) (1 : Int))) + (1 : Int))), s.j⟩ w1)
 (Kn ⟨s.i, (IntKind.i64.wrap (shrI .u64 (IntKind.u64.wrap (IntKind.i64.wrap (s.i + s.j))) (1 : Int)))⟩ w1))
 (Kx0 s.i w)
def F_slices_BinarySearchFunc_L1 (xP_1 : Option Addr) (xN_1 : Nat) (xC_1 : Nat) (target_1 : Int) (cmp_1 : Value) (n : Int) (s : S_slices_BinarySearchFunc_L1) (w : World) (Kx0 : Int → World → Prop) : Prop :=
 LoopS (fun s w Kn => B_slices_BinarySearchFunc_L1 xP_1 xN_1 xC_1 target_1 cmp_1 n s w Kn Kx0) s w
def F_slices_BinarySearchFunc (xP : Option Addr) (xN : Nat) (xC : Nat) (target : Int) (cmp : Value) (w : World) (R : Int → Bool → World → Prop) : Prop :=
 F_slices_BinarySearchFunc_L1 xP xN xC target cmp (xN : Int) ⟨(0 : Int), (xN : Int)⟩ w
 (fun i_2 w1_1 =>
 If (decide (i_2 < (xN : Int)))
 (0 ≤ i_2 ∧ i_2 < (xN : Int) ∧ NN xP fun a_1 =>
 ∃ t440, w1_1.cell? ((a_1.add (i_2.toNat * 2)).add 0) = some (.int .i64 t440) ∧
 ∃ t441, w1_1.cell? ((a_1.add (i_2.toNat * 2)).add 1) = some (.int .i64 t441) ∧
 CallV Try.prog cmp [.agg #[.int .i64 t440, .int .i64 t441], .int .i64 target] w1_1 fun v_1 w1_2 => ∃ t46 : Int, v_1 = (.int .i64 t46) ∧
 R i_2 (t46 == (0 : Int)) w1_2)
 (R i_2 false w1_1))
def lit_slices_BinarySearchFunc_L1 (f : (Option Addr) × Nat × Nat × Int × Value × Int) (s : S_slices_BinarySearchFunc_L1) : Env := [⟨0, .slice f.1 f.2.1 f.2.2.1, none⟩, ⟨1, .int .i64 f.2.2.2.1, none⟩, ⟨2, f.2.2.2.2.1, none⟩, ⟨8, .int .i64 f.2.2.2.2.2, none⟩, ⟨9, .int .i64 s.i, none⟩, ⟨10, .int .i64 s.j, none⟩]
def dec_slices_BinarySearchFunc_L1 (e : Env) (K : ((Option Addr) × Nat × Nat × Int × Value × Int) → S_slices_BinarySearchFunc_L1 → Prop) : Prop :=
 oS e 0 fun xP_1 xN_1 xC_1 =>
 oI e 1 .i64 fun target_1 =>
 oV e 2 fun cmp_1 =>
 oI e 8 .i64 fun n =>
 oI e 9 .i64 fun i =>
 oI e 10 .i64 fun j =>
  K (xP_1, xN_1, xC_1, target_1, cmp_1, n) ⟨i, j⟩
theorem dec_slices_BinarySearchFunc_L1_ok {N : Nat} (e : Env) (a : Act) (K : ((Option Addr) × Nat × Nat × Int × Value × Int) → S_slices_BinarySearchFunc_L1 → Prop) (hr : Rep N a e) (h0 : dec_slices_BinarySearchFunc_L1 e K) : ∃ f s, K f s ∧ Rep N a (lit_slices_BinarySearchFunc_L1 f s) := by
 unfold dec_slices_BinarySearchFunc_L1 at h0
 obtain ⟨xP_1, xN_1, xC_1, g0, h1⟩ := oS_elim h0
 obtain ⟨target_1, g1, h2⟩ := oI_elim h1
 obtain ⟨cmp_1, g2, h3⟩ := oV_elim h2
 obtain ⟨n, g8, h4⟩ := oI_elim h3
 obtain ⟨i, g9, h5⟩ := oI_elim h4
 obtain ⟨j, g10, h6⟩ := oI_elim h5
 exact ⟨_, _, h6, rep_less hr (by simp [lit_slices_BinarySearchFunc_L1, g0, g1, g2, g8, g9, g10])⟩
def spec_slices_BinarySearchFunc_L1 (Q : Post) (e : Env) (w : World) : Prop :=
 dec_slices_BinarySearchFunc_L1 e fun f s => F_slices_BinarySearchFunc_L1 f.1 f.2.1 f.2.2.1 f.2.2.2.1 f.2.2.2.2.1 f.2.2.2.2.2 s w (fun i_1 w1 => Q (.exit 0) [⟨0, .slice f.1 f.2.1 f.2.2.1, none⟩, ⟨1, .int .i64 f.2.2.2.1, none⟩, ⟨2, f.2.2.2.2.1, none⟩, ⟨8, .int .i64 f.2.2.2.2.2, none⟩, ⟨9, .int .i64 i_1, none⟩] w1)
def G_slices_BinarySearchFunc : Gen where
 loop := lookL [([false, false, true, true, true], spec_slices_BinarySearchFunc_L1)]
 plan := fun _ => none
def dx_slices_BinarySearchFunc_L1_0 (e : Env) (K : ((Option Addr) × Nat × Nat × Int × Value × Int) → Int → Prop) : Prop :=
 oS e 0 fun xP_1 xN_1 xC_1 =>
 oI e 1 .i64 fun target_1 =>
 oV e 2 fun cmp_1 =>
 oI e 8 .i64 fun n =>
 oI e 9 .i64 fun i_1 =>
  K (xP_1, xN_1, xC_1, target_1, cmp_1, n) i_1
theorem body_slices_BinarySearchFunc_L1 (f : (Option Addr) × Nat × Nat × Int × Value × Int) (s : S_slices_BinarySearchFunc_L1) (w : World) (Kn : ((Option Addr) × Nat × Nat × Int × Value × Int) → S_slices_BinarySearchFunc_L1 → World → Prop) (Kx0 : ((Option Addr) × Nat × Nat × Int × Value × Int) → Int → World → Prop) :
  B_slices_BinarySearchFunc_L1 f.1 f.2.1 f.2.2.1 f.2.2.2.1 f.2.2.2.2.1 f.2.2.2.2.2 s w (fun s1 w1 => Kn f s1 w1) (fun i_1 w1 => Kx0 f i_1 w1) =
  den Try.prog Try.f81.ntmps G_slices_BinarySearchFunc (sub (codeOf Try.f81) [false, false, false, true, true, true]) [false, false, false, true, true, true] (roundQ (fun e w => dec_slices_BinarySearchFunc_L1 e fun f s => Kn f s w) (fun e w => False) (fun id e w => match Nat.beq id 0 with | true => dx_slices_BinarySearchFunc_L1_0 e fun f i_1 => Kx0 f i_1 w | false => False)) (lit_slices_BinarySearchFunc_L1 f s) w := by kernel_rfl
theorem ok_slices_BinarySearchFunc_L1 : OneOk Try.prog Try.f81.ntmps G_slices_BinarySearchFunc (codeOf Try.f81) [false, false, true, true, true] spec_slices_BinarySearchFunc_L1 := by
 intro c hc ih Q e w a hr h
 have hcc : sub (codeOf Try.f81) [false, false, false, true, true, true] = c := sub_of_codeAt hc
 obtain ⟨f, s, h, hrep⟩ := dec_slices_BinarySearchFunc_L1_ok e a _ hr h
 obtain ⟨J, μ, hj, hround⟩ := h
 refine loop_rule_deep seat_ok seat_mixed ih lit_slices_BinarySearchFunc_L1 dec_slices_BinarySearchFunc_L1 dec_slices_BinarySearchFunc_L1_ok hc f J μ (Kr := fun e w => False) (Kx := fun id e w => match Nat.beq id 0 with | true => (dx_slices_BinarySearchFunc_L1_0 e fun f1 i_1 => f1 = f ∧ Q (.exit 0) [⟨0, .slice f.1 f.2.1 f.2.2.1, none⟩, ⟨1, .int .i64 f.2.2.2.1, none⟩, ⟨2, f.2.2.2.2.1, none⟩, ⟨8, .int .i64 f.2.2.2.2.2, none⟩, ⟨9, .int .i64 i_1, none⟩] w) | false => False) ?_ ?_ ?_ s w a hj hrep
 ·intro e a w hr h
  exact h.elim
 ·intro id e a w hr h0
  (try dsimp only at h0)
  split at h0
  ·rename_i hid
   obtain rfl := Nat.eq_of_beq_eq_true hid
   unfold dx_slices_BinarySearchFunc_L1_0 at h0
   obtain ⟨xP_1, xN_1, xC_1, g0, h1⟩ := oS_elim h0
   obtain ⟨target_1, g1, h2⟩ := oI_elim h1
   obtain ⟨cmp_1, g2, h3⟩ := oV_elim h2
   obtain ⟨n, g8, h4⟩ := oI_elim h3
   obtain ⟨i_1, g9, h5⟩ := oI_elim h4
   obtain ⟨hf, hq⟩ := h5
   subst hf
   exact ⟨_, rep_less hr (by simp [g0, g1, g2, g8, g9]), hq⟩
  ·exact h0.elim
 ·intro s w hj
  have hb := hround s w hj
  rw [← hcc]
  have e1 := body_slices_BinarySearchFunc_L1 f s w (fun f1 s1 w1 => f1 = f ∧ J s1 w1 ∧ μ s1 w1 < μ s w) (fun f1 i_1 w1 => f1 = f ∧ Q (.exit 0) [⟨0, .slice f.1 f.2.1 f.2.2.1, none⟩, ⟨1, .int .i64 f.2.2.2.1, none⟩, ⟨2, f.2.2.2.2.1, none⟩, ⟨8, .int .i64 f.2.2.2.2.2, none⟩, ⟨9, .int .i64 i_1, none⟩] w1)
  simp only [true_and] at e1
  exact cast e1 hb
theorem loops_slices_BinarySearchFunc : LoopOk Try.prog Try.f81.ntmps G_slices_BinarySearchFunc (codeOf Try.f81) := loopOk_list rfl ⟨ok_slices_BinarySearchFunc_L1, trivial⟩
theorem C_slices_BinarySearchFunc.of {xP : Option Addr} {xN : Nat} {xC : Nat} {target : Int} {cmp : Value} {w : World} {R : Int → Bool → World → Prop} (h : F_slices_BinarySearchFunc xP xN xC target cmp w R) : C_slices_BinarySearchFunc xP xN xC target cmp w R := ofS9 (Fm := F_slices_BinarySearchFunc xP xN xC target cmp w) Try.func81 (by kernel_rfl) loops_slices_BinarySearchFunc rfl (fun _ => by kernel_rfl) h
def F_index_row_place_1 (e0 : Int) (e1 : Int) (rank : Int) (w : World) (R : Int → World → Prop) : Prop :=
 New w (.cells #[.int .i64 e0, .int .i64 e1] 115) fun r w1 =>
 ∃ rank_1, w1.cell? (Addr.add ⟨r, 0, none⟩ 0) = some (.int .i64 rank_1) ∧
 C_cmp_Compare__2 rank_1 rank w1 fun t8 w1_1 =>
 R t8 w1_1
theorem C_index_row_place_1.of {e0 : Int} {e1 : Int} {rank : Int} {w : World} {R : Int → World → Prop} (h : F_index_row_place_1 e0 e1 rank w R) : C_index_row_place_1 e0 e1 rank w R := ofS5 (Fm := F_index_row_place_1 e0 e1 rank w) Try.func82 (by kernel_rfl) (L0 Try.f82) rfl (fun _ => by kernel_rfl) h
def F_term_measure (t0 : Int) (t1 : Int) (t2 : ByteArray) (t3P : Option Addr) (t3N : Nat) (t3C : Nat) (w : World) (R : Int → Int → Bool → World → Prop) : Prop :=
 New w (.cells #[.int .i64 t0, .int .i64 t1, .string t2, .slice t3P t3N t3C] 31) fun r w1 =>
 New w1 (.cells #[.int .i64 0, .int .i64 0, .bool false] 145) fun r_1 w1_1 =>
 New w1_1 (.cells #[.int .i64 0, .int .i64 0, .bool false] 145) fun r_2 w1_2 =>
 ∃ t40, w1_2.cell? (Addr.add ⟨r, 0, none⟩ 0) = some (.int .i64 t40) ∧
 ∃ t41, w1_2.cell? (Addr.add ⟨r, 0, none⟩ 1) = some (.int .i64 t41) ∧
 ∃ t42, w1_2.cell? (Addr.add ⟨r, 0, none⟩ 2) = some (.string t42) ∧
 ∃ t43P t43N t43C, w1_2.cell? (Addr.add ⟨r, 0, none⟩ 3) = some (.slice t43P t43N t43C) ∧
 C_term_count_of (some ⟨r_2, 0, none⟩) t40 t41 t42 t43P t43N t43C (1 : Int) w1_2 fun w1_3 =>
 ∃ t60, w1_3.cell? (Addr.add ⟨r_2, 0, none⟩ 0) = some (.int .i64 t60) ∧
 ∃ t61, w1_3.cell? (Addr.add ⟨r_2, 0, none⟩ 1) = some (.int .i64 t61) ∧
 ∃ t62, w1_3.cell? (Addr.add ⟨r_2, 0, none⟩ 2) = some (.bool t62) ∧
 St w1_3 (Addr.add ⟨r_1, 0, none⟩ 0) (.int .i64 t60) fun w1_4 =>
 St w1_4 (Addr.add ⟨r_1, 0, none⟩ 1) (.int .i64 t61) fun w1_5 =>
 St w1_5 (Addr.add ⟨r_1, 0, none⟩ 2) (.bool t62) fun w1_6 =>
 ∃ r_3, w1_6.cell? (Addr.add ⟨r_1, 0, none⟩ 0) = some (.int .i64 r_3) ∧
 ∃ r_4, w1_6.cell? (Addr.add ⟨r_1, 0, none⟩ 1) = some (.int .i64 r_4) ∧
 ∃ r_5, w1_6.cell? (Addr.add ⟨r_1, 0, none⟩ 2) = some (.bool r_5) ∧
 R r_3 r_4 r_5 w1_6
theorem C_term_measure.of {t0 : Int} {t1 : Int} {t2 : ByteArray} {t3P : Option Addr} {t3N : Nat} {t3C : Nat} {w : World} {R : Int → Int → Bool → World → Prop} (h : F_term_measure t0 t1 t2 t3P t3N t3C w R) : C_term_measure t0 t1 t2 t3P t3N t3C w R := ofS16 (Fm := F_term_measure t0 t1 t2 t3P t3N t3C w) Try.func83 (by kernel_rfl) (L0 Try.f83) rfl (fun _ => by kernel_rfl) h
def F_term_may (t0 : Int) (t1 : Int) (t2 : ByteArray) (t3P : Option Addr) (t3N : Nat) (t3C : Nat) (w : World) (R : Bool → World → Prop) : Prop :=
 New w (.cells #[.int .i64 t0, .int .i64 t1, .string t2, .slice t3P t3N t3C] 31) fun r w1 =>
 ∃ t30, w1.cell? (Addr.add ⟨r, 0, none⟩ 0) = some (.int .i64 t30) ∧
 ∃ t31, w1.cell? (Addr.add ⟨r, 0, none⟩ 1) = some (.int .i64 t31) ∧
 ∃ t32, w1.cell? (Addr.add ⟨r, 0, none⟩ 2) = some (.string t32) ∧
 ∃ t33P t33N t33C, w1.cell? (Addr.add ⟨r, 0, none⟩ 3) = some (.slice t33P t33N t33C) ∧
 C_term_Check t30 t31 t32 t33P t33N t33C w1 fun t4 w1_1 =>
 R (t4 == (0 : Int)) w1_1
theorem C_term_may.of {t0 : Int} {t1 : Int} {t2 : ByteArray} {t3P : Option Addr} {t3N : Nat} {t3C : Nat} {w : World} {R : Bool → World → Prop} (h : F_term_may t0 t1 t2 t3P t3N t3C w R) : C_term_may t0 t1 t2 t3P t3N t3C w R := ofS2 (Fm := F_term_may t0 t1 t2 t3P t3N t3C w) Try.func84 (by kernel_rfl) (L0 Try.f84) rfl (fun _ => by kernel_rfl) h
structure S_term_build_L1 where
 t25 : Int
def B_term_build_L1 (of_1 : Value) (t4 : Addr) (u : Addr) (t23P : Option Addr) (t23N : Nat) (t23C : Nat) (t24 : Int) (s : S_term_build_L1) (w : World) (Kn : S_term_build_L1 → World → Prop) (Kx0 : World → Prop) : Prop :=
 If (decide (s.t25 < t24))
 (0 ≤ s.t25 ∧ s.t25 < (t23N : Int) ∧ NN t23P fun a =>
 ∃ t280, w.cell? ((a.add (s.t25.toNat * 4)).add 0) = some (.int .i64 t280) ∧
 ∃ t281, w.cell? ((a.add (s.t25.toNat * 4)).add 1) = some (.int .i64 t281) ∧
 ∃ t282, w.cell? ((a.add (s.t25.toNat * 4)).add 2) = some (.string t282) ∧
 ∃ t283P t283N t283C, w.cell? ((a.add (s.t25.toNat * 4)).add 3) = some (.slice t283P t283N t283C) ∧
 New w (.cells #[.int .i64 0, .int .i64 0, .string ⟨#[]⟩, .slice none 0 0] 31) fun r_6 w1_12 =>
 St w1_12 (Addr.add ⟨r_6, 0, none⟩ 0) (.int .i64 t280) fun w1_13 =>
 St w1_13 (Addr.add ⟨r_6, 0, none⟩ 1) (.int .i64 t281) fun w1_14 =>
 St w1_14 (Addr.add ⟨r_6, 0, none⟩ 2) (.string t282) fun w1_15 =>
 St w1_15 (Addr.add ⟨r_6, 0, none⟩ 3) (.slice t283P t283N t283C) fun w1_16 =>
 ∃ LP_1 LN_1 LC_1, (drw w1_16).cell? (u.add 3) = some (.slice LP_1 LN_1 LC_1) ∧
 ∃ t310, (drw w1_16).cell? (Addr.add ⟨r_6, 0, none⟩ 0) = some (.int .i64 t310) ∧
 ∃ t311, (drw w1_16).cell? (Addr.add ⟨r_6, 0, none⟩ 1) = some (.int .i64 t311) ∧
 ∃ t312, (drw w1_16).cell? (Addr.add ⟨r_6, 0, none⟩ 2) = some (.string t312) ∧
 ∃ t313P t313N t313C, (drw w1_16).cell? (Addr.add ⟨r_6, 0, none⟩ 3) = some (.slice t313P t313N t313C) ∧
 C_term_build t310 t311 t312 t313P t313N t313C of_1 (drw w1_16) fun t330 t331 t332 t333P t333N t333C w1_17 =>
 w1_17.cell? (u.add 3) = (drw w1_16).cell? (u.add 3) ∧
 BSl Try.prog 29 1 [(0, .agg #[.int .i64 t330, .int .i64 t331, .string t332, .slice t333P t333N t333C])] w1_17 fun t34P t34N t34C w1_18 =>
 w1_18.cell? (u.add 3) = (drw w1_16).cell? (u.add 3) ∧
 App Try.prog #[29, 29] 29 #[.slice LP_1 LN_1 LC_1, .slice t34P t34N t34C] w1_18 fun t35P t35N t35C w1_19 =>
 St w1_19 ((u.add 3).add 0) (.slice t35P t35N t35C) fun w1_20 =>
 Kn ⟨(IntKind.i64.wrap (s.t25 + (1 : Int)))⟩ w1_20)
 (Kx0 w)
def F_term_build_L1 (of_1 : Value) (t4 : Addr) (u : Addr) (t23P : Option Addr) (t23N : Nat) (t23C : Nat) (t24 : Int) (s : S_term_build_L1) (w : World) (Kx0 : World → Prop) : Prop :=
 LoopS (fun s w Kn => B_term_build_L1 of_1 t4 u t23P t23N t23C t24 s w Kn Kx0) s w
def F_term_build (t0 : Int) (t1 : Int) (t2 : ByteArray) (t3P : Option Addr) (t3N : Nat) (t3C : Nat) (of : Value) (w : World) (R : Int → Int → ByteArray → Option Addr → Nat → Nat → World → Prop) : Prop :=
 New w (.cells #[.int .i64 t0, .int .i64 t1, .string t2, .slice t3P t3N t3C] 31) fun r w1 =>
 New w1 (.cells #[.int .i64 0, .int .i64 0, .string ⟨#[]⟩, .slice none 0 0] 31) fun r_1 w1_1 =>
 ∃ Kind, w1_1.cell? (Addr.add ⟨r, 0, none⟩ 0) = some (.int .i64 Kind) ∧
 If (Kind == (1 : Int))
 (∃ N, w1_1.cell? (Addr.add ⟨r, 0, none⟩ 1) = some (.int .i64 N) ∧
 CallV Try.prog of [.int .i64 N] w1_1 fun v w1_2 => ∃ t140 : Int, ∃ t141 : Int, ∃ t142 : ByteArray, ∃ t143P t143N t143C, v = (.agg #[.int .i64 t140, .int .i64 t141, .string t142, .slice t143P t143N t143C]) ∧
 St w1_2 (Addr.add ⟨r_1, 0, none⟩ 0) (.int .i64 t140) fun w1_3 =>
 St w1_3 (Addr.add ⟨r_1, 0, none⟩ 1) (.int .i64 t141) fun w1_4 =>
 St w1_4 (Addr.add ⟨r_1, 0, none⟩ 2) (.string t142) fun w1_5 =>
 St w1_5 (Addr.add ⟨r_1, 0, none⟩ 3) (.slice t143P t143N t143C) fun w1_6 =>
 ∃ r_2, w1_6.cell? (Addr.add ⟨r_1, 0, none⟩ 0) = some (.int .i64 r_2) ∧
 ∃ r_3, w1_6.cell? (Addr.add ⟨r_1, 0, none⟩ 1) = some (.int .i64 r_3) ∧
 ∃ r_4, w1_6.cell? (Addr.add ⟨r_1, 0, none⟩ 2) = some (.string r_4) ∧
 ∃ rP rN rC, w1_6.cell? (Addr.add ⟨r_1, 0, none⟩ 3) = some (.slice rP rN rC) ∧
 R r_2 r_3 r_4 rP rN rC w1_6)
 (∃ Kind_1, w1_1.cell? (Addr.add ⟨r, 0, none⟩ 0) = some (.int .i64 Kind_1) ∧
 ∃ N_1, w1_1.cell? (Addr.add ⟨r, 0, none⟩ 1) = some (.int .i64 N_1) ∧
 ∃ S, w1_1.cell? (Addr.add ⟨r, 0, none⟩ 2) = some (.string S) ∧
 New w1_1 (.cells #[.int .i64 0, .int .i64 0, .string ⟨#[]⟩, .slice none 0 0] 31) fun r_5 w1_7 =>
 St w1_7 (Addr.add ⟨r_5, 0, none⟩ 0) (.int .i64 Kind_1) fun w1_8 =>
 St w1_8 (Addr.add ⟨r_5, 0, none⟩ 1) (.int .i64 N_1) fun w1_9 =>
 St w1_9 (Addr.add ⟨r_5, 0, none⟩ 2) (.string S) fun w1_10 =>
 St w1_10 (Addr.add ⟨r_5, 0, none⟩ 3) (.slice none 0 0) fun w1_11 =>
 ∃ LP LN LC, w1_11.cell? (Addr.add ⟨r, 0, none⟩ 3) = some (.slice LP LN LC) ∧
 F_term_build_L1 of ⟨r_1, 0, none⟩ ⟨r_5, 0, none⟩ LP LN LC (LN : Int) ⟨(0 : Int)⟩ w1_11
 (fun w1_21 =>
 ∃ t380, w1_21.cell? (Addr.add ⟨r_5, 0, none⟩ 0) = some (.int .i64 t380) ∧
 ∃ t381, w1_21.cell? (Addr.add ⟨r_5, 0, none⟩ 1) = some (.int .i64 t381) ∧
 ∃ t382, w1_21.cell? (Addr.add ⟨r_5, 0, none⟩ 2) = some (.string t382) ∧
 ∃ t383P t383N t383C, w1_21.cell? (Addr.add ⟨r_5, 0, none⟩ 3) = some (.slice t383P t383N t383C) ∧
 St w1_21 (Addr.add ⟨r_1, 0, none⟩ 0) (.int .i64 t380) fun w1_22 =>
 St w1_22 (Addr.add ⟨r_1, 0, none⟩ 1) (.int .i64 t381) fun w1_23 =>
 St w1_23 (Addr.add ⟨r_1, 0, none⟩ 2) (.string t382) fun w1_24 =>
 St w1_24 (Addr.add ⟨r_1, 0, none⟩ 3) (.slice t383P t383N t383C) fun w1_25 =>
 ∃ r_7, w1_25.cell? (Addr.add ⟨r_1, 0, none⟩ 0) = some (.int .i64 r_7) ∧
 ∃ r_8, w1_25.cell? (Addr.add ⟨r_1, 0, none⟩ 1) = some (.int .i64 r_8) ∧
 ∃ r_9, w1_25.cell? (Addr.add ⟨r_1, 0, none⟩ 2) = some (.string r_9) ∧
 ∃ rP_1 rN_1 rC_1, w1_25.cell? (Addr.add ⟨r_1, 0, none⟩ 3) = some (.slice rP_1 rN_1 rC_1) ∧
 R r_7 r_8 r_9 rP_1 rN_1 rC_1 w1_25))
def lit_term_build_L1 (f : Value × Addr × Addr × (Option Addr) × Nat × Nat × Int) (s : S_term_build_L1) : Env := [⟨1, f.1, none⟩, ⟨4, .pointer (some f.2.1), none⟩, ⟨5, .pointer (some f.2.2.1), none⟩, ⟨23, .slice f.2.2.2.1 f.2.2.2.2.1 f.2.2.2.2.2.1, none⟩, ⟨24, .int .i64 f.2.2.2.2.2.2, none⟩, ⟨25, .int .i64 s.t25, none⟩]
def dec_term_build_L1 (e : Env) (K : (Value × Addr × Addr × (Option Addr) × Nat × Nat × Int) → S_term_build_L1 → Prop) : Prop :=
 oV e 1 fun of_1 =>
 oA e 4 fun t4 =>
 oA e 5 fun u =>
 oS e 23 fun t23P t23N t23C =>
 oI e 24 .i64 fun t24 =>
 oI e 25 .i64 fun t25 =>
  K (of_1, t4, u, t23P, t23N, t23C, t24) ⟨t25⟩
theorem dec_term_build_L1_ok {N : Nat} (e : Env) (a : Act) (K : (Value × Addr × Addr × (Option Addr) × Nat × Nat × Int) → S_term_build_L1 → Prop) (hr : Rep N a e) (h0 : dec_term_build_L1 e K) : ∃ f s, K f s ∧ Rep N a (lit_term_build_L1 f s) := by
 unfold dec_term_build_L1 at h0
 obtain ⟨of_1, g1, h1⟩ := oV_elim h0
 obtain ⟨t4, g4, h2⟩ := oA_elim h1
 obtain ⟨u, g5, h3⟩ := oA_elim h2
 obtain ⟨t23P, t23N, t23C, g23, h4⟩ := oS_elim h3
 obtain ⟨t24, g24, h5⟩ := oI_elim h4
 obtain ⟨t25, g25, h6⟩ := oI_elim h5
 exact ⟨_, _, h6, rep_less hr (by simp [lit_term_build_L1, g1, g4, g5, g23, g24, g25])⟩
def spec_term_build_L1 (Q : Post) (e : Env) (w : World) : Prop :=
 dec_term_build_L1 e fun f s => F_term_build_L1 f.1 f.2.1 f.2.2.1 f.2.2.2.1 f.2.2.2.2.1 f.2.2.2.2.2.1 f.2.2.2.2.2.2 s w (fun w1 => Q (.exit 0) [⟨4, .pointer (some f.2.1), none⟩, ⟨5, .pointer (some f.2.2.1), none⟩] w1)
def G_term_build : Gen where
 loop := lookL [([false, true, false, true, true, true], spec_term_build_L1)]
 plan := fun id =>
  bif Nat.beq id 7 then some ([0, 1, 0, 0, 12, 28, 63, 127, 255], .take 0 (.take 1 (.take 2 (.take 3 (.take 4 (.take 5 (.take 6 (.take 7 (.take 8 .done))))))))) else none
def dx_term_build_L1_0 (e : Env) (K : (Value × Addr × Addr × (Option Addr) × Nat × Nat × Int) → Prop) : Prop :=
 oV e 1 fun of_1 =>
 oA e 4 fun t4 =>
 oA e 5 fun u =>
 oS e 23 fun t23P t23N t23C =>
 oI e 24 .i64 fun t24 =>
  K (of_1, t4, u, t23P, t23N, t23C, t24)
theorem body_term_build_L1 (f : Value × Addr × Addr × (Option Addr) × Nat × Nat × Int) (s : S_term_build_L1) (w : World) (Kn : (Value × Addr × Addr × (Option Addr) × Nat × Nat × Int) → S_term_build_L1 → World → Prop) (Kx0 : (Value × Addr × Addr × (Option Addr) × Nat × Nat × Int) → World → Prop) :
  B_term_build_L1 f.1 f.2.1 f.2.2.1 f.2.2.2.1 f.2.2.2.2.1 f.2.2.2.2.2.1 f.2.2.2.2.2.2 s w (fun s1 w1 => Kn f s1 w1) (fun w1 => Kx0 f w1) =
  den Try.prog Try.f85.ntmps G_term_build (sub (codeOf Try.f85) [false, false, true, false, true, true, true]) [false, false, true, false, true, true, true] (roundQ (fun e w => dec_term_build_L1 e fun f s => Kn f s w) (fun e w => False) (fun id e w => match Nat.beq id 0 with | true => dx_term_build_L1_0 e fun f => Kx0 f w | false => False)) (lit_term_build_L1 f s) w := by kernel_rfl
theorem ok_term_build_L1 : OneOk Try.prog Try.f85.ntmps G_term_build (codeOf Try.f85) [false, true, false, true, true, true] spec_term_build_L1 := by
 intro c hc ih Q e w a hr h
 have hcc : sub (codeOf Try.f85) [false, false, true, false, true, true, true] = c := sub_of_codeAt hc
 obtain ⟨f, s, h, hrep⟩ := dec_term_build_L1_ok e a _ hr h
 obtain ⟨J, μ, hj, hround⟩ := h
 refine loop_rule_deep seat_ok seat_mixed ih lit_term_build_L1 dec_term_build_L1 dec_term_build_L1_ok hc f J μ (Kr := fun e w => False) (Kx := fun id e w => match Nat.beq id 0 with | true => (dx_term_build_L1_0 e fun f1 => f1 = f ∧ Q (.exit 0) [⟨4, .pointer (some f.2.1), none⟩, ⟨5, .pointer (some f.2.2.1), none⟩] w) | false => False) ?_ ?_ ?_ s w a hj hrep
 ·intro e a w hr h
  exact h.elim
 ·intro id e a w hr h0
  (try dsimp only at h0)
  split at h0
  ·rename_i hid
   obtain rfl := Nat.eq_of_beq_eq_true hid
   unfold dx_term_build_L1_0 at h0
   obtain ⟨of_1, g1, h1⟩ := oV_elim h0
   obtain ⟨t4, g4, h2⟩ := oA_elim h1
   obtain ⟨u, g5, h3⟩ := oA_elim h2
   obtain ⟨t23P, t23N, t23C, g23, h4⟩ := oS_elim h3
   obtain ⟨t24, g24, h5⟩ := oI_elim h4
   obtain ⟨hf, hq⟩ := h5
   subst hf
   exact ⟨_, rep_less hr (by simp [g4, g5]), hq⟩
  ·exact h0.elim
 ·intro s w hj
  have hb := hround s w hj
  rw [← hcc]
  have e1 := body_term_build_L1 f s w (fun f1 s1 w1 => f1 = f ∧ J s1 w1 ∧ μ s1 w1 < μ s w) (fun f1 w1 => f1 = f ∧ Q (.exit 0) [⟨4, .pointer (some f.2.1), none⟩, ⟨5, .pointer (some f.2.2.1), none⟩] w1)
  simp only [true_and] at e1
  exact cast e1 hb
theorem loops_term_build : LoopOk Try.prog Try.f85.ntmps G_term_build (codeOf Try.f85) := loopOk_list rfl ⟨ok_term_build_L1, trivial⟩
theorem C_term_build.of {t0 : Int} {t1 : Int} {t2 : ByteArray} {t3P : Option Addr} {t3N : Nat} {t3C : Nat} {of : Value} {w : World} {R : Int → Int → ByteArray → Option Addr → Nat → Nat → World → Prop} (h : F_term_build t0 t1 t2 t3P t3N t3C of w R) : C_term_build t0 t1 t2 t3P t3N t3C of w R := ofS7 (Fm := F_term_build t0 t1 t2 t3P t3N t3C of w) Try.func85 (by kernel_rfl) loops_term_build rfl (fun _ => by kernel_rfl) h
def F_term_Var (n : Int) (w : World) (R : Int → Int → ByteArray → Option Addr → Nat → Nat → World → Prop) : Prop :=
 New w (.cells #[.int .i64 0, .int .i64 0, .string ⟨#[]⟩, .slice none 0 0] 31) fun r w1 =>
 St w1 (Addr.add ⟨r, 0, none⟩ 0) (.int .i64 1) fun w1_1 =>
 St w1_1 (Addr.add ⟨r, 0, none⟩ 1) (.int .i64 n) fun w1_2 =>
 St w1_2 (Addr.add ⟨r, 0, none⟩ 2) (.string ⟨#[]⟩) fun w1_3 =>
 St w1_3 (Addr.add ⟨r, 0, none⟩ 3) (.slice none 0 0) fun w1_4 =>
 ∃ r_1, w1_4.cell? (Addr.add ⟨r, 0, none⟩ 0) = some (.int .i64 r_1) ∧
 ∃ r_2, w1_4.cell? (Addr.add ⟨r, 0, none⟩ 1) = some (.int .i64 r_2) ∧
 ∃ r_3, w1_4.cell? (Addr.add ⟨r, 0, none⟩ 2) = some (.string r_3) ∧
 ∃ rP rN rC, w1_4.cell? (Addr.add ⟨r, 0, none⟩ 3) = some (.slice rP rN rC) ∧
 R r_1 r_2 r_3 rP rN rC w1_4
theorem C_term_Var.of {n : Int} {w : World} {R : Int → Int → ByteArray → Option Addr → Nat → Nat → World → Prop} (h : F_term_Var n w R) : C_term_Var n w R := ofS7 (Fm := F_term_Var n w) Try.func86 (by kernel_rfl) (L0 Try.f86) rfl (fun _ => by kernel_rfl) h
def F_slices_rotateLeft (sP : Option Addr) (sN : Nat) (sC : Nat) (r : Int) (w : World) (R : World → Prop) : Prop :=
 0 ≤ r ∧ r ≤ (sC : Int) ∧
 C_slices_Reverse sP r.toNat sC w fun w1 =>
 0 ≤ r ∧ r ≤ (sN : Int) ∧
 C_slices_Reverse (adv sP sC r.toNat 2) (sN - r.toNat) (sC - r.toNat) w1 fun w1_1 =>
 C_slices_Reverse sP sN sC w1_1 fun w1_2 =>
 R w1_2
theorem C_slices_rotateLeft.of {sP : Option Addr} {sN : Nat} {sC : Nat} {r : Int} {w : World} {R : World → Prop} (h : F_slices_rotateLeft sP sN sC r w R) : C_slices_rotateLeft sP sN sC r w R := ofS1 (Fm := F_slices_rotateLeft sP sN sC r w) Try.func92 (by kernel_rfl) (L0 Try.f92) rfl (fun _ => by kernel_rfl) h
structure S_term_count_of_L1 where
 t39 : Int
def B_term_count_of_L1 (cx_1 : Option Addr) (depth_2 : Int) (t37P : Option Addr) (t37N : Nat) (t37C : Nat) (t38 : Int) (s : S_term_count_of_L1) (w : World) (Kn : S_term_count_of_L1 → World → Prop) (Kx0 : World → Prop) : Prop :=
 If (decide (s.t39 < t38))
 (0 ≤ s.t39 ∧ s.t39 < (t37N : Int) ∧ NN t37P fun a_7 =>
 ∃ t420, w.cell? ((a_7.add (s.t39.toNat * 4)).add 0) = some (.int .i64 t420) ∧
 ∃ t421, w.cell? ((a_7.add (s.t39.toNat * 4)).add 1) = some (.int .i64 t421) ∧
 ∃ t422, w.cell? ((a_7.add (s.t39.toNat * 4)).add 2) = some (.string t422) ∧
 ∃ t423P t423N t423C, w.cell? ((a_7.add (s.t39.toNat * 4)).add 3) = some (.slice t423P t423N t423C) ∧
 New w (.cells #[.int .i64 0, .int .i64 0, .string ⟨#[]⟩, .slice none 0 0] 31) fun r_1 w1_7 =>
 St w1_7 (Addr.add ⟨r_1, 0, none⟩ 0) (.int .i64 t420) fun w1_8 =>
 St w1_8 (Addr.add ⟨r_1, 0, none⟩ 1) (.int .i64 t421) fun w1_9 =>
 St w1_9 (Addr.add ⟨r_1, 0, none⟩ 2) (.string t422) fun w1_10 =>
 St w1_10 (Addr.add ⟨r_1, 0, none⟩ 3) (.slice t423P t423N t423C) fun w1_11 =>
 ∃ t440, w1_11.cell? (Addr.add ⟨r_1, 0, none⟩ 0) = some (.int .i64 t440) ∧
 ∃ t441, w1_11.cell? (Addr.add ⟨r_1, 0, none⟩ 1) = some (.int .i64 t441) ∧
 ∃ t442, w1_11.cell? (Addr.add ⟨r_1, 0, none⟩ 2) = some (.string t442) ∧
 ∃ t443P t443N t443C, w1_11.cell? (Addr.add ⟨r_1, 0, none⟩ 3) = some (.slice t443P t443N t443C) ∧
 C_term_count_of cx_1 t440 t441 t442 t443P t443N t443C (IntKind.i64.wrap (depth_2 + (1 : Int))) w1_11 fun w1_12 =>
 Kn ⟨(IntKind.i64.wrap (s.t39 + (1 : Int)))⟩ w1_12)
 (Kx0 w)
def F_term_count_of_L1 (cx_1 : Option Addr) (depth_2 : Int) (t37P : Option Addr) (t37N : Nat) (t37C : Nat) (t38 : Int) (s : S_term_count_of_L1) (w : World) (Kx0 : World → Prop) : Prop :=
 LoopS (fun s w Kn => B_term_count_of_L1 cx_1 depth_2 t37P t37N t37C t38 s w Kn Kx0) s w
def F_term_count_of_k1 (cx : Option Addr) (depth : Int) (R : World → Prop) (r : Nat) (w1_6 : World) : Prop :=
 ∃ LP LN LC, w1_6.cell? (Addr.add ⟨r, 0, none⟩ 3) = some (.slice LP LN LC) ∧
 F_term_count_of_L1 cx depth LP LN LC (LN : Int) ⟨(0 : Int)⟩ w1_6
 (fun w1_13 =>
 R w1_13)
def F_term_count_of (cx : Option Addr) (t0 : Int) (t1 : Int) (t2 : ByteArray) (t3P : Option Addr) (t3N : Nat) (t3C : Nat) (depth : Int) (w : World) (R : World → Prop) : Prop :=
 New w (.cells #[.int .i64 t0, .int .i64 t1, .string t2, .slice t3P t3N t3C] 31) fun r w1 =>
 NN cx fun a =>
 ∃ parts, w1.cell? (a.add 0) = some (.int .i64 parts) ∧
 NN cx fun a_1 =>
 St w1 ((a_1.add 0).add 0) (.int .i64 (IntKind.i64.wrap (parts + (1 : Int)))) fun w1_1 =>
 NN cx fun a_2 =>
 ∃ depth_1, w1_1.cell? (a_2.add 1) = some (.int .i64 depth_1) ∧
 NN cx fun a_3 =>
 St w1_1 ((a_3.add 1).add 0) (.int .i64 (maxI depth_1 depth)) fun w1_2 =>
 NN cx fun a_4 =>
 ∃ bad, w1_2.cell? (a_4.add 2) = some (.bool bad) ∧
 If bad
 (NN cx fun a_5 =>
 St w1_2 ((a_5.add 2).add 0) (.bool true) fun w1_3 =>
 F_term_count_of_k1 cx depth R r w1_3)
 (∃ t300, w1_2.cell? (Addr.add ⟨r, 0, none⟩ 0) = some (.int .i64 t300) ∧
 ∃ t301, w1_2.cell? (Addr.add ⟨r, 0, none⟩ 1) = some (.int .i64 t301) ∧
 ∃ t302, w1_2.cell? (Addr.add ⟨r, 0, none⟩ 2) = some (.string t302) ∧
 ∃ t303P t303N t303C, w1_2.cell? (Addr.add ⟨r, 0, none⟩ 3) = some (.slice t303P t303N t303C) ∧
 C_term_part t300 t301 t302 t303P t303N t303C w1_2 fun t31 w1_4 =>
 NN cx fun a_6 =>
 St w1_4 ((a_6.add 2).add 0) (.bool (!t31)) fun w1_5 =>
 F_term_count_of_k1 cx depth R r w1_5)
def lit_term_count_of_L1 (f : (Option Addr) × Int × (Option Addr) × Nat × Nat × Int) (s : S_term_count_of_L1) : Env := [⟨0, .pointer f.1, none⟩, ⟨2, .int .i64 f.2.1, none⟩, ⟨37, .slice f.2.2.1 f.2.2.2.1 f.2.2.2.2.1, none⟩, ⟨38, .int .i64 f.2.2.2.2.2, none⟩, ⟨39, .int .i64 s.t39, none⟩]
def dec_term_count_of_L1 (e : Env) (K : ((Option Addr) × Int × (Option Addr) × Nat × Nat × Int) → S_term_count_of_L1 → Prop) : Prop :=
 oP e 0 fun cx_1 =>
 oI e 2 .i64 fun depth_2 =>
 oS e 37 fun t37P t37N t37C =>
 oI e 38 .i64 fun t38 =>
 oI e 39 .i64 fun t39 =>
  K (cx_1, depth_2, t37P, t37N, t37C, t38) ⟨t39⟩
theorem dec_term_count_of_L1_ok {N : Nat} (e : Env) (a : Act) (K : ((Option Addr) × Int × (Option Addr) × Nat × Nat × Int) → S_term_count_of_L1 → Prop) (hr : Rep N a e) (h0 : dec_term_count_of_L1 e K) : ∃ f s, K f s ∧ Rep N a (lit_term_count_of_L1 f s) := by
 unfold dec_term_count_of_L1 at h0
 obtain ⟨cx_1, g0, h1⟩ := oP_elim h0
 obtain ⟨depth_2, g2, h2⟩ := oI_elim h1
 obtain ⟨t37P, t37N, t37C, g37, h3⟩ := oS_elim h2
 obtain ⟨t38, g38, h4⟩ := oI_elim h3
 obtain ⟨t39, g39, h5⟩ := oI_elim h4
 exact ⟨_, _, h5, rep_less hr (by simp [lit_term_count_of_L1, g0, g2, g37, g38, g39])⟩
def spec_term_count_of_L1 (Q : Post) (e : Env) (w : World) : Prop :=
 dec_term_count_of_L1 e fun f s => F_term_count_of_L1 f.1 f.2.1 f.2.2.1 f.2.2.2.1 f.2.2.2.2.1 f.2.2.2.2.2 s w (fun w1 => Q (.exit 0) [] w1)
def G_term_count_of : Gen where
 loop := lookL [([false, true, true, true, true, true], spec_term_count_of_L1)]
 plan := fun _ => none
def dx_term_count_of_L1_0 (e : Env) (K : ((Option Addr) × Int × (Option Addr) × Nat × Nat × Int) → Prop) : Prop :=
 oP e 0 fun cx_1 =>
 oI e 2 .i64 fun depth_2 =>
 oS e 37 fun t37P t37N t37C =>
 oI e 38 .i64 fun t38 =>
  K (cx_1, depth_2, t37P, t37N, t37C, t38)
theorem body_term_count_of_L1 (f : (Option Addr) × Int × (Option Addr) × Nat × Nat × Int) (s : S_term_count_of_L1) (w : World) (Kn : ((Option Addr) × Int × (Option Addr) × Nat × Nat × Int) → S_term_count_of_L1 → World → Prop) (Kx0 : ((Option Addr) × Int × (Option Addr) × Nat × Nat × Int) → World → Prop) :
  B_term_count_of_L1 f.1 f.2.1 f.2.2.1 f.2.2.2.1 f.2.2.2.2.1 f.2.2.2.2.2 s w (fun s1 w1 => Kn f s1 w1) (fun w1 => Kx0 f w1) =
  den Try.prog Try.f93.ntmps G_term_count_of (sub (codeOf Try.f93) [false, false, true, true, true, true, true]) [false, false, true, true, true, true, true] (roundQ (fun e w => dec_term_count_of_L1 e fun f s => Kn f s w) (fun e w => False) (fun id e w => match Nat.beq id 0 with | true => dx_term_count_of_L1_0 e fun f => Kx0 f w | false => False)) (lit_term_count_of_L1 f s) w := by kernel_rfl
theorem ok_term_count_of_L1 : OneOk Try.prog Try.f93.ntmps G_term_count_of (codeOf Try.f93) [false, true, true, true, true, true] spec_term_count_of_L1 := by
 intro c hc ih Q e w a hr h
 have hcc : sub (codeOf Try.f93) [false, false, true, true, true, true, true] = c := sub_of_codeAt hc
 obtain ⟨f, s, h, hrep⟩ := dec_term_count_of_L1_ok e a _ hr h
 obtain ⟨J, μ, hj, hround⟩ := h
 refine loop_rule_deep seat_ok seat_mixed ih lit_term_count_of_L1 dec_term_count_of_L1 dec_term_count_of_L1_ok hc f J μ (Kr := fun e w => False) (Kx := fun id e w => match Nat.beq id 0 with | true => (dx_term_count_of_L1_0 e fun f1 => f1 = f ∧ Q (.exit 0) [] w) | false => False) ?_ ?_ ?_ s w a hj hrep
 ·intro e a w hr h
  exact h.elim
 ·intro id e a w hr h0
  (try dsimp only at h0)
  split at h0
  ·rename_i hid
   obtain rfl := Nat.eq_of_beq_eq_true hid
   unfold dx_term_count_of_L1_0 at h0
   obtain ⟨cx_1, g0, h1⟩ := oP_elim h0
   obtain ⟨depth_2, g2, h2⟩ := oI_elim h1
   obtain ⟨t37P, t37N, t37C, g37, h3⟩ := oS_elim h2
   obtain ⟨t38, g38, h4⟩ := oI_elim h3
   obtain ⟨hf, hq⟩ := h4
   subst hf
   exact ⟨_, rep_less hr (by simp), hq⟩
  ·exact h0.elim
 ·intro s w hj
  have hb := hround s w hj
  rw [← hcc]
  have e1 := body_term_count_of_L1 f s w (fun f1 s1 w1 => f1 = f ∧ J s1 w1 ∧ μ s1 w1 < μ s w) (fun f1 w1 => f1 = f ∧ Q (.exit 0) [] w1)
  simp only [true_and] at e1
  exact cast e1 hb
theorem loops_term_count_of : LoopOk Try.prog Try.f93.ntmps G_term_count_of (codeOf Try.f93) := loopOk_list rfl ⟨ok_term_count_of_L1, trivial⟩
theorem C_term_count_of.of {cx : Option Addr} {t0 : Int} {t1 : Int} {t2 : ByteArray} {t3P : Option Addr} {t3N : Nat} {t3C : Nat} {depth : Int} {w : World} {R : World → Prop} (h : F_term_count_of cx t0 t1 t2 t3P t3N t3C depth w R) : C_term_count_of cx t0 t1 t2 t3P t3N t3C depth w R := ofS1 (Fm := F_term_count_of cx t0 t1 t2 t3P t3N t3C depth w) Try.func93 (by kernel_rfl) loops_term_count_of rfl (fun _ => by kernel_rfl) h
structure S_slices_Reverse_L1 where
 i : Int
 j : Int
def B_slices_Reverse_L1 (sP_1 : Option Addr) (sN_1 : Nat) (sC_1 : Nat) (s : S_slices_Reverse_L1) (w : World) (Kn : S_slices_Reverse_L1 → World → Prop) (Kx0 : World → Prop) : Prop :=
 If (decide (s.i < s.j))
 (0 ≤ s.j ∧ s.j < (sN_1 : Int) ∧ NN sP_1 fun a =>
 ∃ t210, (drw w).cell? ((a.add (s.j.toNat * 2)).add 0) = some (.int .i64 t210) ∧
 ∃ t211, (drw w).cell? ((a.add (s.j.toNat * 2)).add 1) = some (.int .i64 t211) ∧
 0 ≤ s.i ∧ s.i < (sN_1 : Int) ∧ NN sP_1 fun a_1 =>
 ∃ t250, (drw w).cell? ((a_1.add (s.i.toNat * 2)).add 0) = some (.int .i64 t250) ∧
 ∃ t251, (drw w).cell? ((a_1.add (s.i.toNat * 2)).add 1) = some (.int .i64 t251) ∧
 0 ≤ s.i ∧ s.i < (sN_1 : Int) ∧ NN sP_1 fun a_2 =>
 St (drw w) ((a_2.add (s.i.toNat * 2)).add 0) (.int .i64 t210) fun w1 =>
 St w1 ((a_2.add (s.i.toNat * 2)).add 1) (.int .i64 t211) fun w1_1 =>
 0 ≤ s.j ∧ s.j < (sN_1 : Int) ∧ NN sP_1 fun a_3 =>
 St w1_1 ((a_3.add (s.j.toNat * 2)).add 0) (.int .i64 t250) fun w1_2 =>
 St w1_2 ((a_3.add (s.j.toNat * 2)).add 1) (.int .i64 t251) fun w1_3 =>
 Kn ⟨(IntKind.i64.wrap (s.i + (1 : Int))), (IntKind.i64.wrap (s.j - (1 : Int)))⟩ w1_3)
 (Kx0 w)
def F_slices_Reverse_L1 (sP_1 : Option Addr) (sN_1 : Nat) (sC_1 : Nat) (s : S_slices_Reverse_L1) (w : World) (Kx0 : World → Prop) : Prop :=
 LoopS (fun s w Kn => B_slices_Reverse_L1 sP_1 sN_1 sC_1 s w Kn Kx0) s w
def F_slices_Reverse (sP : Option Addr) (sN : Nat) (sC : Nat) (w : World) (R : World → Prop) : Prop :=
 F_slices_Reverse_L1 sP sN sC ⟨(0 : Int), (IntKind.i64.wrap ((sN : Int) - (1 : Int)))⟩ w
 (fun w1_4 =>
 R w1_4)
def lit_slices_Reverse_L1 (f : (Option Addr) × Nat × Nat) (s : S_slices_Reverse_L1) : Env := [⟨0, .slice f.1 f.2.1 f.2.2, none⟩, ⟨2, .int .i64 s.i, none⟩, ⟨3, .int .i64 s.j, none⟩]
def dec_slices_Reverse_L1 (e : Env) (K : ((Option Addr) × Nat × Nat) → S_slices_Reverse_L1 → Prop) : Prop :=
 oS e 0 fun sP_1 sN_1 sC_1 =>
 oI e 2 .i64 fun i =>
 oI e 3 .i64 fun j =>
  K (sP_1, sN_1, sC_1) ⟨i, j⟩
theorem dec_slices_Reverse_L1_ok {N : Nat} (e : Env) (a : Act) (K : ((Option Addr) × Nat × Nat) → S_slices_Reverse_L1 → Prop) (hr : Rep N a e) (h0 : dec_slices_Reverse_L1 e K) : ∃ f s, K f s ∧ Rep N a (lit_slices_Reverse_L1 f s) := by
 unfold dec_slices_Reverse_L1 at h0
 obtain ⟨sP_1, sN_1, sC_1, g0, h1⟩ := oS_elim h0
 obtain ⟨i, g2, h2⟩ := oI_elim h1
 obtain ⟨j, g3, h3⟩ := oI_elim h2
 exact ⟨_, _, h3, rep_less hr (by simp [lit_slices_Reverse_L1, g0, g2, g3])⟩
def spec_slices_Reverse_L1 (Q : Post) (e : Env) (w : World) : Prop :=
 dec_slices_Reverse_L1 e fun f s => F_slices_Reverse_L1 f.1 f.2.1 f.2.2 s w (fun w1 => Q (.exit 0) [] w1)
def G_slices_Reverse : Gen where
 loop := lookL [([false, true], spec_slices_Reverse_L1)]
 plan := fun id =>
  bif Nat.beq id 3 then some ([0, 0, 0, 0, 0, 0, 48, 112, 0, 0, 768, 1792, 4083, 8179, 16383, 32767], .take 0 (.take 1 (.take 2 (.take 3 (.take 4 (.take 5 (.take 6 (.take 7 (.take 8 (.take 9 (.take 10 (.take 11 (.take 12 (.take 13 (.take 14 (.take 15 .done)))))))))))))))) else none
def dx_slices_Reverse_L1_0 (e : Env) (K : ((Option Addr) × Nat × Nat) → Prop) : Prop :=
 oS e 0 fun sP_1 sN_1 sC_1 =>
  K (sP_1, sN_1, sC_1)
theorem body_slices_Reverse_L1 (f : (Option Addr) × Nat × Nat) (s : S_slices_Reverse_L1) (w : World) (Kn : ((Option Addr) × Nat × Nat) → S_slices_Reverse_L1 → World → Prop) (Kx0 : ((Option Addr) × Nat × Nat) → World → Prop) :
  B_slices_Reverse_L1 f.1 f.2.1 f.2.2 s w (fun s1 w1 => Kn f s1 w1) (fun w1 => Kx0 f w1) =
  den Try.prog Try.f95.ntmps G_slices_Reverse (sub (codeOf Try.f95) [false, false, true]) [false, false, true] (roundQ (fun e w => dec_slices_Reverse_L1 e fun f s => Kn f s w) (fun e w => False) (fun id e w => match Nat.beq id 0 with | true => dx_slices_Reverse_L1_0 e fun f => Kx0 f w | false => False)) (lit_slices_Reverse_L1 f s) w := by kernel_rfl
theorem ok_slices_Reverse_L1 : OneOk Try.prog Try.f95.ntmps G_slices_Reverse (codeOf Try.f95) [false, true] spec_slices_Reverse_L1 := by
 intro c hc ih Q e w a hr h
 have hcc : sub (codeOf Try.f95) [false, false, true] = c := sub_of_codeAt hc
 obtain ⟨f, s, h, hrep⟩ := dec_slices_Reverse_L1_ok e a _ hr h
 obtain ⟨J, μ, hj, hround⟩ := h
 refine loop_rule_deep seat_ok seat_mixed ih lit_slices_Reverse_L1 dec_slices_Reverse_L1 dec_slices_Reverse_L1_ok hc f J μ (Kr := fun e w => False) (Kx := fun id e w => match Nat.beq id 0 with | true => (dx_slices_Reverse_L1_0 e fun f1 => f1 = f ∧ Q (.exit 0) [] w) | false => False) ?_ ?_ ?_ s w a hj hrep
 ·intro e a w hr h
  exact h.elim
 ·intro id e a w hr h0
  (try dsimp only at h0)
  split at h0
  ·rename_i hid
   obtain rfl := Nat.eq_of_beq_eq_true hid
   unfold dx_slices_Reverse_L1_0 at h0
   obtain ⟨sP_1, sN_1, sC_1, g0, h1⟩ := oS_elim h0
   obtain ⟨hf, hq⟩ := h1
   subst hf
   exact ⟨_, rep_less hr (by simp), hq⟩
  ·exact h0.elim
 ·intro s w hj
  have hb := hround s w hj
  rw [← hcc]
  have e1 := body_slices_Reverse_L1 f s w (fun f1 s1 w1 => f1 = f ∧ J s1 w1 ∧ μ s1 w1 < μ s w) (fun f1 w1 => f1 = f ∧ Q (.exit 0) [] w1)
  simp only [true_and] at e1
  exact cast e1 hb
theorem loops_slices_Reverse : LoopOk Try.prog Try.f95.ntmps G_slices_Reverse (codeOf Try.f95) := loopOk_list rfl ⟨ok_slices_Reverse_L1, trivial⟩
theorem C_slices_Reverse.of {sP : Option Addr} {sN : Nat} {sC : Nat} {w : World} {R : World → Prop} (h : F_slices_Reverse sP sN sC w R) : C_slices_Reverse sP sN sC w R := ofS1 (Fm := F_slices_Reverse sP sN sC w) Try.func95 (by kernel_rfl) loops_slices_Reverse rfl (fun _ => by kernel_rfl) h
def F_term_part_k1 (R : Bool → World → Prop) (w1_2 : World) : Prop :=
 R false w1_2
def F_term_part_k2 (R : Bool → World → Prop) (w1_4 : World) : Prop :=
 R false w1_4
def F_term_part_k3 (R : Bool → World → Prop) (w1_5 : World) : Prop :=
 R false w1_5
def F_term_part_k4 (R : Bool → World → Prop) (w1_7 : World) : Prop :=
 R false w1_7
def F_term_part_k5 (R : Bool → World → Prop) (w1_9 : World) : Prop :=
 R false w1_9
def F_term_part (t0 : Int) (t1 : Int) (t2 : ByteArray) (t3P : Option Addr) (t3N : Nat) (t3C : Nat) (w : World) (R : Bool → World → Prop) : Prop :=
 New w (.cells #[.int .i64 t0, .int .i64 t1, .string t2, .slice t3P t3N t3C] 31) fun r w1 =>
 ∃ N, w1.cell? (Addr.add ⟨r, 0, none⟩ 1) = some (.int .i64 N) ∧
 If (N == (0 : Int))
 (∃ S, w1.cell? (Addr.add ⟨r, 0, none⟩ 2) = some (.string S) ∧
 ∃ Kind, w1.cell? (Addr.add ⟨r, 0, none⟩ 0) = some (.int .i64 Kind) ∧
 If (Kind == (1 : Int))
 (∃ N_1, w1.cell? (Addr.add ⟨r, 0, none⟩ 1) = some (.int .i64 N_1) ∧
 If (decide (N_1 ≥ (0 : Int)))
 (∃ N_2, w1.cell? (Addr.add ⟨r, 0, none⟩ 1) = some (.int .i64 N_2) ∧
 If (decide (N_2 < (1073741824 : Int)))
 (∃ t260, w1.cell? (Addr.add ⟨r, 0, none⟩ 0) = some (.int .i64 t260) ∧
 ∃ t261, w1.cell? (Addr.add ⟨r, 0, none⟩ 1) = some (.int .i64 t261) ∧
 ∃ t262, w1.cell? (Addr.add ⟨r, 0, none⟩ 2) = some (.string t262) ∧
 ∃ t263P t263N t263C, w1.cell? (Addr.add ⟨r, 0, none⟩ 3) = some (.slice t263P t263N t263C) ∧
 C_term_bare t260 t261 t262 t263P t263N t263C w1 fun t27 w1_1 =>
 R t27 w1_1)
 (F_term_part_k1 R w1))
 (F_term_part_k1 R w1))
 (If (Kind == (2 : Int))
 (∃ N_3, w1.cell? (Addr.add ⟨r, 0, none⟩ 1) = some (.int .i64 N_3) ∧
 If (decide (N_3 ≥ (-9007199254740991)))
 (∃ N_4, w1.cell? (Addr.add ⟨r, 0, none⟩ 1) = some (.int .i64 N_4) ∧
 If (decide (N_4 ≤ (9007199254740991 : Int)))
 (∃ t400, w1.cell? (Addr.add ⟨r, 0, none⟩ 0) = some (.int .i64 t400) ∧
 ∃ t401, w1.cell? (Addr.add ⟨r, 0, none⟩ 1) = some (.int .i64 t401) ∧
 ∃ t402, w1.cell? (Addr.add ⟨r, 0, none⟩ 2) = some (.string t402) ∧
 ∃ t403P t403N t403C, w1.cell? (Addr.add ⟨r, 0, none⟩ 3) = some (.slice t403P t403N t403C) ∧
 C_term_bare t400 t401 t402 t403P t403N t403C w1 fun t41 w1_3 =>
 R t41 w1_3)
 (F_term_part_k2 R w1))
 (F_term_part_k2 R w1))
 (If (Kind == (3 : Int))
 (If (decide ((S.size : Int) ≤ (64 : Int)))
 (∃ LP LN LC, w1.cell? (Addr.add ⟨r, 0, none⟩ 3) = some (.slice LP LN LC) ∧
 R ((LN : Int) == (0 : Int)) w1)
 (R false w1))
 (If (Kind == (4 : Int))
 (If (decide ((S.size : Int) ≤ (64 : Int)))
 (∃ LP_1 LN_1 LC_1, w1.cell? (Addr.add ⟨r, 0, none⟩ 3) = some (.slice LP_1 LN_1 LC_1) ∧
 If (decide ((LN_1 : Int) ≥ (1 : Int)))
 (∃ LP_2 LN_2 LC_2, w1.cell? (Addr.add ⟨r, 0, none⟩ 3) = some (.slice LP_2 LN_2 LC_2) ∧
 R (decide ((LN_2 : Int) ≤ (16 : Int))) w1)
 (F_term_part_k3 R w1))
 (F_term_part_k3 R w1))
 (R false w1)))))
 (∃ Kind_1, w1.cell? (Addr.add ⟨r, 0, none⟩ 0) = some (.int .i64 Kind_1) ∧
 If (Kind_1 == (1 : Int))
 (∃ N_5, w1.cell? (Addr.add ⟨r, 0, none⟩ 1) = some (.int .i64 N_5) ∧
 If (decide (N_5 ≥ (0 : Int)))
 (∃ N_6, w1.cell? (Addr.add ⟨r, 0, none⟩ 1) = some (.int .i64 N_6) ∧
 If (decide (N_6 < (1073741824 : Int)))
 (∃ t260_1, w1.cell? (Addr.add ⟨r, 0, none⟩ 0) = some (.int .i64 t260_1) ∧
 ∃ t261_1, w1.cell? (Addr.add ⟨r, 0, none⟩ 1) = some (.int .i64 t261_1) ∧
 ∃ t262_1, w1.cell? (Addr.add ⟨r, 0, none⟩ 2) = some (.string t262_1) ∧
 ∃ t263P_1 t263N_1 t263C_1, w1.cell? (Addr.add ⟨r, 0, none⟩ 3) = some (.slice t263P_1 t263N_1 t263C_1) ∧
 C_term_bare t260_1 t261_1 t262_1 t263P_1 t263N_1 t263C_1 w1 fun t27_1 w1_6 =>
 R t27_1 w1_6)
 (F_term_part_k4 R w1))
 (F_term_part_k4 R w1))
 (If (Kind_1 == (2 : Int))
 (∃ N_7, w1.cell? (Addr.add ⟨r, 0, none⟩ 1) = some (.int .i64 N_7) ∧
 If (decide (N_7 ≥ (-9007199254740991)))
 (∃ N_8, w1.cell? (Addr.add ⟨r, 0, none⟩ 1) = some (.int .i64 N_8) ∧
 If (decide (N_8 ≤ (9007199254740991 : Int)))
 (∃ t400_1, w1.cell? (Addr.add ⟨r, 0, none⟩ 0) = some (.int .i64 t400_1) ∧
 ∃ t401_1, w1.cell? (Addr.add ⟨r, 0, none⟩ 1) = some (.int .i64 t401_1) ∧
 ∃ t402_1, w1.cell? (Addr.add ⟨r, 0, none⟩ 2) = some (.string t402_1) ∧
 ∃ t403P_1 t403N_1 t403C_1, w1.cell? (Addr.add ⟨r, 0, none⟩ 3) = some (.slice t403P_1 t403N_1 t403C_1) ∧
 C_term_bare t400_1 t401_1 t402_1 t403P_1 t403N_1 t403C_1 w1 fun t41_1 w1_8 =>
 R t41_1 w1_8)
 (F_term_part_k5 R w1))
 (F_term_part_k5 R w1))
 (If (Kind_1 == (3 : Int))
 (R false w1)
 (If (Kind_1 == (4 : Int))
 (R false w1)
 (R false w1)))))
theorem C_term_part.of {t0 : Int} {t1 : Int} {t2 : ByteArray} {t3P : Option Addr} {t3N : Nat} {t3C : Nat} {w : World} {R : Bool → World → Prop} (h : F_term_part t0 t1 t2 t3P t3N t3C w R) : C_term_part t0 t1 t2 t3P t3N t3C w R := ofS2 (Fm := F_term_part t0 t1 t2 t3P t3N t3C w) Try.func96 (by kernel_rfl) (L0 Try.f96) rfl (fun _ => by kernel_rfl) h
end Go.Proofs.Ytlndgaijekihiaa
