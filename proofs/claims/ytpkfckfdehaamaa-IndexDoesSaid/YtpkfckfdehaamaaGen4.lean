/- The formulas of this seat's functions, held against the loaded program by the kernel. Printed by a program. -/
import Derived.Test.YtpkfckfdehaamaaGenC
set_option maxRecDepth 100000
set_option linter.unusedVariables false
namespace Go.Proofs.Ytpkfckfdehaamaa
open Go Go.D Go.Proofs

def F_slices_Delete (sP : Option Addr) (sN : Nat) (sC : Nat) (i : Int) (j : Int) (w : World) (R : Option Addr → Nat → Nat → World → Prop) : Prop :=
  0 ≤ i ∧ i ≤ j ∧ j ≤ (sN : Int) ∧ (sN : Int) ≤ (sC : Int) ∧
  If (i == j)
  (R sP sN sC w)
  (0 ≤ i ∧ i ≤ (sC : Int) ∧
  0 ≤ j ∧ j ≤ (sN : Int) ∧
  App Try.prog #[58, 58] 58 #[.slice sP i.toNat sC, .slice (adv sP sC j.toNat 2) (sN - j.toNat) (sC - j.toNat)] (drw w) fun t26P t26N t26C w1 =>
  0 ≤ (t26N : Int) ∧ (t26N : Int) ≤ (sN : Int) ∧ (sN : Int) ≤ (t26C : Int) ∧
  Clr Try.prog #[58] 0 #[.slice (adv t26P t26C (t26N : Int).toNat 2) ((sN : Int).toNat - (t26N : Int).toNat) (t26C - (t26N : Int).toNat)] w1 fun v w1_1 =>
  R t26P t26N t26C w1_1)

def G_slices_Delete : Gen where
  loop := lookL []
  plan := fun id =>
    bif Nat.beq id 5 then some ([0, 0, 3, 0, 0, 24, 63, 127], .take 0 (.take 1 (.take 2 (.take 3 (.take 4 (.take 5 (.take 6 (.take 7 .done)))))))) else none

theorem loops_slices_Delete : LoopOk Try.prog Try.f37.ntmps G_slices_Delete (codeOf Try.f37) := loopOk_none fun _ => rfl

theorem den_slices_Delete (sP : Option Addr) (sN : Nat) (sC : Nat) (i : Int) (j : Int) (w : World) (R : Value → World → Prop) :
    F_slices_Delete sP sN sC i j w (fun rP rN rC w1 => R (.slice rP rN rC) w1) = den Try.prog Try.f37.ntmps G_slices_Delete (codeOf Try.f37) [] (postD Try.prog Try.f37.results.toList R) (entry [.slice sP sN sC, .int .i64 i, .int .i64 j] 0) w := by kernel_rfl

theorem C_slices_Delete.of {sP : Option Addr} {sN : Nat} {sC : Nat} {i : Int} {j : Int} {w : World} {R : Option Addr → Nat → Nat → World → Prop} (h : F_slices_Delete sP sN sC i j w R) : C_slices_Delete sP sN sC i j w R := by
  refine (calls_of_den (c := codeOf Try.f37) seat_ok seat_mixed Try.func37 (by kernel_rfl) loops_slices_Delete (args := [.slice sP sN sC, .int .i64 i, .int .i64 j]) rfl (R := fun v w1 => ∃ (rP : Option Addr) (rN : Nat) (rC : Nat), v = (.slice rP rN rC : Value) ∧ R rP rN rC w1) ?_).mono ?_
  · rw [← den_slices_Delete]
    have e : (fun rP rN rC w1 => ∃ (rP' : Option Addr) (rN' : Nat) (rC' : Nat), (.slice rP rN rC : Value) = (.slice rP' rN' rC' : Value) ∧ R rP' rN' rC' w1) = R := by
      funext rP rN rC w1
      exact propext ⟨fun ⟨rP', rN', rC', he, h⟩ => by simp at he; simp_all, fun h => ⟨_, _, _, rfl, h⟩⟩
    simpa only [e] using h
  · rintro en w1 ⟨v, he, rP, rN, rC, rfl, h⟩
    exact ⟨_, _, _, he, h⟩

def F_slices_Insert (sP : Option Addr) (sN : Nat) (sC : Nat) (i : Int) (vP : Option Addr) (vN : Nat) (vC : Nat) (w : World) (R : Option Addr → Nat → Nat → World → Prop) : Prop :=
  0 ≤ i ∧ i ≤ (sN : Int) ∧
  If ((vN : Int) == (0 : Int))
  (R sP sN sC w)
  (If (i == (sN : Int))
  (App Try.prog #[58, 57] 58 #[.slice sP sN sC, .slice vP vN vC] w fun t25P t25N t25C w1 =>
  R t25P t25N t25C w1)
  (If (decide ((IntKind.i64.wrap ((sN : Int) + (vN : Int))) > (sC : Int)))
  (0 ≤ i ∧ i ≤ (sC : Int) ∧
  App Try.prog #[58, 3] 58 #[.slice sP i.toNat sC, .int .i64 (IntKind.i64.wrap ((IntKind.i64.wrap ((sN : Int) + (vN : Int))) - i))] w fun t40P t40N t40C w1_1 =>
  0 ≤ i ∧ i ≤ (t40N : Int) ∧
  Cpy Try.prog #[58, 57] 3 #[.slice (adv t40P t40C i.toNat 2) (t40N - i.toNat) (t40C - i.toNat), .slice vP vN vC] w1_1 fun t45 w1_2 =>
  0 ≤ (IntKind.i64.wrap (i + (vN : Int))) ∧ (IntKind.i64.wrap (i + (vN : Int))) ≤ (t40N : Int) ∧
  0 ≤ i ∧ i ≤ (sN : Int) ∧
  Cpy Try.prog #[58, 58] 3 #[.slice (adv t40P t40C (IntKind.i64.wrap (i + (vN : Int))).toNat 2) (t40N - (IntKind.i64.wrap (i + (vN : Int))).toNat) (t40C - (IntKind.i64.wrap (i + (vN : Int))).toNat), .slice (adv sP sC i.toNat 2) (sN - i.toNat) (sC - i.toNat)] (drw w1_2) fun t54 w1_3 =>
  R t40P t40N t40C w1_3)
  (0 ≤ (IntKind.i64.wrap ((sN : Int) + (vN : Int))) ∧ (IntKind.i64.wrap ((sN : Int) + (vN : Int))) ≤ (sC : Int) ∧
  0 ≤ (IntKind.i64.wrap (i + (vN : Int))) ∧ (IntKind.i64.wrap (i + (vN : Int))) ≤ ((IntKind.i64.wrap ((sN : Int) + (vN : Int))).toNat : Int) ∧
  CallX Try.prog 43 [.slice vP vN vC, .slice (adv sP sC (IntKind.i64.wrap (i + (vN : Int))).toNat 2) ((IntKind.i64.wrap ((sN : Int) + (vN : Int))).toNat - (IntKind.i64.wrap (i + (vN : Int))).toNat) (sC - (IntKind.i64.wrap (i + (vN : Int))).toNat)] w fun v w1_4 => ∃ t67 : Bool, v = (.bool t67) ∧
  If (!t67)
  (0 ≤ (IntKind.i64.wrap (i + (vN : Int))) ∧ (IntKind.i64.wrap (i + (vN : Int))) ≤ ((IntKind.i64.wrap ((sN : Int) + (vN : Int))).toNat : Int) ∧
  0 ≤ i ∧ i ≤ ((IntKind.i64.wrap ((sN : Int) + (vN : Int))).toNat : Int) ∧
  Cpy Try.prog #[58, 58] 3 #[.slice (adv sP sC (IntKind.i64.wrap (i + (vN : Int))).toNat 2) ((IntKind.i64.wrap ((sN : Int) + (vN : Int))).toNat - (IntKind.i64.wrap (i + (vN : Int))).toNat) (sC - (IntKind.i64.wrap (i + (vN : Int))).toNat), .slice (adv sP sC i.toNat 2) ((IntKind.i64.wrap ((sN : Int) + (vN : Int))).toNat - i.toNat) (sC - i.toNat)] (drw w1_4) fun t77 w1_5 =>
  0 ≤ i ∧ i ≤ ((IntKind.i64.wrap ((sN : Int) + (vN : Int))).toNat : Int) ∧
  Cpy Try.prog #[58, 57] 3 #[.slice (adv sP sC i.toNat 2) ((IntKind.i64.wrap ((sN : Int) + (vN : Int))).toNat - i.toNat) (sC - i.toNat), .slice vP vN vC] w1_5 fun t82 w1_6 =>
  R sP ((IntKind.i64.wrap ((sN : Int) + (vN : Int))).toNat) sC w1_6)
  (0 ≤ (sN : Int) ∧ (sN : Int) ≤ ((IntKind.i64.wrap ((sN : Int) + (vN : Int))).toNat : Int) ∧
  Cpy Try.prog #[58, 57] 3 #[.slice (adv sP sC (sN : Int).toNat 2) ((IntKind.i64.wrap ((sN : Int) + (vN : Int))).toNat - (sN : Int).toNat) (sC - (sN : Int).toNat), .slice vP vN vC] w1_4 fun t88 w1_7 =>
  0 ≤ i ∧ i ≤ ((IntKind.i64.wrap ((sN : Int) + (vN : Int))).toNat : Int) ∧
  C_slices_rotateRight (adv sP sC i.toNat 2) ((IntKind.i64.wrap ((sN : Int) + (vN : Int))).toNat - i.toNat) (sC - i.toNat) (vN : Int) w1_7 fun w1_8 =>
  R sP ((IntKind.i64.wrap ((sN : Int) + (vN : Int))).toNat) sC w1_8))))

def G_slices_Insert : Gen where
  loop := lookL []
  plan := fun id =>
    bif Nat.beq id 11 then some ([0, 0, 0, 6, 15, 0, 0, 96, 255], .take 0 (.take 1 (.take 2 (.take 3 (.take 4 (.take 5 (.take 6 (.take 7 (.take 8 .done))))))))) else
    bif Nat.beq id 15 then some ([0, 0, 0, 6, 15, 0, 0, 96, 255], .take 0 (.take 1 (.take 2 (.take 3 (.take 4 (.take 5 (.take 6 (.take 7 (.take 8 .done))))))))) else none

theorem loops_slices_Insert : LoopOk Try.prog Try.f38.ntmps G_slices_Insert (codeOf Try.f38) := loopOk_none fun _ => rfl

theorem den_slices_Insert (sP : Option Addr) (sN : Nat) (sC : Nat) (i : Int) (vP : Option Addr) (vN : Nat) (vC : Nat) (w : World) (R : Value → World → Prop) :
    F_slices_Insert sP sN sC i vP vN vC w (fun rP rN rC w1 => R (.slice rP rN rC) w1) = den Try.prog Try.f38.ntmps G_slices_Insert (codeOf Try.f38) [] (postD Try.prog Try.f38.results.toList R) (entry [.slice sP sN sC, .int .i64 i, .slice vP vN vC] 0) w := by kernel_rfl

theorem C_slices_Insert.of {sP : Option Addr} {sN : Nat} {sC : Nat} {i : Int} {vP : Option Addr} {vN : Nat} {vC : Nat} {w : World} {R : Option Addr → Nat → Nat → World → Prop} (h : F_slices_Insert sP sN sC i vP vN vC w R) : C_slices_Insert sP sN sC i vP vN vC w R := by
  refine (calls_of_den (c := codeOf Try.f38) seat_ok seat_mixed Try.func38 (by kernel_rfl) loops_slices_Insert (args := [.slice sP sN sC, .int .i64 i, .slice vP vN vC]) rfl (R := fun v w1 => ∃ (rP : Option Addr) (rN : Nat) (rC : Nat), v = (.slice rP rN rC : Value) ∧ R rP rN rC w1) ?_).mono ?_
  · rw [← den_slices_Insert]
    have e : (fun rP rN rC w1 => ∃ (rP' : Option Addr) (rN' : Nat) (rC' : Nat), (.slice rP rN rC : Value) = (.slice rP' rN' rC' : Value) ∧ R rP' rN' rC' w1) = R := by
      funext rP rN rC w1
      exact propext ⟨fun ⟨rP', rN', rC', he, h⟩ => by simp at he; simp_all, fun h => ⟨_, _, _, rfl, h⟩⟩
    simpa only [e] using h
  · rintro en w1 ⟨v, he, rP, rN, rC, rfl, h⟩
    exact ⟨_, _, _, he, h⟩

def F_index_row_after (rP : Option Addr) (rN : Nat) (rC : Nat) (rank : Int) (w : World) (R : Int → Int → Bool → World → Prop) : Prop :=
  New w (.cells #[.int .i64 0, .int .i64 0] 69) fun r w1 =>
  C_index_row_place rP rN rC (IntKind.i64.wrap (rank + (1 : Int))) w1 fun t10 w1_1 =>
  If (t10 == (rN : Int))
  (St w1_1 ((⟨r, 0, none⟩ : Addr).add 0) (.int .i64 0) fun w1_2 =>
  St w1_2 ((⟨r, 0, none⟩ : Addr).add 1) (.int .i64 0) fun w1_3 =>
  ∃ r_1 : Int, w1_3.cell? ((⟨r, 0, none⟩ : Addr).add 0) = some (.int .i64 r_1) ∧
  ∃ r_2 : Int, w1_3.cell? ((⟨r, 0, none⟩ : Addr).add 1) = some (.int .i64 r_2) ∧
  R r_1 r_2 false w1_3)
  (0 ≤ t10 ∧ t10 < (rN : Int) ∧ NN rP fun a =>
  ∃ t190 : Int, w1_1.cell? ((a.add (t10.toNat * 2)).add 0) = some (.int .i64 t190) ∧
  ∃ t191 : Int, w1_1.cell? ((a.add (t10.toNat * 2)).add 1) = some (.int .i64 t191) ∧
  St w1_1 ((⟨r, 0, none⟩ : Addr).add 0) (.int .i64 t190) fun w1_4 =>
  St w1_4 ((⟨r, 0, none⟩ : Addr).add 1) (.int .i64 t191) fun w1_5 =>
  ∃ r_3 : Int, w1_5.cell? ((⟨r, 0, none⟩ : Addr).add 0) = some (.int .i64 r_3) ∧
  ∃ r_4 : Int, w1_5.cell? ((⟨r, 0, none⟩ : Addr).add 1) = some (.int .i64 r_4) ∧
  R r_3 r_4 true w1_5)

def G_index_row_after : Gen where
  loop := lookL []
  plan := fun _ => none

theorem loops_index_row_after : LoopOk Try.prog Try.f39.ntmps G_index_row_after (codeOf Try.f39) := loopOk_none fun _ => rfl

theorem den_index_row_after (rP : Option Addr) (rN : Nat) (rC : Nat) (rank : Int) (w : World) (R : Value → World → Prop) :
    F_index_row_after rP rN rC rank w (fun r00 r01 r1 w1 => R (.tuple #[.agg #[.int .i64 r00, .int .i64 r01], .bool r1]) w1) = den Try.prog Try.f39.ntmps G_index_row_after (codeOf Try.f39) [] (postD Try.prog Try.f39.results.toList R) (entry [.slice rP rN rC, .int .i64 rank] 0) w := by kernel_rfl

theorem C_index_row_after.of {rP : Option Addr} {rN : Nat} {rC : Nat} {rank : Int} {w : World} {R : Int → Int → Bool → World → Prop} (h : F_index_row_after rP rN rC rank w R) : C_index_row_after rP rN rC rank w R := by
  refine (calls_of_den (c := codeOf Try.f39) seat_ok seat_mixed Try.func39 (by kernel_rfl) loops_index_row_after (args := [.slice rP rN rC, .int .i64 rank]) rfl (R := fun v w1 => ∃ (r00 : Int) (r01 : Int) (r1 : Bool), v = (.tuple #[.agg #[.int .i64 r00, .int .i64 r01], .bool r1] : Value) ∧ R r00 r01 r1 w1) ?_).mono ?_
  · rw [← den_index_row_after]
    have e : (fun r00 r01 r1 w1 => ∃ (r00' : Int) (r01' : Int) (r1' : Bool), (.tuple #[.agg #[.int .i64 r00, .int .i64 r01], .bool r1] : Value) = (.tuple #[.agg #[.int .i64 r00', .int .i64 r01'], .bool r1'] : Value) ∧ R r00' r01' r1' w1) = R := by
      funext r00 r01 r1 w1
      exact propext ⟨fun ⟨r00', r01', r1', he, h⟩ => by simp at he; simp_all, fun h => ⟨_, _, _, rfl, h⟩⟩
    simpa only [e] using h
  · rintro en w1 ⟨v, he, r00, r01, r1, rfl, h⟩
    exact ⟨_, _, _, he, h⟩

structure S_slices_BinarySearchFunc_L1 where
  i : Int
  j : Int

/-- One round. -/
def B_slices_BinarySearchFunc_L1 (xP_1 : Option Addr) (xN_1 : Nat) (xC_1 : Nat) (target_1 : Int) (cmp_1 : Value) (n : Int) (s : S_slices_BinarySearchFunc_L1) (w : World) (Kn : S_slices_BinarySearchFunc_L1 → World → Prop) (Kx0 : Int → World → Prop) : Prop :=
  If (decide ((s.i : Int) < (s.j : Int)))
  (0 ≤ (1 : Int) ∧
  0 ≤ (IntKind.i64.wrap (shrI .u64 (IntKind.u64.wrap (IntKind.i64.wrap ((s.i : Int) + (s.j : Int)))) (1 : Int))) ∧ (IntKind.i64.wrap (shrI .u64 (IntKind.u64.wrap (IntKind.i64.wrap ((s.i : Int) + (s.j : Int)))) (1 : Int))) < (xN_1 : Int) ∧ NN xP_1 fun a =>
  ∃ t280 : Int, w.cell? ((a.add ((IntKind.i64.wrap (shrI .u64 (IntKind.u64.wrap (IntKind.i64.wrap ((s.i : Int) + (s.j : Int)))) (1 : Int))).toNat * 2)).add 0) = some (.int .i64 t280) ∧
  ∃ t281 : Int, w.cell? ((a.add ((IntKind.i64.wrap (shrI .u64 (IntKind.u64.wrap (IntKind.i64.wrap ((s.i : Int) + (s.j : Int)))) (1 : Int))).toNat * 2)).add 1) = some (.int .i64 t281) ∧
  CallV Try.prog cmp_1 [.agg #[.int .i64 t280, .int .i64 t281], .int .i64 target_1] w fun v w1 => ∃ t30 : Int, v = (.int .i64 t30) ∧
  If (decide (t30 < (0 : Int)))
  (Kn ⟨(IntKind.i64.wrap ((IntKind.i64.wrap (shrI .u64 (IntKind.u64.wrap (IntKind.i64.wrap ((s.i : Int) + (s.j : Int)))) (1 : Int))) + (1 : Int))), (s.j : Int)⟩ w1)
  (Kn ⟨(s.i : Int), (IntKind.i64.wrap (shrI .u64 (IntKind.u64.wrap (IntKind.i64.wrap ((s.i : Int) + (s.j : Int)))) (1 : Int)))⟩ w1))
  (Kx0 (s.i : Int) w)

def F_slices_BinarySearchFunc_L1 (xP_1 : Option Addr) (xN_1 : Nat) (xC_1 : Nat) (target_1 : Int) (cmp_1 : Value) (n : Int) (s : S_slices_BinarySearchFunc_L1) (w : World) (Kx0 : Int → World → Prop) : Prop :=
  LoopS (fun s w Kn => B_slices_BinarySearchFunc_L1 xP_1 xN_1 xC_1 target_1 cmp_1 n s w Kn Kx0) s w

def F_slices_BinarySearchFunc (xP : Option Addr) (xN : Nat) (xC : Nat) (target : Int) (cmp : Value) (w : World) (R : Int → Bool → World → Prop) : Prop :=
  F_slices_BinarySearchFunc_L1 xP xN xC target cmp (xN : Int) ⟨(0 : Int), (xN : Int)⟩ w
  (fun i_2 w1_1 =>
  If (decide (i_2 < (xN : Int)))
  (0 ≤ i_2 ∧ i_2 < (xN : Int) ∧ NN xP fun a_1 =>
  ∃ t440 : Int, w1_1.cell? ((a_1.add (i_2.toNat * 2)).add 0) = some (.int .i64 t440) ∧
  ∃ t441 : Int, w1_1.cell? ((a_1.add (i_2.toNat * 2)).add 1) = some (.int .i64 t441) ∧
  CallV Try.prog cmp [.agg #[.int .i64 t440, .int .i64 t441], .int .i64 target] w1_1 fun v_1 w1_2 => ∃ t46 : Int, v_1 = (.int .i64 t46) ∧
  R i_2 (t46 == (0 : Int)) w1_2)
  (R i_2 false w1_1))

def lit_slices_BinarySearchFunc_L1 (f : (Option Addr) × Nat × Nat × Int × Value × Int) (s : S_slices_BinarySearchFunc_L1) : Env := [⟨0, .slice f.1 f.2.1 f.2.2.1, none⟩, ⟨1, .int .i64 f.2.2.2.1, none⟩, ⟨2, f.2.2.2.2.1, none⟩, ⟨8, .int .i64 f.2.2.2.2.2, none⟩, ⟨9, .int .i64 s.i, none⟩, ⟨10, .int .i64 s.j, none⟩]

def dec_slices_BinarySearchFunc_L1 (e : Env) (K : ((Option Addr) × Nat × Nat × Int × Value × Int) → S_slices_BinarySearchFunc_L1 → Prop) : Prop :=
  onV (getV e 0) fun u1 =>
  asS u1 fun xP_1 xN_1 xC_1 =>
  onV (getV e 1) fun u2 =>
  asI .i64 u2 fun target_1 =>
  onV (getV e 2) fun u3 =>
  asV u3 fun cmp_1 =>
  onV (getV e 8) fun u4 =>
  asI .i64 u4 fun n =>
  onV (getV e 9) fun u5 =>
  asI .i64 u5 fun i =>
  onV (getV e 10) fun u6 =>
  asI .i64 u6 fun j =>
    K (xP_1, xN_1, xC_1, target_1, cmp_1, n) ⟨i, j⟩

theorem dec_slices_BinarySearchFunc_L1_ok {N : Nat} (e : Env) (a : Act) (K : ((Option Addr) × Nat × Nat × Int × Value × Int) → S_slices_BinarySearchFunc_L1 → Prop) (hr : Rep N a e) (h0 : dec_slices_BinarySearchFunc_L1 e K) : ∃ f s, K f s ∧ Rep N a (lit_slices_BinarySearchFunc_L1 f s) := by
  unfold dec_slices_BinarySearchFunc_L1 at h0
  obtain ⟨u1, g0, h1⟩ := onV_elim h0
  obtain ⟨xP_1, xN_1, xC_1, rfl, h2⟩ := asS_elim h1
  obtain ⟨u2, g1, h3⟩ := onV_elim h2
  obtain ⟨target_1, rfl, h4⟩ := asI_elim h3
  obtain ⟨u3, g2, h5⟩ := onV_elim h4
  obtain ⟨cmp_1, rfl, h6⟩ := asV_elim h5
  obtain ⟨u4, g8, h7⟩ := onV_elim h6
  obtain ⟨n, rfl, h8⟩ := asI_elim h7
  obtain ⟨u5, g9, h9⟩ := onV_elim h8
  obtain ⟨i, rfl, h10⟩ := asI_elim h9
  obtain ⟨u6, g10, h11⟩ := onV_elim h10
  obtain ⟨j, rfl, h12⟩ := asI_elim h11
  exact ⟨_, _, h12, rep_less hr (by simp [lit_slices_BinarySearchFunc_L1, g0, g1, g2, g8, g9, g10])⟩

def spec_slices_BinarySearchFunc_L1 (Q : Post) (e : Env) (w : World) : Prop :=
  dec_slices_BinarySearchFunc_L1 e fun f s => F_slices_BinarySearchFunc_L1 f.1 f.2.1 f.2.2.1 f.2.2.2.1 f.2.2.2.2.1 f.2.2.2.2.2 s w (fun i_1 w1 => Q (.exit 0) [⟨0, .slice f.1 f.2.1 f.2.2.1, none⟩, ⟨1, .int .i64 f.2.2.2.1, none⟩, ⟨2, f.2.2.2.2.1, none⟩, ⟨8, .int .i64 f.2.2.2.2.2, none⟩, ⟨9, .int .i64 i_1, none⟩] w1)

def G_slices_BinarySearchFunc : Gen where
  loop := lookL [([false, false, true, true, true], spec_slices_BinarySearchFunc_L1)]
  plan := fun _ => none

def dx_slices_BinarySearchFunc_L1_0 (e : Env) (K : ((Option Addr) × Nat × Nat × Int × Value × Int) → Int → Prop) : Prop :=
  onV (getV e 0) fun u1 =>
  asS u1 fun xP_1 xN_1 xC_1 =>
  onV (getV e 1) fun u2 =>
  asI .i64 u2 fun target_1 =>
  onV (getV e 2) fun u3 =>
  asV u3 fun cmp_1 =>
  onV (getV e 8) fun u4 =>
  asI .i64 u4 fun n =>
  onV (getV e 9) fun u5 =>
  asI .i64 u5 fun i_1 =>
    K (xP_1, xN_1, xC_1, target_1, cmp_1, n) i_1

theorem body_slices_BinarySearchFunc_L1 (f : (Option Addr) × Nat × Nat × Int × Value × Int) (s : S_slices_BinarySearchFunc_L1) (w : World) (Kn : ((Option Addr) × Nat × Nat × Int × Value × Int) → S_slices_BinarySearchFunc_L1 → World → Prop) (Kx0 : ((Option Addr) × Nat × Nat × Int × Value × Int) → Int → World → Prop) :
    B_slices_BinarySearchFunc_L1 f.1 f.2.1 f.2.2.1 f.2.2.2.1 f.2.2.2.2.1 f.2.2.2.2.2 s w (fun s1 w1 => Kn f s1 w1) (fun i_1 w1 => Kx0 f i_1 w1) =
    den Try.prog Try.f40.ntmps G_slices_BinarySearchFunc (sub (codeOf Try.f40) [false, false, false, true, true, true]) [false, false, false, true, true, true] (roundQ (fun e w => dec_slices_BinarySearchFunc_L1 e fun f s => Kn f s w) (fun e w => False) (fun id e w => match Nat.beq id 0 with | true => dx_slices_BinarySearchFunc_L1_0 e fun f i_1 => Kx0 f i_1 w | false => False)) (lit_slices_BinarySearchFunc_L1 f s) w := by kernel_rfl

theorem ok_slices_BinarySearchFunc_L1 : OneOk Try.prog Try.f40.ntmps G_slices_BinarySearchFunc (codeOf Try.f40) [false, false, true, true, true] spec_slices_BinarySearchFunc_L1 := by
  intro c hc ih Q e w a hr h
  have hcc : sub (codeOf Try.f40) [false, false, false, true, true, true] = c := sub_of_codeAt hc
  obtain ⟨f, s, h, hrep⟩ := dec_slices_BinarySearchFunc_L1_ok e a _ hr h
  obtain ⟨J, μ, hj, hround⟩ := h
  refine loop_rule_deep seat_ok seat_mixed ih lit_slices_BinarySearchFunc_L1 dec_slices_BinarySearchFunc_L1 dec_slices_BinarySearchFunc_L1_ok hc f J μ (Kr := fun e w => False) (Kx := fun id e w => match Nat.beq id 0 with | true => (dx_slices_BinarySearchFunc_L1_0 e fun f1 i_1 => f1 = f ∧ Q (.exit 0) [⟨0, .slice f.1 f.2.1 f.2.2.1, none⟩, ⟨1, .int .i64 f.2.2.2.1, none⟩, ⟨2, f.2.2.2.2.1, none⟩, ⟨8, .int .i64 f.2.2.2.2.2, none⟩, ⟨9, .int .i64 i_1, none⟩] w) | false => False) ?_ ?_ ?_ s w a hj hrep
  · intro e a w hr h
    exact h.elim
  · intro id e a w hr h0
    (try dsimp only at h0)
    split at h0
    · rename_i hid
      obtain rfl := Nat.eq_of_beq_eq_true hid
      unfold dx_slices_BinarySearchFunc_L1_0 at h0
      obtain ⟨u1, g0, h1⟩ := onV_elim h0
      obtain ⟨xP_1, xN_1, xC_1, rfl, h2⟩ := asS_elim h1
      obtain ⟨u2, g1, h3⟩ := onV_elim h2
      obtain ⟨target_1, rfl, h4⟩ := asI_elim h3
      obtain ⟨u3, g2, h5⟩ := onV_elim h4
      obtain ⟨cmp_1, rfl, h6⟩ := asV_elim h5
      obtain ⟨u4, g8, h7⟩ := onV_elim h6
      obtain ⟨n, rfl, h8⟩ := asI_elim h7
      obtain ⟨u5, g9, h9⟩ := onV_elim h8
      obtain ⟨i_1, rfl, h10⟩ := asI_elim h9
      obtain ⟨hf, hq⟩ := h10
      subst hf
      exact ⟨_, rep_less hr (by simp [g0, g1, g2, g8, g9]), hq⟩
    · exact h0.elim
  · intro s w hj
    have hb := hround s w hj
    rw [← hcc]
    have e1 := body_slices_BinarySearchFunc_L1 f s w (fun f1 s1 w1 => f1 = f ∧ J s1 w1 ∧ μ s1 w1 < μ s w) (fun f1 i_1 w1 => f1 = f ∧ Q (.exit 0) [⟨0, .slice f.1 f.2.1 f.2.2.1, none⟩, ⟨1, .int .i64 f.2.2.2.1, none⟩, ⟨2, f.2.2.2.2.1, none⟩, ⟨8, .int .i64 f.2.2.2.2.2, none⟩, ⟨9, .int .i64 i_1, none⟩] w1)
    simp only [true_and] at e1
    exact cast e1 hb

theorem loops_slices_BinarySearchFunc : LoopOk Try.prog Try.f40.ntmps G_slices_BinarySearchFunc (codeOf Try.f40) := loopOk_list rfl ⟨ok_slices_BinarySearchFunc_L1, trivial⟩

theorem den_slices_BinarySearchFunc (xP : Option Addr) (xN : Nat) (xC : Nat) (target : Int) (cmp : Value) (w : World) (R : Value → World → Prop) :
    F_slices_BinarySearchFunc xP xN xC target cmp w (fun r0 r1 w1 => R (.tuple #[.int .i64 r0, .bool r1]) w1) = den Try.prog Try.f40.ntmps G_slices_BinarySearchFunc (codeOf Try.f40) [] (postD Try.prog Try.f40.results.toList R) (entry [.slice xP xN xC, .int .i64 target, cmp] 0) w := by kernel_rfl

theorem C_slices_BinarySearchFunc.of {xP : Option Addr} {xN : Nat} {xC : Nat} {target : Int} {cmp : Value} {w : World} {R : Int → Bool → World → Prop} (h : F_slices_BinarySearchFunc xP xN xC target cmp w R) : C_slices_BinarySearchFunc xP xN xC target cmp w R := by
  refine (calls_of_den (c := codeOf Try.f40) seat_ok seat_mixed Try.func40 (by kernel_rfl) loops_slices_BinarySearchFunc (args := [.slice xP xN xC, .int .i64 target, cmp]) rfl (R := fun v w1 => ∃ (r0 : Int) (r1 : Bool), v = (.tuple #[.int .i64 r0, .bool r1] : Value) ∧ R r0 r1 w1) ?_).mono ?_
  · rw [← den_slices_BinarySearchFunc]
    have e : (fun r0 r1 w1 => ∃ (r0' : Int) (r1' : Bool), (.tuple #[.int .i64 r0, .bool r1] : Value) = (.tuple #[.int .i64 r0', .bool r1'] : Value) ∧ R r0' r1' w1) = R := by
      funext r0 r1 w1
      exact propext ⟨fun ⟨r0', r1', he, h⟩ => by simp at he; simp_all, fun h => ⟨_, _, rfl, h⟩⟩
    simpa only [e] using h
  · rintro en w1 ⟨v, he, r0, r1, rfl, h⟩
    exact ⟨_, _, he, h⟩

def F_index_row_place_1 (e0 : Int) (e1 : Int) (rank : Int) (w : World) (R : Int → World → Prop) : Prop :=
  New w (.cells #[.int .i64 e0, .int .i64 e1] 69) fun r w1 =>
  ∃ rank_1 : Int, w1.cell? ((⟨r, 0, none⟩ : Addr).add 0) = some (.int .i64 rank_1) ∧
  C_cmp_Compare rank_1 rank w1 fun t8 w1_1 =>
  R t8 w1_1

def G_index_row_place_1 : Gen where
  loop := lookL []
  plan := fun _ => none

theorem loops_index_row_place_1 : LoopOk Try.prog Try.f41.ntmps G_index_row_place_1 (codeOf Try.f41) := loopOk_none fun _ => rfl

theorem den_index_row_place_1 (e0 : Int) (e1 : Int) (rank : Int) (w : World) (R : Value → World → Prop) :
    F_index_row_place_1 e0 e1 rank w (fun r w1 => R (.int .i64 r) w1) = den Try.prog Try.f41.ntmps G_index_row_place_1 (codeOf Try.f41) [] (postD Try.prog Try.f41.results.toList R) (entry [.agg #[.int .i64 e0, .int .i64 e1], .int .i64 rank] 0) w := by kernel_rfl

theorem C_index_row_place_1.of {e0 : Int} {e1 : Int} {rank : Int} {w : World} {R : Int → World → Prop} (h : F_index_row_place_1 e0 e1 rank w R) : C_index_row_place_1 e0 e1 rank w R := by
  refine (calls_of_den (c := codeOf Try.f41) seat_ok seat_mixed Try.func41 (by kernel_rfl) loops_index_row_place_1 (args := [.agg #[.int .i64 e0, .int .i64 e1], .int .i64 rank]) rfl (R := fun v w1 => ∃ (r : Int), v = (.int .i64 r : Value) ∧ R r w1) ?_).mono ?_
  · rw [← den_index_row_place_1]
    have e : (fun r w1 => ∃ (r' : Int), (.int .i64 r : Value) = (.int .i64 r' : Value) ∧ R r' w1) = R := by
      funext r w1
      exact propext ⟨fun ⟨r', he, h⟩ => by simp at he; simp_all, fun h => ⟨_, rfl, h⟩⟩
    simpa only [e] using h
  · rintro en w1 ⟨v, he, r, rfl, h⟩
    exact ⟨_, he, h⟩

def F_cmp_Compare (x : Int) (y : Int) (w : World) (R : Int → World → Prop) : Prop :=
  C_cmp_isNaN x w fun t8 w1 =>
  C_cmp_isNaN y w1 fun t10 w1_1 =>
  If t8
  (If t10
  (R (0 : Int) w1_1)
  (R (-1) w1_1))
  (If t10
  (R (1 : Int) w1_1)
  (If (decide (x < y))
  (R (-1) w1_1)
  (If (decide (x > y))
  (R (1 : Int) w1_1)
  (R (0 : Int) w1_1))))

def G_cmp_Compare : Gen where
  loop := lookL []
  plan := fun _ => none

theorem loops_cmp_Compare : LoopOk Try.prog Try.f42.ntmps G_cmp_Compare (codeOf Try.f42) := loopOk_none fun _ => rfl

theorem den_cmp_Compare (x : Int) (y : Int) (w : World) (R : Value → World → Prop) :
    F_cmp_Compare x y w (fun r w1 => R (.int .i64 r) w1) = den Try.prog Try.f42.ntmps G_cmp_Compare (codeOf Try.f42) [] (postD Try.prog Try.f42.results.toList R) (entry [.int .i64 x, .int .i64 y] 0) w := by kernel_rfl

theorem C_cmp_Compare.of {x : Int} {y : Int} {w : World} {R : Int → World → Prop} (h : F_cmp_Compare x y w R) : C_cmp_Compare x y w R := by
  refine (calls_of_den (c := codeOf Try.f42) seat_ok seat_mixed Try.func42 (by kernel_rfl) loops_cmp_Compare (args := [.int .i64 x, .int .i64 y]) rfl (R := fun v w1 => ∃ (r : Int), v = (.int .i64 r : Value) ∧ R r w1) ?_).mono ?_
  · rw [← den_cmp_Compare]
    have e : (fun r w1 => ∃ (r' : Int), (.int .i64 r : Value) = (.int .i64 r' : Value) ∧ R r' w1) = R := by
      funext r w1
      exact propext ⟨fun ⟨r', he, h⟩ => by simp at he; simp_all, fun h => ⟨_, rfl, h⟩⟩
    simpa only [e] using h
  · rintro en w1 ⟨v, he, r, rfl, h⟩
    exact ⟨_, he, h⟩

def F_slices_rotateRight (sP : Option Addr) (sN : Nat) (sC : Nat) (r : Int) (w : World) (R : World → Prop) : Prop :=
  C_slices_rotateLeft sP sN sC (IntKind.i64.wrap ((sN : Int) - r)) w fun w1 =>
  R w1

def G_slices_rotateRight : Gen where
  loop := lookL []
  plan := fun _ => none

theorem loops_slices_rotateRight : LoopOk Try.prog Try.f44.ntmps G_slices_rotateRight (codeOf Try.f44) := loopOk_none fun _ => rfl

theorem den_slices_rotateRight (sP : Option Addr) (sN : Nat) (sC : Nat) (r : Int) (w : World) (R : Value → World → Prop) :
    F_slices_rotateRight sP sN sC r w (fun w1 => R (.tuple #[]) w1) = den Try.prog Try.f44.ntmps G_slices_rotateRight (codeOf Try.f44) [] (postD Try.prog Try.f44.results.toList R) (entry [.slice sP sN sC, .int .i64 r] 0) w := by kernel_rfl

theorem C_slices_rotateRight.of {sP : Option Addr} {sN : Nat} {sC : Nat} {r : Int} {w : World} {R : World → Prop} (h : F_slices_rotateRight sP sN sC r w R) : C_slices_rotateRight sP sN sC r w R := by
  refine (calls_of_den (c := codeOf Try.f44) seat_ok seat_mixed Try.func44 (by kernel_rfl) loops_slices_rotateRight (args := [.slice sP sN sC, .int .i64 r]) rfl (R := fun v w1 => v = (.tuple #[] : Value) ∧ R w1) ?_).mono ?_
  · rw [← den_slices_rotateRight]
    simpa using h
  · rintro en w1 ⟨v, he, rfl, h⟩
    exact ⟨he, h⟩

def F_cmp_isNaN (x : Int) (w : World) (R : Bool → World → Prop) : Prop :=
  R (x != x) w

def G_cmp_isNaN : Gen where
  loop := lookL []
  plan := fun _ => none

theorem loops_cmp_isNaN : LoopOk Try.prog Try.f45.ntmps G_cmp_isNaN (codeOf Try.f45) := loopOk_none fun _ => rfl

theorem den_cmp_isNaN (x : Int) (w : World) (R : Value → World → Prop) :
    F_cmp_isNaN x w (fun r w1 => R (.bool r) w1) = den Try.prog Try.f45.ntmps G_cmp_isNaN (codeOf Try.f45) [] (postD Try.prog Try.f45.results.toList R) (entry [.int .i64 x] 0) w := by kernel_rfl

theorem C_cmp_isNaN.of {x : Int} {w : World} {R : Bool → World → Prop} (h : F_cmp_isNaN x w R) : C_cmp_isNaN x w R := by
  refine (calls_of_den (c := codeOf Try.f45) seat_ok seat_mixed Try.func45 (by kernel_rfl) loops_cmp_isNaN (args := [.int .i64 x]) rfl (R := fun v w1 => ∃ (r : Bool), v = (.bool r : Value) ∧ R r w1) ?_).mono ?_
  · rw [← den_cmp_isNaN]
    have e : (fun r w1 => ∃ (r' : Bool), (.bool r : Value) = (.bool r' : Value) ∧ R r' w1) = R := by
      funext r w1
      exact propext ⟨fun ⟨r', he, h⟩ => by simp at he; simp_all, fun h => ⟨_, rfl, h⟩⟩
    simpa only [e] using h
  · rintro en w1 ⟨v, he, r, rfl, h⟩
    exact ⟨_, he, h⟩

def F_slices_rotateLeft (sP : Option Addr) (sN : Nat) (sC : Nat) (r : Int) (w : World) (R : World → Prop) : Prop :=
  0 ≤ r ∧ r ≤ (sC : Int) ∧
  C_slices_Reverse sP r.toNat sC w fun w1 =>
  0 ≤ r ∧ r ≤ (sN : Int) ∧
  C_slices_Reverse (adv sP sC r.toNat 2) (sN - r.toNat) (sC - r.toNat) w1 fun w1_1 =>
  C_slices_Reverse sP sN sC w1_1 fun w1_2 =>
  R w1_2

def G_slices_rotateLeft : Gen where
  loop := lookL []
  plan := fun _ => none

theorem loops_slices_rotateLeft : LoopOk Try.prog Try.f46.ntmps G_slices_rotateLeft (codeOf Try.f46) := loopOk_none fun _ => rfl

theorem den_slices_rotateLeft (sP : Option Addr) (sN : Nat) (sC : Nat) (r : Int) (w : World) (R : Value → World → Prop) :
    F_slices_rotateLeft sP sN sC r w (fun w1 => R (.tuple #[]) w1) = den Try.prog Try.f46.ntmps G_slices_rotateLeft (codeOf Try.f46) [] (postD Try.prog Try.f46.results.toList R) (entry [.slice sP sN sC, .int .i64 r] 0) w := by kernel_rfl

theorem C_slices_rotateLeft.of {sP : Option Addr} {sN : Nat} {sC : Nat} {r : Int} {w : World} {R : World → Prop} (h : F_slices_rotateLeft sP sN sC r w R) : C_slices_rotateLeft sP sN sC r w R := by
  refine (calls_of_den (c := codeOf Try.f46) seat_ok seat_mixed Try.func46 (by kernel_rfl) loops_slices_rotateLeft (args := [.slice sP sN sC, .int .i64 r]) rfl (R := fun v w1 => v = (.tuple #[] : Value) ∧ R w1) ?_).mono ?_
  · rw [← den_slices_rotateLeft]
    simpa using h
  · rintro en w1 ⟨v, he, rfl, h⟩
    exact ⟨he, h⟩

structure S_slices_Reverse_L1 where
  i : Int
  j : Int

/-- One round. -/
def B_slices_Reverse_L1 (sP_1 : Option Addr) (sN_1 : Nat) (sC_1 : Nat) (s : S_slices_Reverse_L1) (w : World) (Kn : S_slices_Reverse_L1 → World → Prop) (Kx0 : World → Prop) : Prop :=
  If (decide ((s.i : Int) < (s.j : Int)))
  (0 ≤ (s.j : Int) ∧ (s.j : Int) < (sN_1 : Int) ∧ NN sP_1 fun a =>
  ∃ t210 : Int, (drw w).cell? ((a.add ((s.j : Int).toNat * 2)).add 0) = some (.int .i64 t210) ∧
  ∃ t211 : Int, (drw w).cell? ((a.add ((s.j : Int).toNat * 2)).add 1) = some (.int .i64 t211) ∧
  0 ≤ (s.i : Int) ∧ (s.i : Int) < (sN_1 : Int) ∧ NN sP_1 fun a_1 =>
  ∃ t250 : Int, (drw w).cell? ((a_1.add ((s.i : Int).toNat * 2)).add 0) = some (.int .i64 t250) ∧
  ∃ t251 : Int, (drw w).cell? ((a_1.add ((s.i : Int).toNat * 2)).add 1) = some (.int .i64 t251) ∧
  0 ≤ (s.i : Int) ∧ (s.i : Int) < (sN_1 : Int) ∧ NN sP_1 fun a_2 =>
  St (drw w) ((a_2.add ((s.i : Int).toNat * 2)).add 0) (.int .i64 t210) fun w1 =>
  St w1 ((a_2.add ((s.i : Int).toNat * 2)).add 1) (.int .i64 t211) fun w1_1 =>
  0 ≤ (s.j : Int) ∧ (s.j : Int) < (sN_1 : Int) ∧ NN sP_1 fun a_3 =>
  St w1_1 ((a_3.add ((s.j : Int).toNat * 2)).add 0) (.int .i64 t250) fun w1_2 =>
  St w1_2 ((a_3.add ((s.j : Int).toNat * 2)).add 1) (.int .i64 t251) fun w1_3 =>
  Kn ⟨(IntKind.i64.wrap ((s.i : Int) + (1 : Int))), (IntKind.i64.wrap ((s.j : Int) - (1 : Int)))⟩ w1_3)
  (Kx0 w)

def F_slices_Reverse_L1 (sP_1 : Option Addr) (sN_1 : Nat) (sC_1 : Nat) (s : S_slices_Reverse_L1) (w : World) (Kx0 : World → Prop) : Prop :=
  LoopS (fun s w Kn => B_slices_Reverse_L1 sP_1 sN_1 sC_1 s w Kn Kx0) s w

def F_slices_Reverse (sP : Option Addr) (sN : Nat) (sC : Nat) (w : World) (R : World → Prop) : Prop :=
  F_slices_Reverse_L1 sP sN sC ⟨(0 : Int), (IntKind.i64.wrap ((sN : Int) - (1 : Int)))⟩ w
  (fun w1_4 =>
  R w1_4)

def lit_slices_Reverse_L1 (f : (Option Addr) × Nat × Nat) (s : S_slices_Reverse_L1) : Env := [⟨0, .slice f.1 f.2.1 f.2.2, none⟩, ⟨2, .int .i64 s.i, none⟩, ⟨3, .int .i64 s.j, none⟩]

def dec_slices_Reverse_L1 (e : Env) (K : ((Option Addr) × Nat × Nat) → S_slices_Reverse_L1 → Prop) : Prop :=
  onV (getV e 0) fun u1 =>
  asS u1 fun sP_1 sN_1 sC_1 =>
  onV (getV e 2) fun u2 =>
  asI .i64 u2 fun i =>
  onV (getV e 3) fun u3 =>
  asI .i64 u3 fun j =>
    K (sP_1, sN_1, sC_1) ⟨i, j⟩

theorem dec_slices_Reverse_L1_ok {N : Nat} (e : Env) (a : Act) (K : ((Option Addr) × Nat × Nat) → S_slices_Reverse_L1 → Prop) (hr : Rep N a e) (h0 : dec_slices_Reverse_L1 e K) : ∃ f s, K f s ∧ Rep N a (lit_slices_Reverse_L1 f s) := by
  unfold dec_slices_Reverse_L1 at h0
  obtain ⟨u1, g0, h1⟩ := onV_elim h0
  obtain ⟨sP_1, sN_1, sC_1, rfl, h2⟩ := asS_elim h1
  obtain ⟨u2, g2, h3⟩ := onV_elim h2
  obtain ⟨i, rfl, h4⟩ := asI_elim h3
  obtain ⟨u3, g3, h5⟩ := onV_elim h4
  obtain ⟨j, rfl, h6⟩ := asI_elim h5
  exact ⟨_, _, h6, rep_less hr (by simp [lit_slices_Reverse_L1, g0, g2, g3])⟩

def spec_slices_Reverse_L1 (Q : Post) (e : Env) (w : World) : Prop :=
  dec_slices_Reverse_L1 e fun f s => F_slices_Reverse_L1 f.1 f.2.1 f.2.2 s w (fun w1 => Q (.exit 0) [] w1)

def G_slices_Reverse : Gen where
  loop := lookL [([false, true], spec_slices_Reverse_L1)]
  plan := fun id =>
    bif Nat.beq id 3 then some ([0, 0, 0, 0, 0, 0, 48, 112, 0, 0, 768, 1792, 4083, 8179, 16383, 32767], .take 0 (.take 1 (.take 2 (.take 3 (.take 4 (.take 5 (.take 6 (.take 7 (.take 8 (.take 9 (.take 10 (.take 11 (.take 12 (.take 13 (.take 14 (.take 15 .done)))))))))))))))) else none

def dx_slices_Reverse_L1_0 (e : Env) (K : ((Option Addr) × Nat × Nat) → Prop) : Prop :=
  onV (getV e 0) fun u1 =>
  asS u1 fun sP_1 sN_1 sC_1 =>
    K (sP_1, sN_1, sC_1)

theorem body_slices_Reverse_L1 (f : (Option Addr) × Nat × Nat) (s : S_slices_Reverse_L1) (w : World) (Kn : ((Option Addr) × Nat × Nat) → S_slices_Reverse_L1 → World → Prop) (Kx0 : ((Option Addr) × Nat × Nat) → World → Prop) :
    B_slices_Reverse_L1 f.1 f.2.1 f.2.2 s w (fun s1 w1 => Kn f s1 w1) (fun w1 => Kx0 f w1) =
    den Try.prog Try.f47.ntmps G_slices_Reverse (sub (codeOf Try.f47) [false, false, true]) [false, false, true] (roundQ (fun e w => dec_slices_Reverse_L1 e fun f s => Kn f s w) (fun e w => False) (fun id e w => match Nat.beq id 0 with | true => dx_slices_Reverse_L1_0 e fun f => Kx0 f w | false => False)) (lit_slices_Reverse_L1 f s) w := by kernel_rfl

theorem ok_slices_Reverse_L1 : OneOk Try.prog Try.f47.ntmps G_slices_Reverse (codeOf Try.f47) [false, true] spec_slices_Reverse_L1 := by
  intro c hc ih Q e w a hr h
  have hcc : sub (codeOf Try.f47) [false, false, true] = c := sub_of_codeAt hc
  obtain ⟨f, s, h, hrep⟩ := dec_slices_Reverse_L1_ok e a _ hr h
  obtain ⟨J, μ, hj, hround⟩ := h
  refine loop_rule_deep seat_ok seat_mixed ih lit_slices_Reverse_L1 dec_slices_Reverse_L1 dec_slices_Reverse_L1_ok hc f J μ (Kr := fun e w => False) (Kx := fun id e w => match Nat.beq id 0 with | true => (dx_slices_Reverse_L1_0 e fun f1 => f1 = f ∧ Q (.exit 0) [] w) | false => False) ?_ ?_ ?_ s w a hj hrep
  · intro e a w hr h
    exact h.elim
  · intro id e a w hr h0
    (try dsimp only at h0)
    split at h0
    · rename_i hid
      obtain rfl := Nat.eq_of_beq_eq_true hid
      unfold dx_slices_Reverse_L1_0 at h0
      obtain ⟨u1, g0, h1⟩ := onV_elim h0
      obtain ⟨sP_1, sN_1, sC_1, rfl, h2⟩ := asS_elim h1
      obtain ⟨hf, hq⟩ := h2
      subst hf
      exact ⟨_, rep_less hr (by simp), hq⟩
    · exact h0.elim
  · intro s w hj
    have hb := hround s w hj
    rw [← hcc]
    have e1 := body_slices_Reverse_L1 f s w (fun f1 s1 w1 => f1 = f ∧ J s1 w1 ∧ μ s1 w1 < μ s w) (fun f1 w1 => f1 = f ∧ Q (.exit 0) [] w1)
    simp only [true_and] at e1
    exact cast e1 hb

theorem loops_slices_Reverse : LoopOk Try.prog Try.f47.ntmps G_slices_Reverse (codeOf Try.f47) := loopOk_list rfl ⟨ok_slices_Reverse_L1, trivial⟩

theorem den_slices_Reverse (sP : Option Addr) (sN : Nat) (sC : Nat) (w : World) (R : Value → World → Prop) :
    F_slices_Reverse sP sN sC w (fun w1 => R (.tuple #[]) w1) = den Try.prog Try.f47.ntmps G_slices_Reverse (codeOf Try.f47) [] (postD Try.prog Try.f47.results.toList R) (entry [.slice sP sN sC] 0) w := by kernel_rfl

theorem C_slices_Reverse.of {sP : Option Addr} {sN : Nat} {sC : Nat} {w : World} {R : World → Prop} (h : F_slices_Reverse sP sN sC w R) : C_slices_Reverse sP sN sC w R := by
  refine (calls_of_den (c := codeOf Try.f47) seat_ok seat_mixed Try.func47 (by kernel_rfl) loops_slices_Reverse (args := [.slice sP sN sC]) rfl (R := fun v w1 => v = (.tuple #[] : Value) ∧ R w1) ?_).mono ?_
  · rw [← den_slices_Reverse]
    simpa using h
  · rintro en w1 ⟨v, he, rfl, h⟩
    exact ⟨he, h⟩

end Go.Proofs.Ytpkfckfdehaamaa
