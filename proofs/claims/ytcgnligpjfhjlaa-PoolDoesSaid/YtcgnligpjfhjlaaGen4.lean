/- The formulas of this seat's functions, held against the loaded program by the kernel. Printed by a program. -/
import Derived.Test.YtcgnligpjfhjlaaGenC
set_option maxRecDepth 100000
set_option linter.unusedVariables false
namespace Go.Proofs.Ytcgnligpjfhjlaa
open Go Go.D Go.Proofs

def F_pool_Pool_Take_1 (r0 : Int) (r1 : Int) (c0 : Addr) (w : World) (R : Bool → World → Prop) : Prop :=
  New w (.cells #[.int .i64 r0, .int .i64 r1] 58) fun r w1 =>
  ∃ Len : Int, w1.cell? ((⟨r, 0, none⟩ : Addr).add 1) = some (.int .i64 Len) ∧
  ∃ t6 : Int, w1.cell? c0 = some (.int .i64 t6) ∧
  R (decide (Len ≥ t6)) w1

def G_pool_Pool_Take_1 : Gen where
  loop := lookL []
  plan := fun _ => none

theorem loops_pool_Pool_Take_1 : LoopOk Try.prog Try.f31.ntmps G_pool_Pool_Take_1 (codeOf Try.f31) := loopOk_none fun _ => rfl

theorem den_pool_Pool_Take_1 (r0 : Int) (r1 : Int) (c0 : Addr) (w : World) (R : Value → World → Prop) :
    F_pool_Pool_Take_1 r0 r1 c0 w (fun r w1 => R (.bool r) w1) = den Try.prog Try.f31.ntmps G_pool_Pool_Take_1 (codeOf Try.f31) [] (postD Try.prog Try.f31.results.toList R) (entry [.agg #[.int .i64 r0, .int .i64 r1], .pointer (some c0)] 0) w := by kernel_rfl

theorem C_pool_Pool_Take_1.of {r0 : Int} {r1 : Int} {c0 : Addr} {w : World} {R : Bool → World → Prop} (h : F_pool_Pool_Take_1 r0 r1 c0 w R) : C_pool_Pool_Take_1 r0 r1 c0 w R := by
  refine (calls_of_den (c := codeOf Try.f31) seat_ok seat_mixed Try.func31 (by kernel_rfl) loops_pool_Pool_Take_1 (args := [.agg #[.int .i64 r0, .int .i64 r1], .pointer (some c0)]) rfl (R := fun v w1 => ∃ (r : Bool), v = (.bool r : Value) ∧ R r w1) ?_).mono ?_
  · rw [← den_pool_Pool_Take_1]
    have e : (fun r w1 => ∃ (r' : Bool), (.bool r : Value) = (.bool r' : Value) ∧ R r' w1) = R := by
      funext r w1
      exact propext ⟨fun ⟨r', he, h⟩ => by simp at he; simp_all, fun h => ⟨_, rfl, h⟩⟩
    simpa only [e] using h
  · rintro en w1 ⟨v, he, r, rfl, h⟩
    exact ⟨_, he, h⟩

def F_slices_Delete (sP : Option Addr) (sN : Nat) (sC : Nat) (i : Int) (j : Int) (w : World) (R : Option Addr → Nat → Nat → World → Prop) : Prop :=
  0 ≤ i ∧ i ≤ j ∧ j ≤ (sN : Int) ∧ (sN : Int) ≤ (sC : Int) ∧
  If (i == j)
  (R sP sN sC w)
  (0 ≤ i ∧ i ≤ (sC : Int) ∧
  0 ≤ j ∧ j ≤ (sN : Int) ∧
  App Try.prog #[40, 40] 40 #[.slice sP i.toNat sC, .slice (adv sP sC j.toNat 2) (sN - j.toNat) (sC - j.toNat)] (drw w) fun t26P t26N t26C w1 =>
  0 ≤ (t26N : Int) ∧ (t26N : Int) ≤ (sN : Int) ∧ (sN : Int) ≤ (t26C : Int) ∧
  Clr Try.prog #[40] 0 #[.slice (adv t26P t26C (t26N : Int).toNat 2) ((sN : Int).toNat - (t26N : Int).toNat) (t26C - (t26N : Int).toNat)] w1 fun v w1_1 =>
  R t26P t26N t26C w1_1)

def G_slices_Delete : Gen where
  loop := lookL []
  plan := fun id =>
    bif Nat.beq id 5 then some ([0, 0, 3, 0, 0, 24, 63, 127], .take 0 (.take 1 (.take 2 (.take 3 (.take 4 (.take 5 (.take 6 (.take 7 .done)))))))) else none

theorem loops_slices_Delete : LoopOk Try.prog Try.f32.ntmps G_slices_Delete (codeOf Try.f32) := loopOk_none fun _ => rfl

theorem den_slices_Delete (sP : Option Addr) (sN : Nat) (sC : Nat) (i : Int) (j : Int) (w : World) (R : Value → World → Prop) :
    F_slices_Delete sP sN sC i j w (fun rP rN rC w1 => R (.slice rP rN rC) w1) = den Try.prog Try.f32.ntmps G_slices_Delete (codeOf Try.f32) [] (postD Try.prog Try.f32.results.toList R) (entry [.slice sP sN sC, .int .i64 i, .int .i64 j] 0) w := by kernel_rfl

theorem C_slices_Delete.of {sP : Option Addr} {sN : Nat} {sC : Nat} {i : Int} {j : Int} {w : World} {R : Option Addr → Nat → Nat → World → Prop} (h : F_slices_Delete sP sN sC i j w R) : C_slices_Delete sP sN sC i j w R := by
  refine (calls_of_den (c := codeOf Try.f32) seat_ok seat_mixed Try.func32 (by kernel_rfl) loops_slices_Delete (args := [.slice sP sN sC, .int .i64 i, .int .i64 j]) rfl (R := fun v w1 => ∃ (rP : Option Addr) (rN : Nat) (rC : Nat), v = (.slice rP rN rC : Value) ∧ R rP rN rC w1) ?_).mono ?_
  · rw [← den_slices_Delete]
    have e : (fun rP rN rC w1 => ∃ (rP' : Option Addr) (rN' : Nat) (rC' : Nat), (.slice rP rN rC : Value) = (.slice rP' rN' rC' : Value) ∧ R rP' rN' rC' w1) = R := by
      funext rP rN rC w1
      exact propext ⟨fun ⟨rP', rN', rC', he, h⟩ => by simp at he; simp_all, fun h => ⟨_, _, _, rfl, h⟩⟩
    simpa only [e] using h
  · rintro en w1 ⟨v, he, rP, rN, rC, rfl, h⟩
    exact ⟨_, _, _, he, h⟩

def F_pool_segment_meets (sx : Option Addr) (atx : Int) (n : Int) (w : World) (R : Bool → World → Prop) : Prop :=
  C_pool_segment_place sx atx w fun t10 w1 =>
  NN sx fun a =>
  ∃ runsP : Option Addr, ∃ runsN : Nat, ∃ runsC : Nat, w1.cell? (a.add 1) = some (.slice runsP runsN runsC) ∧
  If (decide (t10 < (runsN : Int)))
  (NN sx fun a_1 =>
  ∃ runsP_1 : Option Addr, ∃ runsN_1 : Nat, ∃ runsC_1 : Nat, w1.cell? (a_1.add 1) = some (.slice runsP_1 runsN_1 runsC_1) ∧
  0 ≤ t10 ∧ t10 < (runsN_1 : Int) ∧ NN runsP_1 fun a_2 =>
  ∃ At : Int, w1.cell? ((a_2.add (t10.toNat * 2)).add 0) = some (.int .i64 At) ∧
  R (decide (At < (IntKind.i64.wrap (atx + n)))) w1)
  (R false w1)

def G_pool_segment_meets : Gen where
  loop := lookL []
  plan := fun _ => none

theorem loops_pool_segment_meets : LoopOk Try.prog Try.f33.ntmps G_pool_segment_meets (codeOf Try.f33) := loopOk_none fun _ => rfl

theorem den_pool_segment_meets (sx : Option Addr) (atx : Int) (n : Int) (w : World) (R : Value → World → Prop) :
    F_pool_segment_meets sx atx n w (fun r w1 => R (.bool r) w1) = den Try.prog Try.f33.ntmps G_pool_segment_meets (codeOf Try.f33) [] (postD Try.prog Try.f33.results.toList R) (entry [.pointer sx, .int .i64 atx, .int .i64 n] 0) w := by kernel_rfl

theorem C_pool_segment_meets.of {sx : Option Addr} {atx : Int} {n : Int} {w : World} {R : Bool → World → Prop} (h : F_pool_segment_meets sx atx n w R) : C_pool_segment_meets sx atx n w R := by
  refine (calls_of_den (c := codeOf Try.f33) seat_ok seat_mixed Try.func33 (by kernel_rfl) loops_pool_segment_meets (args := [.pointer sx, .int .i64 atx, .int .i64 n]) rfl (R := fun v w1 => ∃ (r : Bool), v = (.bool r : Value) ∧ R r w1) ?_).mono ?_
  · rw [← den_pool_segment_meets]
    have e : (fun r w1 => ∃ (r' : Bool), (.bool r : Value) = (.bool r' : Value) ∧ R r' w1) = R := by
      funext r w1
      exact propext ⟨fun ⟨r', he, h⟩ => by simp at he; simp_all, fun h => ⟨_, rfl, h⟩⟩
    simpa only [e] using h
  · rintro en w1 ⟨v, he, r, rfl, h⟩
    exact ⟨_, he, h⟩

def F_pool_segment_give (sx : Option Addr) (atx : Int) (n : Int) (w : World) (R : World → Prop) : Prop :=
  C_pool_segment_place sx atx w fun t9 w1 =>
  NN sx fun a =>
  ∃ runsP : Option Addr, ∃ runsN : Nat, ∃ runsC : Nat, w1.cell? (a.add 1) = some (.slice runsP runsN runsC) ∧
  BSl Try.prog 40 1 [(0, .agg #[.int .i64 atx, .int .i64 n])] w1 fun t19P t19N t19C w1_1 =>
  C_slices_Insert runsP runsN runsC t9 t19P t19N t19C w1_1 fun t20P t20N t20C w1_2 =>
  NN sx fun a_1 =>
  St w1_2 ((a_1.add 1).add 0) (.slice t20P t20N t20C) fun w1_3 =>
  C_pool_segment_join sx t9 w1_3 fun w1_4 =>
  If (decide (t9 > (0 : Int)))
  (C_pool_segment_join sx (IntKind.i64.wrap (t9 - (1 : Int))) w1_4 fun w1_5 =>
  R w1_5)
  (R w1_4)

def G_pool_segment_give : Gen where
  loop := lookL []
  plan := fun _ => none

theorem loops_pool_segment_give : LoopOk Try.prog Try.f34.ntmps G_pool_segment_give (codeOf Try.f34) := loopOk_none fun _ => rfl

theorem den_pool_segment_give (sx : Option Addr) (atx : Int) (n : Int) (w : World) (R : Value → World → Prop) :
    F_pool_segment_give sx atx n w (fun w1 => R (.tuple #[]) w1) = den Try.prog Try.f34.ntmps G_pool_segment_give (codeOf Try.f34) [] (postD Try.prog Try.f34.results.toList R) (entry [.pointer sx, .int .i64 atx, .int .i64 n] 0) w := by kernel_rfl

theorem C_pool_segment_give.of {sx : Option Addr} {atx : Int} {n : Int} {w : World} {R : World → Prop} (h : F_pool_segment_give sx atx n w R) : C_pool_segment_give sx atx n w R := by
  refine (calls_of_den (c := codeOf Try.f34) seat_ok seat_mixed Try.func34 (by kernel_rfl) loops_pool_segment_give (args := [.pointer sx, .int .i64 atx, .int .i64 n]) rfl (R := fun v w1 => v = (.tuple #[] : Value) ∧ R w1) ?_).mono ?_
  · rw [← den_pool_segment_give]
    simpa using h
  · rintro en w1 ⟨v, he, rfl, h⟩
    exact ⟨he, h⟩

def F_pool_segment_join (sx : Option Addr) (i : Int) (w : World) (R : World → Prop) : Prop :=
  NN sx fun a =>
  ∃ runsP : Option Addr, ∃ runsN : Nat, ∃ runsC : Nat, (drw w).cell? (a.add 1) = some (.slice runsP runsN runsC) ∧
  If (decide ((IntKind.i64.wrap (i + (1 : Int))) < (runsN : Int)))
  (NN sx fun a_1 =>
  ∃ runsP_1 : Option Addr, ∃ runsN_1 : Nat, ∃ runsC_1 : Nat, (drw w).cell? (a_1.add 1) = some (.slice runsP_1 runsN_1 runsC_1) ∧
  0 ≤ i ∧ i < (runsN_1 : Int) ∧ NN runsP_1 fun a_2 =>
  ∃ At : Int, (drw w).cell? ((a_2.add (i.toNat * 2)).add 0) = some (.int .i64 At) ∧
  NN sx fun a_3 =>
  ∃ runsP_2 : Option Addr, ∃ runsN_2 : Nat, ∃ runsC_2 : Nat, (drw w).cell? (a_3.add 1) = some (.slice runsP_2 runsN_2 runsC_2) ∧
  0 ≤ i ∧ i < (runsN_2 : Int) ∧ NN runsP_2 fun a_4 =>
  ∃ Len : Int, (drw w).cell? ((a_4.add (i.toNat * 2)).add 1) = some (.int .i64 Len) ∧
  NN sx fun a_5 =>
  ∃ runsP_3 : Option Addr, ∃ runsN_3 : Nat, ∃ runsC_3 : Nat, (drw w).cell? (a_5.add 1) = some (.slice runsP_3 runsN_3 runsC_3) ∧
  0 ≤ (IntKind.i64.wrap (i + (1 : Int))) ∧ (IntKind.i64.wrap (i + (1 : Int))) < (runsN_3 : Int) ∧ NN runsP_3 fun a_6 =>
  ∃ At_1 : Int, (drw w).cell? ((a_6.add ((IntKind.i64.wrap (i + (1 : Int))).toNat * 2)).add 0) = some (.int .i64 At_1) ∧
  If ((IntKind.i64.wrap (At + Len)) == At_1)
  (NN sx fun a_7 =>
  ∃ runsP_4 : Option Addr, ∃ runsN_4 : Nat, ∃ runsC_4 : Nat, (drw (drw w)).cell? (a_7.add 1) = some (.slice runsP_4 runsN_4 runsC_4) ∧
  0 ≤ i ∧ i < (runsN_4 : Int) ∧ NN runsP_4 fun a_8 =>
  ∃ Len_1 : Int, (drw (drw w)).cell? ((a_8.add (i.toNat * 2)).add 1) = some (.int .i64 Len_1) ∧
  NN sx fun a_9 =>
  ∃ runsP_5 : Option Addr, ∃ runsN_5 : Nat, ∃ runsC_5 : Nat, (drw (drw w)).cell? (a_9.add 1) = some (.slice runsP_5 runsN_5 runsC_5) ∧
  0 ≤ (IntKind.i64.wrap (i + (1 : Int))) ∧ (IntKind.i64.wrap (i + (1 : Int))) < (runsN_5 : Int) ∧ NN runsP_5 fun a_10 =>
  ∃ Len_2 : Int, (drw (drw w)).cell? ((a_10.add ((IntKind.i64.wrap (i + (1 : Int))).toNat * 2)).add 1) = some (.int .i64 Len_2) ∧
  0 ≤ i ∧ i < (runsN_4 : Int) ∧ NN runsP_4 fun a_11 =>
  St (drw (drw w)) (((a_11.add (i.toNat * 2)).add 1).add 0) (.int .i64 (IntKind.i64.wrap (Len_1 + Len_2))) fun w1 =>
  NN sx fun a_12 =>
  ∃ runsP_6 : Option Addr, ∃ runsN_6 : Nat, ∃ runsC_6 : Nat, w1.cell? (a_12.add 1) = some (.slice runsP_6 runsN_6 runsC_6) ∧
  C_slices_Delete runsP_6 runsN_6 runsC_6 (IntKind.i64.wrap (i + (1 : Int))) (IntKind.i64.wrap (i + (2 : Int))) w1 fun t70P t70N t70C w1_1 =>
  NN sx fun a_13 =>
  St w1_1 ((a_13.add 1).add 0) (.slice t70P t70N t70C) fun w1_2 =>
  R w1_2)
  (R (drw w)))
  (R (drw w))

def G_pool_segment_join : Gen where
  loop := lookL []
  plan := fun id =>
    bif Nat.beq id 0 then some ([0, 1, 0, 4, 12, 28, 60, 127, 255, 511, 1023, 2047, 4095, 511, 16383, 32767, 65535, 511, 131583, 393727, 918015, 511, 4063743, 8258047, 16646655, 33554431, 511, 67109375, 201327103, 469762559, 511, 1073742335, 4227858943, 8522826239, 17112760831, 34359738367, 68719476735], .take 0 (.take 1 (.take 2 (.take 3 (.take 4 (.take 5 (.take 6 (.take 7 (.take 8 (.take 9 (.take 10 (.take 11 (.take 12 (.take 13 (.take 14 (.take 15 (.take 16 (.take 17 (.take 18 (.take 19 (.take 20 (.take 21 (.take 22 (.take 23 (.take 24 (.take 25 (.take 26 (.take 27 (.take 28 (.take 29 (.take 30 (.take 31 (.take 32 (.take 33 (.take 34 (.take 35 (.take 36 .done))))))))))))))))))))))))))))))))))))) else
    bif Nat.beq id 1 then some ([0, 1, 3, 7, 0, 31, 63, 127, 0, 256, 768, 1792, 0, 4096, 16128, 32512, 65280, 131071, 262143, 524287, 1048575], .take 0 (.take 1 (.take 2 (.take 3 (.take 4 (.take 5 (.take 6 (.take 7 (.take 8 (.take 9 (.take 10 (.take 11 (.take 12 (.take 13 (.take 14 (.take 15 (.take 16 (.take 17 (.take 18 (.take 19 (.take 20 .done))))))))))))))))))))) else none

theorem loops_pool_segment_join : LoopOk Try.prog Try.f35.ntmps G_pool_segment_join (codeOf Try.f35) := loopOk_none fun _ => rfl

theorem den_pool_segment_join (sx : Option Addr) (i : Int) (w : World) (R : Value → World → Prop) :
    F_pool_segment_join sx i w (fun w1 => R (.tuple #[]) w1) = den Try.prog Try.f35.ntmps G_pool_segment_join (codeOf Try.f35) [] (postD Try.prog Try.f35.results.toList R) (entry [.pointer sx, .int .i64 i] 0) w := by kernel_rfl

theorem C_pool_segment_join.of {sx : Option Addr} {i : Int} {w : World} {R : World → Prop} (h : F_pool_segment_join sx i w R) : C_pool_segment_join sx i w R := by
  refine (calls_of_den (c := codeOf Try.f35) seat_ok seat_mixed Try.func35 (by kernel_rfl) loops_pool_segment_join (args := [.pointer sx, .int .i64 i]) rfl (R := fun v w1 => v = (.tuple #[] : Value) ∧ R w1) ?_).mono ?_
  · rw [← den_pool_segment_join]
    simpa using h
  · rintro en w1 ⟨v, he, rfl, h⟩
    exact ⟨he, h⟩

def F_slices_Clone (sP : Option Addr) (sN : Nat) (sC : Nat) (w : World) (R : Option Addr → Nat → Nat → World → Prop) : Prop :=
  If sP.isNone
  (R none 0 0 w)
  (BSl Try.prog 40 0 [] w fun t5P t5N t5C w1 =>
  App Try.prog #[40, 40] 40 #[.slice t5P t5N t5C, .slice sP sN sC] w1 fun t7P t7N t7C w1_1 =>
  R t7P t7N t7C w1_1)

def G_slices_Clone : Gen where
  loop := lookL []
  plan := fun _ => none

theorem loops_slices_Clone : LoopOk Try.prog Try.f36.ntmps G_slices_Clone (codeOf Try.f36) := loopOk_none fun _ => rfl

theorem den_slices_Clone (sP : Option Addr) (sN : Nat) (sC : Nat) (w : World) (R : Value → World → Prop) :
    F_slices_Clone sP sN sC w (fun rP rN rC w1 => R (.slice rP rN rC) w1) = den Try.prog Try.f36.ntmps G_slices_Clone (codeOf Try.f36) [] (postD Try.prog Try.f36.results.toList R) (entry [.slice sP sN sC] 0) w := by kernel_rfl

theorem C_slices_Clone.of {sP : Option Addr} {sN : Nat} {sC : Nat} {w : World} {R : Option Addr → Nat → Nat → World → Prop} (h : F_slices_Clone sP sN sC w R) : C_slices_Clone sP sN sC w R := by
  refine (calls_of_den (c := codeOf Try.f36) seat_ok seat_mixed Try.func36 (by kernel_rfl) loops_slices_Clone (args := [.slice sP sN sC]) rfl (R := fun v w1 => ∃ (rP : Option Addr) (rN : Nat) (rC : Nat), v = (.slice rP rN rC : Value) ∧ R rP rN rC w1) ?_).mono ?_
  · rw [← den_slices_Clone]
    have e : (fun rP rN rC w1 => ∃ (rP' : Option Addr) (rN' : Nat) (rC' : Nat), (.slice rP rN rC : Value) = (.slice rP' rN' rC' : Value) ∧ R rP' rN' rC' w1) = R := by
      funext rP rN rC w1
      exact propext ⟨fun ⟨rP', rN', rC', he, h⟩ => by simp at he; simp_all, fun h => ⟨_, _, _, rfl, h⟩⟩
    simpa only [e] using h
  · rintro en w1 ⟨v, he, rP, rN, rC, rfl, h⟩
    exact ⟨_, _, _, he, h⟩

structure S_ref03_Pool_Take_L2 where
  k : Int

structure S_ref03_Pool_Take_L1 where
  i : Int

structure S_ref03_Pool_Take_L3 where
  k_1 : Int

/-- One round. -/
def B_ref03_Pool_Take_L2 (p_2 : Option Addr) (n_2 : Int) (lP_1 : Option Addr) (lN_1 : Nat) (lC_1 : Nat) (i_1 : Int) (s : S_ref03_Pool_Take_L2) (w : World) (Kn : S_ref03_Pool_Take_L2 → World → Prop) (Kx2 : World → Prop) : Prop :=
  If (decide ((s.k : Int) < n_2))
  (NN p_2 fun a_2 =>
  ∃ FP : Option Addr, ∃ FN : Nat, ∃ FC : Nat, (drw w).cell? (a_2.add 0) = some (.slice FP FN FC) ∧
  0 ≤ i_1 ∧ i_1 < (lN_1 : Int) ∧ NN lP_1 fun a_3 =>
  ∃ At : Int, (drw w).cell? ((a_3.add (i_1.toNat * 2)).add 0) = some (.int .i64 At) ∧
  0 ≤ (IntKind.i64.wrap (At + (s.k : Int))) ∧ (IntKind.i64.wrap (At + (s.k : Int))) < (FN : Int) ∧ NN FP fun a_4 =>
  St (drw w) ((a_4.add ((IntKind.i64.wrap (At + (s.k : Int))).toNat * 1)).add 0) (.bool false) fun w1_1 =>
  Kn ⟨(IntKind.i64.wrap ((s.k : Int) + (1 : Int)))⟩ w1_1)
  (Kx2 w)

def F_ref03_Pool_Take_L2 (p_2 : Option Addr) (n_2 : Int) (lP_1 : Option Addr) (lN_1 : Nat) (lC_1 : Nat) (i_1 : Int) (s : S_ref03_Pool_Take_L2) (w : World) (Kx2 : World → Prop) : Prop :=
  LoopS (fun s w Kn => B_ref03_Pool_Take_L2 p_2 n_2 lP_1 lN_1 lC_1 i_1 s w Kn Kx2) s w

/-- One round. -/
def B_ref03_Pool_Take_L1 (p_1 : Option Addr) (n_1 : Int) (lP : Option Addr) (lN : Nat) (lC : Nat) (s : S_ref03_Pool_Take_L1) (w : World) (Kn : S_ref03_Pool_Take_L1 → World → Prop) (Kx0 : World → Prop) (Kr : Int → Int → World → Prop) : Prop :=
  If (decide ((s.i : Int) < (lN : Int)))
  (0 ≤ (s.i : Int) ∧ (s.i : Int) < (lN : Int) ∧ NN lP fun a_1 =>
  ∃ Len : Int, w.cell? ((a_1.add ((s.i : Int).toNat * 2)).add 1) = some (.int .i64 Len) ∧
  If (decide (Len ≥ n_1))
  (F_ref03_Pool_Take_L2 p_1 n_1 lP lN lC (s.i : Int) ⟨(0 : Int)⟩ w
  (fun w1_2 =>
  0 ≤ (s.i : Int) ∧ (s.i : Int) < (lN : Int) ∧ NN lP fun a_5 =>
  ∃ At_1 : Int, w1_2.cell? ((a_5.add ((s.i : Int).toNat * 2)).add 0) = some (.int .i64 At_1) ∧
  Kr At_1 (0 : Int) w1_2))
  (Kn ⟨(IntKind.i64.wrap ((s.i : Int) + (1 : Int)))⟩ w))
  (Kx0 w)

def F_ref03_Pool_Take_L1 (p_1 : Option Addr) (n_1 : Int) (lP : Option Addr) (lN : Nat) (lC : Nat) (s : S_ref03_Pool_Take_L1) (w : World) (Kx0 : World → Prop) (Kr : Int → Int → World → Prop) : Prop :=
  LoopS (fun s w Kn => B_ref03_Pool_Take_L1 p_1 n_1 lP lN lC s w Kn Kx0 Kr) s w

/-- One round. -/
def B_ref03_Pool_Take_L3 (p_3 : Option Addr) (n_3 : Int) (atx : Int) (s : S_ref03_Pool_Take_L3) (w : World) (Kn : S_ref03_Pool_Take_L3 → World → Prop) (Kx4 : World → Prop) : Prop :=
  If (decide ((s.k_1 : Int) < n_3))
  (NN p_3 fun a_9 =>
  ∃ FP_3 : Option Addr, ∃ FN_3 : Nat, ∃ FC_3 : Nat, w.cell? (a_9.add 0) = some (.slice FP_3 FN_3 FC_3) ∧
  BSl Try.prog 68 1 [(0, .bool false)] w fun t83P t83N t83C w1_5 =>
  App Try.prog #[68, 68] 68 #[.slice FP_3 FN_3 FC_3, .slice t83P t83N t83C] w1_5 fun t84P t84N t84C w1_6 =>
  NN p_3 fun a_10 =>
  St w1_6 ((a_10.add 0).add 0) (.slice t84P t84N t84C) fun w1_7 =>
  Kn ⟨(IntKind.i64.wrap ((s.k_1 : Int) + (1 : Int)))⟩ w1_7)
  (Kx4 w)

def F_ref03_Pool_Take_L3 (p_3 : Option Addr) (n_3 : Int) (atx : Int) (s : S_ref03_Pool_Take_L3) (w : World) (Kx4 : World → Prop) : Prop :=
  LoopS (fun s w Kn => B_ref03_Pool_Take_L3 p_3 n_3 atx s w Kn Kx4) s w

def F_ref03_Pool_Take (p : Option Addr) (n : Int) (w : World) (R : Int → Int → World → Prop) : Prop :=
  If (decide (n < (1 : Int)))
  (R (0 : Int) (1 : Int) w)
  (NN p fun a =>
  ∃ StartsP : Option Addr, ∃ StartsN : Nat, ∃ StartsC : Nat, w.cell? (a.add 1) = some (.slice StartsP StartsN StartsC) ∧
  C_ref03_Pool_Runs p (IntKind.i64.wrap ((StartsN : Int) - (1 : Int))) w fun t20P t20N t20C w1 =>
  F_ref03_Pool_Take_L1 p n t20P t20N t20C ⟨(0 : Int)⟩ w1
  (fun w1_3 =>
  NN p fun a_6 =>
  ∃ Limit : Int, (drw w1_3).cell? (a_6.add 2) = some (.int .i64 Limit) ∧
  NN p fun a_7 =>
  ∃ FP_1 : Option Addr, ∃ FN_1 : Nat, ∃ FC_1 : Nat, (drw w1_3).cell? (a_7.add 0) = some (.slice FP_1 FN_1 FC_1) ∧
  If (decide (n > (IntKind.i64.wrap (Limit - (FN_1 : Int)))))
  (R (0 : Int) (2 : Int) (drw w1_3))
  (NN p fun a_8 =>
  ∃ FP_2 : Option Addr, ∃ FN_2 : Nat, ∃ FC_2 : Nat, (drw w1_3).cell? (a_8.add 0) = some (.slice FP_2 FN_2 FC_2) ∧
  F_ref03_Pool_Take_L3 p n (FN_2 : Int) ⟨(0 : Int)⟩ (drw w1_3)
  (fun w1_8 =>
  R (FN_2 : Int) (0 : Int) w1_8)))
  (fun t4_1 t5_1 w1_4 =>
  R t4_1 t5_1 w1_4))

def lit_ref03_Pool_Take_L1 (f : (Option Addr) × Int × (Option Addr) × Nat × Nat) (s : S_ref03_Pool_Take_L1) : Env := [⟨0, .pointer f.1, none⟩, ⟨1, .int .i64 f.2.1, none⟩, ⟨6, .slice f.2.2.1 f.2.2.2.1 f.2.2.2.2, none⟩, ⟨7, .int .i64 s.i, none⟩]

def dec_ref03_Pool_Take_L1 (e : Env) (K : ((Option Addr) × Int × (Option Addr) × Nat × Nat) → S_ref03_Pool_Take_L1 → Prop) : Prop :=
  onV (getV e 0) fun u1 =>
  asP u1 fun p_1 =>
  onV (getV e 1) fun u2 =>
  asI .i64 u2 fun n_1 =>
  onV (getV e 6) fun u3 =>
  asS u3 fun lP lN lC =>
  onV (getV e 7) fun u4 =>
  asI .i64 u4 fun i =>
    K (p_1, n_1, lP, lN, lC) ⟨i⟩

theorem dec_ref03_Pool_Take_L1_ok {N : Nat} (e : Env) (a : Act) (K : ((Option Addr) × Int × (Option Addr) × Nat × Nat) → S_ref03_Pool_Take_L1 → Prop) (hr : Rep N a e) (h0 : dec_ref03_Pool_Take_L1 e K) : ∃ f s, K f s ∧ Rep N a (lit_ref03_Pool_Take_L1 f s) := by
  unfold dec_ref03_Pool_Take_L1 at h0
  obtain ⟨u1, g0, h1⟩ := onV_elim h0
  obtain ⟨p_1, rfl, h2⟩ := asP_elim h1
  obtain ⟨u2, g1, h3⟩ := onV_elim h2
  obtain ⟨n_1, rfl, h4⟩ := asI_elim h3
  obtain ⟨u3, g6, h5⟩ := onV_elim h4
  obtain ⟨lP, lN, lC, rfl, h6⟩ := asS_elim h5
  obtain ⟨u4, g7, h7⟩ := onV_elim h6
  obtain ⟨i, rfl, h8⟩ := asI_elim h7
  exact ⟨_, _, h8, rep_less hr (by simp [lit_ref03_Pool_Take_L1, g0, g1, g6, g7])⟩

def spec_ref03_Pool_Take_L1 (Q : Post) (e : Env) (w : World) : Prop :=
  dec_ref03_Pool_Take_L1 e fun f s => F_ref03_Pool_Take_L1 f.1 f.2.1 f.2.2.1 f.2.2.2.1 f.2.2.2.2 s w (fun w1 => Q (.exit 0) [⟨0, .pointer f.1, none⟩, ⟨1, .int .i64 f.2.1, none⟩] w1) (fun t4 t5 w1 => Q .ret [⟨4, .int .i64 t4, none⟩, ⟨5, .int .i64 t5, none⟩] w1)

def lit_ref03_Pool_Take_L2 (f : (Option Addr) × Int × (Option Addr) × Nat × Nat × Int) (s : S_ref03_Pool_Take_L2) : Env := [⟨0, .pointer f.1, none⟩, ⟨1, .int .i64 f.2.1, none⟩, ⟨6, .slice f.2.2.1 f.2.2.2.1 f.2.2.2.2.1, none⟩, ⟨7, .int .i64 f.2.2.2.2.2, none⟩, ⟨8, .int .i64 s.k, none⟩]

def dec_ref03_Pool_Take_L2 (e : Env) (K : ((Option Addr) × Int × (Option Addr) × Nat × Nat × Int) → S_ref03_Pool_Take_L2 → Prop) : Prop :=
  onV (getV e 0) fun u1 =>
  asP u1 fun p_2 =>
  onV (getV e 1) fun u2 =>
  asI .i64 u2 fun n_2 =>
  onV (getV e 6) fun u3 =>
  asS u3 fun lP_1 lN_1 lC_1 =>
  onV (getV e 7) fun u4 =>
  asI .i64 u4 fun i_1 =>
  onV (getV e 8) fun u5 =>
  asI .i64 u5 fun k =>
    K (p_2, n_2, lP_1, lN_1, lC_1, i_1) ⟨k⟩

theorem dec_ref03_Pool_Take_L2_ok {N : Nat} (e : Env) (a : Act) (K : ((Option Addr) × Int × (Option Addr) × Nat × Nat × Int) → S_ref03_Pool_Take_L2 → Prop) (hr : Rep N a e) (h0 : dec_ref03_Pool_Take_L2 e K) : ∃ f s, K f s ∧ Rep N a (lit_ref03_Pool_Take_L2 f s) := by
  unfold dec_ref03_Pool_Take_L2 at h0
  obtain ⟨u1, g0, h1⟩ := onV_elim h0
  obtain ⟨p_2, rfl, h2⟩ := asP_elim h1
  obtain ⟨u2, g1, h3⟩ := onV_elim h2
  obtain ⟨n_2, rfl, h4⟩ := asI_elim h3
  obtain ⟨u3, g6, h5⟩ := onV_elim h4
  obtain ⟨lP_1, lN_1, lC_1, rfl, h6⟩ := asS_elim h5
  obtain ⟨u4, g7, h7⟩ := onV_elim h6
  obtain ⟨i_1, rfl, h8⟩ := asI_elim h7
  obtain ⟨u5, g8, h9⟩ := onV_elim h8
  obtain ⟨k, rfl, h10⟩ := asI_elim h9
  exact ⟨_, _, h10, rep_less hr (by simp [lit_ref03_Pool_Take_L2, g0, g1, g6, g7, g8])⟩

def spec_ref03_Pool_Take_L2 (Q : Post) (e : Env) (w : World) : Prop :=
  dec_ref03_Pool_Take_L2 e fun f s => F_ref03_Pool_Take_L2 f.1 f.2.1 f.2.2.1 f.2.2.2.1 f.2.2.2.2.1 f.2.2.2.2.2 s w (fun w1 => Q (.exit 2) [⟨0, .pointer f.1, none⟩, ⟨1, .int .i64 f.2.1, none⟩, ⟨6, .slice f.2.2.1 f.2.2.2.1 f.2.2.2.2.1, none⟩, ⟨7, .int .i64 f.2.2.2.2.2, none⟩] w1)

def lit_ref03_Pool_Take_L3 (f : (Option Addr) × Int × Int) (s : S_ref03_Pool_Take_L3) : Env := [⟨0, .pointer f.1, none⟩, ⟨1, .int .i64 f.2.1, none⟩, ⟨9, .int .i64 f.2.2, none⟩, ⟨10, .int .i64 s.k_1, none⟩]

def dec_ref03_Pool_Take_L3 (e : Env) (K : ((Option Addr) × Int × Int) → S_ref03_Pool_Take_L3 → Prop) : Prop :=
  onV (getV e 0) fun u1 =>
  asP u1 fun p_3 =>
  onV (getV e 1) fun u2 =>
  asI .i64 u2 fun n_3 =>
  onV (getV e 9) fun u3 =>
  asI .i64 u3 fun atx =>
  onV (getV e 10) fun u4 =>
  asI .i64 u4 fun k_1 =>
    K (p_3, n_3, atx) ⟨k_1⟩

theorem dec_ref03_Pool_Take_L3_ok {N : Nat} (e : Env) (a : Act) (K : ((Option Addr) × Int × Int) → S_ref03_Pool_Take_L3 → Prop) (hr : Rep N a e) (h0 : dec_ref03_Pool_Take_L3 e K) : ∃ f s, K f s ∧ Rep N a (lit_ref03_Pool_Take_L3 f s) := by
  unfold dec_ref03_Pool_Take_L3 at h0
  obtain ⟨u1, g0, h1⟩ := onV_elim h0
  obtain ⟨p_3, rfl, h2⟩ := asP_elim h1
  obtain ⟨u2, g1, h3⟩ := onV_elim h2
  obtain ⟨n_3, rfl, h4⟩ := asI_elim h3
  obtain ⟨u3, g9, h5⟩ := onV_elim h4
  obtain ⟨atx, rfl, h6⟩ := asI_elim h5
  obtain ⟨u4, g10, h7⟩ := onV_elim h6
  obtain ⟨k_1, rfl, h8⟩ := asI_elim h7
  exact ⟨_, _, h8, rep_less hr (by simp [lit_ref03_Pool_Take_L3, g0, g1, g9, g10])⟩

def spec_ref03_Pool_Take_L3 (Q : Post) (e : Env) (w : World) : Prop :=
  dec_ref03_Pool_Take_L3 e fun f s => F_ref03_Pool_Take_L3 f.1 f.2.1 f.2.2 s w (fun w1 => Q (.exit 4) [⟨9, .int .i64 f.2.2, none⟩] w1)

def G_ref03_Pool_Take : Gen where
  loop := lookL [([false, true, false, true, true, true], spec_ref03_Pool_Take_L1), ([false, true, false, false, true, false, false, true, false, false, true, false, true, true, true], spec_ref03_Pool_Take_L2), ([false, true, false, true, true, true, true, true, true], spec_ref03_Pool_Take_L3)]
  plan := fun id =>
    bif Nat.beq id 11 then some ([0, 1, 3, 7, 0, 0, 48, 112, 240, 0, 1008, 2047, 4095], .take 0 (.take 1 (.take 2 (.take 3 (.take 4 (.take 5 (.take 6 (.take 7 (.take 8 (.take 9 (.take 10 (.take 11 (.take 12 .done))))))))))))) else
    bif Nat.beq id 13 then some ([0, 0, 2, 6, 14, 0, 32, 96, 224, 480, 1022, 2047], .take 0 (.take 1 (.take 2 (.take 3 (.take 4 (.take 5 (.take 6 (.take 7 (.take 8 (.take 9 (.take 10 (.take 11 .done)))))))))))) else none

def dx_ref03_Pool_Take_L1_0 (e : Env) (K : ((Option Addr) × Int × (Option Addr) × Nat × Nat) → Prop) : Prop :=
  onV (getV e 0) fun u1 =>
  asP u1 fun p_1 =>
  onV (getV e 1) fun u2 =>
  asI .i64 u2 fun n_1 =>
  onV (getV e 6) fun u3 =>
  asS u3 fun lP lN lC =>
    K (p_1, n_1, lP, lN, lC)

def dx_ref03_Pool_Take_L1_ret (e : Env) (K : ((Option Addr) × Int × (Option Addr) × Nat × Nat) → Int → Int → Prop) : Prop :=
  onV (getV e 0) fun u1 =>
  asP u1 fun p_1 =>
  onV (getV e 1) fun u2 =>
  asI .i64 u2 fun n_1 =>
  onV (getV e 6) fun u3 =>
  asS u3 fun lP lN lC =>
  onV (getV e 4) fun u4 =>
  asI .i64 u4 fun t4 =>
  onV (getV e 5) fun u5 =>
  asI .i64 u5 fun t5 =>
    K (p_1, n_1, lP, lN, lC) t4 t5

theorem body_ref03_Pool_Take_L1 (f : (Option Addr) × Int × (Option Addr) × Nat × Nat) (s : S_ref03_Pool_Take_L1) (w : World) (Kn : ((Option Addr) × Int × (Option Addr) × Nat × Nat) → S_ref03_Pool_Take_L1 → World → Prop) (Kx0 : ((Option Addr) × Int × (Option Addr) × Nat × Nat) → World → Prop) (Kr : ((Option Addr) × Int × (Option Addr) × Nat × Nat) → Int → Int → World → Prop) :
    B_ref03_Pool_Take_L1 f.1 f.2.1 f.2.2.1 f.2.2.2.1 f.2.2.2.2 s w (fun s1 w1 => Kn f s1 w1) (fun w1 => Kx0 f w1) (fun t4 t5 w1 => Kr f t4 t5 w1) =
    den Try.prog Try.f37.ntmps G_ref03_Pool_Take (sub (codeOf Try.f37) [false, false, true, false, true, true, true]) [false, false, true, false, true, true, true] (roundQ (fun e w => dec_ref03_Pool_Take_L1 e fun f s => Kn f s w) (fun e w => dx_ref03_Pool_Take_L1_ret e fun f t4 t5 => Kr f t4 t5 w) (fun id e w => match Nat.beq id 0 with | true => dx_ref03_Pool_Take_L1_0 e fun f => Kx0 f w | false => False)) (lit_ref03_Pool_Take_L1 f s) w := by kernel_rfl

def dx_ref03_Pool_Take_L2_2 (e : Env) (K : ((Option Addr) × Int × (Option Addr) × Nat × Nat × Int) → Prop) : Prop :=
  onV (getV e 0) fun u1 =>
  asP u1 fun p_2 =>
  onV (getV e 1) fun u2 =>
  asI .i64 u2 fun n_2 =>
  onV (getV e 6) fun u3 =>
  asS u3 fun lP_1 lN_1 lC_1 =>
  onV (getV e 7) fun u4 =>
  asI .i64 u4 fun i_1 =>
    K (p_2, n_2, lP_1, lN_1, lC_1, i_1)

theorem body_ref03_Pool_Take_L2 (f : (Option Addr) × Int × (Option Addr) × Nat × Nat × Int) (s : S_ref03_Pool_Take_L2) (w : World) (Kn : ((Option Addr) × Int × (Option Addr) × Nat × Nat × Int) → S_ref03_Pool_Take_L2 → World → Prop) (Kx2 : ((Option Addr) × Int × (Option Addr) × Nat × Nat × Int) → World → Prop) :
    B_ref03_Pool_Take_L2 f.1 f.2.1 f.2.2.1 f.2.2.2.1 f.2.2.2.2.1 f.2.2.2.2.2 s w (fun s1 w1 => Kn f s1 w1) (fun w1 => Kx2 f w1) =
    den Try.prog Try.f37.ntmps G_ref03_Pool_Take (sub (codeOf Try.f37) [false, false, true, false, false, true, false, false, true, false, false, true, false, true, true, true]) [false, false, true, false, false, true, false, false, true, false, false, true, false, true, true, true] (roundQ (fun e w => dec_ref03_Pool_Take_L2 e fun f s => Kn f s w) (fun e w => False) (fun id e w => match Nat.beq id 2 with | true => dx_ref03_Pool_Take_L2_2 e fun f => Kx2 f w | false => False)) (lit_ref03_Pool_Take_L2 f s) w := by kernel_rfl

def dx_ref03_Pool_Take_L3_4 (e : Env) (K : ((Option Addr) × Int × Int) → Prop) : Prop :=
  onV (getV e 0) fun u1 =>
  asP u1 fun p_3 =>
  onV (getV e 1) fun u2 =>
  asI .i64 u2 fun n_3 =>
  onV (getV e 9) fun u3 =>
  asI .i64 u3 fun atx =>
    K (p_3, n_3, atx)

theorem body_ref03_Pool_Take_L3 (f : (Option Addr) × Int × Int) (s : S_ref03_Pool_Take_L3) (w : World) (Kn : ((Option Addr) × Int × Int) → S_ref03_Pool_Take_L3 → World → Prop) (Kx4 : ((Option Addr) × Int × Int) → World → Prop) :
    B_ref03_Pool_Take_L3 f.1 f.2.1 f.2.2 s w (fun s1 w1 => Kn f s1 w1) (fun w1 => Kx4 f w1) =
    den Try.prog Try.f37.ntmps G_ref03_Pool_Take (sub (codeOf Try.f37) [false, false, true, false, true, true, true, true, true, true]) [false, false, true, false, true, true, true, true, true, true] (roundQ (fun e w => dec_ref03_Pool_Take_L3 e fun f s => Kn f s w) (fun e w => False) (fun id e w => match Nat.beq id 4 with | true => dx_ref03_Pool_Take_L3_4 e fun f => Kx4 f w | false => False)) (lit_ref03_Pool_Take_L3 f s) w := by kernel_rfl

theorem ok_ref03_Pool_Take_L1 : OneOk Try.prog Try.f37.ntmps G_ref03_Pool_Take (codeOf Try.f37) [false, true, false, true, true, true] spec_ref03_Pool_Take_L1 := by
  intro c hc ih Q e w a hr h
  have hcc : sub (codeOf Try.f37) [false, false, true, false, true, true, true] = c := sub_of_codeAt hc
  obtain ⟨f, s, h, hrep⟩ := dec_ref03_Pool_Take_L1_ok e a _ hr h
  obtain ⟨J, μ, hj, hround⟩ := h
  refine loop_rule_deep seat_ok seat_mixed ih lit_ref03_Pool_Take_L1 dec_ref03_Pool_Take_L1 dec_ref03_Pool_Take_L1_ok hc f J μ (Kr := fun e w => dx_ref03_Pool_Take_L1_ret e fun f1 t4 t5 => f1 = f ∧ Q .ret [⟨4, .int .i64 t4, none⟩, ⟨5, .int .i64 t5, none⟩] w) (Kx := fun id e w => match Nat.beq id 0 with | true => (dx_ref03_Pool_Take_L1_0 e fun f1 => f1 = f ∧ Q (.exit 0) [⟨0, .pointer f.1, none⟩, ⟨1, .int .i64 f.2.1, none⟩] w) | false => False) ?_ ?_ ?_ s w a hj hrep
  · intro e a w hr h0
    unfold dx_ref03_Pool_Take_L1_ret at h0
    obtain ⟨u1, g0, h1⟩ := onV_elim h0
    obtain ⟨p_1, rfl, h2⟩ := asP_elim h1
    obtain ⟨u2, g1, h3⟩ := onV_elim h2
    obtain ⟨n_1, rfl, h4⟩ := asI_elim h3
    obtain ⟨u3, g6, h5⟩ := onV_elim h4
    obtain ⟨lP, lN, lC, rfl, h6⟩ := asS_elim h5
    obtain ⟨u4, g4, h7⟩ := onV_elim h6
    obtain ⟨t4, rfl, h8⟩ := asI_elim h7
    obtain ⟨u5, g5, h9⟩ := onV_elim h8
    obtain ⟨t5, rfl, h10⟩ := asI_elim h9
    obtain ⟨hf, hq⟩ := h10
    subst hf
    exact ⟨_, rep_less hr (by simp [g4, g5]), hq⟩
  · intro id e a w hr h0
    (try dsimp only at h0)
    split at h0
    · rename_i hid
      obtain rfl := Nat.eq_of_beq_eq_true hid
      unfold dx_ref03_Pool_Take_L1_0 at h0
      obtain ⟨u1, g0, h1⟩ := onV_elim h0
      obtain ⟨p_1, rfl, h2⟩ := asP_elim h1
      obtain ⟨u2, g1, h3⟩ := onV_elim h2
      obtain ⟨n_1, rfl, h4⟩ := asI_elim h3
      obtain ⟨u3, g6, h5⟩ := onV_elim h4
      obtain ⟨lP, lN, lC, rfl, h6⟩ := asS_elim h5
      obtain ⟨hf, hq⟩ := h6
      subst hf
      exact ⟨_, rep_less hr (by simp [g0, g1]), hq⟩
    · exact h0.elim
  · intro s w hj
    have hb := hround s w hj
    rw [← hcc]
    have e1 := body_ref03_Pool_Take_L1 f s w (fun f1 s1 w1 => f1 = f ∧ J s1 w1 ∧ μ s1 w1 < μ s w) (fun f1 w1 => f1 = f ∧ Q (.exit 0) [⟨0, .pointer f.1, none⟩, ⟨1, .int .i64 f.2.1, none⟩] w1) (fun f1 t4 t5 w1 => f1 = f ∧ Q .ret [⟨4, .int .i64 t4, none⟩, ⟨5, .int .i64 t5, none⟩] w1)
    simp only [true_and] at e1
    exact cast e1 hb

theorem ok_ref03_Pool_Take_L2 : OneOk Try.prog Try.f37.ntmps G_ref03_Pool_Take (codeOf Try.f37) [false, true, false, false, true, false, false, true, false, false, true, false, true, true, true] spec_ref03_Pool_Take_L2 := by
  intro c hc ih Q e w a hr h
  have hcc : sub (codeOf Try.f37) [false, false, true, false, false, true, false, false, true, false, false, true, false, true, true, true] = c := sub_of_codeAt hc
  obtain ⟨f, s, h, hrep⟩ := dec_ref03_Pool_Take_L2_ok e a _ hr h
  obtain ⟨J, μ, hj, hround⟩ := h
  refine loop_rule_deep seat_ok seat_mixed ih lit_ref03_Pool_Take_L2 dec_ref03_Pool_Take_L2 dec_ref03_Pool_Take_L2_ok hc f J μ (Kr := fun e w => False) (Kx := fun id e w => match Nat.beq id 2 with | true => (dx_ref03_Pool_Take_L2_2 e fun f1 => f1 = f ∧ Q (.exit 2) [⟨0, .pointer f.1, none⟩, ⟨1, .int .i64 f.2.1, none⟩, ⟨6, .slice f.2.2.1 f.2.2.2.1 f.2.2.2.2.1, none⟩, ⟨7, .int .i64 f.2.2.2.2.2, none⟩] w) | false => False) ?_ ?_ ?_ s w a hj hrep
  · intro e a w hr h
    exact h.elim
  · intro id e a w hr h0
    (try dsimp only at h0)
    split at h0
    · rename_i hid
      obtain rfl := Nat.eq_of_beq_eq_true hid
      unfold dx_ref03_Pool_Take_L2_2 at h0
      obtain ⟨u1, g0, h1⟩ := onV_elim h0
      obtain ⟨p_2, rfl, h2⟩ := asP_elim h1
      obtain ⟨u2, g1, h3⟩ := onV_elim h2
      obtain ⟨n_2, rfl, h4⟩ := asI_elim h3
      obtain ⟨u3, g6, h5⟩ := onV_elim h4
      obtain ⟨lP_1, lN_1, lC_1, rfl, h6⟩ := asS_elim h5
      obtain ⟨u4, g7, h7⟩ := onV_elim h6
      obtain ⟨i_1, rfl, h8⟩ := asI_elim h7
      obtain ⟨hf, hq⟩ := h8
      subst hf
      exact ⟨_, rep_less hr (by simp [g0, g1, g6, g7]), hq⟩
    · exact h0.elim
  · intro s w hj
    have hb := hround s w hj
    rw [← hcc]
    have e1 := body_ref03_Pool_Take_L2 f s w (fun f1 s1 w1 => f1 = f ∧ J s1 w1 ∧ μ s1 w1 < μ s w) (fun f1 w1 => f1 = f ∧ Q (.exit 2) [⟨0, .pointer f.1, none⟩, ⟨1, .int .i64 f.2.1, none⟩, ⟨6, .slice f.2.2.1 f.2.2.2.1 f.2.2.2.2.1, none⟩, ⟨7, .int .i64 f.2.2.2.2.2, none⟩] w1)
    simp only [true_and] at e1
    exact cast e1 hb

theorem ok_ref03_Pool_Take_L3 : OneOk Try.prog Try.f37.ntmps G_ref03_Pool_Take (codeOf Try.f37) [false, true, false, true, true, true, true, true, true] spec_ref03_Pool_Take_L3 := by
  intro c hc ih Q e w a hr h
  have hcc : sub (codeOf Try.f37) [false, false, true, false, true, true, true, true, true, true] = c := sub_of_codeAt hc
  obtain ⟨f, s, h, hrep⟩ := dec_ref03_Pool_Take_L3_ok e a _ hr h
  obtain ⟨J, μ, hj, hround⟩ := h
  refine loop_rule_deep seat_ok seat_mixed ih lit_ref03_Pool_Take_L3 dec_ref03_Pool_Take_L3 dec_ref03_Pool_Take_L3_ok hc f J μ (Kr := fun e w => False) (Kx := fun id e w => match Nat.beq id 4 with | true => (dx_ref03_Pool_Take_L3_4 e fun f1 => f1 = f ∧ Q (.exit 4) [⟨9, .int .i64 f.2.2, none⟩] w) | false => False) ?_ ?_ ?_ s w a hj hrep
  · intro e a w hr h
    exact h.elim
  · intro id e a w hr h0
    (try dsimp only at h0)
    split at h0
    · rename_i hid
      obtain rfl := Nat.eq_of_beq_eq_true hid
      unfold dx_ref03_Pool_Take_L3_4 at h0
      obtain ⟨u1, g0, h1⟩ := onV_elim h0
      obtain ⟨p_3, rfl, h2⟩ := asP_elim h1
      obtain ⟨u2, g1, h3⟩ := onV_elim h2
      obtain ⟨n_3, rfl, h4⟩ := asI_elim h3
      obtain ⟨u3, g9, h5⟩ := onV_elim h4
      obtain ⟨atx, rfl, h6⟩ := asI_elim h5
      obtain ⟨hf, hq⟩ := h6
      subst hf
      exact ⟨_, rep_less hr (by simp [g9]), hq⟩
    · exact h0.elim
  · intro s w hj
    have hb := hround s w hj
    rw [← hcc]
    have e1 := body_ref03_Pool_Take_L3 f s w (fun f1 s1 w1 => f1 = f ∧ J s1 w1 ∧ μ s1 w1 < μ s w) (fun f1 w1 => f1 = f ∧ Q (.exit 4) [⟨9, .int .i64 f.2.2, none⟩] w1)
    simp only [true_and] at e1
    exact cast e1 hb

theorem loops_ref03_Pool_Take : LoopOk Try.prog Try.f37.ntmps G_ref03_Pool_Take (codeOf Try.f37) := loopOk_list rfl ⟨ok_ref03_Pool_Take_L1, ⟨ok_ref03_Pool_Take_L2, ⟨ok_ref03_Pool_Take_L3, trivial⟩⟩⟩

theorem den_ref03_Pool_Take (p : Option Addr) (n : Int) (w : World) (R : Value → World → Prop) :
    F_ref03_Pool_Take p n w (fun r0 r1 w1 => R (.tuple #[.int .i64 r0, .int .i64 r1]) w1) = den Try.prog Try.f37.ntmps G_ref03_Pool_Take (codeOf Try.f37) [] (postD Try.prog Try.f37.results.toList R) (entry [.pointer p, .int .i64 n] 0) w := by kernel_rfl

theorem C_ref03_Pool_Take.of {p : Option Addr} {n : Int} {w : World} {R : Int → Int → World → Prop} (h : F_ref03_Pool_Take p n w R) : C_ref03_Pool_Take p n w R := by
  refine (calls_of_den (c := codeOf Try.f37) seat_ok seat_mixed Try.func37 (by kernel_rfl) loops_ref03_Pool_Take (args := [.pointer p, .int .i64 n]) rfl (R := fun v w1 => ∃ (r0 : Int) (r1 : Int), v = (.tuple #[.int .i64 r0, .int .i64 r1] : Value) ∧ R r0 r1 w1) ?_).mono ?_
  · rw [← den_ref03_Pool_Take]
    have e : (fun r0 r1 w1 => ∃ (r0' : Int) (r1' : Int), (.tuple #[.int .i64 r0, .int .i64 r1] : Value) = (.tuple #[.int .i64 r0', .int .i64 r1'] : Value) ∧ R r0' r1' w1) = R := by
      funext r0 r1 w1
      exact propext ⟨fun ⟨r0', r1', he, h⟩ => by simp at he; simp_all, fun h => ⟨_, _, rfl, h⟩⟩
    simpa only [e] using h
  · rintro en w1 ⟨v, he, r0, r1, rfl, h⟩
    exact ⟨_, _, he, h⟩

structure S_ref03_Pool_Give_L1 where
  k : Int

structure S_ref03_Pool_Give_L2 where
  k_1 : Int

def F_ref03_Pool_Give_k1 (R : Int → World → Prop) (w1_2 : World) : Prop :=
  R (1 : Int) w1_2

/-- One round. -/
def B_ref03_Pool_Give_L1 (p_1 : Option Addr) (atx_1 : Int) (n_1 : Int) (s : S_ref03_Pool_Give_L1) (w : World) (Kn : S_ref03_Pool_Give_L1 → World → Prop) (Kx0 : World → Prop) (Kr : Int → World → Prop) : Prop :=
  If (decide ((s.k : Int) < n_1))
  (NN p_1 fun a_2 =>
  ∃ FP_2 : Option Addr, ∃ FN_2 : Nat, ∃ FC_2 : Nat, w.cell? (a_2.add 0) = some (.slice FP_2 FN_2 FC_2) ∧
  0 ≤ (IntKind.i64.wrap (atx_1 + (s.k : Int))) ∧ (IntKind.i64.wrap (atx_1 + (s.k : Int))) < (FN_2 : Int) ∧ NN FP_2 fun a_3 =>
  ∃ t60 : Bool, w.cell? (a_3.add ((IntKind.i64.wrap (atx_1 + (s.k : Int))).toNat * 1)) = some (.bool t60) ∧
  If t60
  (Kr (1 : Int) w)
  (Kn ⟨(IntKind.i64.wrap ((s.k : Int) + (1 : Int)))⟩ w))
  (Kx0 w)

def F_ref03_Pool_Give_L1 (p_1 : Option Addr) (atx_1 : Int) (n_1 : Int) (s : S_ref03_Pool_Give_L1) (w : World) (Kx0 : World → Prop) (Kr : Int → World → Prop) : Prop :=
  LoopS (fun s w Kn => B_ref03_Pool_Give_L1 p_1 atx_1 n_1 s w Kn Kx0 Kr) s w

/-- One round. -/
def B_ref03_Pool_Give_L2 (p_2 : Option Addr) (atx_2 : Int) (n_2 : Int) (s : S_ref03_Pool_Give_L2) (w : World) (Kn : S_ref03_Pool_Give_L2 → World → Prop) (Kx2 : World → Prop) : Prop :=
  If (decide ((s.k_1 : Int) < n_2))
  (NN p_2 fun a_4 =>
  ∃ FP_3 : Option Addr, ∃ FN_3 : Nat, ∃ FC_3 : Nat, w.cell? (a_4.add 0) = some (.slice FP_3 FN_3 FC_3) ∧
  0 ≤ (IntKind.i64.wrap (atx_2 + (s.k_1 : Int))) ∧ (IntKind.i64.wrap (atx_2 + (s.k_1 : Int))) < (FN_3 : Int) ∧ NN FP_3 fun a_5 =>
  St w ((a_5.add ((IntKind.i64.wrap (atx_2 + (s.k_1 : Int))).toNat * 1)).add 0) (.bool true) fun w1_5 =>
  Kn ⟨(IntKind.i64.wrap ((s.k_1 : Int) + (1 : Int)))⟩ w1_5)
  (Kx2 w)

def F_ref03_Pool_Give_L2 (p_2 : Option Addr) (atx_2 : Int) (n_2 : Int) (s : S_ref03_Pool_Give_L2) (w : World) (Kx2 : World → Prop) : Prop :=
  LoopS (fun s w Kn => B_ref03_Pool_Give_L2 p_2 atx_2 n_2 s w Kn Kx2) s w

def F_ref03_Pool_Give (p : Option Addr) (atx : Int) (n : Int) (w : World) (R : Int → World → Prop) : Prop :=
  If (decide (n < (1 : Int)))
  (F_ref03_Pool_Give_k1 R w)
  (If (decide (atx < (0 : Int)))
  (F_ref03_Pool_Give_k1 R w)
  (NN p fun a =>
  ∃ FP : Option Addr, ∃ FN : Nat, ∃ FC : Nat, w.cell? (a.add 0) = some (.slice FP FN FC) ∧
  If (decide (atx ≥ (FN : Int)))
  (F_ref03_Pool_Give_k1 R w)
  (NN p fun a_1 =>
  ∃ FP_1 : Option Addr, ∃ FN_1 : Nat, ∃ FC_1 : Nat, w.cell? (a_1.add 0) = some (.slice FP_1 FN_1 FC_1) ∧
  If (decide (n > (IntKind.i64.wrap ((FN_1 : Int) - atx))))
  (F_ref03_Pool_Give_k1 R w)
  (C_ref03_Pool_Segment p atx w fun t38 w1 =>
  C_ref03_Pool_Segment p (IntKind.i64.wrap ((IntKind.i64.wrap (atx + n)) - (1 : Int))) w1 fun t44 w1_1 =>
  If (t38 != t44)
  (R (1 : Int) w1_1)
  (F_ref03_Pool_Give_L1 p atx n ⟨(0 : Int)⟩ w1_1
  (fun w1_3 =>
  F_ref03_Pool_Give_L2 p atx n ⟨(0 : Int)⟩ w1_3
  (fun w1_6 =>
  R (0 : Int) w1_6))
  (fun t6_1 w1_4 =>
  R t6_1 w1_4))))))

def lit_ref03_Pool_Give_L1 (f : (Option Addr) × Int × Int) (s : S_ref03_Pool_Give_L1) : Env := [⟨0, .pointer f.1, none⟩, ⟨1, .int .i64 f.2.1, none⟩, ⟨2, .int .i64 f.2.2, none⟩, ⟨7, .int .i64 s.k, none⟩]

def dec_ref03_Pool_Give_L1 (e : Env) (K : ((Option Addr) × Int × Int) → S_ref03_Pool_Give_L1 → Prop) : Prop :=
  onV (getV e 0) fun u1 =>
  asP u1 fun p_1 =>
  onV (getV e 1) fun u2 =>
  asI .i64 u2 fun atx_1 =>
  onV (getV e 2) fun u3 =>
  asI .i64 u3 fun n_1 =>
  onV (getV e 7) fun u4 =>
  asI .i64 u4 fun k =>
    K (p_1, atx_1, n_1) ⟨k⟩

theorem dec_ref03_Pool_Give_L1_ok {N : Nat} (e : Env) (a : Act) (K : ((Option Addr) × Int × Int) → S_ref03_Pool_Give_L1 → Prop) (hr : Rep N a e) (h0 : dec_ref03_Pool_Give_L1 e K) : ∃ f s, K f s ∧ Rep N a (lit_ref03_Pool_Give_L1 f s) := by
  unfold dec_ref03_Pool_Give_L1 at h0
  obtain ⟨u1, g0, h1⟩ := onV_elim h0
  obtain ⟨p_1, rfl, h2⟩ := asP_elim h1
  obtain ⟨u2, g1, h3⟩ := onV_elim h2
  obtain ⟨atx_1, rfl, h4⟩ := asI_elim h3
  obtain ⟨u3, g2, h5⟩ := onV_elim h4
  obtain ⟨n_1, rfl, h6⟩ := asI_elim h5
  obtain ⟨u4, g7, h7⟩ := onV_elim h6
  obtain ⟨k, rfl, h8⟩ := asI_elim h7
  exact ⟨_, _, h8, rep_less hr (by simp [lit_ref03_Pool_Give_L1, g0, g1, g2, g7])⟩

def spec_ref03_Pool_Give_L1 (Q : Post) (e : Env) (w : World) : Prop :=
  dec_ref03_Pool_Give_L1 e fun f s => F_ref03_Pool_Give_L1 f.1 f.2.1 f.2.2 s w (fun w1 => Q (.exit 0) [⟨0, .pointer f.1, none⟩, ⟨1, .int .i64 f.2.1, none⟩, ⟨2, .int .i64 f.2.2, none⟩] w1) (fun t6 w1 => Q .ret [⟨6, .int .i64 t6, none⟩] w1)

def lit_ref03_Pool_Give_L2 (f : (Option Addr) × Int × Int) (s : S_ref03_Pool_Give_L2) : Env := [⟨0, .pointer f.1, none⟩, ⟨1, .int .i64 f.2.1, none⟩, ⟨2, .int .i64 f.2.2, none⟩, ⟨8, .int .i64 s.k_1, none⟩]

def dec_ref03_Pool_Give_L2 (e : Env) (K : ((Option Addr) × Int × Int) → S_ref03_Pool_Give_L2 → Prop) : Prop :=
  onV (getV e 0) fun u1 =>
  asP u1 fun p_2 =>
  onV (getV e 1) fun u2 =>
  asI .i64 u2 fun atx_2 =>
  onV (getV e 2) fun u3 =>
  asI .i64 u3 fun n_2 =>
  onV (getV e 8) fun u4 =>
  asI .i64 u4 fun k_1 =>
    K (p_2, atx_2, n_2) ⟨k_1⟩

theorem dec_ref03_Pool_Give_L2_ok {N : Nat} (e : Env) (a : Act) (K : ((Option Addr) × Int × Int) → S_ref03_Pool_Give_L2 → Prop) (hr : Rep N a e) (h0 : dec_ref03_Pool_Give_L2 e K) : ∃ f s, K f s ∧ Rep N a (lit_ref03_Pool_Give_L2 f s) := by
  unfold dec_ref03_Pool_Give_L2 at h0
  obtain ⟨u1, g0, h1⟩ := onV_elim h0
  obtain ⟨p_2, rfl, h2⟩ := asP_elim h1
  obtain ⟨u2, g1, h3⟩ := onV_elim h2
  obtain ⟨atx_2, rfl, h4⟩ := asI_elim h3
  obtain ⟨u3, g2, h5⟩ := onV_elim h4
  obtain ⟨n_2, rfl, h6⟩ := asI_elim h5
  obtain ⟨u4, g8, h7⟩ := onV_elim h6
  obtain ⟨k_1, rfl, h8⟩ := asI_elim h7
  exact ⟨_, _, h8, rep_less hr (by simp [lit_ref03_Pool_Give_L2, g0, g1, g2, g8])⟩

def spec_ref03_Pool_Give_L2 (Q : Post) (e : Env) (w : World) : Prop :=
  dec_ref03_Pool_Give_L2 e fun f s => F_ref03_Pool_Give_L2 f.1 f.2.1 f.2.2 s w (fun w1 => Q (.exit 2) [] w1)

def G_ref03_Pool_Give : Gen where
  loop := lookL [([false, true, false, true, true], spec_ref03_Pool_Give_L1), ([false, true, false, true, true, true], spec_ref03_Pool_Give_L2)]
  plan := fun _ => none

def dx_ref03_Pool_Give_L1_0 (e : Env) (K : ((Option Addr) × Int × Int) → Prop) : Prop :=
  onV (getV e 0) fun u1 =>
  asP u1 fun p_1 =>
  onV (getV e 1) fun u2 =>
  asI .i64 u2 fun atx_1 =>
  onV (getV e 2) fun u3 =>
  asI .i64 u3 fun n_1 =>
    K (p_1, atx_1, n_1)

def dx_ref03_Pool_Give_L1_ret (e : Env) (K : ((Option Addr) × Int × Int) → Int → Prop) : Prop :=
  onV (getV e 0) fun u1 =>
  asP u1 fun p_1 =>
  onV (getV e 1) fun u2 =>
  asI .i64 u2 fun atx_1 =>
  onV (getV e 2) fun u3 =>
  asI .i64 u3 fun n_1 =>
  onV (getV e 6) fun u4 =>
  asI .i64 u4 fun t6 =>
    K (p_1, atx_1, n_1) t6

theorem body_ref03_Pool_Give_L1 (f : (Option Addr) × Int × Int) (s : S_ref03_Pool_Give_L1) (w : World) (Kn : ((Option Addr) × Int × Int) → S_ref03_Pool_Give_L1 → World → Prop) (Kx0 : ((Option Addr) × Int × Int) → World → Prop) (Kr : ((Option Addr) × Int × Int) → Int → World → Prop) :
    B_ref03_Pool_Give_L1 f.1 f.2.1 f.2.2 s w (fun s1 w1 => Kn f s1 w1) (fun w1 => Kx0 f w1) (fun t6 w1 => Kr f t6 w1) =
    den Try.prog Try.f38.ntmps G_ref03_Pool_Give (sub (codeOf Try.f38) [false, false, true, false, true, true]) [false, false, true, false, true, true] (roundQ (fun e w => dec_ref03_Pool_Give_L1 e fun f s => Kn f s w) (fun e w => dx_ref03_Pool_Give_L1_ret e fun f t6 => Kr f t6 w) (fun id e w => match Nat.beq id 0 with | true => dx_ref03_Pool_Give_L1_0 e fun f => Kx0 f w | false => False)) (lit_ref03_Pool_Give_L1 f s) w := by kernel_rfl

def dx_ref03_Pool_Give_L2_2 (e : Env) (K : ((Option Addr) × Int × Int) → Prop) : Prop :=
  onV (getV e 0) fun u1 =>
  asP u1 fun p_2 =>
  onV (getV e 1) fun u2 =>
  asI .i64 u2 fun atx_2 =>
  onV (getV e 2) fun u3 =>
  asI .i64 u3 fun n_2 =>
    K (p_2, atx_2, n_2)

theorem body_ref03_Pool_Give_L2 (f : (Option Addr) × Int × Int) (s : S_ref03_Pool_Give_L2) (w : World) (Kn : ((Option Addr) × Int × Int) → S_ref03_Pool_Give_L2 → World → Prop) (Kx2 : ((Option Addr) × Int × Int) → World → Prop) :
    B_ref03_Pool_Give_L2 f.1 f.2.1 f.2.2 s w (fun s1 w1 => Kn f s1 w1) (fun w1 => Kx2 f w1) =
    den Try.prog Try.f38.ntmps G_ref03_Pool_Give (sub (codeOf Try.f38) [false, false, true, false, true, true, true]) [false, false, true, false, true, true, true] (roundQ (fun e w => dec_ref03_Pool_Give_L2 e fun f s => Kn f s w) (fun e w => False) (fun id e w => match Nat.beq id 2 with | true => dx_ref03_Pool_Give_L2_2 e fun f => Kx2 f w | false => False)) (lit_ref03_Pool_Give_L2 f s) w := by kernel_rfl

theorem ok_ref03_Pool_Give_L1 : OneOk Try.prog Try.f38.ntmps G_ref03_Pool_Give (codeOf Try.f38) [false, true, false, true, true] spec_ref03_Pool_Give_L1 := by
  intro c hc ih Q e w a hr h
  have hcc : sub (codeOf Try.f38) [false, false, true, false, true, true] = c := sub_of_codeAt hc
  obtain ⟨f, s, h, hrep⟩ := dec_ref03_Pool_Give_L1_ok e a _ hr h
  obtain ⟨J, μ, hj, hround⟩ := h
  refine loop_rule_deep seat_ok seat_mixed ih lit_ref03_Pool_Give_L1 dec_ref03_Pool_Give_L1 dec_ref03_Pool_Give_L1_ok hc f J μ (Kr := fun e w => dx_ref03_Pool_Give_L1_ret e fun f1 t6 => f1 = f ∧ Q .ret [⟨6, .int .i64 t6, none⟩] w) (Kx := fun id e w => match Nat.beq id 0 with | true => (dx_ref03_Pool_Give_L1_0 e fun f1 => f1 = f ∧ Q (.exit 0) [⟨0, .pointer f.1, none⟩, ⟨1, .int .i64 f.2.1, none⟩, ⟨2, .int .i64 f.2.2, none⟩] w) | false => False) ?_ ?_ ?_ s w a hj hrep
  · intro e a w hr h0
    unfold dx_ref03_Pool_Give_L1_ret at h0
    obtain ⟨u1, g0, h1⟩ := onV_elim h0
    obtain ⟨p_1, rfl, h2⟩ := asP_elim h1
    obtain ⟨u2, g1, h3⟩ := onV_elim h2
    obtain ⟨atx_1, rfl, h4⟩ := asI_elim h3
    obtain ⟨u3, g2, h5⟩ := onV_elim h4
    obtain ⟨n_1, rfl, h6⟩ := asI_elim h5
    obtain ⟨u4, g6, h7⟩ := onV_elim h6
    obtain ⟨t6, rfl, h8⟩ := asI_elim h7
    obtain ⟨hf, hq⟩ := h8
    subst hf
    exact ⟨_, rep_less hr (by simp [g6]), hq⟩
  · intro id e a w hr h0
    (try dsimp only at h0)
    split at h0
    · rename_i hid
      obtain rfl := Nat.eq_of_beq_eq_true hid
      unfold dx_ref03_Pool_Give_L1_0 at h0
      obtain ⟨u1, g0, h1⟩ := onV_elim h0
      obtain ⟨p_1, rfl, h2⟩ := asP_elim h1
      obtain ⟨u2, g1, h3⟩ := onV_elim h2
      obtain ⟨atx_1, rfl, h4⟩ := asI_elim h3
      obtain ⟨u3, g2, h5⟩ := onV_elim h4
      obtain ⟨n_1, rfl, h6⟩ := asI_elim h5
      obtain ⟨hf, hq⟩ := h6
      subst hf
      exact ⟨_, rep_less hr (by simp [g0, g1, g2]), hq⟩
    · exact h0.elim
  · intro s w hj
    have hb := hround s w hj
    rw [← hcc]
    have e1 := body_ref03_Pool_Give_L1 f s w (fun f1 s1 w1 => f1 = f ∧ J s1 w1 ∧ μ s1 w1 < μ s w) (fun f1 w1 => f1 = f ∧ Q (.exit 0) [⟨0, .pointer f.1, none⟩, ⟨1, .int .i64 f.2.1, none⟩, ⟨2, .int .i64 f.2.2, none⟩] w1) (fun f1 t6 w1 => f1 = f ∧ Q .ret [⟨6, .int .i64 t6, none⟩] w1)
    simp only [true_and] at e1
    exact cast e1 hb

theorem ok_ref03_Pool_Give_L2 : OneOk Try.prog Try.f38.ntmps G_ref03_Pool_Give (codeOf Try.f38) [false, true, false, true, true, true] spec_ref03_Pool_Give_L2 := by
  intro c hc ih Q e w a hr h
  have hcc : sub (codeOf Try.f38) [false, false, true, false, true, true, true] = c := sub_of_codeAt hc
  obtain ⟨f, s, h, hrep⟩ := dec_ref03_Pool_Give_L2_ok e a _ hr h
  obtain ⟨J, μ, hj, hround⟩ := h
  refine loop_rule_deep seat_ok seat_mixed ih lit_ref03_Pool_Give_L2 dec_ref03_Pool_Give_L2 dec_ref03_Pool_Give_L2_ok hc f J μ (Kr := fun e w => False) (Kx := fun id e w => match Nat.beq id 2 with | true => (dx_ref03_Pool_Give_L2_2 e fun f1 => f1 = f ∧ Q (.exit 2) [] w) | false => False) ?_ ?_ ?_ s w a hj hrep
  · intro e a w hr h
    exact h.elim
  · intro id e a w hr h0
    (try dsimp only at h0)
    split at h0
    · rename_i hid
      obtain rfl := Nat.eq_of_beq_eq_true hid
      unfold dx_ref03_Pool_Give_L2_2 at h0
      obtain ⟨u1, g0, h1⟩ := onV_elim h0
      obtain ⟨p_2, rfl, h2⟩ := asP_elim h1
      obtain ⟨u2, g1, h3⟩ := onV_elim h2
      obtain ⟨atx_2, rfl, h4⟩ := asI_elim h3
      obtain ⟨u3, g2, h5⟩ := onV_elim h4
      obtain ⟨n_2, rfl, h6⟩ := asI_elim h5
      obtain ⟨hf, hq⟩ := h6
      subst hf
      exact ⟨_, rep_less hr (by simp), hq⟩
    · exact h0.elim
  · intro s w hj
    have hb := hround s w hj
    rw [← hcc]
    have e1 := body_ref03_Pool_Give_L2 f s w (fun f1 s1 w1 => f1 = f ∧ J s1 w1 ∧ μ s1 w1 < μ s w) (fun f1 w1 => f1 = f ∧ Q (.exit 2) [] w1)
    simp only [true_and] at e1
    exact cast e1 hb

theorem loops_ref03_Pool_Give : LoopOk Try.prog Try.f38.ntmps G_ref03_Pool_Give (codeOf Try.f38) := loopOk_list rfl ⟨ok_ref03_Pool_Give_L1, ⟨ok_ref03_Pool_Give_L2, trivial⟩⟩

theorem den_ref03_Pool_Give (p : Option Addr) (atx : Int) (n : Int) (w : World) (R : Value → World → Prop) :
    F_ref03_Pool_Give p atx n w (fun r w1 => R (.int .i64 r) w1) = den Try.prog Try.f38.ntmps G_ref03_Pool_Give (codeOf Try.f38) [] (postD Try.prog Try.f38.results.toList R) (entry [.pointer p, .int .i64 atx, .int .i64 n] 0) w := by kernel_rfl

theorem C_ref03_Pool_Give.of {p : Option Addr} {atx : Int} {n : Int} {w : World} {R : Int → World → Prop} (h : F_ref03_Pool_Give p atx n w R) : C_ref03_Pool_Give p atx n w R := by
  refine (calls_of_den (c := codeOf Try.f38) seat_ok seat_mixed Try.func38 (by kernel_rfl) loops_ref03_Pool_Give (args := [.pointer p, .int .i64 atx, .int .i64 n]) rfl (R := fun v w1 => ∃ (r : Int), v = (.int .i64 r : Value) ∧ R r w1) ?_).mono ?_
  · rw [← den_ref03_Pool_Give]
    have e : (fun r w1 => ∃ (r' : Int), (.int .i64 r : Value) = (.int .i64 r' : Value) ∧ R r' w1) = R := by
      funext r w1
      exact propext ⟨fun ⟨r', he, h⟩ => by simp at he; simp_all, fun h => ⟨_, rfl, h⟩⟩
    simpa only [e] using h
  · rintro en w1 ⟨v, he, r, rfl, h⟩
    exact ⟨_, he, h⟩

def F_ref03_Pool_Open (p : Option Addr) (w : World) (R : Int → World → Prop) : Prop :=
  NN p fun a =>
  ∃ StartsP : Option Addr, ∃ StartsN : Nat, ∃ StartsC : Nat, w.cell? (a.add 1) = some (.slice StartsP StartsN StartsC) ∧
  If (decide ((StartsN : Int) ≥ (4096 : Int)))
  (R (2 : Int) w)
  (NN p fun a_1 =>
  ∃ StartsP_1 : Option Addr, ∃ StartsN_1 : Nat, ∃ StartsC_1 : Nat, (drw w).cell? (a_1.add 1) = some (.slice StartsP_1 StartsN_1 StartsC_1) ∧
  NN p fun a_2 =>
  ∃ FP : Option Addr, ∃ FN : Nat, ∃ FC : Nat, (drw w).cell? (a_2.add 0) = some (.slice FP FN FC) ∧
  BSl Try.prog 33 1 [(0, .int .i64 (FN : Int))] (drw w) fun t19P t19N t19C w1 =>
  w1.cell? (a_1.add 1) = (drw w).cell? (a_1.add 1) ∧
  App Try.prog #[33, 33] 33 #[.slice StartsP_1 StartsN_1 StartsC_1, .slice t19P t19N t19C] w1 fun t20P t20N t20C w1_1 =>
  NN p fun a_3 =>
  St w1_1 ((a_3.add 1).add 0) (.slice t20P t20N t20C) fun w1_2 =>
  R (0 : Int) w1_2)

def G_ref03_Pool_Open : Gen where
  loop := lookL []
  plan := fun id =>
    bif Nat.beq id 3 then some ([0, 0, 2, 6, 14, 0, 32, 96, 224, 480, 992, 2046, 4095, 8191, 16383], .take 0 (.take 1 (.take 2 (.take 3 (.take 4 (.take 5 (.take 6 (.take 7 (.take 8 (.take 9 (.take 10 (.take 11 (.take 12 (.take 13 (.take 14 .done))))))))))))))) else none

theorem loops_ref03_Pool_Open : LoopOk Try.prog Try.f39.ntmps G_ref03_Pool_Open (codeOf Try.f39) := loopOk_none fun _ => rfl

theorem den_ref03_Pool_Open (p : Option Addr) (w : World) (R : Value → World → Prop) :
    F_ref03_Pool_Open p w (fun r w1 => R (.int .i64 r) w1) = den Try.prog Try.f39.ntmps G_ref03_Pool_Open (codeOf Try.f39) [] (postD Try.prog Try.f39.results.toList R) (entry [.pointer p] 0) w := by kernel_rfl

theorem C_ref03_Pool_Open.of {p : Option Addr} {w : World} {R : Int → World → Prop} (h : F_ref03_Pool_Open p w R) : C_ref03_Pool_Open p w R := by
  refine (calls_of_den (c := codeOf Try.f39) seat_ok seat_mixed Try.func39 (by kernel_rfl) loops_ref03_Pool_Open (args := [.pointer p]) rfl (R := fun v w1 => ∃ (r : Int), v = (.int .i64 r : Value) ∧ R r w1) ?_).mono ?_
  · rw [← den_ref03_Pool_Open]
    have e : (fun r w1 => ∃ (r' : Int), (.int .i64 r : Value) = (.int .i64 r' : Value) ∧ R r' w1) = R := by
      funext r w1
      exact propext ⟨fun ⟨r', he, h⟩ => by simp at he; simp_all, fun h => ⟨_, rfl, h⟩⟩
    simpa only [e] using h
  · rintro en w1 ⟨v, he, r, rfl, h⟩
    exact ⟨_, he, h⟩

def F_ref03_Pool_Close (p : Option Addr) (w : World) (R : Int → World → Prop) : Prop :=
  NN p fun a =>
  ∃ StartsP : Option Addr, ∃ StartsN : Nat, ∃ StartsC : Nat, w.cell? (a.add 1) = some (.slice StartsP StartsN StartsC) ∧
  If ((StartsN : Int) == (1 : Int))
  (R (4 : Int) w)
  (NN p fun a_1 =>
  ∃ StartsP_1 : Option Addr, ∃ StartsN_1 : Nat, ∃ StartsC_1 : Nat, (drw w).cell? (a_1.add 1) = some (.slice StartsP_1 StartsN_1 StartsC_1) ∧
  NN p fun a_2 =>
  ∃ StartsP_2 : Option Addr, ∃ StartsN_2 : Nat, ∃ StartsC_2 : Nat, (drw w).cell? (a_2.add 1) = some (.slice StartsP_2 StartsN_2 StartsC_2) ∧
  0 ≤ (IntKind.i64.wrap ((StartsN_2 : Int) - (1 : Int))) ∧ (IntKind.i64.wrap ((StartsN_2 : Int) - (1 : Int))) ≤ (StartsC_1 : Int) ∧
  NN p fun a_3 =>
  St (drw w) ((a_3.add 1).add 0) (.slice StartsP_1 ((IntKind.i64.wrap ((StartsN_2 : Int) - (1 : Int))).toNat) StartsC_1) fun w1 =>
  R (0 : Int) w1)

def G_ref03_Pool_Close : Gen where
  loop := lookL []
  plan := fun id =>
    bif Nat.beq id 3 then some ([0, 0, 2, 6, 14, 0, 32, 96, 224, 480, 992, 2046, 4095, 8191, 16383], .take 0 (.take 1 (.take 2 (.take 3 (.take 4 (.take 5 (.take 6 (.take 7 (.take 8 (.take 9 (.take 10 (.take 11 (.take 12 (.take 13 (.take 14 .done))))))))))))))) else none

theorem loops_ref03_Pool_Close : LoopOk Try.prog Try.f40.ntmps G_ref03_Pool_Close (codeOf Try.f40) := loopOk_none fun _ => rfl

theorem den_ref03_Pool_Close (p : Option Addr) (w : World) (R : Value → World → Prop) :
    F_ref03_Pool_Close p w (fun r w1 => R (.int .i64 r) w1) = den Try.prog Try.f40.ntmps G_ref03_Pool_Close (codeOf Try.f40) [] (postD Try.prog Try.f40.results.toList R) (entry [.pointer p] 0) w := by kernel_rfl

theorem C_ref03_Pool_Close.of {p : Option Addr} {w : World} {R : Int → World → Prop} (h : F_ref03_Pool_Close p w R) : C_ref03_Pool_Close p w R := by
  refine (calls_of_den (c := codeOf Try.f40) seat_ok seat_mixed Try.func40 (by kernel_rfl) loops_ref03_Pool_Close (args := [.pointer p]) rfl (R := fun v w1 => ∃ (r : Int), v = (.int .i64 r : Value) ∧ R r w1) ?_).mono ?_
  · rw [← den_ref03_Pool_Close]
    have e : (fun r w1 => ∃ (r' : Int), (.int .i64 r : Value) = (.int .i64 r' : Value) ∧ R r' w1) = R := by
      funext r w1
      exact propext ⟨fun ⟨r', he, h⟩ => by simp at he; simp_all, fun h => ⟨_, rfl, h⟩⟩
    simpa only [e] using h
  · rintro en w1 ⟨v, he, r, rfl, h⟩
    exact ⟨_, he, h⟩

def F_ref03_Pool_Back (p : Option Addr) (w : World) (R : World → Prop) : Prop :=
  NN p fun a =>
  ∃ FP : Option Addr, ∃ FN : Nat, ∃ FC : Nat, (drw w).cell? (a.add 0) = some (.slice FP FN FC) ∧
  NN p fun a_1 =>
  ∃ StartsP : Option Addr, ∃ StartsN : Nat, ∃ StartsC : Nat, (drw w).cell? (a_1.add 1) = some (.slice StartsP StartsN StartsC) ∧
  NN p fun a_2 =>
  ∃ StartsP_1 : Option Addr, ∃ StartsN_1 : Nat, ∃ StartsC_1 : Nat, (drw w).cell? (a_2.add 1) = some (.slice StartsP_1 StartsN_1 StartsC_1) ∧
  0 ≤ (IntKind.i64.wrap ((StartsN_1 : Int) - (1 : Int))) ∧ (IntKind.i64.wrap ((StartsN_1 : Int) - (1 : Int))) < (StartsN : Int) ∧ NN StartsP fun a_3 =>
  ∃ t18 : Int, (drw w).cell? (a_3.add ((IntKind.i64.wrap ((StartsN_1 : Int) - (1 : Int))).toNat * 1)) = some (.int .i64 t18) ∧
  0 ≤ t18 ∧ t18 ≤ (FC : Int) ∧
  NN p fun a_4 =>
  St (drw w) ((a_4.add 0).add 0) (.slice FP t18.toNat FC) fun w1 =>
  R w1

def G_ref03_Pool_Back : Gen where
  loop := lookL []
  plan := fun id =>
    bif Nat.beq id 0 then some ([0, 0, 2, 6, 14, 0, 32, 96, 224, 0, 512, 1536, 3584, 7680, 15872, 32736, 65504, 131070, 262143, 524287, 1048575], .take 0 (.take 1 (.take 2 (.take 3 (.take 4 (.take 5 (.take 6 (.take 7 (.take 8 (.take 9 (.take 10 (.take 11 (.take 12 (.take 13 (.take 14 (.take 15 (.take 16 (.take 17 (.take 18 (.take 19 (.take 20 .done))))))))))))))))))))) else none

theorem loops_ref03_Pool_Back : LoopOk Try.prog Try.f41.ntmps G_ref03_Pool_Back (codeOf Try.f41) := loopOk_none fun _ => rfl

theorem den_ref03_Pool_Back (p : Option Addr) (w : World) (R : Value → World → Prop) :
    F_ref03_Pool_Back p w (fun w1 => R (.tuple #[]) w1) = den Try.prog Try.f41.ntmps G_ref03_Pool_Back (codeOf Try.f41) [] (postD Try.prog Try.f41.results.toList R) (entry [.pointer p] 0) w := by kernel_rfl

theorem C_ref03_Pool_Back.of {p : Option Addr} {w : World} {R : World → Prop} (h : F_ref03_Pool_Back p w R) : C_ref03_Pool_Back p w R := by
  refine (calls_of_den (c := codeOf Try.f41) seat_ok seat_mixed Try.func41 (by kernel_rfl) loops_ref03_Pool_Back (args := [.pointer p]) rfl (R := fun v w1 => v = (.tuple #[] : Value) ∧ R w1) ?_).mono ?_
  · rw [← den_ref03_Pool_Back]
    simpa using h
  · rintro en w1 ⟨v, he, rfl, h⟩
    exact ⟨he, h⟩

structure S_law03_sweep_L1 where
  askedP : Option Addr
  askedN : Nat
  askedC : Nat
  count : Int
  i : Int

def F_law03_sweep_k1 (s : S_law03_sweep_L1) (Kn : S_law03_sweep_L1 → World → Prop) (askedP_2 : Option Addr) (askedN_2 : Nat) (askedC_2 : Nat) (count_2 : Int) (w1_6 : World) : Prop :=
  Kn ⟨askedP_2, askedN_2, askedC_2, count_2, (IntKind.i64.wrap ((s.i : Int) + (1 : Int)))⟩ w1_6

/-- One round. -/
def B_law03_sweep_L1 (x_1 : Option Addr) (n_2 : Int) (sx : Addr) (gone : Int) (s : S_law03_sweep_L1) (w : World) (Kn : S_law03_sweep_L1 → World → Prop) (Kx0 : Option Addr → Nat → Nat → Int → World → Prop) : Prop :=
  NN x_1 fun a =>
  ∃ FP : Option Addr, ∃ FN : Nat, ∃ FC : Nat, w.cell? (a.add 0) = some (.slice FP FN FC) ∧
  If (decide ((s.i : Int) < (FN : Int)))
  (NN x_1 fun a_1 =>
  ∃ FP_1 : Option Addr, ∃ FN_1 : Nat, ∃ FC_1 : Nat, w.cell? (a_1.add 0) = some (.slice FP_1 FN_1 FC_1) ∧
  0 ≤ (s.i : Int) ∧ (s.i : Int) < (FN_1 : Int) ∧ NN FP_1 fun a_2 =>
  ∃ t40 : Bool, w.cell? (a_2.add ((s.i : Int).toNat * 1)) = some (.bool t40) ∧
  If t40
  (F_law03_sweep_k1 s Kn s.askedP s.askedN s.askedC (s.count : Int) w)
  (BSl Try.prog 33 1 [(0, .int .i64 s.i)] w fun t43P t43N t43C w1_3 =>
  App Try.prog #[33, 33] 33 #[.slice s.askedP s.askedN s.askedC, .slice t43P t43N t43C] w1_3 fun t44P t44N t44C w1_4 =>
  n_2 ≠ 0 ∧
  If (((s.i : Int).tmod n_2) == (0 : Int))
  (NN x_1 fun a_3 =>
  ∃ FP_2 : Option Addr, ∃ FN_2 : Nat, ∃ FC_2 : Nat, w1_4.cell? (a_3.add 0) = some (.slice FP_2 FN_2 FC_2) ∧
  0 ≤ (s.i : Int) ∧ (s.i : Int) < (FN_2 : Int) ∧ NN FP_2 fun a_4 =>
  St w1_4 ((a_4.add ((s.i : Int).toNat * 1)).add 0) (.bool true) fun w1_5 =>
  F_law03_sweep_k1 s Kn t44P t44N t44C (IntKind.i64.wrap ((s.count : Int) + (1 : Int))) w1_5)
  (F_law03_sweep_k1 s Kn t44P t44N t44C (s.count : Int) w1_4)))
  (Kx0 s.askedP s.askedN s.askedC (s.count : Int) w)

def F_law03_sweep_L1 (x_1 : Option Addr) (n_2 : Int) (sx : Addr) (gone : Int) (s : S_law03_sweep_L1) (w : World) (Kx0 : Option Addr → Nat → Nat → Int → World → Prop) : Prop :=
  LoopS (fun s w Kn => B_law03_sweep_L1 x_1 n_2 sx gone s w Kn Kx0) s w

def F_law03_sweep_k2 (p : Option Addr) (x : Option Addr) (R : Bool → World → Prop) (n_1 : Int) (w1 : World) : Prop :=
  New w1 (.cells #[.int .i64 n_1, .slice none 0 0] 79) fun r w1_1 =>
  C_pool_Pool_Sweep p (.func (.func 52) #[.pointer (some ⟨r, 0, none⟩)] #[]) w1_1 fun t24 w1_2 =>
  F_law03_sweep_L1 x n_1 ⟨r, 0, none⟩ t24 ⟨none, 0, 0, (0 : Int), (0 : Int)⟩ w1_2
  (fun askedP_3 askedN_3 askedC_3 count_3 w1_7 =>
  If (t24 == count_3)
  (NN (some ⟨r, 0, none⟩) fun a_5 =>
  ∃ askedP_4 : Option Addr, ∃ askedN_4 : Nat, ∃ askedC_4 : Nat, w1_7.cell? (a_5.add 1) = some (.slice askedP_4 askedN_4 askedC_4) ∧
  C_ref03_SameInts askedP_4 askedN_4 askedC_4 askedP_3 askedN_3 askedC_3 w1_7 fun t66 w1_8 =>
  R t66 w1_8)
  (R false w1_7))

def F_law03_sweep (p : Option Addr) (x : Option Addr) (n : Int) (w : World) (R : Bool → World → Prop) : Prop :=
  If (decide (n < (1 : Int)))
  (F_law03_sweep_k2 p x R (2 : Int) w)
  (If (decide (n > (100 : Int)))
  (F_law03_sweep_k2 p x R (2 : Int) w)
  (F_law03_sweep_k2 p x R n w))

def lit_law03_sweep_L1 (f : (Option Addr) × Int × Addr × Int) (s : S_law03_sweep_L1) : Env := [⟨1, .pointer f.1, none⟩, ⟨2, .int .i64 f.2.1, none⟩, ⟨7, .pointer (some f.2.2.1), none⟩, ⟨8, .int .i64 f.2.2.2, none⟩, ⟨9, .slice s.askedP s.askedN s.askedC, none⟩, ⟨10, .int .i64 s.count, none⟩, ⟨11, .int .i64 s.i, none⟩]

def dec_law03_sweep_L1 (e : Env) (K : ((Option Addr) × Int × Addr × Int) → S_law03_sweep_L1 → Prop) : Prop :=
  onV (getV e 1) fun u1 =>
  asP u1 fun x_1 =>
  onV (getV e 2) fun u2 =>
  asI .i64 u2 fun n_2 =>
  onV (getV e 7) fun u3 =>
  asA u3 fun sx =>
  onV (getV e 8) fun u4 =>
  asI .i64 u4 fun gone =>
  onV (getV e 9) fun u5 =>
  asS u5 fun askedP askedN askedC =>
  onV (getV e 10) fun u6 =>
  asI .i64 u6 fun count =>
  onV (getV e 11) fun u7 =>
  asI .i64 u7 fun i =>
    K (x_1, n_2, sx, gone) ⟨askedP, askedN, askedC, count, i⟩

theorem dec_law03_sweep_L1_ok {N : Nat} (e : Env) (a : Act) (K : ((Option Addr) × Int × Addr × Int) → S_law03_sweep_L1 → Prop) (hr : Rep N a e) (h0 : dec_law03_sweep_L1 e K) : ∃ f s, K f s ∧ Rep N a (lit_law03_sweep_L1 f s) := by
  unfold dec_law03_sweep_L1 at h0
  obtain ⟨u1, g1, h1⟩ := onV_elim h0
  obtain ⟨x_1, rfl, h2⟩ := asP_elim h1
  obtain ⟨u2, g2, h3⟩ := onV_elim h2
  obtain ⟨n_2, rfl, h4⟩ := asI_elim h3
  obtain ⟨u3, g7, h5⟩ := onV_elim h4
  obtain ⟨sx, rfl, h6⟩ := asA_elim h5
  obtain ⟨u4, g8, h7⟩ := onV_elim h6
  obtain ⟨gone, rfl, h8⟩ := asI_elim h7
  obtain ⟨u5, g9, h9⟩ := onV_elim h8
  obtain ⟨askedP, askedN, askedC, rfl, h10⟩ := asS_elim h9
  obtain ⟨u6, g10, h11⟩ := onV_elim h10
  obtain ⟨count, rfl, h12⟩ := asI_elim h11
  obtain ⟨u7, g11, h13⟩ := onV_elim h12
  obtain ⟨i, rfl, h14⟩ := asI_elim h13
  exact ⟨_, _, h14, rep_less hr (by simp [lit_law03_sweep_L1, g1, g2, g7, g8, g9, g10, g11])⟩

def spec_law03_sweep_L1 (Q : Post) (e : Env) (w : World) : Prop :=
  dec_law03_sweep_L1 e fun f s => F_law03_sweep_L1 f.1 f.2.1 f.2.2.1 f.2.2.2 s w (fun askedP_1 askedN_1 askedC_1 count_1 w1 => Q (.exit 0) [⟨7, .pointer (some f.2.2.1), none⟩, ⟨8, .int .i64 f.2.2.2, none⟩, ⟨9, .slice askedP_1 askedN_1 askedC_1, none⟩, ⟨10, .int .i64 count_1, none⟩] w1)

def G_law03_sweep : Gen where
  loop := lookL [([false, true, false, true, true, true, true, true, true], spec_law03_sweep_L1)]
  plan := fun _ => none

def dx_law03_sweep_L1_0 (e : Env) (K : ((Option Addr) × Int × Addr × Int) → Option Addr → Nat → Nat → Int → Prop) : Prop :=
  onV (getV e 1) fun u1 =>
  asP u1 fun x_1 =>
  onV (getV e 2) fun u2 =>
  asI .i64 u2 fun n_2 =>
  onV (getV e 7) fun u3 =>
  asA u3 fun sx =>
  onV (getV e 8) fun u4 =>
  asI .i64 u4 fun gone =>
  onV (getV e 9) fun u5 =>
  asS u5 fun askedP_1 askedN_1 askedC_1 =>
  onV (getV e 10) fun u6 =>
  asI .i64 u6 fun count_1 =>
    K (x_1, n_2, sx, gone) askedP_1 askedN_1 askedC_1 count_1

theorem body_law03_sweep_L1 (f : (Option Addr) × Int × Addr × Int) (s : S_law03_sweep_L1) (w : World) (Kn : ((Option Addr) × Int × Addr × Int) → S_law03_sweep_L1 → World → Prop) (Kx0 : ((Option Addr) × Int × Addr × Int) → Option Addr → Nat → Nat → Int → World → Prop) :
    B_law03_sweep_L1 f.1 f.2.1 f.2.2.1 f.2.2.2 s w (fun s1 w1 => Kn f s1 w1) (fun askedP_1 askedN_1 askedC_1 count_1 w1 => Kx0 f askedP_1 askedN_1 askedC_1 count_1 w1) =
    den Try.prog Try.f42.ntmps G_law03_sweep (sub (codeOf Try.f42) [false, false, true, false, true, true, true, true, true, true]) [false, false, true, false, true, true, true, true, true, true] (roundQ (fun e w => dec_law03_sweep_L1 e fun f s => Kn f s w) (fun e w => False) (fun id e w => match Nat.beq id 0 with | true => dx_law03_sweep_L1_0 e fun f askedP_1 askedN_1 askedC_1 count_1 => Kx0 f askedP_1 askedN_1 askedC_1 count_1 w | false => False)) (lit_law03_sweep_L1 f s) w := by kernel_rfl

theorem ok_law03_sweep_L1 : OneOk Try.prog Try.f42.ntmps G_law03_sweep (codeOf Try.f42) [false, true, false, true, true, true, true, true, true] spec_law03_sweep_L1 := by
  intro c hc ih Q e w a hr h
  have hcc : sub (codeOf Try.f42) [false, false, true, false, true, true, true, true, true, true] = c := sub_of_codeAt hc
  obtain ⟨f, s, h, hrep⟩ := dec_law03_sweep_L1_ok e a _ hr h
  obtain ⟨J, μ, hj, hround⟩ := h
  refine loop_rule_deep seat_ok seat_mixed ih lit_law03_sweep_L1 dec_law03_sweep_L1 dec_law03_sweep_L1_ok hc f J μ (Kr := fun e w => False) (Kx := fun id e w => match Nat.beq id 0 with | true => (dx_law03_sweep_L1_0 e fun f1 askedP_1 askedN_1 askedC_1 count_1 => f1 = f ∧ Q (.exit 0) [⟨7, .pointer (some f.2.2.1), none⟩, ⟨8, .int .i64 f.2.2.2, none⟩, ⟨9, .slice askedP_1 askedN_1 askedC_1, none⟩, ⟨10, .int .i64 count_1, none⟩] w) | false => False) ?_ ?_ ?_ s w a hj hrep
  · intro e a w hr h
    exact h.elim
  · intro id e a w hr h0
    (try dsimp only at h0)
    split at h0
    · rename_i hid
      obtain rfl := Nat.eq_of_beq_eq_true hid
      unfold dx_law03_sweep_L1_0 at h0
      obtain ⟨u1, g1, h1⟩ := onV_elim h0
      obtain ⟨x_1, rfl, h2⟩ := asP_elim h1
      obtain ⟨u2, g2, h3⟩ := onV_elim h2
      obtain ⟨n_2, rfl, h4⟩ := asI_elim h3
      obtain ⟨u3, g7, h5⟩ := onV_elim h4
      obtain ⟨sx, rfl, h6⟩ := asA_elim h5
      obtain ⟨u4, g8, h7⟩ := onV_elim h6
      obtain ⟨gone, rfl, h8⟩ := asI_elim h7
      obtain ⟨u5, g9, h9⟩ := onV_elim h8
      obtain ⟨askedP_1, askedN_1, askedC_1, rfl, h10⟩ := asS_elim h9
      obtain ⟨u6, g10, h11⟩ := onV_elim h10
      obtain ⟨count_1, rfl, h12⟩ := asI_elim h11
      obtain ⟨hf, hq⟩ := h12
      subst hf
      exact ⟨_, rep_less hr (by simp [g7, g8, g9, g10]), hq⟩
    · exact h0.elim
  · intro s w hj
    have hb := hround s w hj
    rw [← hcc]
    have e1 := body_law03_sweep_L1 f s w (fun f1 s1 w1 => f1 = f ∧ J s1 w1 ∧ μ s1 w1 < μ s w) (fun f1 askedP_1 askedN_1 askedC_1 count_1 w1 => f1 = f ∧ Q (.exit 0) [⟨7, .pointer (some f.2.2.1), none⟩, ⟨8, .int .i64 f.2.2.2, none⟩, ⟨9, .slice askedP_1 askedN_1 askedC_1, none⟩, ⟨10, .int .i64 count_1, none⟩] w1)
    simp only [true_and] at e1
    exact cast e1 hb

theorem loops_law03_sweep : LoopOk Try.prog Try.f42.ntmps G_law03_sweep (codeOf Try.f42) := loopOk_list rfl ⟨ok_law03_sweep_L1, trivial⟩

theorem den_law03_sweep (p : Option Addr) (x : Option Addr) (n : Int) (w : World) (R : Value → World → Prop) :
    F_law03_sweep p x n w (fun r w1 => R (.bool r) w1) = den Try.prog Try.f42.ntmps G_law03_sweep (codeOf Try.f42) [] (postD Try.prog Try.f42.results.toList R) (entry [.pointer p, .pointer x, .int .i64 n] 0) w := by kernel_rfl

theorem C_law03_sweep.of {p : Option Addr} {x : Option Addr} {n : Int} {w : World} {R : Bool → World → Prop} (h : F_law03_sweep p x n w R) : C_law03_sweep p x n w R := by
  refine (calls_of_den (c := codeOf Try.f42) seat_ok seat_mixed Try.func42 (by kernel_rfl) loops_law03_sweep (args := [.pointer p, .pointer x, .int .i64 n]) rfl (R := fun v w1 => ∃ (r : Bool), v = (.bool r : Value) ∧ R r w1) ?_).mono ?_
  · rw [← den_law03_sweep]
    have e : (fun r w1 => ∃ (r' : Bool), (.bool r : Value) = (.bool r' : Value) ∧ R r' w1) = R := by
      funext r w1
      exact propext ⟨fun ⟨r', he, h⟩ => by simp at he; simp_all, fun h => ⟨_, rfl, h⟩⟩
    simpa only [e] using h
  · rintro en w1 ⟨v, he, r, rfl, h⟩
    exact ⟨_, he, h⟩

end Go.Proofs.Ytcgnligpjfhjlaa
