/- The formulas of this seat's functions, held against the loaded program by the kernel. Printed by a program. -/
import Derived.Test.YtdmjbkpibgfeiaaGenC
set_option maxRecDepth 100000
set_option linter.unusedVariables false
namespace Go.Proofs.Ytdmjbkpibgfeiaa
open Go Go.D Go.Proofs

def F_ref22_Stack_Push (sx : Option Addr) (c0 : Int) (c1P : Option Addr) (c1N : Nat) (c1C : Nat) (c2 : Int) (c3 : Int) (c4 : Int) (c5 : Int) (c6 : Int) (c7 : Int) (c8 : Int) (w : World) (R : Int → World → Prop) : Prop :=
  New w (.cells #[.int .i64 c0, .slice c1P c1N c1C, .int .i64 c2, .int .i64 c3, .int .i64 c4, .int .i64 c5, .int .i64 c6, .int .i64 c7, .int .i64 c8] 34) fun r w1 =>
  NN sx fun a =>
  ∃ CP : Option Addr, ∃ CN : Nat, ∃ CC : Nat, (drw w1).cell? (a.add 2) = some (.slice CP CN CC) ∧
  NN sx fun a_1 =>
  ∃ Choices : Int, (drw w1).cell? (a_1.add 4) = some (.int .i64 Choices) ∧
  If (decide ((CN : Int) ≥ Choices))
  (R (2 : Int) (drw w1))
  (BSl Try.prog 32 0 [] (drw w1) fun t15P t15N t15C w1_1 =>
  ∃ ArgsP : Option Addr, ∃ ArgsN : Nat, ∃ ArgsC : Nat, w1_1.cell? ((⟨r, 0, none⟩ : Addr).add 1) = some (.slice ArgsP ArgsN ArgsC) ∧
  App Try.prog #[32, 32] 32 #[.slice t15P t15N t15C, .slice ArgsP ArgsN ArgsC] w1_1 fun t18P t18N t18C w1_2 =>
  St w1_2 (((⟨r, 0, none⟩ : Addr).add 1).add 0) (.slice t18P t18N t18C) fun w1_3 =>
  NN sx fun a_2 =>
  ∃ Cur : Int, w1_3.cell? (a_2.add 1) = some (.int .i64 Cur) ∧
  C_ref22_Stack_base sx Cur w1_3 fun t25 w1_4 =>
  C_ref22_Stack_Top sx w1_4 fun t27 w1_5 =>
  St w1_5 (((⟨r, 0, none⟩ : Addr).add 7).add 0) (.int .i64 t25) fun w1_6 =>
  St w1_6 (((⟨r, 0, none⟩ : Addr).add 8).add 0) (.int .i64 t27) fun w1_7 =>
  NN sx fun a_3 =>
  ∃ CP_1 : Option Addr, ∃ CN_1 : Nat, ∃ CC_1 : Nat, (drw w1_7).cell? (a_3.add 2) = some (.slice CP_1 CN_1 CC_1) ∧
  ∃ t350 : Int, (drw w1_7).cell? ((⟨r, 0, none⟩ : Addr).add 0) = some (.int .i64 t350) ∧
  ∃ t351P : Option Addr, ∃ t351N : Nat, ∃ t351C : Nat, (drw w1_7).cell? ((⟨r, 0, none⟩ : Addr).add 1) = some (.slice t351P t351N t351C) ∧
  ∃ t352 : Int, (drw w1_7).cell? ((⟨r, 0, none⟩ : Addr).add 2) = some (.int .i64 t352) ∧
  ∃ t353 : Int, (drw w1_7).cell? ((⟨r, 0, none⟩ : Addr).add 3) = some (.int .i64 t353) ∧
  ∃ t354 : Int, (drw w1_7).cell? ((⟨r, 0, none⟩ : Addr).add 4) = some (.int .i64 t354) ∧
  ∃ t355 : Int, (drw w1_7).cell? ((⟨r, 0, none⟩ : Addr).add 5) = some (.int .i64 t355) ∧
  ∃ t356 : Int, (drw w1_7).cell? ((⟨r, 0, none⟩ : Addr).add 6) = some (.int .i64 t356) ∧
  ∃ t357 : Int, (drw w1_7).cell? ((⟨r, 0, none⟩ : Addr).add 7) = some (.int .i64 t357) ∧
  ∃ t358 : Int, (drw w1_7).cell? ((⟨r, 0, none⟩ : Addr).add 8) = some (.int .i64 t358) ∧
  NN sx fun a_4 =>
  ∃ Cur_1 : Int, (drw w1_7).cell? (a_4.add 1) = some (.int .i64 Cur_1) ∧
  BSl Try.prog 86 1 [(0, .agg #[.int .i64 t350, .slice t351P t351N t351C, .int .i64 t352, .int .i64 t353, .int .i64 t354, .int .i64 t355, .int .i64 t356, .int .i64 t357, .int .i64 t358, .int .i64 Cur_1])] (drw w1_7) fun t41P t41N t41C w1_8 =>
  w1_8.cell? (a_3.add 2) = (drw w1_7).cell? (a_3.add 2) ∧
  App Try.prog #[86, 86] 86 #[.slice CP_1 CN_1 CC_1, .slice t41P t41N t41C] w1_8 fun t42P t42N t42C w1_9 =>
  NN sx fun a_5 =>
  St w1_9 ((a_5.add 2).add 0) (.slice t42P t42N t42C) fun w1_10 =>
  R (0 : Int) w1_10)

def G_ref22_Stack_Push : Gen where
  loop := lookL []
  plan := fun id =>
    bif Nat.beq id 1 then some ([0, 1, 3, 7, 15, 0, 32, 96, 224, 511], .take 0 (.take 1 (.take 2 (.take 3 (.take 4 (.take 5 (.take 6 (.take 7 (.take 8 (.take 9 .done)))))))))) else
    bif Nat.beq id 5 then some ([0, 0, 2, 6, 14, 0, 0, 64, 192, 448, 992, 2016, 4094, 8191, 16383, 32767], .take 0 (.take 1 (.take 2 (.take 3 (.take 4 (.take 5 (.take 6 (.take 7 (.take 8 (.take 9 (.take 10 (.take 11 (.take 12 (.take 13 (.take 14 (.take 15 .done)))))))))))))))) else none

theorem loops_ref22_Stack_Push : LoopOk Try.prog Try.f54.ntmps G_ref22_Stack_Push (codeOf Try.f54) := loopOk_none fun _ => rfl

theorem den_ref22_Stack_Push (sx : Option Addr) (c0 : Int) (c1P : Option Addr) (c1N : Nat) (c1C : Nat) (c2 : Int) (c3 : Int) (c4 : Int) (c5 : Int) (c6 : Int) (c7 : Int) (c8 : Int) (w : World) (R : Value → World → Prop) :
    F_ref22_Stack_Push sx c0 c1P c1N c1C c2 c3 c4 c5 c6 c7 c8 w (fun r w1 => R (.int .i64 r) w1) = den Try.prog Try.f54.ntmps G_ref22_Stack_Push (codeOf Try.f54) [] (postD Try.prog Try.f54.results.toList R) (entry [.pointer sx, .agg #[.int .i64 c0, .slice c1P c1N c1C, .int .i64 c2, .int .i64 c3, .int .i64 c4, .int .i64 c5, .int .i64 c6, .int .i64 c7, .int .i64 c8]] 0) w := by kernel_rfl

theorem C_ref22_Stack_Push.of {sx : Option Addr} {c0 : Int} {c1P : Option Addr} {c1N : Nat} {c1C : Nat} {c2 : Int} {c3 : Int} {c4 : Int} {c5 : Int} {c6 : Int} {c7 : Int} {c8 : Int} {w : World} {R : Int → World → Prop} (h : F_ref22_Stack_Push sx c0 c1P c1N c1C c2 c3 c4 c5 c6 c7 c8 w R) : C_ref22_Stack_Push sx c0 c1P c1N c1C c2 c3 c4 c5 c6 c7 c8 w R := by
  refine (calls_of_den (c := codeOf Try.f54) seat_ok seat_mixed Try.func54 (by kernel_rfl) loops_ref22_Stack_Push (args := [.pointer sx, .agg #[.int .i64 c0, .slice c1P c1N c1C, .int .i64 c2, .int .i64 c3, .int .i64 c4, .int .i64 c5, .int .i64 c6, .int .i64 c7, .int .i64 c8]]) rfl (R := fun v w1 => ∃ (r : Int), v = (.int .i64 r : Value) ∧ R r w1) ?_).mono ?_
  · rw [← den_ref22_Stack_Push]
    have e : (fun r w1 => ∃ (r' : Int), (.int .i64 r : Value) = (.int .i64 r' : Value) ∧ R r' w1) = R := by
      funext r w1
      exact propext ⟨fun ⟨r', he, h⟩ => by first | (simp at he; simp_all) | (cases he; exact h), fun h => ⟨_, rfl, h⟩⟩
    simpa only [e] using h
  · rintro en w1 ⟨v, he, r, rfl, h⟩
    exact ⟨_, he, h⟩

def F_law22_choices_k1 (sx : Option Addr) (R : Bool → World → Prop) (r : Nat) (want : Int) (w1_3 : World) : Prop :=
  ∃ N_1 : Int, w1_3.cell? ((⟨r, 0, none⟩ : Addr).add 1) = some (.int .i64 N_1) ∧
  C_frame_Stack_Turn sx N_1 w1_3 fun t36 w1_4 =>
  R (t36 == want) w1_4

def F_law22_choices_k2 (sx : Option Addr) (R : Bool → World → Prop) (want : Int) (w1_6 : World) : Prop :=
  C_frame_Stack_Drop sx w1_6 fun t53 w1_7 =>
  R (t53 == want) w1_7

def F_law22_choices_k3 (sx : Option Addr) (R : Bool → World → Prop) (want : Int) (w1_9 : World) : Prop :=
  C_frame_Stack_Restore sx w1_9 fun t70 w1_10 =>
  R (t70 == want) w1_10

def F_law22_choices_k4 (sx : Option Addr) (x : Option Addr) (R : Bool → World → Prop) (r : Nat) (CN : Nat) (want : Int) (w1_1 : World) : Prop :=
  ∃ Kind : Int, w1_1.cell? ((⟨r, 0, none⟩ : Addr).add 0) = some (.int .i64 Kind) ∧
  If (Kind == (7 : Int))
  (If (decide ((IntKind.i64.wrap ((CN : Int) - (1 : Int))) ≥ (0 : Int)))
  (NN x fun a_1 =>
  ∃ CP_1 : Option Addr, ∃ CN_1 : Nat, ∃ CC_1 : Nat, (drw w1_1).cell? (a_1.add 2) = some (.slice CP_1 CN_1 CC_1) ∧
  ∃ N : Int, (drw w1_1).cell? ((⟨r, 0, none⟩ : Addr).add 1) = some (.int .i64 N) ∧
  0 ≤ (IntKind.i64.wrap ((CN : Int) - (1 : Int))) ∧ (IntKind.i64.wrap ((CN : Int) - (1 : Int))) < (CN_1 : Int) ∧ NN CP_1 fun a_2 =>
  St (drw w1_1) ((((a_2.add ((IntKind.i64.wrap ((CN : Int) - (1 : Int))).toNat * 10)).add 0).add 5).add 0) (.int .i64 N) fun w1_2 =>
  F_law22_choices_k1 sx R r want w1_2)
  (F_law22_choices_k1 sx R r want w1_1))
  (If (Kind == (8 : Int))
  (If (decide ((IntKind.i64.wrap ((CN : Int) - (1 : Int))) ≥ (0 : Int)))
  (NN x fun a_3 =>
  ∃ CP_2 : Option Addr, ∃ CN_2 : Nat, ∃ CC_2 : Nat, w1_1.cell? (a_3.add 2) = some (.slice CP_2 CN_2 CC_2) ∧
  0 ≤ (IntKind.i64.wrap ((CN : Int) - (1 : Int))) ∧ (IntKind.i64.wrap ((CN : Int) - (1 : Int))) ≤ (CC_2 : Int) ∧
  NN x fun a_4 =>
  St w1_1 ((a_4.add 2).add 0) (.slice CP_2 ((IntKind.i64.wrap ((CN : Int) - (1 : Int))).toNat) CC_2) fun w1_5 =>
  F_law22_choices_k2 sx R want w1_5)
  (F_law22_choices_k2 sx R want w1_1))
  (If (decide ((IntKind.i64.wrap ((CN : Int) - (1 : Int))) ≥ (0 : Int)))
  (NN x fun a_5 =>
  ∃ CP_3 : Option Addr, ∃ CN_3 : Nat, ∃ CC_3 : Nat, w1_1.cell? (a_5.add 2) = some (.slice CP_3 CN_3 CC_3) ∧
  0 ≤ (IntKind.i64.wrap ((CN : Int) - (1 : Int))) ∧ (IntKind.i64.wrap ((CN : Int) - (1 : Int))) < (CN_3 : Int) ∧ NN CP_3 fun a_6 =>
  ∃ Env : Int, w1_1.cell? ((a_6.add ((IntKind.i64.wrap ((CN : Int) - (1 : Int))).toNat * 10)).add 9) = some (.int .i64 Env) ∧
  NN x fun a_7 =>
  St w1_1 ((a_7.add 1).add 0) (.int .i64 Env) fun w1_8 =>
  F_law22_choices_k3 sx R want w1_8)
  (F_law22_choices_k3 sx R want w1_1)))

def F_law22_choices (sx : Option Addr) (x : Option Addr) (o0 : Int) (o1 : Int) (o2 : Int) (o3 : Int) (o4 : Int) (o5 : Int) (o6P : Option Addr) (o6N : Nat) (o6C : Nat) (o7 : Int) (o8 : Int) (o9 : Int) (o10 : Int) (o11 : Int) (o12 : Int) (o13 : Int) (w : World) (R : Bool → World → Prop) : Prop :=
  New w (.cells #[.int .i64 o0, .int .i64 o1, .int .u64 o2, .int .i64 o3, .int .i64 o4, .int .i64 o5, .slice o6P o6N o6C, .int .i64 o7, .int .i64 o8, .int .i64 o9, .int .i64 o10, .int .i64 o11, .int .i64 o12, .int .i64 o13] 36) fun r w1 =>
  NN x fun a =>
  ∃ CP : Option Addr, ∃ CN : Nat, ∃ CC : Nat, w1.cell? (a.add 2) = some (.slice CP CN CC) ∧
  If (decide ((IntKind.i64.wrap ((CN : Int) - (1 : Int))) < (0 : Int)))
  (F_law22_choices_k4 sx x R r CN (4 : Int) w1)
  (F_law22_choices_k4 sx x R r CN (0 : Int) w1)

def G_law22_choices : Gen where
  loop := lookL []
  plan := fun id =>
    bif Nat.beq id 8 then some ([0, 1, 3, 7, 0, 0, 32, 127, 255, 511, 1023], .take 0 (.take 1 (.take 2 (.take 3 (.take 4 (.take 5 (.take 6 (.take 7 (.take 8 (.take 9 (.take 10 .done))))))))))) else none

theorem loops_law22_choices : LoopOk Try.prog Try.f55.ntmps G_law22_choices (codeOf Try.f55) := loopOk_none fun _ => rfl

theorem den_law22_choices (sx : Option Addr) (x : Option Addr) (o0 : Int) (o1 : Int) (o2 : Int) (o3 : Int) (o4 : Int) (o5 : Int) (o6P : Option Addr) (o6N : Nat) (o6C : Nat) (o7 : Int) (o8 : Int) (o9 : Int) (o10 : Int) (o11 : Int) (o12 : Int) (o13 : Int) (w : World) (R : Value → World → Prop) :
    F_law22_choices sx x o0 o1 o2 o3 o4 o5 o6P o6N o6C o7 o8 o9 o10 o11 o12 o13 w (fun r w1 => R (.bool r) w1) = den Try.prog Try.f55.ntmps G_law22_choices (codeOf Try.f55) [] (postD Try.prog Try.f55.results.toList R) (entry [.pointer sx, .pointer x, .agg #[.int .i64 o0, .int .i64 o1, .int .u64 o2, .int .i64 o3, .int .i64 o4, .int .i64 o5, .slice o6P o6N o6C, .int .i64 o7, .int .i64 o8, .int .i64 o9, .int .i64 o10, .int .i64 o11, .int .i64 o12, .int .i64 o13]] 0) w := by kernel_rfl

theorem C_law22_choices.of {sx : Option Addr} {x : Option Addr} {o0 : Int} {o1 : Int} {o2 : Int} {o3 : Int} {o4 : Int} {o5 : Int} {o6P : Option Addr} {o6N : Nat} {o6C : Nat} {o7 : Int} {o8 : Int} {o9 : Int} {o10 : Int} {o11 : Int} {o12 : Int} {o13 : Int} {w : World} {R : Bool → World → Prop} (h : F_law22_choices sx x o0 o1 o2 o3 o4 o5 o6P o6N o6C o7 o8 o9 o10 o11 o12 o13 w R) : C_law22_choices sx x o0 o1 o2 o3 o4 o5 o6P o6N o6C o7 o8 o9 o10 o11 o12 o13 w R := by
  refine (calls_of_den (c := codeOf Try.f55) seat_ok seat_mixed Try.func55 (by kernel_rfl) loops_law22_choices (args := [.pointer sx, .pointer x, .agg #[.int .i64 o0, .int .i64 o1, .int .u64 o2, .int .i64 o3, .int .i64 o4, .int .i64 o5, .slice o6P o6N o6C, .int .i64 o7, .int .i64 o8, .int .i64 o9, .int .i64 o10, .int .i64 o11, .int .i64 o12, .int .i64 o13]]) rfl (R := fun v w1 => ∃ (r : Bool), v = (.bool r : Value) ∧ R r w1) ?_).mono ?_
  · rw [← den_law22_choices]
    have e : (fun r w1 => ∃ (r' : Bool), (.bool r : Value) = (.bool r' : Value) ∧ R r' w1) = R := by
      funext r w1
      exact propext ⟨fun ⟨r', he, h⟩ => by first | (simp at he; simp_all) | (cases he; exact h), fun h => ⟨_, rfl, h⟩⟩
    simpa only [e] using h
  · rintro en w1 ⟨v, he, r, rfl, h⟩
    exact ⟨_, he, h⟩

def F_law22_changer_change (cx : Option Addr) (wx : Int) (w : World) (R : Int → World → Prop) : Prop :=
  If (wx == (0 : Int))
  (R (0 : Int) w)
  (0 ≤ (1 : Int) ∧
  0 ≤ (1 : Int) ∧
  NN cx fun a =>
  ∃ wx_1 : Int, w.cell? (a.add 0) = some (.int .u64 wx_1) ∧
  R (orI .u64 (shlI .u64 (shrI .u64 wx (1 : Int)) (1 : Int)) (andI .u64 wx_1 (1 : Int))) w)

def G_law22_changer_change : Gen where
  loop := lookL []
  plan := fun _ => none

theorem loops_law22_changer_change : LoopOk Try.prog Try.f56.ntmps G_law22_changer_change (codeOf Try.f56) := loopOk_none fun _ => rfl

theorem den_law22_changer_change (cx : Option Addr) (wx : Int) (w : World) (R : Value → World → Prop) :
    F_law22_changer_change cx wx w (fun r w1 => R (.int .u64 r) w1) = den Try.prog Try.f56.ntmps G_law22_changer_change (codeOf Try.f56) [] (postD Try.prog Try.f56.results.toList R) (entry [.pointer cx, .int .u64 wx] 0) w := by kernel_rfl

theorem C_law22_changer_change.of {cx : Option Addr} {wx : Int} {w : World} {R : Int → World → Prop} (h : F_law22_changer_change cx wx w R) : C_law22_changer_change cx wx w R := by
  refine (calls_of_den (c := codeOf Try.f56) seat_ok seat_mixed Try.func56 (by kernel_rfl) loops_law22_changer_change (args := [.pointer cx, .int .u64 wx]) rfl (R := fun v w1 => ∃ (r : Int), v = (.int .u64 r : Value) ∧ R r w1) ?_).mono ?_
  · rw [← den_law22_changer_change]
    have e : (fun r w1 => ∃ (r' : Int), (.int .u64 r : Value) = (.int .u64 r' : Value) ∧ R r' w1) = R := by
      funext r w1
      exact propext ⟨fun ⟨r', he, h⟩ => by first | (simp at he; simp_all) | (cases he; exact h), fun h => ⟨_, rfl, h⟩⟩
    simpa only [e] using h
  · rintro en w1 ⟨v, he, r, rfl, h⟩
    exact ⟨_, he, h⟩

structure S_law22_changed_L1 where
  lP : Option Addr
  lN : Nat
  lC : Nat
  i : Int

structure S_law22_changed_L3 where
  k : Int

structure S_law22_changed_L2 where
  i_1 : Int

structure S_law22_changed_L5 where
  k_1 : Int

structure S_law22_changed_L4 where
  i_3 : Int

def F_law22_changed_k1 (s : S_law22_changed_L1) (Kn : S_law22_changed_L1 → World → Prop) (lP_2 : Option Addr) (lN_2 : Nat) (lC_2 : Nat) (w1_4 : World) : Prop :=
  Kn ⟨lP_2, lN_2, lC_2, (IntKind.i64.wrap ((s.i : Int) + (1 : Int)))⟩ w1_4

/-- One round. -/
def B_law22_changed_L1 (x_1 : Option Addr) (cx : Addr) (s : S_law22_changed_L1) (w : World) (Kn : S_law22_changed_L1 → World → Prop) (Kx0 : Option Addr → Nat → Nat → World → Prop) : Prop :=
  NN x_1 fun a =>
  ∃ EP : Option Addr, ∃ EN : Nat, ∃ EC : Nat, w.cell? (a.add 0) = some (.slice EP EN EC) ∧
  If (decide ((s.i : Int) < (EN : Int)))
  (NN x_1 fun a_1 =>
  ∃ EP_1 : Option Addr, ∃ EN_1 : Nat, ∃ EC_1 : Nat, w.cell? (a_1.add 0) = some (.slice EP_1 EN_1 EC_1) ∧
  0 ≤ (s.i : Int) ∧ (s.i : Int) < (EN_1 : Int) ∧ NN EP_1 fun a_2 =>
  ∃ Base : Int, w.cell? ((a_2.add ((s.i : Int).toNat * 5)).add 0) = some (.int .i64 Base) ∧
  C_ref22_Stack_At x_1 Base w fun t32 w1_1 =>
  If (t32 == (s.i : Int))
  (BSl Try.prog 44 1 [(0, .int .i64 s.i)] w1_1 fun t37P t37N t37C w1_2 =>
  App Try.prog #[44, 44] 44 #[.slice s.lP s.lN s.lC, .slice t37P t37N t37C] w1_2 fun t38P t38N t38C w1_3 =>
  F_law22_changed_k1 s Kn t38P t38N t38C w1_3)
  (F_law22_changed_k1 s Kn s.lP s.lN s.lC w1_1))
  (Kx0 s.lP s.lN s.lC w)

def F_law22_changed_L1 (x_1 : Option Addr) (cx : Addr) (s : S_law22_changed_L1) (w : World) (Kx0 : Option Addr → Nat → Nat → World → Prop) : Prop :=
  LoopS (fun s w Kn => B_law22_changed_L1 x_1 cx s w Kn Kx0) s w

/-- One round. -/
def B_law22_changed_L3 (x_3 : Option Addr) (cx_2 : Addr) (lP_5 : Option Addr) (lN_5 : Nat) (lC_5 : Nat) (i_2 : Int) (s : S_law22_changed_L3) (w : World) (Kn : S_law22_changed_L3 → World → Prop) (Kx4 : World → Prop) : Prop :=
  NN x_3 fun a_3 =>
  ∃ EP_2 : Option Addr, ∃ EN_2 : Nat, ∃ EC_2 : Nat, (drw w).cell? (a_3.add 0) = some (.slice EP_2 EN_2 EC_2) ∧
  0 ≤ i_2 ∧ i_2 < (lN_5 : Int) ∧ NN lP_5 fun a_4 =>
  ∃ t53 : Int, (drw w).cell? (a_4.add (i_2.toNat * 1)) = some (.int .i64 t53) ∧
  0 ≤ t53 ∧ t53 < (EN_2 : Int) ∧ NN EP_2 fun a_5 =>
  ∃ YP : Option Addr, ∃ YN : Nat, ∃ YC : Nat, (drw w).cell? ((a_5.add (t53.toNat * 5)).add 2) = some (.slice YP YN YC) ∧
  If (decide ((s.k : Int) < (YN : Int)))
  (NN x_3 fun a_6 =>
  ∃ EP_3 : Option Addr, ∃ EN_3 : Nat, ∃ EC_3 : Nat, (drw (drw w)).cell? (a_6.add 0) = some (.slice EP_3 EN_3 EC_3) ∧
  0 ≤ i_2 ∧ i_2 < (lN_5 : Int) ∧ NN lP_5 fun a_7 =>
  ∃ t68 : Int, (drw (drw w)).cell? (a_7.add (i_2.toNat * 1)) = some (.int .i64 t68) ∧
  0 ≤ t68 ∧ t68 < (EN_3 : Int) ∧ NN EP_3 fun a_8 =>
  ∃ YP_1 : Option Addr, ∃ YN_1 : Nat, ∃ YC_1 : Nat, (drw (drw w)).cell? ((a_8.add (t68.toNat * 5)).add 2) = some (.slice YP_1 YN_1 YC_1) ∧
  NN x_3 fun a_9 =>
  ∃ EP_4 : Option Addr, ∃ EN_4 : Nat, ∃ EC_4 : Nat, (drw (drw w)).cell? (a_9.add 0) = some (.slice EP_4 EN_4 EC_4) ∧
  0 ≤ i_2 ∧ i_2 < (lN_5 : Int) ∧ NN lP_5 fun a_10 =>
  ∃ t81 : Int, (drw (drw w)).cell? (a_10.add (i_2.toNat * 1)) = some (.int .i64 t81) ∧
  0 ≤ t81 ∧ t81 < (EN_4 : Int) ∧ NN EP_4 fun a_11 =>
  ∃ YP_2 : Option Addr, ∃ YN_2 : Nat, ∃ YC_2 : Nat, (drw (drw w)).cell? ((a_11.add (t81.toNat * 5)).add 2) = some (.slice YP_2 YN_2 YC_2) ∧
  0 ≤ (s.k : Int) ∧ (s.k : Int) < (YN_2 : Int) ∧ NN YP_2 fun a_12 =>
  ∃ t87 : Int, (drw (drw w)).cell? (a_12.add ((s.k : Int).toNat * 1)) = some (.int .u64 t87) ∧
  C_law22_changer_change (some cx_2) t87 (drw (drw w)) fun t88 w1_6 =>
  w1_6.cell? ((a_8.add (t68.toNat * 5)).add 2) = (drw (drw w)).cell? ((a_8.add (t68.toNat * 5)).add 2) ∧
  w1_6.cell? (a_7.add (i_2.toNat * 1)) = (drw (drw w)).cell? (a_7.add (i_2.toNat * 1)) ∧
  w1_6.cell? (a_6.add 0) = (drw (drw w)).cell? (a_6.add 0) ∧
  0 ≤ (s.k : Int) ∧ (s.k : Int) < (YN_1 : Int) ∧ NN YP_1 fun a_13 =>
  St w1_6 ((a_13.add ((s.k : Int).toNat * 1)).add 0) (.int .u64 t88) fun w1_7 =>
  Kn ⟨(IntKind.i64.wrap ((s.k : Int) + (1 : Int)))⟩ w1_7)
  (Kx4 (drw w))

def F_law22_changed_L3 (x_3 : Option Addr) (cx_2 : Addr) (lP_5 : Option Addr) (lN_5 : Nat) (lC_5 : Nat) (i_2 : Int) (s : S_law22_changed_L3) (w : World) (Kx4 : World → Prop) : Prop :=
  LoopS (fun s w Kn => B_law22_changed_L3 x_3 cx_2 lP_5 lN_5 lC_5 i_2 s w Kn Kx4) s w

/-- One round. -/
def B_law22_changed_L2 (x_2 : Option Addr) (cx_1 : Addr) (lP_4 : Option Addr) (lN_4 : Nat) (lC_4 : Nat) (s : S_law22_changed_L2) (w : World) (Kn : S_law22_changed_L2 → World → Prop) (Kx2 : World → Prop) : Prop :=
  If (decide ((s.i_1 : Int) < (lN_4 : Int)))
  (F_law22_changed_L3 x_2 cx_1 lP_4 lN_4 lC_4 (s.i_1 : Int) ⟨(0 : Int)⟩ w
  (fun w1_8 =>
  Kn ⟨(IntKind.i64.wrap ((s.i_1 : Int) + (1 : Int)))⟩ w1_8))
  (Kx2 w)

def F_law22_changed_L2 (x_2 : Option Addr) (cx_1 : Addr) (lP_4 : Option Addr) (lN_4 : Nat) (lC_4 : Nat) (s : S_law22_changed_L2) (w : World) (Kx2 : World → Prop) : Prop :=
  LoopS (fun s w Kn => B_law22_changed_L2 x_2 cx_1 lP_4 lN_4 lC_4 s w Kn Kx2) s w

/-- One round. -/
def B_law22_changed_L5 (x_5 : Option Addr) (cx_4 : Addr) (i_4 : Int) (s : S_law22_changed_L5) (w : World) (Kn : S_law22_changed_L5 → World → Prop) (Kx8 : World → Prop) : Prop :=
  NN x_5 fun a_15 =>
  ∃ CP_1 : Option Addr, ∃ CN_1 : Nat, ∃ CC_1 : Nat, w.cell? (a_15.add 2) = some (.slice CP_1 CN_1 CC_1) ∧
  0 ≤ i_4 ∧ i_4 < (CN_1 : Int) ∧ NN CP_1 fun a_16 =>
  ∃ ArgsP : Option Addr, ∃ ArgsN : Nat, ∃ ArgsC : Nat, w.cell? (((a_16.add (i_4.toNat * 10)).add 0).add 1) = some (.slice ArgsP ArgsN ArgsC) ∧
  If (decide ((s.k_1 : Int) < (ArgsN : Int)))
  (NN x_5 fun a_17 =>
  ∃ CP_2 : Option Addr, ∃ CN_2 : Nat, ∃ CC_2 : Nat, (drw w).cell? (a_17.add 2) = some (.slice CP_2 CN_2 CC_2) ∧
  0 ≤ i_4 ∧ i_4 < (CN_2 : Int) ∧ NN CP_2 fun a_18 =>
  ∃ ArgsP_1 : Option Addr, ∃ ArgsN_1 : Nat, ∃ ArgsC_1 : Nat, (drw w).cell? (((a_18.add (i_4.toNat * 10)).add 0).add 1) = some (.slice ArgsP_1 ArgsN_1 ArgsC_1) ∧
  NN x_5 fun a_19 =>
  ∃ CP_3 : Option Addr, ∃ CN_3 : Nat, ∃ CC_3 : Nat, (drw w).cell? (a_19.add 2) = some (.slice CP_3 CN_3 CC_3) ∧
  0 ≤ i_4 ∧ i_4 < (CN_3 : Int) ∧ NN CP_3 fun a_20 =>
  ∃ ArgsP_2 : Option Addr, ∃ ArgsN_2 : Nat, ∃ ArgsC_2 : Nat, (drw w).cell? (((a_20.add (i_4.toNat * 10)).add 0).add 1) = some (.slice ArgsP_2 ArgsN_2 ArgsC_2) ∧
  0 ≤ (s.k_1 : Int) ∧ (s.k_1 : Int) < (ArgsN_2 : Int) ∧ NN ArgsP_2 fun a_21 =>
  ∃ t135 : Int, (drw w).cell? (a_21.add ((s.k_1 : Int).toNat * 1)) = some (.int .u64 t135) ∧
  C_law22_changer_change (some cx_4) t135 (drw w) fun t136 w1_10 =>
  w1_10.cell? (((a_18.add (i_4.toNat * 10)).add 0).add 1) = (drw w).cell? (((a_18.add (i_4.toNat * 10)).add 0).add 1) ∧
  w1_10.cell? (a_17.add 2) = (drw w).cell? (a_17.add 2) ∧
  0 ≤ (s.k_1 : Int) ∧ (s.k_1 : Int) < (ArgsN_1 : Int) ∧ NN ArgsP_1 fun a_22 =>
  St w1_10 ((a_22.add ((s.k_1 : Int).toNat * 1)).add 0) (.int .u64 t136) fun w1_11 =>
  Kn ⟨(IntKind.i64.wrap ((s.k_1 : Int) + (1 : Int)))⟩ w1_11)
  (Kx8 w)

def F_law22_changed_L5 (x_5 : Option Addr) (cx_4 : Addr) (i_4 : Int) (s : S_law22_changed_L5) (w : World) (Kx8 : World → Prop) : Prop :=
  LoopS (fun s w Kn => B_law22_changed_L5 x_5 cx_4 i_4 s w Kn Kx8) s w

/-- One round. -/
def B_law22_changed_L4 (x_4 : Option Addr) (cx_3 : Addr) (s : S_law22_changed_L4) (w : World) (Kn : S_law22_changed_L4 → World → Prop) (Kx6 : World → Prop) : Prop :=
  NN x_4 fun a_14 =>
  ∃ CP : Option Addr, ∃ CN : Nat, ∃ CC : Nat, w.cell? (a_14.add 2) = some (.slice CP CN CC) ∧
  If (decide ((s.i_3 : Int) < (CN : Int)))
  (F_law22_changed_L5 x_4 cx_3 (s.i_3 : Int) ⟨(0 : Int)⟩ w
  (fun w1_12 =>
  Kn ⟨(IntKind.i64.wrap ((s.i_3 : Int) + (1 : Int)))⟩ w1_12))
  (Kx6 w)

def F_law22_changed_L4 (x_4 : Option Addr) (cx_3 : Addr) (s : S_law22_changed_L4) (w : World) (Kx6 : World → Prop) : Prop :=
  LoopS (fun s w Kn => B_law22_changed_L4 x_4 cx_3 s w Kn Kx6) s w

def F_law22_changed (x : Option Addr) (wx : Int) (w : World) (R : World → Prop) : Prop :=
  New w (.cells #[.int .u64 wx] 91) fun r w1 =>
  F_law22_changed_L1 x ⟨r, 0, none⟩ ⟨none, 0, 0, (0 : Int)⟩ w1
  (fun lP_3 lN_3 lC_3 w1_5 =>
  F_law22_changed_L2 x ⟨r, 0, none⟩ lP_3 lN_3 lC_3 ⟨(0 : Int)⟩ w1_5
  (fun w1_9 =>
  F_law22_changed_L4 x ⟨r, 0, none⟩ ⟨(0 : Int)⟩ w1_9
  (fun w1_13 =>
  R w1_13)))

def lit_law22_changed_L1 (f : (Option Addr) × Addr) (s : S_law22_changed_L1) : Env := [⟨0, .pointer f.1, none⟩, ⟨4, .pointer (some f.2), none⟩, ⟨5, .slice s.lP s.lN s.lC, none⟩, ⟨6, .int .i64 s.i, none⟩]

def dec_law22_changed_L1 (e : Env) (K : ((Option Addr) × Addr) → S_law22_changed_L1 → Prop) : Prop :=
  onV (getV e 0) fun u1 =>
  asP u1 fun x_1 =>
  onV (getV e 4) fun u2 =>
  asA u2 fun cx =>
  onV (getV e 5) fun u3 =>
  asS u3 fun lP lN lC =>
  onV (getV e 6) fun u4 =>
  asI .i64 u4 fun i =>
    K (x_1, cx) ⟨lP, lN, lC, i⟩

theorem dec_law22_changed_L1_ok {N : Nat} (e : Env) (a : Act) (K : ((Option Addr) × Addr) → S_law22_changed_L1 → Prop) (hr : Rep N a e) (h0 : dec_law22_changed_L1 e K) : ∃ f s, K f s ∧ Rep N a (lit_law22_changed_L1 f s) := by
  unfold dec_law22_changed_L1 at h0
  obtain ⟨u1, g0, h1⟩ := onV_elim h0
  obtain ⟨x_1, rfl, h2⟩ := asP_elim h1
  obtain ⟨u2, g4, h3⟩ := onV_elim h2
  obtain ⟨cx, rfl, h4⟩ := asA_elim h3
  obtain ⟨u3, g5, h5⟩ := onV_elim h4
  obtain ⟨lP, lN, lC, rfl, h6⟩ := asS_elim h5
  obtain ⟨u4, g6, h7⟩ := onV_elim h6
  obtain ⟨i, rfl, h8⟩ := asI_elim h7
  exact ⟨_, _, h8, rep_less hr (by simp [lit_law22_changed_L1, g0, g4, g5, g6])⟩

def spec_law22_changed_L1 (Q : Post) (e : Env) (w : World) : Prop :=
  dec_law22_changed_L1 e fun f s => F_law22_changed_L1 f.1 f.2 s w (fun lP_1 lN_1 lC_1 w1 => Q (.exit 0) [⟨0, .pointer f.1, none⟩, ⟨4, .pointer (some f.2), none⟩, ⟨5, .slice lP_1 lN_1 lC_1, none⟩] w1)

def lit_law22_changed_L2 (f : (Option Addr) × Addr × (Option Addr) × Nat × Nat) (s : S_law22_changed_L2) : Env := [⟨0, .pointer f.1, none⟩, ⟨4, .pointer (some f.2.1), none⟩, ⟨5, .slice f.2.2.1 f.2.2.2.1 f.2.2.2.2, none⟩, ⟨7, .int .i64 s.i_1, none⟩]

def dec_law22_changed_L2 (e : Env) (K : ((Option Addr) × Addr × (Option Addr) × Nat × Nat) → S_law22_changed_L2 → Prop) : Prop :=
  onV (getV e 0) fun u1 =>
  asP u1 fun x_2 =>
  onV (getV e 4) fun u2 =>
  asA u2 fun cx_1 =>
  onV (getV e 5) fun u3 =>
  asS u3 fun lP_4 lN_4 lC_4 =>
  onV (getV e 7) fun u4 =>
  asI .i64 u4 fun i_1 =>
    K (x_2, cx_1, lP_4, lN_4, lC_4) ⟨i_1⟩

theorem dec_law22_changed_L2_ok {N : Nat} (e : Env) (a : Act) (K : ((Option Addr) × Addr × (Option Addr) × Nat × Nat) → S_law22_changed_L2 → Prop) (hr : Rep N a e) (h0 : dec_law22_changed_L2 e K) : ∃ f s, K f s ∧ Rep N a (lit_law22_changed_L2 f s) := by
  unfold dec_law22_changed_L2 at h0
  obtain ⟨u1, g0, h1⟩ := onV_elim h0
  obtain ⟨x_2, rfl, h2⟩ := asP_elim h1
  obtain ⟨u2, g4, h3⟩ := onV_elim h2
  obtain ⟨cx_1, rfl, h4⟩ := asA_elim h3
  obtain ⟨u3, g5, h5⟩ := onV_elim h4
  obtain ⟨lP_4, lN_4, lC_4, rfl, h6⟩ := asS_elim h5
  obtain ⟨u4, g7, h7⟩ := onV_elim h6
  obtain ⟨i_1, rfl, h8⟩ := asI_elim h7
  exact ⟨_, _, h8, rep_less hr (by simp [lit_law22_changed_L2, g0, g4, g5, g7])⟩

def spec_law22_changed_L2 (Q : Post) (e : Env) (w : World) : Prop :=
  dec_law22_changed_L2 e fun f s => F_law22_changed_L2 f.1 f.2.1 f.2.2.1 f.2.2.2.1 f.2.2.2.2 s w (fun w1 => Q (.exit 2) [⟨0, .pointer f.1, none⟩, ⟨4, .pointer (some f.2.1), none⟩] w1)

def lit_law22_changed_L3 (f : (Option Addr) × Addr × (Option Addr) × Nat × Nat × Int) (s : S_law22_changed_L3) : Env := [⟨0, .pointer f.1, none⟩, ⟨4, .pointer (some f.2.1), none⟩, ⟨5, .slice f.2.2.1 f.2.2.2.1 f.2.2.2.2.1, none⟩, ⟨7, .int .i64 f.2.2.2.2.2, none⟩, ⟨8, .int .i64 s.k, none⟩]

def dec_law22_changed_L3 (e : Env) (K : ((Option Addr) × Addr × (Option Addr) × Nat × Nat × Int) → S_law22_changed_L3 → Prop) : Prop :=
  onV (getV e 0) fun u1 =>
  asP u1 fun x_3 =>
  onV (getV e 4) fun u2 =>
  asA u2 fun cx_2 =>
  onV (getV e 5) fun u3 =>
  asS u3 fun lP_5 lN_5 lC_5 =>
  onV (getV e 7) fun u4 =>
  asI .i64 u4 fun i_2 =>
  onV (getV e 8) fun u5 =>
  asI .i64 u5 fun k =>
    K (x_3, cx_2, lP_5, lN_5, lC_5, i_2) ⟨k⟩

theorem dec_law22_changed_L3_ok {N : Nat} (e : Env) (a : Act) (K : ((Option Addr) × Addr × (Option Addr) × Nat × Nat × Int) → S_law22_changed_L3 → Prop) (hr : Rep N a e) (h0 : dec_law22_changed_L3 e K) : ∃ f s, K f s ∧ Rep N a (lit_law22_changed_L3 f s) := by
  unfold dec_law22_changed_L3 at h0
  obtain ⟨u1, g0, h1⟩ := onV_elim h0
  obtain ⟨x_3, rfl, h2⟩ := asP_elim h1
  obtain ⟨u2, g4, h3⟩ := onV_elim h2
  obtain ⟨cx_2, rfl, h4⟩ := asA_elim h3
  obtain ⟨u3, g5, h5⟩ := onV_elim h4
  obtain ⟨lP_5, lN_5, lC_5, rfl, h6⟩ := asS_elim h5
  obtain ⟨u4, g7, h7⟩ := onV_elim h6
  obtain ⟨i_2, rfl, h8⟩ := asI_elim h7
  obtain ⟨u5, g8, h9⟩ := onV_elim h8
  obtain ⟨k, rfl, h10⟩ := asI_elim h9
  exact ⟨_, _, h10, rep_less hr (by simp [lit_law22_changed_L3, g0, g4, g5, g7, g8])⟩

def spec_law22_changed_L3 (Q : Post) (e : Env) (w : World) : Prop :=
  dec_law22_changed_L3 e fun f s => F_law22_changed_L3 f.1 f.2.1 f.2.2.1 f.2.2.2.1 f.2.2.2.2.1 f.2.2.2.2.2 s w (fun w1 => Q (.exit 4) [⟨0, .pointer f.1, none⟩, ⟨4, .pointer (some f.2.1), none⟩, ⟨5, .slice f.2.2.1 f.2.2.2.1 f.2.2.2.2.1, none⟩, ⟨7, .int .i64 f.2.2.2.2.2, none⟩] w1)

def lit_law22_changed_L4 (f : (Option Addr) × Addr) (s : S_law22_changed_L4) : Env := [⟨0, .pointer f.1, none⟩, ⟨4, .pointer (some f.2), none⟩, ⟨9, .int .i64 s.i_3, none⟩]

def dec_law22_changed_L4 (e : Env) (K : ((Option Addr) × Addr) → S_law22_changed_L4 → Prop) : Prop :=
  onV (getV e 0) fun u1 =>
  asP u1 fun x_4 =>
  onV (getV e 4) fun u2 =>
  asA u2 fun cx_3 =>
  onV (getV e 9) fun u3 =>
  asI .i64 u3 fun i_3 =>
    K (x_4, cx_3) ⟨i_3⟩

theorem dec_law22_changed_L4_ok {N : Nat} (e : Env) (a : Act) (K : ((Option Addr) × Addr) → S_law22_changed_L4 → Prop) (hr : Rep N a e) (h0 : dec_law22_changed_L4 e K) : ∃ f s, K f s ∧ Rep N a (lit_law22_changed_L4 f s) := by
  unfold dec_law22_changed_L4 at h0
  obtain ⟨u1, g0, h1⟩ := onV_elim h0
  obtain ⟨x_4, rfl, h2⟩ := asP_elim h1
  obtain ⟨u2, g4, h3⟩ := onV_elim h2
  obtain ⟨cx_3, rfl, h4⟩ := asA_elim h3
  obtain ⟨u3, g9, h5⟩ := onV_elim h4
  obtain ⟨i_3, rfl, h6⟩ := asI_elim h5
  exact ⟨_, _, h6, rep_less hr (by simp [lit_law22_changed_L4, g0, g4, g9])⟩

def spec_law22_changed_L4 (Q : Post) (e : Env) (w : World) : Prop :=
  dec_law22_changed_L4 e fun f s => F_law22_changed_L4 f.1 f.2 s w (fun w1 => Q (.exit 6) [] w1)

def lit_law22_changed_L5 (f : (Option Addr) × Addr × Int) (s : S_law22_changed_L5) : Env := [⟨0, .pointer f.1, none⟩, ⟨4, .pointer (some f.2.1), none⟩, ⟨9, .int .i64 f.2.2, none⟩, ⟨10, .int .i64 s.k_1, none⟩]

def dec_law22_changed_L5 (e : Env) (K : ((Option Addr) × Addr × Int) → S_law22_changed_L5 → Prop) : Prop :=
  onV (getV e 0) fun u1 =>
  asP u1 fun x_5 =>
  onV (getV e 4) fun u2 =>
  asA u2 fun cx_4 =>
  onV (getV e 9) fun u3 =>
  asI .i64 u3 fun i_4 =>
  onV (getV e 10) fun u4 =>
  asI .i64 u4 fun k_1 =>
    K (x_5, cx_4, i_4) ⟨k_1⟩

theorem dec_law22_changed_L5_ok {N : Nat} (e : Env) (a : Act) (K : ((Option Addr) × Addr × Int) → S_law22_changed_L5 → Prop) (hr : Rep N a e) (h0 : dec_law22_changed_L5 e K) : ∃ f s, K f s ∧ Rep N a (lit_law22_changed_L5 f s) := by
  unfold dec_law22_changed_L5 at h0
  obtain ⟨u1, g0, h1⟩ := onV_elim h0
  obtain ⟨x_5, rfl, h2⟩ := asP_elim h1
  obtain ⟨u2, g4, h3⟩ := onV_elim h2
  obtain ⟨cx_4, rfl, h4⟩ := asA_elim h3
  obtain ⟨u3, g9, h5⟩ := onV_elim h4
  obtain ⟨i_4, rfl, h6⟩ := asI_elim h5
  obtain ⟨u4, g10, h7⟩ := onV_elim h6
  obtain ⟨k_1, rfl, h8⟩ := asI_elim h7
  exact ⟨_, _, h8, rep_less hr (by simp [lit_law22_changed_L5, g0, g4, g9, g10])⟩

def spec_law22_changed_L5 (Q : Post) (e : Env) (w : World) : Prop :=
  dec_law22_changed_L5 e fun f s => F_law22_changed_L5 f.1 f.2.1 f.2.2 s w (fun w1 => Q (.exit 8) [⟨0, .pointer f.1, none⟩, ⟨4, .pointer (some f.2.1), none⟩, ⟨9, .int .i64 f.2.2, none⟩] w1)

def G_law22_changed : Gen where
  loop := lookL [([false, true, false, true, true], spec_law22_changed_L1), ([false, true, false, true, true, true], spec_law22_changed_L2), ([false, true, false, false, true, false, false, true, false, true, true, true], spec_law22_changed_L3), ([false, true, true, true, true, true], spec_law22_changed_L4), ([false, true, false, false, true, false, false, true, true, true, true, true], spec_law22_changed_L5)]
  plan := fun id =>
    bif Nat.beq id 11 then some ([0, 0, 2, 6, 14, 0, 0, 96, 224, 510, 1022, 2046, 4094, 8191], .take 0 (.take 1 (.take 2 (.take 3 (.take 4 (.take 5 (.take 6 (.take 7 (.take 8 (.take 9 (.take 10 (.take 11 (.take 12 (.take 13 .done)))))))))))))) else
    bif Nat.beq id 13 then some ([0, 1, 3, 7, 0, 0, 48, 112, 255, 511, 1023, 0, 0, 0, 8192, 24576, 57344, 0, 0, 393216, 917504, 2088960, 4186112, 8380416, 0, 33546240, 67100672, 134213632, 268435455, 536870911], .take 0 (.take 1 (.take 2 (.take 3 (.take 4 (.take 5 (.take 6 (.take 7 (.take 8 (.take 9 (.take 10 (.take 11 (.take 12 (.take 13 (.take 14 (.take 15 (.take 16 (.take 17 (.take 18 (.take 19 (.take 20 (.take 21 (.take 22 (.take 23 (.take 24 (.take 25 (.take 26 (.take 27 (.take 28 (.take 29 .done)))))))))))))))))))))))))))))) else
    bif Nat.beq id 20 then some ([0, 1, 3, 7, 0, 31, 63, 127, 255, 0, 0, 0, 2048, 6144, 14336, 0, 63488, 129024, 260096, 522240, 0, 2095104, 4192256, 8387584, 16777215, 33554431], .take 0 (.take 1 (.take 2 (.take 3 (.take 4 (.take 5 (.take 6 (.take 7 (.take 8 (.take 9 (.take 10 (.take 11 (.take 12 (.take 13 (.take 14 (.take 15 (.take 16 (.take 17 (.take 18 (.take 19 (.take 20 (.take 21 (.take 22 (.take 23 (.take 24 (.take 25 .done)))))))))))))))))))))))))) else none

def dx_law22_changed_L1_0 (e : Env) (K : ((Option Addr) × Addr) → Option Addr → Nat → Nat → Prop) : Prop :=
  onV (getV e 0) fun u1 =>
  asP u1 fun x_1 =>
  onV (getV e 4) fun u2 =>
  asA u2 fun cx =>
  onV (getV e 5) fun u3 =>
  asS u3 fun lP_1 lN_1 lC_1 =>
    K (x_1, cx) lP_1 lN_1 lC_1

theorem body_law22_changed_L1 (f : (Option Addr) × Addr) (s : S_law22_changed_L1) (w : World) (Kn : ((Option Addr) × Addr) → S_law22_changed_L1 → World → Prop) (Kx0 : ((Option Addr) × Addr) → Option Addr → Nat → Nat → World → Prop) :
    B_law22_changed_L1 f.1 f.2 s w (fun s1 w1 => Kn f s1 w1) (fun lP_1 lN_1 lC_1 w1 => Kx0 f lP_1 lN_1 lC_1 w1) =
    den Try.prog Try.f57.ntmps G_law22_changed (sub (codeOf Try.f57) [false, false, true, false, true, true]) [false, false, true, false, true, true] (roundQ (fun e w => dec_law22_changed_L1 e fun f s => Kn f s w) (fun e w => False) (fun id e w => match Nat.beq id 0 with | true => dx_law22_changed_L1_0 e fun f lP_1 lN_1 lC_1 => Kx0 f lP_1 lN_1 lC_1 w | false => False)) (lit_law22_changed_L1 f s) w := by kernel_rfl

def dx_law22_changed_L2_2 (e : Env) (K : ((Option Addr) × Addr × (Option Addr) × Nat × Nat) → Prop) : Prop :=
  onV (getV e 0) fun u1 =>
  asP u1 fun x_2 =>
  onV (getV e 4) fun u2 =>
  asA u2 fun cx_1 =>
  onV (getV e 5) fun u3 =>
  asS u3 fun lP_4 lN_4 lC_4 =>
    K (x_2, cx_1, lP_4, lN_4, lC_4)

theorem body_law22_changed_L2 (f : (Option Addr) × Addr × (Option Addr) × Nat × Nat) (s : S_law22_changed_L2) (w : World) (Kn : ((Option Addr) × Addr × (Option Addr) × Nat × Nat) → S_law22_changed_L2 → World → Prop) (Kx2 : ((Option Addr) × Addr × (Option Addr) × Nat × Nat) → World → Prop) :
    B_law22_changed_L2 f.1 f.2.1 f.2.2.1 f.2.2.2.1 f.2.2.2.2 s w (fun s1 w1 => Kn f s1 w1) (fun w1 => Kx2 f w1) =
    den Try.prog Try.f57.ntmps G_law22_changed (sub (codeOf Try.f57) [false, false, true, false, true, true, true]) [false, false, true, false, true, true, true] (roundQ (fun e w => dec_law22_changed_L2 e fun f s => Kn f s w) (fun e w => False) (fun id e w => match Nat.beq id 2 with | true => dx_law22_changed_L2_2 e fun f => Kx2 f w | false => False)) (lit_law22_changed_L2 f s) w := by kernel_rfl

def dx_law22_changed_L3_4 (e : Env) (K : ((Option Addr) × Addr × (Option Addr) × Nat × Nat × Int) → Prop) : Prop :=
  onV (getV e 0) fun u1 =>
  asP u1 fun x_3 =>
  onV (getV e 4) fun u2 =>
  asA u2 fun cx_2 =>
  onV (getV e 5) fun u3 =>
  asS u3 fun lP_5 lN_5 lC_5 =>
  onV (getV e 7) fun u4 =>
  asI .i64 u4 fun i_2 =>
    K (x_3, cx_2, lP_5, lN_5, lC_5, i_2)

theorem body_law22_changed_L3 (f : (Option Addr) × Addr × (Option Addr) × Nat × Nat × Int) (s : S_law22_changed_L3) (w : World) (Kn : ((Option Addr) × Addr × (Option Addr) × Nat × Nat × Int) → S_law22_changed_L3 → World → Prop) (Kx4 : ((Option Addr) × Addr × (Option Addr) × Nat × Nat × Int) → World → Prop) :
    B_law22_changed_L3 f.1 f.2.1 f.2.2.1 f.2.2.2.1 f.2.2.2.2.1 f.2.2.2.2.2 s w (fun s1 w1 => Kn f s1 w1) (fun w1 => Kx4 f w1) =
    den Try.prog Try.f57.ntmps G_law22_changed (sub (codeOf Try.f57) [false, false, true, false, false, true, false, false, true, false, true, true, true]) [false, false, true, false, false, true, false, false, true, false, true, true, true] (roundQ (fun e w => dec_law22_changed_L3 e fun f s => Kn f s w) (fun e w => False) (fun id e w => match Nat.beq id 4 with | true => dx_law22_changed_L3_4 e fun f => Kx4 f w | false => False)) (lit_law22_changed_L3 f s) w := by kernel_rfl

def dx_law22_changed_L4_6 (e : Env) (K : ((Option Addr) × Addr) → Prop) : Prop :=
  onV (getV e 0) fun u1 =>
  asP u1 fun x_4 =>
  onV (getV e 4) fun u2 =>
  asA u2 fun cx_3 =>
    K (x_4, cx_3)

theorem body_law22_changed_L4 (f : (Option Addr) × Addr) (s : S_law22_changed_L4) (w : World) (Kn : ((Option Addr) × Addr) → S_law22_changed_L4 → World → Prop) (Kx6 : ((Option Addr) × Addr) → World → Prop) :
    B_law22_changed_L4 f.1 f.2 s w (fun s1 w1 => Kn f s1 w1) (fun w1 => Kx6 f w1) =
    den Try.prog Try.f57.ntmps G_law22_changed (sub (codeOf Try.f57) [false, false, true, true, true, true, true]) [false, false, true, true, true, true, true] (roundQ (fun e w => dec_law22_changed_L4 e fun f s => Kn f s w) (fun e w => False) (fun id e w => match Nat.beq id 6 with | true => dx_law22_changed_L4_6 e fun f => Kx6 f w | false => False)) (lit_law22_changed_L4 f s) w := by kernel_rfl

def dx_law22_changed_L5_8 (e : Env) (K : ((Option Addr) × Addr × Int) → Prop) : Prop :=
  onV (getV e 0) fun u1 =>
  asP u1 fun x_5 =>
  onV (getV e 4) fun u2 =>
  asA u2 fun cx_4 =>
  onV (getV e 9) fun u3 =>
  asI .i64 u3 fun i_4 =>
    K (x_5, cx_4, i_4)

theorem body_law22_changed_L5 (f : (Option Addr) × Addr × Int) (s : S_law22_changed_L5) (w : World) (Kn : ((Option Addr) × Addr × Int) → S_law22_changed_L5 → World → Prop) (Kx8 : ((Option Addr) × Addr × Int) → World → Prop) :
    B_law22_changed_L5 f.1 f.2.1 f.2.2 s w (fun s1 w1 => Kn f s1 w1) (fun w1 => Kx8 f w1) =
    den Try.prog Try.f57.ntmps G_law22_changed (sub (codeOf Try.f57) [false, false, true, false, false, true, false, false, true, true, true, true, true]) [false, false, true, false, false, true, false, false, true, true, true, true, true] (roundQ (fun e w => dec_law22_changed_L5 e fun f s => Kn f s w) (fun e w => False) (fun id e w => match Nat.beq id 8 with | true => dx_law22_changed_L5_8 e fun f => Kx8 f w | false => False)) (lit_law22_changed_L5 f s) w := by kernel_rfl

theorem ok_law22_changed_L1 : OneOk Try.prog Try.f57.ntmps G_law22_changed (codeOf Try.f57) [false, true, false, true, true] spec_law22_changed_L1 := by
  intro c hc ih Q e w a hr h
  have hcc : sub (codeOf Try.f57) [false, false, true, false, true, true] = c := sub_of_codeAt hc
  obtain ⟨f, s, h, hrep⟩ := dec_law22_changed_L1_ok e a _ hr h
  obtain ⟨J, μ, hj, hround⟩ := h
  refine loop_rule_deep seat_ok seat_mixed ih lit_law22_changed_L1 dec_law22_changed_L1 dec_law22_changed_L1_ok hc f J μ (Kr := fun e w => False) (Kx := fun id e w => match Nat.beq id 0 with | true => (dx_law22_changed_L1_0 e fun f1 lP_1 lN_1 lC_1 => f1 = f ∧ Q (.exit 0) [⟨0, .pointer f.1, none⟩, ⟨4, .pointer (some f.2), none⟩, ⟨5, .slice lP_1 lN_1 lC_1, none⟩] w) | false => False) ?_ ?_ ?_ s w a hj hrep
  · intro e a w hr h
    exact h.elim
  · intro id e a w hr h0
    (try dsimp only at h0)
    split at h0
    · rename_i hid
      obtain rfl := Nat.eq_of_beq_eq_true hid
      unfold dx_law22_changed_L1_0 at h0
      obtain ⟨u1, g0, h1⟩ := onV_elim h0
      obtain ⟨x_1, rfl, h2⟩ := asP_elim h1
      obtain ⟨u2, g4, h3⟩ := onV_elim h2
      obtain ⟨cx, rfl, h4⟩ := asA_elim h3
      obtain ⟨u3, g5, h5⟩ := onV_elim h4
      obtain ⟨lP_1, lN_1, lC_1, rfl, h6⟩ := asS_elim h5
      obtain ⟨hf, hq⟩ := h6
      subst hf
      exact ⟨_, rep_less hr (by simp [g0, g4, g5]), hq⟩
    · exact h0.elim
  · intro s w hj
    have hb := hround s w hj
    rw [← hcc]
    have e1 := body_law22_changed_L1 f s w (fun f1 s1 w1 => f1 = f ∧ J s1 w1 ∧ μ s1 w1 < μ s w) (fun f1 lP_1 lN_1 lC_1 w1 => f1 = f ∧ Q (.exit 0) [⟨0, .pointer f.1, none⟩, ⟨4, .pointer (some f.2), none⟩, ⟨5, .slice lP_1 lN_1 lC_1, none⟩] w1)
    simp only [true_and] at e1
    exact cast e1 hb

theorem ok_law22_changed_L2 : OneOk Try.prog Try.f57.ntmps G_law22_changed (codeOf Try.f57) [false, true, false, true, true, true] spec_law22_changed_L2 := by
  intro c hc ih Q e w a hr h
  have hcc : sub (codeOf Try.f57) [false, false, true, false, true, true, true] = c := sub_of_codeAt hc
  obtain ⟨f, s, h, hrep⟩ := dec_law22_changed_L2_ok e a _ hr h
  obtain ⟨J, μ, hj, hround⟩ := h
  refine loop_rule_deep seat_ok seat_mixed ih lit_law22_changed_L2 dec_law22_changed_L2 dec_law22_changed_L2_ok hc f J μ (Kr := fun e w => False) (Kx := fun id e w => match Nat.beq id 2 with | true => (dx_law22_changed_L2_2 e fun f1 => f1 = f ∧ Q (.exit 2) [⟨0, .pointer f.1, none⟩, ⟨4, .pointer (some f.2.1), none⟩] w) | false => False) ?_ ?_ ?_ s w a hj hrep
  · intro e a w hr h
    exact h.elim
  · intro id e a w hr h0
    (try dsimp only at h0)
    split at h0
    · rename_i hid
      obtain rfl := Nat.eq_of_beq_eq_true hid
      unfold dx_law22_changed_L2_2 at h0
      obtain ⟨u1, g0, h1⟩ := onV_elim h0
      obtain ⟨x_2, rfl, h2⟩ := asP_elim h1
      obtain ⟨u2, g4, h3⟩ := onV_elim h2
      obtain ⟨cx_1, rfl, h4⟩ := asA_elim h3
      obtain ⟨u3, g5, h5⟩ := onV_elim h4
      obtain ⟨lP_4, lN_4, lC_4, rfl, h6⟩ := asS_elim h5
      obtain ⟨hf, hq⟩ := h6
      subst hf
      exact ⟨_, rep_less hr (by simp [g0, g4]), hq⟩
    · exact h0.elim
  · intro s w hj
    have hb := hround s w hj
    rw [← hcc]
    have e1 := body_law22_changed_L2 f s w (fun f1 s1 w1 => f1 = f ∧ J s1 w1 ∧ μ s1 w1 < μ s w) (fun f1 w1 => f1 = f ∧ Q (.exit 2) [⟨0, .pointer f.1, none⟩, ⟨4, .pointer (some f.2.1), none⟩] w1)
    simp only [true_and] at e1
    exact cast e1 hb

theorem ok_law22_changed_L3 : OneOk Try.prog Try.f57.ntmps G_law22_changed (codeOf Try.f57) [false, true, false, false, true, false, false, true, false, true, true, true] spec_law22_changed_L3 := by
  intro c hc ih Q e w a hr h
  have hcc : sub (codeOf Try.f57) [false, false, true, false, false, true, false, false, true, false, true, true, true] = c := sub_of_codeAt hc
  obtain ⟨f, s, h, hrep⟩ := dec_law22_changed_L3_ok e a _ hr h
  obtain ⟨J, μ, hj, hround⟩ := h
  refine loop_rule_deep seat_ok seat_mixed ih lit_law22_changed_L3 dec_law22_changed_L3 dec_law22_changed_L3_ok hc f J μ (Kr := fun e w => False) (Kx := fun id e w => match Nat.beq id 4 with | true => (dx_law22_changed_L3_4 e fun f1 => f1 = f ∧ Q (.exit 4) [⟨0, .pointer f.1, none⟩, ⟨4, .pointer (some f.2.1), none⟩, ⟨5, .slice f.2.2.1 f.2.2.2.1 f.2.2.2.2.1, none⟩, ⟨7, .int .i64 f.2.2.2.2.2, none⟩] w) | false => False) ?_ ?_ ?_ s w a hj hrep
  · intro e a w hr h
    exact h.elim
  · intro id e a w hr h0
    (try dsimp only at h0)
    split at h0
    · rename_i hid
      obtain rfl := Nat.eq_of_beq_eq_true hid
      unfold dx_law22_changed_L3_4 at h0
      obtain ⟨u1, g0, h1⟩ := onV_elim h0
      obtain ⟨x_3, rfl, h2⟩ := asP_elim h1
      obtain ⟨u2, g4, h3⟩ := onV_elim h2
      obtain ⟨cx_2, rfl, h4⟩ := asA_elim h3
      obtain ⟨u3, g5, h5⟩ := onV_elim h4
      obtain ⟨lP_5, lN_5, lC_5, rfl, h6⟩ := asS_elim h5
      obtain ⟨u4, g7, h7⟩ := onV_elim h6
      obtain ⟨i_2, rfl, h8⟩ := asI_elim h7
      obtain ⟨hf, hq⟩ := h8
      subst hf
      exact ⟨_, rep_less hr (by simp [g0, g4, g5, g7]), hq⟩
    · exact h0.elim
  · intro s w hj
    have hb := hround s w hj
    rw [← hcc]
    have e1 := body_law22_changed_L3 f s w (fun f1 s1 w1 => f1 = f ∧ J s1 w1 ∧ μ s1 w1 < μ s w) (fun f1 w1 => f1 = f ∧ Q (.exit 4) [⟨0, .pointer f.1, none⟩, ⟨4, .pointer (some f.2.1), none⟩, ⟨5, .slice f.2.2.1 f.2.2.2.1 f.2.2.2.2.1, none⟩, ⟨7, .int .i64 f.2.2.2.2.2, none⟩] w1)
    simp only [true_and] at e1
    exact cast e1 hb

theorem ok_law22_changed_L4 : OneOk Try.prog Try.f57.ntmps G_law22_changed (codeOf Try.f57) [false, true, true, true, true, true] spec_law22_changed_L4 := by
  intro c hc ih Q e w a hr h
  have hcc : sub (codeOf Try.f57) [false, false, true, true, true, true, true] = c := sub_of_codeAt hc
  obtain ⟨f, s, h, hrep⟩ := dec_law22_changed_L4_ok e a _ hr h
  obtain ⟨J, μ, hj, hround⟩ := h
  refine loop_rule_deep seat_ok seat_mixed ih lit_law22_changed_L4 dec_law22_changed_L4 dec_law22_changed_L4_ok hc f J μ (Kr := fun e w => False) (Kx := fun id e w => match Nat.beq id 6 with | true => (dx_law22_changed_L4_6 e fun f1 => f1 = f ∧ Q (.exit 6) [] w) | false => False) ?_ ?_ ?_ s w a hj hrep
  · intro e a w hr h
    exact h.elim
  · intro id e a w hr h0
    (try dsimp only at h0)
    split at h0
    · rename_i hid
      obtain rfl := Nat.eq_of_beq_eq_true hid
      unfold dx_law22_changed_L4_6 at h0
      obtain ⟨u1, g0, h1⟩ := onV_elim h0
      obtain ⟨x_4, rfl, h2⟩ := asP_elim h1
      obtain ⟨u2, g4, h3⟩ := onV_elim h2
      obtain ⟨cx_3, rfl, h4⟩ := asA_elim h3
      obtain ⟨hf, hq⟩ := h4
      subst hf
      exact ⟨_, rep_less hr (by simp), hq⟩
    · exact h0.elim
  · intro s w hj
    have hb := hround s w hj
    rw [← hcc]
    have e1 := body_law22_changed_L4 f s w (fun f1 s1 w1 => f1 = f ∧ J s1 w1 ∧ μ s1 w1 < μ s w) (fun f1 w1 => f1 = f ∧ Q (.exit 6) [] w1)
    simp only [true_and] at e1
    exact cast e1 hb

theorem ok_law22_changed_L5 : OneOk Try.prog Try.f57.ntmps G_law22_changed (codeOf Try.f57) [false, true, false, false, true, false, false, true, true, true, true, true] spec_law22_changed_L5 := by
  intro c hc ih Q e w a hr h
  have hcc : sub (codeOf Try.f57) [false, false, true, false, false, true, false, false, true, true, true, true, true] = c := sub_of_codeAt hc
  obtain ⟨f, s, h, hrep⟩ := dec_law22_changed_L5_ok e a _ hr h
  obtain ⟨J, μ, hj, hround⟩ := h
  refine loop_rule_deep seat_ok seat_mixed ih lit_law22_changed_L5 dec_law22_changed_L5 dec_law22_changed_L5_ok hc f J μ (Kr := fun e w => False) (Kx := fun id e w => match Nat.beq id 8 with | true => (dx_law22_changed_L5_8 e fun f1 => f1 = f ∧ Q (.exit 8) [⟨0, .pointer f.1, none⟩, ⟨4, .pointer (some f.2.1), none⟩, ⟨9, .int .i64 f.2.2, none⟩] w) | false => False) ?_ ?_ ?_ s w a hj hrep
  · intro e a w hr h
    exact h.elim
  · intro id e a w hr h0
    (try dsimp only at h0)
    split at h0
    · rename_i hid
      obtain rfl := Nat.eq_of_beq_eq_true hid
      unfold dx_law22_changed_L5_8 at h0
      obtain ⟨u1, g0, h1⟩ := onV_elim h0
      obtain ⟨x_5, rfl, h2⟩ := asP_elim h1
      obtain ⟨u2, g4, h3⟩ := onV_elim h2
      obtain ⟨cx_4, rfl, h4⟩ := asA_elim h3
      obtain ⟨u3, g9, h5⟩ := onV_elim h4
      obtain ⟨i_4, rfl, h6⟩ := asI_elim h5
      obtain ⟨hf, hq⟩ := h6
      subst hf
      exact ⟨_, rep_less hr (by simp [g0, g4, g9]), hq⟩
    · exact h0.elim
  · intro s w hj
    have hb := hround s w hj
    rw [← hcc]
    have e1 := body_law22_changed_L5 f s w (fun f1 s1 w1 => f1 = f ∧ J s1 w1 ∧ μ s1 w1 < μ s w) (fun f1 w1 => f1 = f ∧ Q (.exit 8) [⟨0, .pointer f.1, none⟩, ⟨4, .pointer (some f.2.1), none⟩, ⟨9, .int .i64 f.2.2, none⟩] w1)
    simp only [true_and] at e1
    exact cast e1 hb

theorem loops_law22_changed : LoopOk Try.prog Try.f57.ntmps G_law22_changed (codeOf Try.f57) := loopOk_list rfl ⟨ok_law22_changed_L1, ⟨ok_law22_changed_L2, ⟨ok_law22_changed_L3, ⟨ok_law22_changed_L4, ⟨ok_law22_changed_L5, trivial⟩⟩⟩⟩⟩

theorem den_law22_changed (x : Option Addr) (wx : Int) (w : World) (R : Value → World → Prop) :
    F_law22_changed x wx w (fun w1 => R (.tuple #[]) w1) = den Try.prog Try.f57.ntmps G_law22_changed (codeOf Try.f57) [] (postD Try.prog Try.f57.results.toList R) (entry [.pointer x, .int .u64 wx] 0) w := by kernel_rfl

theorem C_law22_changed.of {x : Option Addr} {wx : Int} {w : World} {R : World → Prop} (h : F_law22_changed x wx w R) : C_law22_changed x wx w R := by
  refine (calls_of_den (c := codeOf Try.f57) seat_ok seat_mixed Try.func57 (by kernel_rfl) loops_law22_changed (args := [.pointer x, .int .u64 wx]) rfl (R := fun v w1 => v = (.tuple #[] : Value) ∧ R w1) ?_).mono ?_
  · rw [← den_law22_changed]
    simpa using h
  · rintro en w1 ⟨v, he, rfl, h⟩
    exact ⟨he, h⟩

def F_ref22_Stack_Slots (sx : Option Addr) (w : World) (R : Int → World → Prop) : Prop :=
  NN sx fun a =>
  ∃ Cur : Int, w.cell? (a.add 1) = some (.int .i64 Cur) ∧
  If (decide (Cur < (0 : Int)))
  (R (0 : Int) w)
  (NN sx fun a_1 =>
  ∃ EP : Option Addr, ∃ EN : Nat, ∃ EC : Nat, (drw w).cell? (a_1.add 0) = some (.slice EP EN EC) ∧
  NN sx fun a_2 =>
  ∃ Cur_1 : Int, (drw w).cell? (a_2.add 1) = some (.int .i64 Cur_1) ∧
  0 ≤ Cur_1 ∧ Cur_1 < (EN : Int) ∧ NN EP fun a_3 =>
  ∃ YP : Option Addr, ∃ YN : Nat, ∃ YC : Nat, (drw w).cell? ((a_3.add (Cur_1.toNat * 5)).add 2) = some (.slice YP YN YC) ∧
  R (YN : Int) (drw w))

def G_ref22_Stack_Slots : Gen where
  loop := lookL []
  plan := fun id =>
    bif Nat.beq id 3 then some ([0, 1, 3, 7, 0, 16, 48, 112, 255, 511, 1023, 2047, 4095], .take 0 (.take 1 (.take 2 (.take 3 (.take 4 (.take 5 (.take 6 (.take 7 (.take 8 (.take 9 (.take 10 (.take 11 (.take 12 .done))))))))))))) else none

theorem loops_ref22_Stack_Slots : LoopOk Try.prog Try.f58.ntmps G_ref22_Stack_Slots (codeOf Try.f58) := loopOk_none fun _ => rfl

theorem den_ref22_Stack_Slots (sx : Option Addr) (w : World) (R : Value → World → Prop) :
    F_ref22_Stack_Slots sx w (fun r w1 => R (.int .i64 r) w1) = den Try.prog Try.f58.ntmps G_ref22_Stack_Slots (codeOf Try.f58) [] (postD Try.prog Try.f58.results.toList R) (entry [.pointer sx] 0) w := by kernel_rfl

theorem C_ref22_Stack_Slots.of {sx : Option Addr} {w : World} {R : Int → World → Prop} (h : F_ref22_Stack_Slots sx w R) : C_ref22_Stack_Slots sx w R := by
  refine (calls_of_den (c := codeOf Try.f58) seat_ok seat_mixed Try.func58 (by kernel_rfl) loops_ref22_Stack_Slots (args := [.pointer sx]) rfl (R := fun v w1 => ∃ (r : Int), v = (.int .i64 r : Value) ∧ R r w1) ?_).mono ?_
  · rw [← den_ref22_Stack_Slots]
    have e : (fun r w1 => ∃ (r' : Int), (.int .i64 r : Value) = (.int .i64 r' : Value) ∧ R r' w1) = R := by
      funext r w1
      exact propext ⟨fun ⟨r', he, h⟩ => by first | (simp at he; simp_all) | (cases he; exact h), fun h => ⟨_, rfl, h⟩⟩
    simpa only [e] using h
  · rintro en w1 ⟨v, he, r, rfl, h⟩
    exact ⟨_, he, h⟩

structure S_ref22_Stack_Chain_L1 where
  n_1 : Int
  outP : Option Addr
  outN : Nat
  outC : Nat

/-- One round. -/
def B_ref22_Stack_Chain_L1 (sx_1 : Option Addr) (s : S_ref22_Stack_Chain_L1) (w : World) (Kn : S_ref22_Stack_Chain_L1 → World → Prop) (Kx0 : Option Addr → Nat → Nat → World → Prop) : Prop :=
  If (decide ((s.n_1 : Int) ≥ (0 : Int)))
  (NN sx_1 fun a =>
  ∃ EP : Option Addr, ∃ EN : Nat, ∃ EC : Nat, (drw w).cell? (a.add 0) = some (.slice EP EN EC) ∧
  0 ≤ (s.n_1 : Int) ∧ (s.n_1 : Int) < (EN : Int) ∧ NN EP fun a_1 =>
  ∃ Base : Int, (drw w).cell? ((a_1.add ((s.n_1 : Int).toNat * 5)).add 0) = some (.int .i64 Base) ∧
  NN sx_1 fun a_2 =>
  ∃ EP_1 : Option Addr, ∃ EN_1 : Nat, ∃ EC_1 : Nat, (drw w).cell? (a_2.add 0) = some (.slice EP_1 EN_1 EC_1) ∧
  0 ≤ (s.n_1 : Int) ∧ (s.n_1 : Int) < (EN_1 : Int) ∧ NN EP_1 fun a_3 =>
  ∃ YP : Option Addr, ∃ YN : Nat, ∃ YC : Nat, (drw w).cell? ((a_3.add ((s.n_1 : Int).toNat * 5)).add 2) = some (.slice YP YN YC) ∧
  NN sx_1 fun a_4 =>
  ∃ EP_2 : Option Addr, ∃ EN_2 : Nat, ∃ EC_2 : Nat, (drw w).cell? (a_4.add 0) = some (.slice EP_2 EN_2 EC_2) ∧
  0 ≤ (s.n_1 : Int) ∧ (s.n_1 : Int) < (EN_2 : Int) ∧ NN EP_2 fun a_5 =>
  ∃ Cont0 : Int, (drw w).cell? (((a_5.add ((s.n_1 : Int).toNat * 5)).add 3).add 0) = some (.int .i64 Cont0) ∧
  ∃ Cont1 : Int, (drw w).cell? (((a_5.add ((s.n_1 : Int).toNat * 5)).add 3).add 1) = some (.int .i64 Cont1) ∧
  BSl Try.prog 38 1 [(0, .agg #[.int .i64 Base, .slice YP YN YC, .int .i64 Cont0, .int .i64 Cont1])] (drw w) fun t34P t34N t34C w1 =>
  App Try.prog #[38, 38] 38 #[.slice s.outP s.outN s.outC, .slice t34P t34N t34C] w1 fun t35P t35N t35C w1_1 =>
  NN sx_1 fun a_6 =>
  ∃ EP_3 : Option Addr, ∃ EN_3 : Nat, ∃ EC_3 : Nat, w1_1.cell? (a_6.add 0) = some (.slice EP_3 EN_3 EC_3) ∧
  0 ≤ (s.n_1 : Int) ∧ (s.n_1 : Int) < (EN_3 : Int) ∧ NN EP_3 fun a_7 =>
  ∃ Prev : Int, w1_1.cell? ((a_7.add ((s.n_1 : Int).toNat * 5)).add 1) = some (.int .i64 Prev) ∧
  Kn ⟨Prev, t35P, t35N, t35C⟩ w1_1)
  (Kx0 s.outP s.outN s.outC w)

def F_ref22_Stack_Chain_L1 (sx_1 : Option Addr) (s : S_ref22_Stack_Chain_L1) (w : World) (Kx0 : Option Addr → Nat → Nat → World → Prop) : Prop :=
  LoopS (fun s w Kn => B_ref22_Stack_Chain_L1 sx_1 s w Kn Kx0) s w

def F_ref22_Stack_Chain (sx : Option Addr) (n : Int) (w : World) (R : Option Addr → Nat → Nat → World → Prop) : Prop :=
  F_ref22_Stack_Chain_L1 sx ⟨n, none, 0, 0⟩ w
  (fun outP_2 outN_2 outC_2 w1_2 =>
  R outP_2 outN_2 outC_2 w1_2)

def lit_ref22_Stack_Chain_L1 (f : (Option Addr)) (s : S_ref22_Stack_Chain_L1) : Env := [⟨0, .pointer f, none⟩, ⟨1, .int .i64 s.n_1, none⟩, ⟨5, .slice s.outP s.outN s.outC, none⟩]

def dec_ref22_Stack_Chain_L1 (e : Env) (K : (Option Addr) → S_ref22_Stack_Chain_L1 → Prop) : Prop :=
  onV (getV e 0) fun u1 =>
  asP u1 fun sx_1 =>
  onV (getV e 1) fun u2 =>
  asI .i64 u2 fun n_1 =>
  onV (getV e 5) fun u3 =>
  asS u3 fun outP outN outC =>
    K (sx_1) ⟨n_1, outP, outN, outC⟩

theorem dec_ref22_Stack_Chain_L1_ok {N : Nat} (e : Env) (a : Act) (K : (Option Addr) → S_ref22_Stack_Chain_L1 → Prop) (hr : Rep N a e) (h0 : dec_ref22_Stack_Chain_L1 e K) : ∃ f s, K f s ∧ Rep N a (lit_ref22_Stack_Chain_L1 f s) := by
  unfold dec_ref22_Stack_Chain_L1 at h0
  obtain ⟨u1, g0, h1⟩ := onV_elim h0
  obtain ⟨sx_1, rfl, h2⟩ := asP_elim h1
  obtain ⟨u2, g1, h3⟩ := onV_elim h2
  obtain ⟨n_1, rfl, h4⟩ := asI_elim h3
  obtain ⟨u3, g5, h5⟩ := onV_elim h4
  obtain ⟨outP, outN, outC, rfl, h6⟩ := asS_elim h5
  exact ⟨_, _, h6, rep_less hr (by simp [lit_ref22_Stack_Chain_L1, g0, g1, g5])⟩

def spec_ref22_Stack_Chain_L1 (Q : Post) (e : Env) (w : World) : Prop :=
  dec_ref22_Stack_Chain_L1 e fun f s => F_ref22_Stack_Chain_L1 f s w (fun outP_1 outN_1 outC_1 w1 => Q (.exit 0) [⟨5, .slice outP_1 outN_1 outC_1, none⟩] w1)

def G_ref22_Stack_Chain : Gen where
  loop := lookL [([false, false, true, true], spec_ref22_Stack_Chain_L1)]
  plan := fun id =>
    bif Nat.beq id 3 then some ([0, 0, 2, 6, 14, 0, 62, 126, 254, 0, 512, 1536, 3584, 0, 15872, 32256, 65024, 0, 131072, 393216, 917504, 0, 4063232, 8257536, 16646144, 33554430, 67108862, 134217727, 268435455], .take 0 (.take 1 (.take 2 (.take 3 (.take 4 (.take 5 (.take 6 (.take 7 (.take 8 (.take 9 (.take 10 (.take 11 (.take 12 (.take 13 (.take 14 (.take 15 (.take 16 (.take 17 (.take 18 (.take 19 (.take 20 (.take 21 (.take 22 (.take 23 (.take 24 (.take 25 (.take 26 (.take 27 (.take 28 .done))))))))))))))))))))))))))))) else none

def dx_ref22_Stack_Chain_L1_0 (e : Env) (K : (Option Addr) → Option Addr → Nat → Nat → Prop) : Prop :=
  onV (getV e 0) fun u1 =>
  asP u1 fun sx_1 =>
  onV (getV e 5) fun u2 =>
  asS u2 fun outP_1 outN_1 outC_1 =>
    K (sx_1) outP_1 outN_1 outC_1

theorem body_ref22_Stack_Chain_L1 (f : (Option Addr)) (s : S_ref22_Stack_Chain_L1) (w : World) (Kn : (Option Addr) → S_ref22_Stack_Chain_L1 → World → Prop) (Kx0 : (Option Addr) → Option Addr → Nat → Nat → World → Prop) :
    B_ref22_Stack_Chain_L1 f s w (fun s1 w1 => Kn f s1 w1) (fun outP_1 outN_1 outC_1 w1 => Kx0 f outP_1 outN_1 outC_1 w1) =
    den Try.prog Try.f59.ntmps G_ref22_Stack_Chain (sub (codeOf Try.f59) [false, false, false, true, true]) [false, false, false, true, true] (roundQ (fun e w => dec_ref22_Stack_Chain_L1 e fun f s => Kn f s w) (fun e w => False) (fun id e w => match Nat.beq id 0 with | true => dx_ref22_Stack_Chain_L1_0 e fun f outP_1 outN_1 outC_1 => Kx0 f outP_1 outN_1 outC_1 w | false => False)) (lit_ref22_Stack_Chain_L1 f s) w := by kernel_rfl

theorem ok_ref22_Stack_Chain_L1 : OneOk Try.prog Try.f59.ntmps G_ref22_Stack_Chain (codeOf Try.f59) [false, false, true, true] spec_ref22_Stack_Chain_L1 := by
  intro c hc ih Q e w a hr h
  have hcc : sub (codeOf Try.f59) [false, false, false, true, true] = c := sub_of_codeAt hc
  obtain ⟨f, s, h, hrep⟩ := dec_ref22_Stack_Chain_L1_ok e a _ hr h
  obtain ⟨J, μ, hj, hround⟩ := h
  refine loop_rule_deep seat_ok seat_mixed ih lit_ref22_Stack_Chain_L1 dec_ref22_Stack_Chain_L1 dec_ref22_Stack_Chain_L1_ok hc f J μ (Kr := fun e w => False) (Kx := fun id e w => match Nat.beq id 0 with | true => (dx_ref22_Stack_Chain_L1_0 e fun f1 outP_1 outN_1 outC_1 => f1 = f ∧ Q (.exit 0) [⟨5, .slice outP_1 outN_1 outC_1, none⟩] w) | false => False) ?_ ?_ ?_ s w a hj hrep
  · intro e a w hr h
    exact h.elim
  · intro id e a w hr h0
    (try dsimp only at h0)
    split at h0
    · rename_i hid
      obtain rfl := Nat.eq_of_beq_eq_true hid
      unfold dx_ref22_Stack_Chain_L1_0 at h0
      obtain ⟨u1, g0, h1⟩ := onV_elim h0
      obtain ⟨sx_1, rfl, h2⟩ := asP_elim h1
      obtain ⟨u2, g5, h3⟩ := onV_elim h2
      obtain ⟨outP_1, outN_1, outC_1, rfl, h4⟩ := asS_elim h3
      obtain ⟨hf, hq⟩ := h4
      subst hf
      exact ⟨_, rep_less hr (by simp [g5]), hq⟩
    · exact h0.elim
  · intro s w hj
    have hb := hround s w hj
    rw [← hcc]
    have e1 := body_ref22_Stack_Chain_L1 f s w (fun f1 s1 w1 => f1 = f ∧ J s1 w1 ∧ μ s1 w1 < μ s w) (fun f1 outP_1 outN_1 outC_1 w1 => f1 = f ∧ Q (.exit 0) [⟨5, .slice outP_1 outN_1 outC_1, none⟩] w1)
    simp only [true_and] at e1
    exact cast e1 hb

theorem loops_ref22_Stack_Chain : LoopOk Try.prog Try.f59.ntmps G_ref22_Stack_Chain (codeOf Try.f59) := loopOk_list rfl ⟨ok_ref22_Stack_Chain_L1, trivial⟩

theorem den_ref22_Stack_Chain (sx : Option Addr) (n : Int) (w : World) (R : Value → World → Prop) :
    F_ref22_Stack_Chain sx n w (fun rP rN rC w1 => R (.slice rP rN rC) w1) = den Try.prog Try.f59.ntmps G_ref22_Stack_Chain (codeOf Try.f59) [] (postD Try.prog Try.f59.results.toList R) (entry [.pointer sx, .int .i64 n] 0) w := by kernel_rfl

theorem C_ref22_Stack_Chain.of {sx : Option Addr} {n : Int} {w : World} {R : Option Addr → Nat → Nat → World → Prop} (h : F_ref22_Stack_Chain sx n w R) : C_ref22_Stack_Chain sx n w R := by
  refine (calls_of_den (c := codeOf Try.f59) seat_ok seat_mixed Try.func59 (by kernel_rfl) loops_ref22_Stack_Chain (args := [.pointer sx, .int .i64 n]) rfl (R := fun v w1 => ∃ (rP : Option Addr) (rN : Nat) (rC : Nat), v = (.slice rP rN rC : Value) ∧ R rP rN rC w1) ?_).mono ?_
  · rw [← den_ref22_Stack_Chain]
    have e : (fun rP rN rC w1 => ∃ (rP' : Option Addr) (rN' : Nat) (rC' : Nat), (.slice rP rN rC : Value) = (.slice rP' rN' rC' : Value) ∧ R rP' rN' rC' w1) = R := by
      funext rP rN rC w1
      exact propext ⟨fun ⟨rP', rN', rC', he, h⟩ => by first | (simp at he; simp_all) | (cases he; exact h), fun h => ⟨_, _, _, rfl, h⟩⟩
    simpa only [e] using h
  · rintro en w1 ⟨v, he, rP, rN, rC, rfl, h⟩
    exact ⟨_, _, _, he, h⟩

def F_ref22_SameChoice_k1 (R : Bool → World → Prop) (w1_3 : World) : Prop :=
  R false w1_3

def F_ref22_SameChoice (a0 : Int) (a1P : Option Addr) (a1N : Nat) (a1C : Nat) (a2 : Int) (a3 : Int) (a4 : Int) (a5 : Int) (a6 : Int) (a7 : Int) (a8 : Int) (b0 : Int) (b1P : Option Addr) (b1N : Nat) (b1C : Nat) (b2 : Int) (b3 : Int) (b4 : Int) (b5 : Int) (b6 : Int) (b7 : Int) (b8 : Int) (w : World) (R : Bool → World → Prop) : Prop :=
  New w (.cells #[.int .i64 a0, .slice a1P a1N a1C, .int .i64 a2, .int .i64 a3, .int .i64 a4, .int .i64 a5, .int .i64 a6, .int .i64 a7, .int .i64 a8] 34) fun r w1 =>
  New w1 (.cells #[.int .i64 b0, .slice b1P b1N b1C, .int .i64 b2, .int .i64 b3, .int .i64 b4, .int .i64 b5, .int .i64 b6, .int .i64 b7, .int .i64 b8] 34) fun r_1 w1_1 =>
  ∃ Kind : Int, w1_1.cell? ((⟨r, 0, none⟩ : Addr).add 0) = some (.int .i64 Kind) ∧
  ∃ Kind_1 : Int, w1_1.cell? ((⟨r_1, 0, none⟩ : Addr).add 0) = some (.int .i64 Kind_1) ∧
  If (Kind == Kind_1)
  (∃ Cont0 : Int, w1_1.cell? (((⟨r, 0, none⟩ : Addr).add 2).add 0) = some (.int .i64 Cont0) ∧
  ∃ Cont1 : Int, w1_1.cell? (((⟨r, 0, none⟩ : Addr).add 2).add 1) = some (.int .i64 Cont1) ∧
  ∃ Cont0_1 : Int, w1_1.cell? (((⟨r_1, 0, none⟩ : Addr).add 2).add 0) = some (.int .i64 Cont0_1) ∧
  ∃ Cont1_1 : Int, w1_1.cell? (((⟨r_1, 0, none⟩ : Addr).add 2).add 1) = some (.int .i64 Cont1_1) ∧
  AggEq Try.prog 31 (.agg #[.int .i64 Cont0, .int .i64 Cont1]) (.agg #[.int .i64 Cont0_1, .int .i64 Cont1_1]) fun bb =>
  If bb
  (∃ Generation : Int, w1_1.cell? ((⟨r, 0, none⟩ : Addr).add 4) = some (.int .i64 Generation) ∧
  ∃ Generation_1 : Int, w1_1.cell? ((⟨r_1, 0, none⟩ : Addr).add 4) = some (.int .i64 Generation_1) ∧
  If (Generation == Generation_1)
  (∃ Next : Int, w1_1.cell? ((⟨r, 0, none⟩ : Addr).add 5) = some (.int .i64 Next) ∧
  ∃ Next_1 : Int, w1_1.cell? ((⟨r_1, 0, none⟩ : Addr).add 5) = some (.int .i64 Next_1) ∧
  If (Next == Next_1)
  (∃ Finds : Int, w1_1.cell? ((⟨r, 0, none⟩ : Addr).add 6) = some (.int .i64 Finds) ∧
  ∃ Finds_1 : Int, w1_1.cell? ((⟨r_1, 0, none⟩ : Addr).add 6) = some (.int .i64 Finds_1) ∧
  If (Finds == Finds_1)
  (∃ Env : Int, w1_1.cell? ((⟨r, 0, none⟩ : Addr).add 7) = some (.int .i64 Env) ∧
  ∃ Env_1 : Int, w1_1.cell? ((⟨r_1, 0, none⟩ : Addr).add 7) = some (.int .i64 Env_1) ∧
  If (Env == Env_1)
  (∃ Top : Int, w1_1.cell? ((⟨r, 0, none⟩ : Addr).add 8) = some (.int .i64 Top) ∧
  ∃ Top_1 : Int, w1_1.cell? ((⟨r_1, 0, none⟩ : Addr).add 8) = some (.int .i64 Top_1) ∧
  If (Top == Top_1)
  (∃ ArgsP : Option Addr, ∃ ArgsN : Nat, ∃ ArgsC : Nat, w1_1.cell? ((⟨r, 0, none⟩ : Addr).add 1) = some (.slice ArgsP ArgsN ArgsC) ∧
  ∃ ArgsP_1 : Option Addr, ∃ ArgsN_1 : Nat, ∃ ArgsC_1 : Nat, w1_1.cell? ((⟨r_1, 0, none⟩ : Addr).add 1) = some (.slice ArgsP_1 ArgsN_1 ArgsC_1) ∧
  C_ref22_SameWords ArgsP ArgsN ArgsC ArgsP_1 ArgsN_1 ArgsC_1 w1_1 fun t57 w1_2 =>
  R t57 w1_2)
  (F_ref22_SameChoice_k1 R w1_1))
  (F_ref22_SameChoice_k1 R w1_1))
  (F_ref22_SameChoice_k1 R w1_1))
  (F_ref22_SameChoice_k1 R w1_1))
  (F_ref22_SameChoice_k1 R w1_1))
  (F_ref22_SameChoice_k1 R w1_1))
  (F_ref22_SameChoice_k1 R w1_1)

def G_ref22_SameChoice : Gen where
  loop := lookL []
  plan := fun _ => none

theorem loops_ref22_SameChoice : LoopOk Try.prog Try.f60.ntmps G_ref22_SameChoice (codeOf Try.f60) := loopOk_none fun _ => rfl

theorem den_ref22_SameChoice (a0 : Int) (a1P : Option Addr) (a1N : Nat) (a1C : Nat) (a2 : Int) (a3 : Int) (a4 : Int) (a5 : Int) (a6 : Int) (a7 : Int) (a8 : Int) (b0 : Int) (b1P : Option Addr) (b1N : Nat) (b1C : Nat) (b2 : Int) (b3 : Int) (b4 : Int) (b5 : Int) (b6 : Int) (b7 : Int) (b8 : Int) (w : World) (R : Value → World → Prop) :
    F_ref22_SameChoice a0 a1P a1N a1C a2 a3 a4 a5 a6 a7 a8 b0 b1P b1N b1C b2 b3 b4 b5 b6 b7 b8 w (fun r w1 => R (.bool r) w1) = den Try.prog Try.f60.ntmps G_ref22_SameChoice (codeOf Try.f60) [] (postD Try.prog Try.f60.results.toList R) (entry [.agg #[.int .i64 a0, .slice a1P a1N a1C, .int .i64 a2, .int .i64 a3, .int .i64 a4, .int .i64 a5, .int .i64 a6, .int .i64 a7, .int .i64 a8], .agg #[.int .i64 b0, .slice b1P b1N b1C, .int .i64 b2, .int .i64 b3, .int .i64 b4, .int .i64 b5, .int .i64 b6, .int .i64 b7, .int .i64 b8]] 0) w := by kernel_rfl

theorem C_ref22_SameChoice.of {a0 : Int} {a1P : Option Addr} {a1N : Nat} {a1C : Nat} {a2 : Int} {a3 : Int} {a4 : Int} {a5 : Int} {a6 : Int} {a7 : Int} {a8 : Int} {b0 : Int} {b1P : Option Addr} {b1N : Nat} {b1C : Nat} {b2 : Int} {b3 : Int} {b4 : Int} {b5 : Int} {b6 : Int} {b7 : Int} {b8 : Int} {w : World} {R : Bool → World → Prop} (h : F_ref22_SameChoice a0 a1P a1N a1C a2 a3 a4 a5 a6 a7 a8 b0 b1P b1N b1C b2 b3 b4 b5 b6 b7 b8 w R) : C_ref22_SameChoice a0 a1P a1N a1C a2 a3 a4 a5 a6 a7 a8 b0 b1P b1N b1C b2 b3 b4 b5 b6 b7 b8 w R := by
  refine (calls_of_den (c := codeOf Try.f60) seat_ok seat_mixed Try.func60 (by kernel_rfl) loops_ref22_SameChoice (args := [.agg #[.int .i64 a0, .slice a1P a1N a1C, .int .i64 a2, .int .i64 a3, .int .i64 a4, .int .i64 a5, .int .i64 a6, .int .i64 a7, .int .i64 a8], .agg #[.int .i64 b0, .slice b1P b1N b1C, .int .i64 b2, .int .i64 b3, .int .i64 b4, .int .i64 b5, .int .i64 b6, .int .i64 b7, .int .i64 b8]]) rfl (R := fun v w1 => ∃ (r : Bool), v = (.bool r : Value) ∧ R r w1) ?_).mono ?_
  · rw [← den_ref22_SameChoice]
    have e : (fun r w1 => ∃ (r' : Bool), (.bool r : Value) = (.bool r' : Value) ∧ R r' w1) = R := by
      funext r w1
      exact propext ⟨fun ⟨r', he, h⟩ => by first | (simp at he; simp_all) | (cases he; exact h), fun h => ⟨_, rfl, h⟩⟩
    simpa only [e] using h
  · rintro en w1 ⟨v, he, r, rfl, h⟩
    exact ⟨_, he, h⟩

end Go.Proofs.Ytdmjbkpibgfeiaa
