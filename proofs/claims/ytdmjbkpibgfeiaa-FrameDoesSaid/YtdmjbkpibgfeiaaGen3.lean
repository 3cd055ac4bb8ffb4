/- The formulas of this seat's functions, held against the loaded program by the kernel. Printed by a program. -/
import Derived.Test.YtdmjbkpibgfeiaaGenC
set_option maxRecDepth 100000
set_option linter.unusedVariables false
namespace Go.Proofs.Ytdmjbkpibgfeiaa
open Go Go.D Go.Proofs

def F_frame_Stack_Slots (sx : Option Addr) (w : World) (R : Int → World → Prop) : Prop :=
  C_frame_Stack_Env sx w fun t4 w1 =>
  If (decide (t4 < (0 : Int)))
  (R (0 : Int) w1)
  (NN sx fun a =>
  ∃ env : Int, w1.cell? (a.add 1) = some (.int .i64 env) ∧
  C_frame_Stack_size sx env w1 fun t11 w1_1 =>
  R t11 w1_1)

def G_frame_Stack_Slots : Gen where
  loop := lookL []
  plan := fun _ => none

theorem loops_frame_Stack_Slots : LoopOk Try.prog Try.f18.ntmps G_frame_Stack_Slots (codeOf Try.f18) := loopOk_none fun _ => rfl

theorem den_frame_Stack_Slots (sx : Option Addr) (w : World) (R : Value → World → Prop) :
    F_frame_Stack_Slots sx w (fun r w1 => R (.int .i64 r) w1) = den Try.prog Try.f18.ntmps G_frame_Stack_Slots (codeOf Try.f18) [] (postD Try.prog Try.f18.results.toList R) (entry [.pointer sx] 0) w := by kernel_rfl

theorem C_frame_Stack_Slots.of {sx : Option Addr} {w : World} {R : Int → World → Prop} (h : F_frame_Stack_Slots sx w R) : C_frame_Stack_Slots sx w R := by
  refine (calls_of_den (c := codeOf Try.f18) seat_ok seat_mixed Try.func18 (by kernel_rfl) loops_frame_Stack_Slots (args := [.pointer sx]) rfl (R := fun v w1 => ∃ (r : Int), v = (.int .i64 r : Value) ∧ R r w1) ?_).mono ?_
  · rw [← den_frame_Stack_Slots]
    have e : (fun r w1 => ∃ (r' : Int), (.int .i64 r : Value) = (.int .i64 r' : Value) ∧ R r' w1) = R := by
      funext r w1
      exact propext ⟨fun ⟨r', he, h⟩ => by first | (simp at he; simp_all) | (cases he; exact h), fun h => ⟨_, rfl, h⟩⟩
    simpa only [e] using h
  · rintro en w1 ⟨v, he, r, rfl, h⟩
    exact ⟨_, he, h⟩

def F_frame_Stack_Set (sx : Option Addr) (i : Int) (wx : Int) (w : World) (R : Int → World → Prop) : Prop :=
  C_frame_Stack_slot sx i w fun t120 t121 w1 =>
  If (t121 != (0 : Int))
  (R t121 w1)
  (NN sx fun a =>
  ∃ words : Option Addr, w1.cell? (a.add 0) = some (.pointer words) ∧
  C_room_Room_Set words t120 wx w1 fun t24 w1_1 =>
  R t24 w1_1)

def G_frame_Stack_Set : Gen where
  loop := lookL []
  plan := fun _ => none

theorem loops_frame_Stack_Set : LoopOk Try.prog Try.f19.ntmps G_frame_Stack_Set (codeOf Try.f19) := loopOk_none fun _ => rfl

theorem den_frame_Stack_Set (sx : Option Addr) (i : Int) (wx : Int) (w : World) (R : Value → World → Prop) :
    F_frame_Stack_Set sx i wx w (fun r w1 => R (.int .i64 r) w1) = den Try.prog Try.f19.ntmps G_frame_Stack_Set (codeOf Try.f19) [] (postD Try.prog Try.f19.results.toList R) (entry [.pointer sx, .int .i64 i, .int .u64 wx] 0) w := by kernel_rfl

theorem C_frame_Stack_Set.of {sx : Option Addr} {i : Int} {wx : Int} {w : World} {R : Int → World → Prop} (h : F_frame_Stack_Set sx i wx w R) : C_frame_Stack_Set sx i wx w R := by
  refine (calls_of_den (c := codeOf Try.f19) seat_ok seat_mixed Try.func19 (by kernel_rfl) loops_frame_Stack_Set (args := [.pointer sx, .int .i64 i, .int .u64 wx]) rfl (R := fun v w1 => ∃ (r : Int), v = (.int .i64 r : Value) ∧ R r w1) ?_).mono ?_
  · rw [← den_frame_Stack_Set]
    have e : (fun r w1 => ∃ (r' : Int), (.int .i64 r : Value) = (.int .i64 r' : Value) ∧ R r' w1) = R := by
      funext r w1
      exact propext ⟨fun ⟨r', he, h⟩ => by first | (simp at he; simp_all) | (cases he; exact h), fun h => ⟨_, rfl, h⟩⟩
    simpa only [e] using h
  · rintro en w1 ⟨v, he, r, rfl, h⟩
    exact ⟨_, he, h⟩

def F_frame_Stack_Get (sx : Option Addr) (i : Int) (w : World) (R : Int → Int → World → Prop) : Prop :=
  C_frame_Stack_slot sx i w fun t110 t111 w1 =>
  If (t111 != (0 : Int))
  (R (0 : Int) t111 w1)
  (NN sx fun a =>
  ∃ words : Option Addr, w1.cell? (a.add 0) = some (.pointer words) ∧
  C_room_Room_Get words t110 w1 fun t220 t221 w1_1 =>
  R t220 t221 w1_1)

def G_frame_Stack_Get : Gen where
  loop := lookL []
  plan := fun _ => none

theorem loops_frame_Stack_Get : LoopOk Try.prog Try.f20.ntmps G_frame_Stack_Get (codeOf Try.f20) := loopOk_none fun _ => rfl

theorem den_frame_Stack_Get (sx : Option Addr) (i : Int) (w : World) (R : Value → World → Prop) :
    F_frame_Stack_Get sx i w (fun r0 r1 w1 => R (.tuple #[.int .u64 r0, .int .i64 r1]) w1) = den Try.prog Try.f20.ntmps G_frame_Stack_Get (codeOf Try.f20) [] (postD Try.prog Try.f20.results.toList R) (entry [.pointer sx, .int .i64 i] 0) w := by kernel_rfl

theorem C_frame_Stack_Get.of {sx : Option Addr} {i : Int} {w : World} {R : Int → Int → World → Prop} (h : F_frame_Stack_Get sx i w R) : C_frame_Stack_Get sx i w R := by
  refine (calls_of_den (c := codeOf Try.f20) seat_ok seat_mixed Try.func20 (by kernel_rfl) loops_frame_Stack_Get (args := [.pointer sx, .int .i64 i]) rfl (R := fun v w1 => ∃ (r0 : Int) (r1 : Int), v = (.tuple #[.int .u64 r0, .int .i64 r1] : Value) ∧ R r0 r1 w1) ?_).mono ?_
  · rw [← den_frame_Stack_Get]
    have e : (fun r0 r1 w1 => ∃ (r0' : Int) (r1' : Int), (.tuple #[.int .u64 r0, .int .i64 r1] : Value) = (.tuple #[.int .u64 r0', .int .i64 r1'] : Value) ∧ R r0' r1' w1) = R := by
      funext r0 r1 w1
      exact propext ⟨fun ⟨r0', r1', he, h⟩ => by first | (simp at he; simp_all) | (cases he; exact h), fun h => ⟨_, _, rfl, h⟩⟩
    simpa only [e] using h
  · rintro en w1 ⟨v, he, r0, r1, rfl, h⟩
    exact ⟨_, _, he, h⟩

def F_frame_Stack_Dealloc (sx : Option Addr) (w : World) (R : Int → Int → Int → World → Prop) : Prop :=
  New w (.cells #[.int .i64 0, .int .i64 0] 31) fun r w1 =>
  C_frame_Stack_made sx w1 fun t7 w1_1 =>
  If (!t7)
  (St w1_1 ((⟨r, 0, none⟩ : Addr).add 0) (.int .i64 0) fun w1_2 =>
  St w1_2 ((⟨r, 0, none⟩ : Addr).add 1) (.int .i64 0) fun w1_3 =>
  ∃ r_1 : Int, w1_3.cell? ((⟨r, 0, none⟩ : Addr).add 0) = some (.int .i64 r_1) ∧
  ∃ r_2 : Int, w1_3.cell? ((⟨r, 0, none⟩ : Addr).add 1) = some (.int .i64 r_2) ∧
  R r_1 r_2 (6 : Int) w1_3)
  (NN sx fun a =>
  ∃ env : Int, w1_1.cell? (a.add 1) = some (.int .i64 env) ∧
  If (decide (env < (0 : Int)))
  (St w1_1 ((⟨r, 0, none⟩ : Addr).add 0) (.int .i64 0) fun w1_4 =>
  St w1_4 ((⟨r, 0, none⟩ : Addr).add 1) (.int .i64 0) fun w1_5 =>
  ∃ r_3 : Int, w1_5.cell? ((⟨r, 0, none⟩ : Addr).add 0) = some (.int .i64 r_3) ∧
  ∃ r_4 : Int, w1_5.cell? ((⟨r, 0, none⟩ : Addr).add 1) = some (.int .i64 r_4) ∧
  R r_3 r_4 (4 : Int) w1_5)
  (NN sx fun a_1 =>
  ∃ env_1 : Int, w1_1.cell? (a_1.add 1) = some (.int .i64 env_1) ∧
  C_frame_Stack_cont sx env_1 w1_1 fun t220 t221 w1_6 =>
  New w1_6 (.cells #[.int .i64 0, .int .i64 0] 31) fun r_5 w1_7 =>
  St w1_7 ((⟨r_5, 0, none⟩ : Addr).add 0) (.int .i64 t220) fun w1_8 =>
  St w1_8 ((⟨r_5, 0, none⟩ : Addr).add 1) (.int .i64 t221) fun w1_9 =>
  NN sx fun a_2 =>
  ∃ env_2 : Int, w1_9.cell? (a_2.add 1) = some (.int .i64 env_2) ∧
  C_frame_Stack_prev sx env_2 w1_9 fun t29 w1_10 =>
  NN sx fun a_3 =>
  St w1_10 ((a_3.add 1).add 0) (.int .i64 t29) fun w1_11 =>
  ∃ t320 : Int, w1_11.cell? ((⟨r_5, 0, none⟩ : Addr).add 0) = some (.int .i64 t320) ∧
  ∃ t321 : Int, w1_11.cell? ((⟨r_5, 0, none⟩ : Addr).add 1) = some (.int .i64 t321) ∧
  St w1_11 ((⟨r, 0, none⟩ : Addr).add 0) (.int .i64 t320) fun w1_12 =>
  St w1_12 ((⟨r, 0, none⟩ : Addr).add 1) (.int .i64 t321) fun w1_13 =>
  ∃ r_6 : Int, w1_13.cell? ((⟨r, 0, none⟩ : Addr).add 0) = some (.int .i64 r_6) ∧
  ∃ r_7 : Int, w1_13.cell? ((⟨r, 0, none⟩ : Addr).add 1) = some (.int .i64 r_7) ∧
  R r_6 r_7 (0 : Int) w1_13))

def G_frame_Stack_Dealloc : Gen where
  loop := lookL []
  plan := fun _ => none

theorem loops_frame_Stack_Dealloc : LoopOk Try.prog Try.f21.ntmps G_frame_Stack_Dealloc (codeOf Try.f21) := loopOk_none fun _ => rfl

theorem den_frame_Stack_Dealloc (sx : Option Addr) (w : World) (R : Value → World → Prop) :
    F_frame_Stack_Dealloc sx w (fun r00 r01 r1 w1 => R (.tuple #[.agg #[.int .i64 r00, .int .i64 r01], .int .i64 r1]) w1) = den Try.prog Try.f21.ntmps G_frame_Stack_Dealloc (codeOf Try.f21) [] (postD Try.prog Try.f21.results.toList R) (entry [.pointer sx] 0) w := by kernel_rfl

theorem C_frame_Stack_Dealloc.of {sx : Option Addr} {w : World} {R : Int → Int → Int → World → Prop} (h : F_frame_Stack_Dealloc sx w R) : C_frame_Stack_Dealloc sx w R := by
  refine (calls_of_den (c := codeOf Try.f21) seat_ok seat_mixed Try.func21 (by kernel_rfl) loops_frame_Stack_Dealloc (args := [.pointer sx]) rfl (R := fun v w1 => ∃ (r00 : Int) (r01 : Int) (r1 : Int), v = (.tuple #[.agg #[.int .i64 r00, .int .i64 r01], .int .i64 r1] : Value) ∧ R r00 r01 r1 w1) ?_).mono ?_
  · rw [← den_frame_Stack_Dealloc]
    have e : (fun r00 r01 r1 w1 => ∃ (r00' : Int) (r01' : Int) (r1' : Int), (.tuple #[.agg #[.int .i64 r00, .int .i64 r01], .int .i64 r1] : Value) = (.tuple #[.agg #[.int .i64 r00', .int .i64 r01'], .int .i64 r1'] : Value) ∧ R r00' r01' r1' w1) = R := by
      funext r00 r01 r1 w1
      exact propext ⟨fun ⟨r00', r01', r1', he, h⟩ => by first | (simp at he; simp_all) | (cases he; exact h), fun h => ⟨_, _, _, rfl, h⟩⟩
    simpa only [e] using h
  · rintro en w1 ⟨v, he, r00, r01, r1, rfl, h⟩
    exact ⟨_, _, _, he, h⟩

def F_ref22_New_k1 (R : Option Addr → World → Prop) (w1 : World) : Prop :=
  R none w1

def F_ref22_New (words : Int) (choices : Int) (w : World) (R : Option Addr → World → Prop) : Prop :=
  If (decide (words < (0 : Int)))
  (F_ref22_New_k1 R w)
  (If (decide (words > (1048576 : Int)))
  (F_ref22_New_k1 R w)
  (If (decide (choices < (0 : Int)))
  (F_ref22_New_k1 R w)
  (If (decide (choices > (4095 : Int)))
  (R none w)
  (New w (.cells #[.slice none 0 0, .int .i64 (-1), .slice none 0 0, .int .i64 words, .int .i64 choices] 88) fun r w1_1 =>
  R (some ⟨r, 0, none⟩) w1_1))))

def G_ref22_New : Gen where
  loop := lookL []
  plan := fun _ => none

theorem loops_ref22_New : LoopOk Try.prog Try.f22.ntmps G_ref22_New (codeOf Try.f22) := loopOk_none fun _ => rfl

theorem den_ref22_New (words : Int) (choices : Int) (w : World) (R : Value → World → Prop) :
    F_ref22_New words choices w (fun r w1 => R (.pointer r) w1) = den Try.prog Try.f22.ntmps G_ref22_New (codeOf Try.f22) [] (postD Try.prog Try.f22.results.toList R) (entry [.int .i64 words, .int .i64 choices] 0) w := by kernel_rfl

theorem C_ref22_New.of {words : Int} {choices : Int} {w : World} {R : Option Addr → World → Prop} (h : F_ref22_New words choices w R) : C_ref22_New words choices w R := by
  refine (calls_of_den (c := codeOf Try.f22) seat_ok seat_mixed Try.func22 (by kernel_rfl) loops_ref22_New (args := [.int .i64 words, .int .i64 choices]) rfl (R := fun v w1 => ∃ (r : Option Addr), v = (.pointer r : Value) ∧ R r w1) ?_).mono ?_
  · rw [← den_ref22_New]
    have e : (fun r w1 => ∃ (r' : Option Addr), (.pointer r : Value) = (.pointer r' : Value) ∧ R r' w1) = R := by
      funext r w1
      exact propext ⟨fun ⟨r', he, h⟩ => by first | (simp at he; simp_all) | (cases he; exact h), fun h => ⟨_, rfl, h⟩⟩
    simpa only [e] using h
  · rintro en w1 ⟨v, he, r, rfl, h⟩
    exact ⟨_, he, h⟩

def F_law22_do_k3 (R : Bool → World → Prop) (w1_22 : World) : Prop :=
  R true w1_22

def F_law22_do_k1 (sx : Option Addr) (x : Option Addr) (R : Bool → World → Prop) (r : Nat) (Kind : Int) (t78 : Bool) (w1_17 : World) : Prop :=
  If t78
  (∃ t840 : Int, w1_17.cell? ((⟨r, 0, none⟩ : Addr).add 0) = some (.int .i64 t840) ∧
  ∃ t841 : Int, w1_17.cell? ((⟨r, 0, none⟩ : Addr).add 1) = some (.int .i64 t841) ∧
  ∃ t842 : Int, w1_17.cell? ((⟨r, 0, none⟩ : Addr).add 2) = some (.int .u64 t842) ∧
  ∃ t843 : Int, w1_17.cell? ((⟨r, 0, none⟩ : Addr).add 3) = some (.int .i64 t843) ∧
  ∃ t844 : Int, w1_17.cell? ((⟨r, 0, none⟩ : Addr).add 4) = some (.int .i64 t844) ∧
  ∃ t845 : Int, w1_17.cell? ((⟨r, 0, none⟩ : Addr).add 5) = some (.int .i64 t845) ∧
  ∃ t846P : Option Addr, ∃ t846N : Nat, ∃ t846C : Nat, w1_17.cell? ((⟨r, 0, none⟩ : Addr).add 6) = some (.slice t846P t846N t846C) ∧
  ∃ t847 : Int, w1_17.cell? ((⟨r, 0, none⟩ : Addr).add 7) = some (.int .i64 t847) ∧
  ∃ t848 : Int, w1_17.cell? ((⟨r, 0, none⟩ : Addr).add 8) = some (.int .i64 t848) ∧
  ∃ t849 : Int, w1_17.cell? ((⟨r, 0, none⟩ : Addr).add 9) = some (.int .i64 t849) ∧
  ∃ t8410 : Int, w1_17.cell? ((⟨r, 0, none⟩ : Addr).add 10) = some (.int .i64 t8410) ∧
  ∃ t8411 : Int, w1_17.cell? ((⟨r, 0, none⟩ : Addr).add 11) = some (.int .i64 t8411) ∧
  ∃ t8412 : Int, w1_17.cell? ((⟨r, 0, none⟩ : Addr).add 12) = some (.int .i64 t8412) ∧
  ∃ t8413 : Int, w1_17.cell? ((⟨r, 0, none⟩ : Addr).add 13) = some (.int .i64 t8413) ∧
  C_law22_choices sx x t840 t841 t842 t843 t844 t845 t846P t846N t846C t847 t848 t849 t8410 t8411 t8412 t8413 w1_17 fun t85 w1_18 =>
  R t85 w1_18)
  (If (Kind == (10 : Int))
  (∃ W : Int, w1_17.cell? ((⟨r, 0, none⟩ : Addr).add 2) = some (.int .u64 W) ∧
  New w1_17 (.cells #[.int .u64 W] 91) fun r_3 w1_19 =>
  C_frame_Stack_Change sx (.func (.func 56) #[.pointer (some ⟨r_3, 0, none⟩)] #[]) w1_19 fun w1_20 =>
  ∃ W_1 : Int, w1_20.cell? ((⟨r, 0, none⟩ : Addr).add 2) = some (.int .u64 W_1) ∧
  C_law22_changed x W_1 w1_20 fun w1_21 =>
  F_law22_do_k3 R w1_21)
  (F_law22_do_k3 R w1_17))

def F_law22_do_k2 (sx : Option Addr) (x : Option Addr) (R : Bool → World → Prop) (r : Nat) (Kind : Int) (t49 : Bool) (w1_11 : World) : Prop :=
  If t49
  (∃ t540 : Int, w1_11.cell? ((⟨r, 0, none⟩ : Addr).add 0) = some (.int .i64 t540) ∧
  ∃ t541 : Int, w1_11.cell? ((⟨r, 0, none⟩ : Addr).add 1) = some (.int .i64 t541) ∧
  ∃ t542 : Int, w1_11.cell? ((⟨r, 0, none⟩ : Addr).add 2) = some (.int .u64 t542) ∧
  ∃ t543 : Int, w1_11.cell? ((⟨r, 0, none⟩ : Addr).add 3) = some (.int .i64 t543) ∧
  ∃ t544 : Int, w1_11.cell? ((⟨r, 0, none⟩ : Addr).add 4) = some (.int .i64 t544) ∧
  ∃ t545 : Int, w1_11.cell? ((⟨r, 0, none⟩ : Addr).add 5) = some (.int .i64 t545) ∧
  ∃ t546P : Option Addr, ∃ t546N : Nat, ∃ t546C : Nat, w1_11.cell? ((⟨r, 0, none⟩ : Addr).add 6) = some (.slice t546P t546N t546C) ∧
  ∃ t547 : Int, w1_11.cell? ((⟨r, 0, none⟩ : Addr).add 7) = some (.int .i64 t547) ∧
  ∃ t548 : Int, w1_11.cell? ((⟨r, 0, none⟩ : Addr).add 8) = some (.int .i64 t548) ∧
  ∃ t549 : Int, w1_11.cell? ((⟨r, 0, none⟩ : Addr).add 9) = some (.int .i64 t549) ∧
  ∃ t5410 : Int, w1_11.cell? ((⟨r, 0, none⟩ : Addr).add 10) = some (.int .i64 t5410) ∧
  ∃ t5411 : Int, w1_11.cell? ((⟨r, 0, none⟩ : Addr).add 11) = some (.int .i64 t5411) ∧
  ∃ t5412 : Int, w1_11.cell? ((⟨r, 0, none⟩ : Addr).add 12) = some (.int .i64 t5412) ∧
  ∃ t5413 : Int, w1_11.cell? ((⟨r, 0, none⟩ : Addr).add 13) = some (.int .i64 t5413) ∧
  C_law22_slots sx x t540 t541 t542 t543 t544 t545 t546P t546N t546C t547 t548 t549 t5410 t5411 t5412 t5413 w1_11 fun t55 w1_12 =>
  R t55 w1_12)
  (If (Kind == (5 : Int))
  (∃ N_2 : Int, (drw w1_11).cell? ((⟨r, 0, none⟩ : Addr).add 1) = some (.int .i64 N_2) ∧
  ∃ N_3 : Int, (drw w1_11).cell? ((⟨r, 0, none⟩ : Addr).add 1) = some (.int .i64 N_3) ∧
  C_frame_Stack_Trim sx N_2 (drw w1_11) fun t61 w1_13 =>
  w1_13.cell? ((⟨r, 0, none⟩ : Addr).add 1) = (drw w1_11).cell? ((⟨r, 0, none⟩ : Addr).add 1) ∧
  C_ref22_Stack_Trim x N_3 w1_13 fun t65 w1_14 =>
  R (t61 == t65) w1_14)
  (If (Kind == (6 : Int))
  (∃ Choice0 : Int, (drw w1_11).cell? (((⟨r, 0, none⟩ : Addr).add 5).add 0) = some (.int .i64 Choice0) ∧
  ∃ Choice1P : Option Addr, ∃ Choice1N : Nat, ∃ Choice1C : Nat, (drw w1_11).cell? (((⟨r, 0, none⟩ : Addr).add 5).add 1) = some (.slice Choice1P Choice1N Choice1C) ∧
  ∃ Choice2 : Int, (drw w1_11).cell? (((⟨r, 0, none⟩ : Addr).add 5).add 2) = some (.int .i64 Choice2) ∧
  ∃ Choice3 : Int, (drw w1_11).cell? (((⟨r, 0, none⟩ : Addr).add 5).add 3) = some (.int .i64 Choice3) ∧
  ∃ Choice4 : Int, (drw w1_11).cell? (((⟨r, 0, none⟩ : Addr).add 5).add 4) = some (.int .i64 Choice4) ∧
  ∃ Choice5 : Int, (drw w1_11).cell? (((⟨r, 0, none⟩ : Addr).add 5).add 5) = some (.int .i64 Choice5) ∧
  ∃ Choice6 : Int, (drw w1_11).cell? (((⟨r, 0, none⟩ : Addr).add 5).add 6) = some (.int .i64 Choice6) ∧
  ∃ Choice7 : Int, (drw w1_11).cell? (((⟨r, 0, none⟩ : Addr).add 5).add 7) = some (.int .i64 Choice7) ∧
  ∃ Choice8 : Int, (drw w1_11).cell? (((⟨r, 0, none⟩ : Addr).add 5).add 8) = some (.int .i64 Choice8) ∧
  ∃ Choice0_1 : Int, (drw w1_11).cell? (((⟨r, 0, none⟩ : Addr).add 5).add 0) = some (.int .i64 Choice0_1) ∧
  ∃ Choice1P_1 : Option Addr, ∃ Choice1N_1 : Nat, ∃ Choice1C_1 : Nat, (drw w1_11).cell? (((⟨r, 0, none⟩ : Addr).add 5).add 1) = some (.slice Choice1P_1 Choice1N_1 Choice1C_1) ∧
  ∃ Choice2_1 : Int, (drw w1_11).cell? (((⟨r, 0, none⟩ : Addr).add 5).add 2) = some (.int .i64 Choice2_1) ∧
  ∃ Choice3_1 : Int, (drw w1_11).cell? (((⟨r, 0, none⟩ : Addr).add 5).add 3) = some (.int .i64 Choice3_1) ∧
  ∃ Choice4_1 : Int, (drw w1_11).cell? (((⟨r, 0, none⟩ : Addr).add 5).add 4) = some (.int .i64 Choice4_1) ∧
  ∃ Choice5_1 : Int, (drw w1_11).cell? (((⟨r, 0, none⟩ : Addr).add 5).add 5) = some (.int .i64 Choice5_1) ∧
  ∃ Choice6_1 : Int, (drw w1_11).cell? (((⟨r, 0, none⟩ : Addr).add 5).add 6) = some (.int .i64 Choice6_1) ∧
  ∃ Choice7_1 : Int, (drw w1_11).cell? (((⟨r, 0, none⟩ : Addr).add 5).add 7) = some (.int .i64 Choice7_1) ∧
  ∃ Choice8_1 : Int, (drw w1_11).cell? (((⟨r, 0, none⟩ : Addr).add 5).add 8) = some (.int .i64 Choice8_1) ∧
  C_frame_Stack_Push sx Choice0 Choice1P Choice1N Choice1C Choice2 Choice3 Choice4 Choice5 Choice6 Choice7 Choice8 (drw w1_11) fun t72 w1_15 =>
  (∀ i, i < 9 → w1_15.cell? (((⟨r, 0, none⟩ : Addr).add 5).add i) = (drw w1_11).cell? (((⟨r, 0, none⟩ : Addr).add 5).add i)) ∧
  C_ref22_Stack_Push x Choice0_1 Choice1P_1 Choice1N_1 Choice1C_1 Choice2_1 Choice3_1 Choice4_1 Choice5_1 Choice6_1 Choice7_1 Choice8_1 w1_15 fun t76 w1_16 =>
  R (t72 == t76) w1_16)
  (If (Kind == (7 : Int))
  (F_law22_do_k1 sx x R r Kind (Kind == (7 : Int)) w1_11)
  (If (Kind == (8 : Int))
  (F_law22_do_k1 sx x R r Kind (Kind == (8 : Int)) w1_11)
  (F_law22_do_k1 sx x R r Kind (Kind == (9 : Int)) w1_11)))))

def F_law22_do (sx : Option Addr) (x : Option Addr) (o0 : Int) (o1 : Int) (o2 : Int) (o3 : Int) (o4 : Int) (o5 : Int) (o6P : Option Addr) (o6N : Nat) (o6C : Nat) (o7 : Int) (o8 : Int) (o9 : Int) (o10 : Int) (o11 : Int) (o12 : Int) (o13 : Int) (w : World) (R : Bool → World → Prop) : Prop :=
  New w (.cells #[.int .i64 o0, .int .i64 o1, .int .u64 o2, .int .i64 o3, .int .i64 o4, .int .i64 o5, .slice o6P o6N o6C, .int .i64 o7, .int .i64 o8, .int .i64 o9, .int .i64 o10, .int .i64 o11, .int .i64 o12, .int .i64 o13] 36) fun r w1 =>
  ∃ Kind : Int, w1.cell? ((⟨r, 0, none⟩ : Addr).add 0) = some (.int .i64 Kind) ∧
  If (Kind == (1 : Int))
  (∃ N : Int, (drw w1).cell? ((⟨r, 0, none⟩ : Addr).add 1) = some (.int .i64 N) ∧
  ∃ Cont0 : Int, (drw w1).cell? (((⟨r, 0, none⟩ : Addr).add 3).add 0) = some (.int .i64 Cont0) ∧
  ∃ Cont1 : Int, (drw w1).cell? (((⟨r, 0, none⟩ : Addr).add 3).add 1) = some (.int .i64 Cont1) ∧
  ∃ N_1 : Int, (drw w1).cell? ((⟨r, 0, none⟩ : Addr).add 1) = some (.int .i64 N_1) ∧
  ∃ Cont0_1 : Int, (drw w1).cell? (((⟨r, 0, none⟩ : Addr).add 3).add 0) = some (.int .i64 Cont0_1) ∧
  ∃ Cont1_1 : Int, (drw w1).cell? (((⟨r, 0, none⟩ : Addr).add 3).add 1) = some (.int .i64 Cont1_1) ∧
  C_frame_Stack_Alloc sx N Cont0 Cont1 (drw w1) fun t21 w1_1 =>
  (∀ i, i < 2 → w1_1.cell? (((⟨r, 0, none⟩ : Addr).add 3).add i) = (drw w1).cell? (((⟨r, 0, none⟩ : Addr).add 3).add i)) ∧
  w1_1.cell? ((⟨r, 0, none⟩ : Addr).add 1) = (drw w1).cell? ((⟨r, 0, none⟩ : Addr).add 1) ∧
  C_ref22_Stack_Alloc x N_1 Cont0_1 Cont1_1 w1_1 fun t27 w1_2 =>
  R (t21 == t27) w1_2)
  (If (Kind == (2 : Int))
  (C_frame_Stack_Dealloc sx w1 fun t3300 t3301 t331 w1_3 =>
  New w1_3 (.cells #[.int .i64 0, .int .i64 0] 31) fun r_1 w1_4 =>
  St w1_4 ((⟨r_1, 0, none⟩ : Addr).add 0) (.int .i64 t3300) fun w1_5 =>
  St w1_5 ((⟨r_1, 0, none⟩ : Addr).add 1) (.int .i64 t3301) fun w1_6 =>
  C_ref22_Stack_Dealloc x w1_6 fun t3800 t3801 t381 w1_7 =>
  New w1_7 (.cells #[.int .i64 0, .int .i64 0] 31) fun r_2 w1_8 =>
  St w1_8 ((⟨r_2, 0, none⟩ : Addr).add 0) (.int .i64 t3800) fun w1_9 =>
  St w1_9 ((⟨r_2, 0, none⟩ : Addr).add 1) (.int .i64 t3801) fun w1_10 =>
  ∃ t410 : Int, w1_10.cell? ((⟨r_1, 0, none⟩ : Addr).add 0) = some (.int .i64 t410) ∧
  ∃ t411 : Int, w1_10.cell? ((⟨r_1, 0, none⟩ : Addr).add 1) = some (.int .i64 t411) ∧
  ∃ t420 : Int, w1_10.cell? ((⟨r_2, 0, none⟩ : Addr).add 0) = some (.int .i64 t420) ∧
  ∃ t421 : Int, w1_10.cell? ((⟨r_2, 0, none⟩ : Addr).add 1) = some (.int .i64 t421) ∧
  AggEq Try.prog 31 (.agg #[.int .i64 t410, .int .i64 t411]) (.agg #[.int .i64 t420, .int .i64 t421]) fun bb =>
  If bb
  (R (t331 == t381) w1_10)
  (R false w1_10))
  (If (Kind == (3 : Int))
  (F_law22_do_k2 sx x R r Kind (Kind == (3 : Int)) w1)
  (F_law22_do_k2 sx x R r Kind (Kind == (4 : Int)) w1)))

def G_law22_do : Gen where
  loop := lookL []
  plan := fun id =>
    bif Nat.beq id 3 then some ([0, 0, 2, 0, 8, 31, 0, 0, 128, 0, 512, 2047, 4095, 8191], .take 0 (.take 1 (.take 2 (.take 3 (.take 4 (.take 6 (.take 7 (.take 8 (.take 9 (.take 10 (.take 5 (.take 11 (.take 12 (.take 13 .done)))))))))))))) else
    bif Nat.beq id 12 then some ([0, 0, 2, 7, 0, 0, 32, 127, 255, 511], .take 0 (.take 1 (.take 2 (.take 4 (.take 5 (.take 6 (.take 3 (.take 7 (.take 8 (.take 9 .done)))))))))) else
    bif Nat.beq id 14 then some ([0, 0, 2, 7, 0, 0, 32, 127, 255, 511], .take 0 (.take 1 (.take 2 (.take 4 (.take 5 (.take 6 (.take 3 (.take 7 (.take 8 (.take 9 .done)))))))))) else none

theorem loops_law22_do : LoopOk Try.prog Try.f23.ntmps G_law22_do (codeOf Try.f23) := loopOk_none fun _ => rfl

theorem den_law22_do (sx : Option Addr) (x : Option Addr) (o0 : Int) (o1 : Int) (o2 : Int) (o3 : Int) (o4 : Int) (o5 : Int) (o6P : Option Addr) (o6N : Nat) (o6C : Nat) (o7 : Int) (o8 : Int) (o9 : Int) (o10 : Int) (o11 : Int) (o12 : Int) (o13 : Int) (w : World) (R : Value → World → Prop) :
    F_law22_do sx x o0 o1 o2 o3 o4 o5 o6P o6N o6C o7 o8 o9 o10 o11 o12 o13 w (fun r w1 => R (.bool r) w1) = den Try.prog Try.f23.ntmps G_law22_do (codeOf Try.f23) [] (postD Try.prog Try.f23.results.toList R) (entry [.pointer sx, .pointer x, .agg #[.int .i64 o0, .int .i64 o1, .int .u64 o2, .int .i64 o3, .int .i64 o4, .int .i64 o5, .slice o6P o6N o6C, .int .i64 o7, .int .i64 o8, .int .i64 o9, .int .i64 o10, .int .i64 o11, .int .i64 o12, .int .i64 o13]] 0) w := by kernel_rfl

theorem C_law22_do.of {sx : Option Addr} {x : Option Addr} {o0 : Int} {o1 : Int} {o2 : Int} {o3 : Int} {o4 : Int} {o5 : Int} {o6P : Option Addr} {o6N : Nat} {o6C : Nat} {o7 : Int} {o8 : Int} {o9 : Int} {o10 : Int} {o11 : Int} {o12 : Int} {o13 : Int} {w : World} {R : Bool → World → Prop} (h : F_law22_do sx x o0 o1 o2 o3 o4 o5 o6P o6N o6C o7 o8 o9 o10 o11 o12 o13 w R) : C_law22_do sx x o0 o1 o2 o3 o4 o5 o6P o6N o6C o7 o8 o9 o10 o11 o12 o13 w R := by
  refine (calls_of_den (c := codeOf Try.f23) seat_ok seat_mixed Try.func23 (by kernel_rfl) loops_law22_do (args := [.pointer sx, .pointer x, .agg #[.int .i64 o0, .int .i64 o1, .int .u64 o2, .int .i64 o3, .int .i64 o4, .int .i64 o5, .slice o6P o6N o6C, .int .i64 o7, .int .i64 o8, .int .i64 o9, .int .i64 o10, .int .i64 o11, .int .i64 o12, .int .i64 o13]]) rfl (R := fun v w1 => ∃ (r : Bool), v = (.bool r : Value) ∧ R r w1) ?_).mono ?_
  · rw [← den_law22_do]
    have e : (fun r w1 => ∃ (r' : Bool), (.bool r : Value) = (.bool r' : Value) ∧ R r' w1) = R := by
      funext r w1
      exact propext ⟨fun ⟨r', he, h⟩ => by first | (simp at he; simp_all) | (cases he; exact h), fun h => ⟨_, rfl, h⟩⟩
    simpa only [e] using h
  · rintro en w1 ⟨v, he, r, rfl, h⟩
    exact ⟨_, he, h⟩

structure S_law22_alike_L1 where
  i : Int

def F_law22_alike_k1 (R : Bool → World → Prop) (w1_8 : World) : Prop :=
  R false w1_8

def F_law22_alike_k2 (Kr : Bool → World → Prop) (w1_24 : World) : Prop :=
  Kr false w1_24

def F_law22_alike_k3 (R : Bool → World → Prop) (w1_50 : World) : Prop :=
  R false w1_50

def F_law22_alike_k4 (sx : Option Addr) (x : Option Addr) (basex : Int) (R : Bool → World → Prop) (w1_51 : World) : Prop :=
  C_ref22_Stack_At x basex w1_51 fun t163 w1_52 =>
  If (decide (t163 < (0 : Int)))
  (C_frame_Stack_Chain sx basex w1_52 fun t168P t168N t168C w1_53 =>
  R ((t168N : Int) == (0 : Int)) w1_53)
  (C_frame_Stack_Chain sx basex w1_52 fun t173P t173N t173C w1_54 =>
  C_ref22_Stack_Chain x t163 w1_54 fun t176P t176N t176C w1_55 =>
  C_ref22_SameFrames t173P t173N t173C t176P t176N t176C w1_55 fun t177 w1_56 =>
  R t177 w1_56)

/-- One round. -/
def B_law22_alike_L1 (sx_1 : Option Addr) (x_1 : Option Addr) (basex_1 : Int) (s : S_law22_alike_L1) (w : World) (Kn : S_law22_alike_L1 → World → Prop) (Kx0 : World → Prop) (Kr : Bool → World → Prop) : Prop :=
  NN x_1 fun a_6 =>
  ∃ CP_1 : Option Addr, ∃ CN_1 : Nat, ∃ CC_1 : Nat, w.cell? (a_6.add 2) = some (.slice CP_1 CN_1 CC_1) ∧
  If (decide ((s.i : Int) < (CN_1 : Int)))
  (C_frame_Stack_Choice sx_1 (s.i : Int) w fun t7800 t7801P t7801N t7801C t7802 t7803 t7804 t7805 t7806 t7807 t7808 t781 w1_9 =>
  New w1_9 (.cells #[.int .i64 0, .slice none 0 0, .int .i64 0, .int .i64 0, .int .i64 0, .int .i64 0, .int .i64 0, .int .i64 0, .int .i64 0] 34) fun r w1_10 =>
  St w1_10 ((⟨r, 0, none⟩ : Addr).add 0) (.int .i64 t7800) fun w1_11 =>
  St w1_11 ((⟨r, 0, none⟩ : Addr).add 1) (.slice t7801P t7801N t7801C) fun w1_12 =>
  St w1_12 ((⟨r, 0, none⟩ : Addr).add 2) (.int .i64 t7802) fun w1_13 =>
  St w1_13 ((⟨r, 0, none⟩ : Addr).add 3) (.int .i64 t7803) fun w1_14 =>
  St w1_14 ((⟨r, 0, none⟩ : Addr).add 4) (.int .i64 t7804) fun w1_15 =>
  St w1_15 ((⟨r, 0, none⟩ : Addr).add 5) (.int .i64 t7805) fun w1_16 =>
  St w1_16 ((⟨r, 0, none⟩ : Addr).add 6) (.int .i64 t7806) fun w1_17 =>
  St w1_17 ((⟨r, 0, none⟩ : Addr).add 7) (.int .i64 t7807) fun w1_18 =>
  St w1_18 ((⟨r, 0, none⟩ : Addr).add 8) (.int .i64 t7808) fun w1_19 =>
  If (!t781)
  (F_law22_alike_k2 Kr (drw w1_19))
  (∃ t840 : Int, (drw w1_19).cell? ((⟨r, 0, none⟩ : Addr).add 0) = some (.int .i64 t840) ∧
  ∃ t841P : Option Addr, ∃ t841N : Nat, ∃ t841C : Nat, (drw w1_19).cell? ((⟨r, 0, none⟩ : Addr).add 1) = some (.slice t841P t841N t841C) ∧
  ∃ t842 : Int, (drw w1_19).cell? ((⟨r, 0, none⟩ : Addr).add 2) = some (.int .i64 t842) ∧
  ∃ t843 : Int, (drw w1_19).cell? ((⟨r, 0, none⟩ : Addr).add 3) = some (.int .i64 t843) ∧
  ∃ t844 : Int, (drw w1_19).cell? ((⟨r, 0, none⟩ : Addr).add 4) = some (.int .i64 t844) ∧
  ∃ t845 : Int, (drw w1_19).cell? ((⟨r, 0, none⟩ : Addr).add 5) = some (.int .i64 t845) ∧
  ∃ t846 : Int, (drw w1_19).cell? ((⟨r, 0, none⟩ : Addr).add 6) = some (.int .i64 t846) ∧
  ∃ t847 : Int, (drw w1_19).cell? ((⟨r, 0, none⟩ : Addr).add 7) = some (.int .i64 t847) ∧
  ∃ t848 : Int, (drw w1_19).cell? ((⟨r, 0, none⟩ : Addr).add 8) = some (.int .i64 t848) ∧
  NN x_1 fun a_7 =>
  ∃ CP_2 : Option Addr, ∃ CN_2 : Nat, ∃ CC_2 : Nat, (drw w1_19).cell? (a_7.add 2) = some (.slice CP_2 CN_2 CC_2) ∧
  0 ≤ (s.i : Int) ∧ (s.i : Int) < (CN_2 : Int) ∧ NN CP_2 fun a_8 =>
  ∃ C0 : Int, (drw w1_19).cell? (((a_8.add ((s.i : Int).toNat * 10)).add 0).add 0) = some (.int .i64 C0) ∧
  ∃ C1P : Option Addr, ∃ C1N : Nat, ∃ C1C : Nat, (drw w1_19).cell? (((a_8.add ((s.i : Int).toNat * 10)).add 0).add 1) = some (.slice C1P C1N C1C) ∧
  ∃ C2 : Int, (drw w1_19).cell? (((a_8.add ((s.i : Int).toNat * 10)).add 0).add 2) = some (.int .i64 C2) ∧
  ∃ C3 : Int, (drw w1_19).cell? (((a_8.add ((s.i : Int).toNat * 10)).add 0).add 3) = some (.int .i64 C3) ∧
  ∃ C4 : Int, (drw w1_19).cell? (((a_8.add ((s.i : Int).toNat * 10)).add 0).add 4) = some (.int .i64 C4) ∧
  ∃ C5 : Int, (drw w1_19).cell? (((a_8.add ((s.i : Int).toNat * 10)).add 0).add 5) = some (.int .i64 C5) ∧
  ∃ C6 : Int, (drw w1_19).cell? (((a_8.add ((s.i : Int).toNat * 10)).add 0).add 6) = some (.int .i64 C6) ∧
  ∃ C7 : Int, (drw w1_19).cell? (((a_8.add ((s.i : Int).toNat * 10)).add 0).add 7) = some (.int .i64 C7) ∧
  ∃ C8 : Int, (drw w1_19).cell? (((a_8.add ((s.i : Int).toNat * 10)).add 0).add 8) = some (.int .i64 C8) ∧
  C_ref22_SameChoice t840 t841P t841N t841C t842 t843 t844 t845 t846 t847 t848 C0 C1P C1N C1C C2 C3 C4 C5 C6 C7 C8 (drw w1_19) fun t93 w1_20 =>
  If (!t93)
  (F_law22_alike_k2 Kr w1_20)
  (∃ Env : Int, w1_20.cell? ((⟨r, 0, none⟩ : Addr).add 7) = some (.int .i64 Env) ∧
  NN x_1 fun a_9 =>
  ∃ CP_3 : Option Addr, ∃ CN_3 : Nat, ∃ CC_3 : Nat, w1_20.cell? (a_9.add 2) = some (.slice CP_3 CN_3 CC_3) ∧
  0 ≤ (s.i : Int) ∧ (s.i : Int) < (CN_3 : Int) ∧ NN CP_3 fun a_10 =>
  ∃ Env_1 : Int, w1_20.cell? ((a_10.add ((s.i : Int).toNat * 10)).add 9) = some (.int .i64 Env_1) ∧
  C_frame_Stack_Chain sx_1 Env w1_20 fun t100P t100N t100C w1_21 =>
  w1_21.cell? ((a_10.add ((s.i : Int).toNat * 10)).add 9) = w1_20.cell? ((a_10.add ((s.i : Int).toNat * 10)).add 9) ∧
  w1_21.cell? (a_9.add 2) = w1_20.cell? (a_9.add 2) ∧
  C_ref22_Stack_Chain x_1 Env_1 w1_21 fun t110P t110N t110C w1_22 =>
  C_ref22_SameFrames t100P t100N t100C t110P t110N t110C w1_22 fun t111 w1_23 =>
  If (!t111)
  (Kr false w1_23)
  (Kn ⟨(IntKind.i64.wrap ((s.i : Int) + (1 : Int)))⟩ w1_23))))
  (Kx0 w)

def F_law22_alike_L1 (sx_1 : Option Addr) (x_1 : Option Addr) (basex_1 : Int) (s : S_law22_alike_L1) (w : World) (Kx0 : World → Prop) (Kr : Bool → World → Prop) : Prop :=
  LoopS (fun s w Kn => B_law22_alike_L1 sx_1 x_1 basex_1 s w Kn Kx0 Kr) s w

def F_law22_alike_k5 (sx : Option Addr) (x : Option Addr) (basex : Int) (R : Bool → World → Prop) (want : Int) (w1 : World) : Prop :=
  C_frame_Stack_Env sx (drw w1) fun t33 w1_1 =>
  If (t33 != want)
  (F_law22_alike_k1 R w1_1)
  (C_frame_Stack_Slots sx w1_1 fun t38 w1_2 =>
  C_ref22_Stack_Slots x w1_2 fun t40 w1_3 =>
  If (t38 != t40)
  (F_law22_alike_k1 R w1_3)
  (NN x fun a_4 =>
  ∃ CP : Option Addr, ∃ CN : Nat, ∃ CC : Nat, w1_3.cell? (a_4.add 2) = some (.slice CP CN CC) ∧
  C_frame_Stack_Depth sx w1_3 fun t45 w1_4 =>
  w1_4.cell? (a_4.add 2) = w1_3.cell? (a_4.add 2) ∧
  If (t45 != (CN : Int))
  (F_law22_alike_k1 R w1_4)
  (NN x fun a_5 =>
  ∃ Cur_2 : Int, w1_4.cell? (a_5.add 1) = some (.int .i64 Cur_2) ∧
  C_frame_Stack_Chain sx want w1_4 fun t56P t56N t56C w1_5 =>
  w1_5.cell? (a_5.add 1) = w1_4.cell? (a_5.add 1) ∧
  C_ref22_Stack_Chain x Cur_2 w1_5 fun t62P t62N t62C w1_6 =>
  C_ref22_SameFrames t56P t56N t56C t62P t62N t62C w1_6 fun t63 w1_7 =>
  If (!t63)
  (R false w1_7)
  (F_law22_alike_L1 sx x basex ⟨(0 : Int)⟩ w1_7
  (fun w1_25 =>
  NN x fun a_11 =>
  ∃ CP_4 : Option Addr, ∃ CN_4 : Nat, ∃ CC_4 : Nat, w1_25.cell? (a_11.add 2) = some (.slice CP_4 CN_4 CC_4) ∧
  C_frame_Stack_Choice sx (CN_4 : Int) w1_25 fun t12100 t12101P t12101N t12101C t12102 t12103 t12104 t12105 t12106 t12107 t12108 t1211 w1_27 =>
  New w1_27 (.cells #[.int .i64 0, .slice none 0 0, .int .i64 0, .int .i64 0, .int .i64 0, .int .i64 0, .int .i64 0, .int .i64 0, .int .i64 0] 34) fun r_1 w1_28 =>
  St w1_28 ((⟨r_1, 0, none⟩ : Addr).add 0) (.int .i64 t12100) fun w1_29 =>
  St w1_29 ((⟨r_1, 0, none⟩ : Addr).add 1) (.slice t12101P t12101N t12101C) fun w1_30 =>
  St w1_30 ((⟨r_1, 0, none⟩ : Addr).add 2) (.int .i64 t12102) fun w1_31 =>
  St w1_31 ((⟨r_1, 0, none⟩ : Addr).add 3) (.int .i64 t12103) fun w1_32 =>
  St w1_32 ((⟨r_1, 0, none⟩ : Addr).add 4) (.int .i64 t12104) fun w1_33 =>
  St w1_33 ((⟨r_1, 0, none⟩ : Addr).add 5) (.int .i64 t12105) fun w1_34 =>
  St w1_34 ((⟨r_1, 0, none⟩ : Addr).add 6) (.int .i64 t12106) fun w1_35 =>
  St w1_35 ((⟨r_1, 0, none⟩ : Addr).add 7) (.int .i64 t12107) fun w1_36 =>
  St w1_36 ((⟨r_1, 0, none⟩ : Addr).add 8) (.int .i64 t12108) fun w1_37 =>
  C_frame_Stack_Last sx w1_37 fun t12600 t12601P t12601N t12601C t12602 t12603 t12604 t12605 t12606 t12607 t12608 t1261 w1_38 =>
  New w1_38 (.cells #[.int .i64 0, .slice none 0 0, .int .i64 0, .int .i64 0, .int .i64 0, .int .i64 0, .int .i64 0, .int .i64 0, .int .i64 0] 34) fun r_2 w1_39 =>
  St w1_39 ((⟨r_2, 0, none⟩ : Addr).add 0) (.int .i64 t12600) fun w1_40 =>
  St w1_40 ((⟨r_2, 0, none⟩ : Addr).add 1) (.slice t12601P t12601N t12601C) fun w1_41 =>
  St w1_41 ((⟨r_2, 0, none⟩ : Addr).add 2) (.int .i64 t12602) fun w1_42 =>
  St w1_42 ((⟨r_2, 0, none⟩ : Addr).add 3) (.int .i64 t12603) fun w1_43 =>
  St w1_43 ((⟨r_2, 0, none⟩ : Addr).add 4) (.int .i64 t12604) fun w1_44 =>
  St w1_44 ((⟨r_2, 0, none⟩ : Addr).add 5) (.int .i64 t12605) fun w1_45 =>
  St w1_45 ((⟨r_2, 0, none⟩ : Addr).add 6) (.int .i64 t12606) fun w1_46 =>
  St w1_46 ((⟨r_2, 0, none⟩ : Addr).add 7) (.int .i64 t12607) fun w1_47 =>
  St w1_47 ((⟨r_2, 0, none⟩ : Addr).add 8) (.int .i64 t12608) fun w1_48 =>
  If t1211
  (F_law22_alike_k3 R (drw w1_48))
  (NN x fun a_12 =>
  ∃ CP_5 : Option Addr, ∃ CN_5 : Nat, ∃ CC_5 : Nat, (drw w1_48).cell? (a_12.add 2) = some (.slice CP_5 CN_5 CC_5) ∧
  If (!(t1261 == (decide ((CN_5 : Int) > (0 : Int)))))
  (F_law22_alike_k3 R (drw w1_48))
  (If t1261
  (∃ t1430 : Int, (drw w1_48).cell? ((⟨r_2, 0, none⟩ : Addr).add 0) = some (.int .i64 t1430) ∧
  ∃ t1431P : Option Addr, ∃ t1431N : Nat, ∃ t1431C : Nat, (drw w1_48).cell? ((⟨r_2, 0, none⟩ : Addr).add 1) = some (.slice t1431P t1431N t1431C) ∧
  ∃ t1432 : Int, (drw w1_48).cell? ((⟨r_2, 0, none⟩ : Addr).add 2) = some (.int .i64 t1432) ∧
  ∃ t1433 : Int, (drw w1_48).cell? ((⟨r_2, 0, none⟩ : Addr).add 3) = some (.int .i64 t1433) ∧
  ∃ t1434 : Int, (drw w1_48).cell? ((⟨r_2, 0, none⟩ : Addr).add 4) = some (.int .i64 t1434) ∧
  ∃ t1435 : Int, (drw w1_48).cell? ((⟨r_2, 0, none⟩ : Addr).add 5) = some (.int .i64 t1435) ∧
  ∃ t1436 : Int, (drw w1_48).cell? ((⟨r_2, 0, none⟩ : Addr).add 6) = some (.int .i64 t1436) ∧
  ∃ t1437 : Int, (drw w1_48).cell? ((⟨r_2, 0, none⟩ : Addr).add 7) = some (.int .i64 t1437) ∧
  ∃ t1438 : Int, (drw w1_48).cell? ((⟨r_2, 0, none⟩ : Addr).add 8) = some (.int .i64 t1438) ∧
  NN x fun a_13 =>
  ∃ CP_6 : Option Addr, ∃ CN_6 : Nat, ∃ CC_6 : Nat, (drw w1_48).cell? (a_13.add 2) = some (.slice CP_6 CN_6 CC_6) ∧
  NN x fun a_14 =>
  ∃ CP_7 : Option Addr, ∃ CN_7 : Nat, ∃ CC_7 : Nat, (drw w1_48).cell? (a_14.add 2) = some (.slice CP_7 CN_7 CC_7) ∧
  0 ≤ (IntKind.i64.wrap ((CN_7 : Int) - (1 : Int))) ∧ (IntKind.i64.wrap ((CN_7 : Int) - (1 : Int))) < (CN_6 : Int) ∧ NN CP_6 fun a_15 =>
  ∃ C0_1 : Int, (drw w1_48).cell? (((a_15.add ((IntKind.i64.wrap ((CN_7 : Int) - (1 : Int))).toNat * 10)).add 0).add 0) = some (.int .i64 C0_1) ∧
  ∃ C1P_1 : Option Addr, ∃ C1N_1 : Nat, ∃ C1C_1 : Nat, (drw w1_48).cell? (((a_15.add ((IntKind.i64.wrap ((CN_7 : Int) - (1 : Int))).toNat * 10)).add 0).add 1) = some (.slice C1P_1 C1N_1 C1C_1) ∧
  ∃ C2_1 : Int, (drw w1_48).cell? (((a_15.add ((IntKind.i64.wrap ((CN_7 : Int) - (1 : Int))).toNat * 10)).add 0).add 2) = some (.int .i64 C2_1) ∧
  ∃ C3_1 : Int, (drw w1_48).cell? (((a_15.add ((IntKind.i64.wrap ((CN_7 : Int) - (1 : Int))).toNat * 10)).add 0).add 3) = some (.int .i64 C3_1) ∧
  ∃ C4_1 : Int, (drw w1_48).cell? (((a_15.add ((IntKind.i64.wrap ((CN_7 : Int) - (1 : Int))).toNat * 10)).add 0).add 4) = some (.int .i64 C4_1) ∧
  ∃ C5_1 : Int, (drw w1_48).cell? (((a_15.add ((IntKind.i64.wrap ((CN_7 : Int) - (1 : Int))).toNat * 10)).add 0).add 5) = some (.int .i64 C5_1) ∧
  ∃ C6_1 : Int, (drw w1_48).cell? (((a_15.add ((IntKind.i64.wrap ((CN_7 : Int) - (1 : Int))).toNat * 10)).add 0).add 6) = some (.int .i64 C6_1) ∧
  ∃ C7_1 : Int, (drw w1_48).cell? (((a_15.add ((IntKind.i64.wrap ((CN_7 : Int) - (1 : Int))).toNat * 10)).add 0).add 7) = some (.int .i64 C7_1) ∧
  ∃ C8_1 : Int, (drw w1_48).cell? (((a_15.add ((IntKind.i64.wrap ((CN_7 : Int) - (1 : Int))).toNat * 10)).add 0).add 8) = some (.int .i64 C8_1) ∧
  C_ref22_SameChoice t1430 t1431P t1431N t1431C t1432 t1433 t1434 t1435 t1436 t1437 t1438 C0_1 C1P_1 C1N_1 C1C_1 C2_1 C3_1 C4_1 C5_1 C6_1 C7_1 C8_1 (drw w1_48) fun t157 w1_49 =>
  If (!t157)
  (R false w1_49)
  (F_law22_alike_k4 sx x basex R w1_49))
  (F_law22_alike_k4 sx x basex R (drw w1_48)))))
  (fun t6_1 w1_26 =>
  R t6_1 w1_26)))))

def F_law22_alike (sx : Option Addr) (x : Option Addr) (basex : Int) (w : World) (R : Bool → World → Prop) : Prop :=
  NN x fun a =>
  ∃ Cur : Int, w.cell? (a.add 1) = some (.int .i64 Cur) ∧
  If (decide (Cur ≥ (0 : Int)))
  (NN x fun a_1 =>
  ∃ EP : Option Addr, ∃ EN : Nat, ∃ EC : Nat, (drw w).cell? (a_1.add 0) = some (.slice EP EN EC) ∧
  NN x fun a_2 =>
  ∃ Cur_1 : Int, (drw w).cell? (a_2.add 1) = some (.int .i64 Cur_1) ∧
  0 ≤ Cur_1 ∧ Cur_1 < (EN : Int) ∧ NN EP fun a_3 =>
  ∃ Base : Int, (drw w).cell? ((a_3.add (Cur_1.toNat * 5)).add 0) = some (.int .i64 Base) ∧
  F_law22_alike_k5 sx x basex R Base (drw w))
  (F_law22_alike_k5 sx x basex R (-1) w)

def lit_law22_alike_L1 (f : (Option Addr) × (Option Addr) × Int) (s : S_law22_alike_L1) : Env := [⟨0, .pointer f.1, none⟩, ⟨1, .pointer f.2.1, none⟩, ⟨2, .int .i64 f.2.2, none⟩, ⟨8, .int .i64 s.i, none⟩]

def dec_law22_alike_L1 (e : Env) (K : ((Option Addr) × (Option Addr) × Int) → S_law22_alike_L1 → Prop) : Prop :=
  onV (getV e 0) fun u1 =>
  asP u1 fun sx_1 =>
  onV (getV e 1) fun u2 =>
  asP u2 fun x_1 =>
  onV (getV e 2) fun u3 =>
  asI .i64 u3 fun basex_1 =>
  onV (getV e 8) fun u4 =>
  asI .i64 u4 fun i =>
    K (sx_1, x_1, basex_1) ⟨i⟩

theorem dec_law22_alike_L1_ok {N : Nat} (e : Env) (a : Act) (K : ((Option Addr) × (Option Addr) × Int) → S_law22_alike_L1 → Prop) (hr : Rep N a e) (h0 : dec_law22_alike_L1 e K) : ∃ f s, K f s ∧ Rep N a (lit_law22_alike_L1 f s) := by
  unfold dec_law22_alike_L1 at h0
  obtain ⟨u1, g0, h1⟩ := onV_elim h0
  obtain ⟨sx_1, rfl, h2⟩ := asP_elim h1
  obtain ⟨u2, g1, h3⟩ := onV_elim h2
  obtain ⟨x_1, rfl, h4⟩ := asP_elim h3
  obtain ⟨u3, g2, h5⟩ := onV_elim h4
  obtain ⟨basex_1, rfl, h6⟩ := asI_elim h5
  obtain ⟨u4, g8, h7⟩ := onV_elim h6
  obtain ⟨i, rfl, h8⟩ := asI_elim h7
  exact ⟨_, _, h8, rep_less hr (by simp [lit_law22_alike_L1, g0, g1, g2, g8])⟩

def spec_law22_alike_L1 (Q : Post) (e : Env) (w : World) : Prop :=
  dec_law22_alike_L1 e fun f s => F_law22_alike_L1 f.1 f.2.1 f.2.2 s w (fun w1 => Q (.exit 0) [⟨0, .pointer f.1, none⟩, ⟨1, .pointer f.2.1, none⟩, ⟨2, .int .i64 f.2.2, none⟩] w1) (fun t6 w1 => Q .ret [⟨6, .bool t6, none⟩] w1)

def G_law22_alike : Gen where
  loop := lookL [([false, true, false, true, true, true, true], spec_law22_alike_L1)]
  plan := fun id =>
    bif Nat.beq id 3 then some ([0, 1, 3, 7, 0, 16, 48, 112, 255, 511, 1023, 2047], .take 0 (.take 1 (.take 2 (.take 3 (.take 4 (.take 5 (.take 6 (.take 7 (.take 8 (.take 9 (.take 10 (.take 11 .done)))))))))))) else
    bif Nat.beq id 4 then some ([0, 1, 0, 7, 15, 31, 63, 31, 255, 511, 1023, 2047, 4095, 8191, 4095, 20479, 53247, 118783, 249855, 524287, 1048575, 2097151, 4194303, 4194303, 16777215, 4194303, 4194303, 71303167, 205520895, 473956351, 1073741823, 2147483647, 4294967295, 8589934591], .take 0 (.take 2 (.take 1 (.take 3 (.take 4 (.take 5 (.take 7 (.take 6 (.take 8 (.take 9 (.take 10 (.take 11 (.take 12 (.take 14 (.take 15 (.take 16 (.take 17 (.take 18 (.take 13 (.take 19 (.take 20 (.take 21 (.take 22 (.take 23 (.take 25 (.take 26 (.take 27 (.take 28 (.take 29 (.take 24 (.take 30 (.take 31 (.take 32 (.take 33 .done)))))))))))))))))))))))))))))))))) else
    bif Nat.beq id 10 then some ([0, 1, 3, 7, 7, 23, 55, 119, 7, 503, 1015, 2039, 4095, 8191, 16383, 32767, 65535, 65535, 196607, 524287, 65535, 65535, 2162687, 6356991, 14745599, 65535, 65077247, 132186111, 266403839, 536870911, 1073741823, 2147483647, 4294967295], .take 0 (.take 1 (.take 2 (.take 3 (.take 4 (.take 5 (.take 6 (.take 7 (.take 8 (.take 9 (.take 10 (.take 11 (.take 12 (.take 13 (.take 14 (.take 15 (.take 16 (.take 17 (.take 18 (.take 20 (.take 21 (.take 22 (.take 23 (.take 24 (.take 25 (.take 26 (.take 27 (.take 28 (.take 19 (.take 29 (.take 30 (.take 31 (.take 32 .done))))))))))))))))))))))))))))))))) else
    bif Nat.beq id 14 then some ([0, 1, 3, 3, 11, 27, 59, 123, 251, 511, 1023, 2047, 4095, 8191, 16383, 16383, 49151, 114687, 245759, 16383, 540671, 1589247, 3686399, 7880703, 16269311, 33538047, 67092479, 134201343, 268435455, 536870911, 1073741823, 2147483647], .take 0 (.take 1 (.take 2 (.take 3 (.take 4 (.take 5 (.take 6 (.take 7 (.take 8 (.take 9 (.take 10 (.take 11 (.take 12 (.take 13 (.take 14 (.take 15 (.take 16 (.take 17 (.take 18 (.take 19 (.take 20 (.take 21 (.take 22 (.take 23 (.take 24 (.take 25 (.take 26 (.take 27 (.take 28 (.take 29 (.take 30 (.take 31 .done)))))))))))))))))))))))))))))))) else none

def dx_law22_alike_L1_0 (e : Env) (K : ((Option Addr) × (Option Addr) × Int) → Prop) : Prop :=
  onV (getV e 0) fun u1 =>
  asP u1 fun sx_1 =>
  onV (getV e 1) fun u2 =>
  asP u2 fun x_1 =>
  onV (getV e 2) fun u3 =>
  asI .i64 u3 fun basex_1 =>
    K (sx_1, x_1, basex_1)

def dx_law22_alike_L1_ret (e : Env) (K : ((Option Addr) × (Option Addr) × Int) → Bool → Prop) : Prop :=
  onV (getV e 0) fun u1 =>
  asP u1 fun sx_1 =>
  onV (getV e 1) fun u2 =>
  asP u2 fun x_1 =>
  onV (getV e 2) fun u3 =>
  asI .i64 u3 fun basex_1 =>
  onV (getV e 6) fun u4 =>
  asB u4 fun t6 =>
    K (sx_1, x_1, basex_1) t6

theorem body_law22_alike_L1 (f : (Option Addr) × (Option Addr) × Int) (s : S_law22_alike_L1) (w : World) (Kn : ((Option Addr) × (Option Addr) × Int) → S_law22_alike_L1 → World → Prop) (Kx0 : ((Option Addr) × (Option Addr) × Int) → World → Prop) (Kr : ((Option Addr) × (Option Addr) × Int) → Bool → World → Prop) :
    B_law22_alike_L1 f.1 f.2.1 f.2.2 s w (fun s1 w1 => Kn f s1 w1) (fun w1 => Kx0 f w1) (fun t6 w1 => Kr f t6 w1) =
    den Try.prog Try.f24.ntmps G_law22_alike (sub (codeOf Try.f24) [false, false, true, false, true, true, true, true]) [false, false, true, false, true, true, true, true] (roundQ (fun e w => dec_law22_alike_L1 e fun f s => Kn f s w) (fun e w => dx_law22_alike_L1_ret e fun f t6 => Kr f t6 w) (fun id e w => match Nat.beq id 0 with | true => dx_law22_alike_L1_0 e fun f => Kx0 f w | false => False)) (lit_law22_alike_L1 f s) w := by kernel_rfl

theorem ok_law22_alike_L1 : OneOk Try.prog Try.f24.ntmps G_law22_alike (codeOf Try.f24) [false, true, false, true, true, true, true] spec_law22_alike_L1 := by
  intro c hc ih Q e w a hr h
  have hcc : sub (codeOf Try.f24) [false, false, true, false, true, true, true, true] = c := sub_of_codeAt hc
  obtain ⟨f, s, h, hrep⟩ := dec_law22_alike_L1_ok e a _ hr h
  obtain ⟨J, μ, hj, hround⟩ := h
  refine loop_rule_deep seat_ok seat_mixed ih lit_law22_alike_L1 dec_law22_alike_L1 dec_law22_alike_L1_ok hc f J μ (Kr := fun e w => dx_law22_alike_L1_ret e fun f1 t6 => f1 = f ∧ Q .ret [⟨6, .bool t6, none⟩] w) (Kx := fun id e w => match Nat.beq id 0 with | true => (dx_law22_alike_L1_0 e fun f1 => f1 = f ∧ Q (.exit 0) [⟨0, .pointer f.1, none⟩, ⟨1, .pointer f.2.1, none⟩, ⟨2, .int .i64 f.2.2, none⟩] w) | false => False) ?_ ?_ ?_ s w a hj hrep
  · intro e a w hr h0
    unfold dx_law22_alike_L1_ret at h0
    obtain ⟨u1, g0, h1⟩ := onV_elim h0
    obtain ⟨sx_1, rfl, h2⟩ := asP_elim h1
    obtain ⟨u2, g1, h3⟩ := onV_elim h2
    obtain ⟨x_1, rfl, h4⟩ := asP_elim h3
    obtain ⟨u3, g2, h5⟩ := onV_elim h4
    obtain ⟨basex_1, rfl, h6⟩ := asI_elim h5
    obtain ⟨u4, g6, h7⟩ := onV_elim h6
    obtain ⟨t6, rfl, h8⟩ := asB_elim h7
    obtain ⟨hf, hq⟩ := h8
    subst hf
    exact ⟨_, rep_less hr (by simp [g6]), hq⟩
  · intro id e a w hr h0
    (try dsimp only at h0)
    split at h0
    · rename_i hid
      obtain rfl := Nat.eq_of_beq_eq_true hid
      unfold dx_law22_alike_L1_0 at h0
      obtain ⟨u1, g0, h1⟩ := onV_elim h0
      obtain ⟨sx_1, rfl, h2⟩ := asP_elim h1
      obtain ⟨u2, g1, h3⟩ := onV_elim h2
      obtain ⟨x_1, rfl, h4⟩ := asP_elim h3
      obtain ⟨u3, g2, h5⟩ := onV_elim h4
      obtain ⟨basex_1, rfl, h6⟩ := asI_elim h5
      obtain ⟨hf, hq⟩ := h6
      subst hf
      exact ⟨_, rep_less hr (by simp [g0, g1, g2]), hq⟩
    · exact h0.elim
  · intro s w hj
    have hb := hround s w hj
    rw [← hcc]
    have e1 := body_law22_alike_L1 f s w (fun f1 s1 w1 => f1 = f ∧ J s1 w1 ∧ μ s1 w1 < μ s w) (fun f1 w1 => f1 = f ∧ Q (.exit 0) [⟨0, .pointer f.1, none⟩, ⟨1, .pointer f.2.1, none⟩, ⟨2, .int .i64 f.2.2, none⟩] w1) (fun f1 t6 w1 => f1 = f ∧ Q .ret [⟨6, .bool t6, none⟩] w1)
    simp only [true_and] at e1
    exact cast e1 hb

theorem loops_law22_alike : LoopOk Try.prog Try.f24.ntmps G_law22_alike (codeOf Try.f24) := loopOk_list rfl ⟨ok_law22_alike_L1, trivial⟩

theorem den_law22_alike (sx : Option Addr) (x : Option Addr) (basex : Int) (w : World) (R : Value → World → Prop) :
    F_law22_alike sx x basex w (fun r w1 => R (.bool r) w1) = den Try.prog Try.f24.ntmps G_law22_alike (codeOf Try.f24) [] (postD Try.prog Try.f24.results.toList R) (entry [.pointer sx, .pointer x, .int .i64 basex] 0) w := by kernel_rfl

theorem C_law22_alike.of {sx : Option Addr} {x : Option Addr} {basex : Int} {w : World} {R : Bool → World → Prop} (h : F_law22_alike sx x basex w R) : C_law22_alike sx x basex w R := by
  refine (calls_of_den (c := codeOf Try.f24) seat_ok seat_mixed Try.func24 (by kernel_rfl) loops_law22_alike (args := [.pointer sx, .pointer x, .int .i64 basex]) rfl (R := fun v w1 => ∃ (r : Bool), v = (.bool r : Value) ∧ R r w1) ?_).mono ?_
  · rw [← den_law22_alike]
    have e : (fun r w1 => ∃ (r' : Bool), (.bool r : Value) = (.bool r' : Value) ∧ R r' w1) = R := by
      funext r w1
      exact propext ⟨fun ⟨r', he, h⟩ => by first | (simp at he; simp_all) | (cases he; exact h), fun h => ⟨_, rfl, h⟩⟩
    simpa only [e] using h
  · rintro en w1 ⟨v, he, r, rfl, h⟩
    exact ⟨_, he, h⟩

def F_frame_Stack_Last (sx : Option Addr) (w : World) (R : Int → Option Addr → Nat → Nat → Int → Int → Int → Int → Int → Int → Int → Bool → World → Prop) : Prop :=
  New w (.cells #[.int .i64 0, .slice none 0 0, .int .i64 0, .int .i64 0, .int .i64 0, .int .i64 0, .int .i64 0, .int .i64 0, .int .i64 0] 34) fun r w1 =>
  C_frame_Stack_Depth sx w1 fun t6 w1_1 =>
  C_frame_Stack_Choice sx (IntKind.i64.wrap (t6 - (1 : Int))) w1_1 fun t800 t801P t801N t801C t802 t803 t804 t805 t806 t807 t808 t81 w1_2 =>
  St w1_2 ((⟨r, 0, none⟩ : Addr).add 0) (.int .i64 t800) fun w1_3 =>
  St w1_3 ((⟨r, 0, none⟩ : Addr).add 1) (.slice t801P t801N t801C) fun w1_4 =>
  St w1_4 ((⟨r, 0, none⟩ : Addr).add 2) (.int .i64 t802) fun w1_5 =>
  St w1_5 ((⟨r, 0, none⟩ : Addr).add 3) (.int .i64 t803) fun w1_6 =>
  St w1_6 ((⟨r, 0, none⟩ : Addr).add 4) (.int .i64 t804) fun w1_7 =>
  St w1_7 ((⟨r, 0, none⟩ : Addr).add 5) (.int .i64 t805) fun w1_8 =>
  St w1_8 ((⟨r, 0, none⟩ : Addr).add 6) (.int .i64 t806) fun w1_9 =>
  St w1_9 ((⟨r, 0, none⟩ : Addr).add 7) (.int .i64 t807) fun w1_10 =>
  St w1_10 ((⟨r, 0, none⟩ : Addr).add 8) (.int .i64 t808) fun w1_11 =>
  ∃ r_1 : Int, w1_11.cell? ((⟨r, 0, none⟩ : Addr).add 0) = some (.int .i64 r_1) ∧
  ∃ rP : Option Addr, ∃ rN : Nat, ∃ rC : Nat, w1_11.cell? ((⟨r, 0, none⟩ : Addr).add 1) = some (.slice rP rN rC) ∧
  ∃ r_2 : Int, w1_11.cell? ((⟨r, 0, none⟩ : Addr).add 2) = some (.int .i64 r_2) ∧
  ∃ r_3 : Int, w1_11.cell? ((⟨r, 0, none⟩ : Addr).add 3) = some (.int .i64 r_3) ∧
  ∃ r_4 : Int, w1_11.cell? ((⟨r, 0, none⟩ : Addr).add 4) = some (.int .i64 r_4) ∧
  ∃ r_5 : Int, w1_11.cell? ((⟨r, 0, none⟩ : Addr).add 5) = some (.int .i64 r_5) ∧
  ∃ r_6 : Int, w1_11.cell? ((⟨r, 0, none⟩ : Addr).add 6) = some (.int .i64 r_6) ∧
  ∃ r_7 : Int, w1_11.cell? ((⟨r, 0, none⟩ : Addr).add 7) = some (.int .i64 r_7) ∧
  ∃ r_8 : Int, w1_11.cell? ((⟨r, 0, none⟩ : Addr).add 8) = some (.int .i64 r_8) ∧
  R r_1 rP rN rC r_2 r_3 r_4 r_5 r_6 r_7 r_8 t81 w1_11

def G_frame_Stack_Last : Gen where
  loop := lookL []
  plan := fun _ => none

theorem loops_frame_Stack_Last : LoopOk Try.prog Try.f25.ntmps G_frame_Stack_Last (codeOf Try.f25) := loopOk_none fun _ => rfl

theorem den_frame_Stack_Last (sx : Option Addr) (w : World) (R : Value → World → Prop) :
    F_frame_Stack_Last sx w (fun r00 r01P r01N r01C r02 r03 r04 r05 r06 r07 r08 r1 w1 => R (.tuple #[.agg #[.int .i64 r00, .slice r01P r01N r01C, .int .i64 r02, .int .i64 r03, .int .i64 r04, .int .i64 r05, .int .i64 r06, .int .i64 r07, .int .i64 r08], .bool r1]) w1) = den Try.prog Try.f25.ntmps G_frame_Stack_Last (codeOf Try.f25) [] (postD Try.prog Try.f25.results.toList R) (entry [.pointer sx] 0) w := by kernel_rfl

theorem C_frame_Stack_Last.of {sx : Option Addr} {w : World} {R : Int → Option Addr → Nat → Nat → Int → Int → Int → Int → Int → Int → Int → Bool → World → Prop} (h : F_frame_Stack_Last sx w R) : C_frame_Stack_Last sx w R := by
  refine (calls_of_den (c := codeOf Try.f25) seat_ok seat_mixed Try.func25 (by kernel_rfl) loops_frame_Stack_Last (args := [.pointer sx]) rfl (R := fun v w1 => ∃ (r00 : Int) (r01P : Option Addr) (r01N : Nat) (r01C : Nat) (r02 : Int) (r03 : Int) (r04 : Int) (r05 : Int) (r06 : Int) (r07 : Int) (r08 : Int) (r1 : Bool), v = (.tuple #[.agg #[.int .i64 r00, .slice r01P r01N r01C, .int .i64 r02, .int .i64 r03, .int .i64 r04, .int .i64 r05, .int .i64 r06, .int .i64 r07, .int .i64 r08], .bool r1] : Value) ∧ R r00 r01P r01N r01C r02 r03 r04 r05 r06 r07 r08 r1 w1) ?_).mono ?_
  · rw [← den_frame_Stack_Last]
    have e : (fun r00 r01P r01N r01C r02 r03 r04 r05 r06 r07 r08 r1 w1 => ∃ (r00' : Int) (r01P' : Option Addr) (r01N' : Nat) (r01C' : Nat) (r02' : Int) (r03' : Int) (r04' : Int) (r05' : Int) (r06' : Int) (r07' : Int) (r08' : Int) (r1' : Bool), (.tuple #[.agg #[.int .i64 r00, .slice r01P r01N r01C, .int .i64 r02, .int .i64 r03, .int .i64 r04, .int .i64 r05, .int .i64 r06, .int .i64 r07, .int .i64 r08], .bool r1] : Value) = (.tuple #[.agg #[.int .i64 r00', .slice r01P' r01N' r01C', .int .i64 r02', .int .i64 r03', .int .i64 r04', .int .i64 r05', .int .i64 r06', .int .i64 r07', .int .i64 r08'], .bool r1'] : Value) ∧ R r00' r01P' r01N' r01C' r02' r03' r04' r05' r06' r07' r08' r1' w1) = R := by
      funext r00 r01P r01N r01C r02 r03 r04 r05 r06 r07 r08 r1 w1
      exact propext ⟨fun ⟨r00', r01P', r01N', r01C', r02', r03', r04', r05', r06', r07', r08', r1', he, h⟩ => by first | (simp at he; simp_all) | (cases he; exact h), fun h => ⟨_, _, _, _, _, _, _, _, _, _, _, _, rfl, h⟩⟩
    simpa only [e] using h
  · rintro en w1 ⟨v, he, r00, r01P, r01N, r01C, r02, r03, r04, r05, r06, r07, r08, r1, rfl, h⟩
    exact ⟨_, _, _, _, _, _, _, _, _, _, _, _, he, h⟩

def F_frame_Stack_Choice_k1 (R : Int → Option Addr → Nat → Nat → Int → Int → Int → Int → Int → Int → Int → Bool → World → Prop) (r : Nat) (w1_2 : World) : Prop :=
  St w1_2 ((⟨r, 0, none⟩ : Addr).add 0) (.int .i64 0) fun w1_3 =>
  St w1_3 ((⟨r, 0, none⟩ : Addr).add 1) (.slice none 0 0) fun w1_4 =>
  St w1_4 ((⟨r, 0, none⟩ : Addr).add 2) (.int .i64 0) fun w1_5 =>
  St w1_5 ((⟨r, 0, none⟩ : Addr).add 3) (.int .i64 0) fun w1_6 =>
  St w1_6 ((⟨r, 0, none⟩ : Addr).add 4) (.int .i64 0) fun w1_7 =>
  St w1_7 ((⟨r, 0, none⟩ : Addr).add 5) (.int .i64 0) fun w1_8 =>
  St w1_8 ((⟨r, 0, none⟩ : Addr).add 6) (.int .i64 0) fun w1_9 =>
  St w1_9 ((⟨r, 0, none⟩ : Addr).add 7) (.int .i64 0) fun w1_10 =>
  St w1_10 ((⟨r, 0, none⟩ : Addr).add 8) (.int .i64 0) fun w1_11 =>
  ∃ r_1 : Int, w1_11.cell? ((⟨r, 0, none⟩ : Addr).add 0) = some (.int .i64 r_1) ∧
  ∃ rP : Option Addr, ∃ rN : Nat, ∃ rC : Nat, w1_11.cell? ((⟨r, 0, none⟩ : Addr).add 1) = some (.slice rP rN rC) ∧
  ∃ r_2 : Int, w1_11.cell? ((⟨r, 0, none⟩ : Addr).add 2) = some (.int .i64 r_2) ∧
  ∃ r_3 : Int, w1_11.cell? ((⟨r, 0, none⟩ : Addr).add 3) = some (.int .i64 r_3) ∧
  ∃ r_4 : Int, w1_11.cell? ((⟨r, 0, none⟩ : Addr).add 4) = some (.int .i64 r_4) ∧
  ∃ r_5 : Int, w1_11.cell? ((⟨r, 0, none⟩ : Addr).add 5) = some (.int .i64 r_5) ∧
  ∃ r_6 : Int, w1_11.cell? ((⟨r, 0, none⟩ : Addr).add 6) = some (.int .i64 r_6) ∧
  ∃ r_7 : Int, w1_11.cell? ((⟨r, 0, none⟩ : Addr).add 7) = some (.int .i64 r_7) ∧
  ∃ r_8 : Int, w1_11.cell? ((⟨r, 0, none⟩ : Addr).add 8) = some (.int .i64 r_8) ∧
  R r_1 rP rN rC r_2 r_3 r_4 r_5 r_6 r_7 r_8 false w1_11

def F_frame_Stack_Choice (sx : Option Addr) (i : Int) (w : World) (R : Int → Option Addr → Nat → Nat → Int → Int → Int → Int → Int → Int → Int → Bool → World → Prop) : Prop :=
  New w (.cells #[.int .i64 0, .slice none 0 0, .int .i64 0, .int .i64 0, .int .i64 0, .int .i64 0, .int .i64 0, .int .i64 0, .int .i64 0] 34) fun r w1 =>
  C_frame_Stack_made sx w1 fun t8 w1_1 =>
  If (!t8)
  (F_frame_Stack_Choice_k1 R r w1_1)
  (If (decide (i < (0 : Int)))
  (F_frame_Stack_Choice_k1 R r w1_1)
  (NN sx fun a =>
  ∃ lP : Option Addr, ∃ lN : Nat, ∃ lC : Nat, w1_1.cell? (a.add 2) = some (.slice lP lN lC) ∧
  If (decide (i ≥ (lN : Int)))
  (St w1_1 ((⟨r, 0, none⟩ : Addr).add 0) (.int .i64 0) fun w1_12 =>
  St w1_12 ((⟨r, 0, none⟩ : Addr).add 1) (.slice none 0 0) fun w1_13 =>
  St w1_13 ((⟨r, 0, none⟩ : Addr).add 2) (.int .i64 0) fun w1_14 =>
  St w1_14 ((⟨r, 0, none⟩ : Addr).add 3) (.int .i64 0) fun w1_15 =>
  St w1_15 ((⟨r, 0, none⟩ : Addr).add 4) (.int .i64 0) fun w1_16 =>
  St w1_16 ((⟨r, 0, none⟩ : Addr).add 5) (.int .i64 0) fun w1_17 =>
  St w1_17 ((⟨r, 0, none⟩ : Addr).add 6) (.int .i64 0) fun w1_18 =>
  St w1_18 ((⟨r, 0, none⟩ : Addr).add 7) (.int .i64 0) fun w1_19 =>
  St w1_19 ((⟨r, 0, none⟩ : Addr).add 8) (.int .i64 0) fun w1_20 =>
  ∃ r_9 : Int, w1_20.cell? ((⟨r, 0, none⟩ : Addr).add 0) = some (.int .i64 r_9) ∧
  ∃ rP_1 : Option Addr, ∃ rN_1 : Nat, ∃ rC_1 : Nat, w1_20.cell? ((⟨r, 0, none⟩ : Addr).add 1) = some (.slice rP_1 rN_1 rC_1) ∧
  ∃ r_10 : Int, w1_20.cell? ((⟨r, 0, none⟩ : Addr).add 2) = some (.int .i64 r_10) ∧
  ∃ r_11 : Int, w1_20.cell? ((⟨r, 0, none⟩ : Addr).add 3) = some (.int .i64 r_11) ∧
  ∃ r_12 : Int, w1_20.cell? ((⟨r, 0, none⟩ : Addr).add 4) = some (.int .i64 r_12) ∧
  ∃ r_13 : Int, w1_20.cell? ((⟨r, 0, none⟩ : Addr).add 5) = some (.int .i64 r_13) ∧
  ∃ r_14 : Int, w1_20.cell? ((⟨r, 0, none⟩ : Addr).add 6) = some (.int .i64 r_14) ∧
  ∃ r_15 : Int, w1_20.cell? ((⟨r, 0, none⟩ : Addr).add 7) = some (.int .i64 r_15) ∧
  ∃ r_16 : Int, w1_20.cell? ((⟨r, 0, none⟩ : Addr).add 8) = some (.int .i64 r_16) ∧
  R r_9 rP_1 rN_1 rC_1 r_10 r_11 r_12 r_13 r_14 r_15 r_16 false w1_20)
  (NN sx fun a_1 =>
  ∃ lP_1 : Option Addr, ∃ lN_1 : Nat, ∃ lC_1 : Nat, w1_1.cell? (a_1.add 2) = some (.slice lP_1 lN_1 lC_1) ∧
  0 ≤ i ∧ i < (lN_1 : Int) ∧ NN lP_1 fun a_2 =>
  ∃ t300 : Int, w1_1.cell? ((a_2.add (i.toNat * 9)).add 0) = some (.int .i64 t300) ∧
  ∃ t301P : Option Addr, ∃ t301N : Nat, ∃ t301C : Nat, w1_1.cell? ((a_2.add (i.toNat * 9)).add 1) = some (.slice t301P t301N t301C) ∧
  ∃ t302 : Int, w1_1.cell? ((a_2.add (i.toNat * 9)).add 2) = some (.int .i64 t302) ∧
  ∃ t303 : Int, w1_1.cell? ((a_2.add (i.toNat * 9)).add 3) = some (.int .i64 t303) ∧
  ∃ t304 : Int, w1_1.cell? ((a_2.add (i.toNat * 9)).add 4) = some (.int .i64 t304) ∧
  ∃ t305 : Int, w1_1.cell? ((a_2.add (i.toNat * 9)).add 5) = some (.int .i64 t305) ∧
  ∃ t306 : Int, w1_1.cell? ((a_2.add (i.toNat * 9)).add 6) = some (.int .i64 t306) ∧
  ∃ t307 : Int, w1_1.cell? ((a_2.add (i.toNat * 9)).add 7) = some (.int .i64 t307) ∧
  ∃ t308 : Int, w1_1.cell? ((a_2.add (i.toNat * 9)).add 8) = some (.int .i64 t308) ∧
  New w1_1 (.cells #[.int .i64 0, .slice none 0 0, .int .i64 0, .int .i64 0, .int .i64 0, .int .i64 0, .int .i64 0, .int .i64 0, .int .i64 0] 34) fun r_17 w1_21 =>
  St w1_21 ((⟨r_17, 0, none⟩ : Addr).add 0) (.int .i64 t300) fun w1_22 =>
  St w1_22 ((⟨r_17, 0, none⟩ : Addr).add 1) (.slice t301P t301N t301C) fun w1_23 =>
  St w1_23 ((⟨r_17, 0, none⟩ : Addr).add 2) (.int .i64 t302) fun w1_24 =>
  St w1_24 ((⟨r_17, 0, none⟩ : Addr).add 3) (.int .i64 t303) fun w1_25 =>
  St w1_25 ((⟨r_17, 0, none⟩ : Addr).add 4) (.int .i64 t304) fun w1_26 =>
  St w1_26 ((⟨r_17, 0, none⟩ : Addr).add 5) (.int .i64 t305) fun w1_27 =>
  St w1_27 ((⟨r_17, 0, none⟩ : Addr).add 6) (.int .i64 t306) fun w1_28 =>
  St w1_28 ((⟨r_17, 0, none⟩ : Addr).add 7) (.int .i64 t307) fun w1_29 =>
  St w1_29 ((⟨r_17, 0, none⟩ : Addr).add 8) (.int .i64 t308) fun w1_30 =>
  ∃ ArgsP : Option Addr, ∃ ArgsN : Nat, ∃ ArgsC : Nat, w1_30.cell? ((⟨r_17, 0, none⟩ : Addr).add 1) = some (.slice ArgsP ArgsN ArgsC) ∧
  C_slices_Clone ArgsP ArgsN ArgsC w1_30 fun t33P t33N t33C w1_31 =>
  St w1_31 (((⟨r_17, 0, none⟩ : Addr).add 1).add 0) (.slice t33P t33N t33C) fun w1_32 =>
  ∃ t350 : Int, w1_32.cell? ((⟨r_17, 0, none⟩ : Addr).add 0) = some (.int .i64 t350) ∧
  ∃ t351P : Option Addr, ∃ t351N : Nat, ∃ t351C : Nat, w1_32.cell? ((⟨r_17, 0, none⟩ : Addr).add 1) = some (.slice t351P t351N t351C) ∧
  ∃ t352 : Int, w1_32.cell? ((⟨r_17, 0, none⟩ : Addr).add 2) = some (.int .i64 t352) ∧
  ∃ t353 : Int, w1_32.cell? ((⟨r_17, 0, none⟩ : Addr).add 3) = some (.int .i64 t353) ∧
  ∃ t354 : Int, w1_32.cell? ((⟨r_17, 0, none⟩ : Addr).add 4) = some (.int .i64 t354) ∧
  ∃ t355 : Int, w1_32.cell? ((⟨r_17, 0, none⟩ : Addr).add 5) = some (.int .i64 t355) ∧
  ∃ t356 : Int, w1_32.cell? ((⟨r_17, 0, none⟩ : Addr).add 6) = some (.int .i64 t356) ∧
  ∃ t357 : Int, w1_32.cell? ((⟨r_17, 0, none⟩ : Addr).add 7) = some (.int .i64 t357) ∧
  ∃ t358 : Int, w1_32.cell? ((⟨r_17, 0, none⟩ : Addr).add 8) = some (.int .i64 t358) ∧
  St w1_32 ((⟨r, 0, none⟩ : Addr).add 0) (.int .i64 t350) fun w1_33 =>
  St w1_33 ((⟨r, 0, none⟩ : Addr).add 1) (.slice t351P t351N t351C) fun w1_34 =>
  St w1_34 ((⟨r, 0, none⟩ : Addr).add 2) (.int .i64 t352) fun w1_35 =>
  St w1_35 ((⟨r, 0, none⟩ : Addr).add 3) (.int .i64 t353) fun w1_36 =>
  St w1_36 ((⟨r, 0, none⟩ : Addr).add 4) (.int .i64 t354) fun w1_37 =>
  St w1_37 ((⟨r, 0, none⟩ : Addr).add 5) (.int .i64 t355) fun w1_38 =>
  St w1_38 ((⟨r, 0, none⟩ : Addr).add 6) (.int .i64 t356) fun w1_39 =>
  St w1_39 ((⟨r, 0, none⟩ : Addr).add 7) (.int .i64 t357) fun w1_40 =>
  St w1_40 ((⟨r, 0, none⟩ : Addr).add 8) (.int .i64 t358) fun w1_41 =>
  ∃ r_18 : Int, w1_41.cell? ((⟨r, 0, none⟩ : Addr).add 0) = some (.int .i64 r_18) ∧
  ∃ rP_2 : Option Addr, ∃ rN_2 : Nat, ∃ rC_2 : Nat, w1_41.cell? ((⟨r, 0, none⟩ : Addr).add 1) = some (.slice rP_2 rN_2 rC_2) ∧
  ∃ r_19 : Int, w1_41.cell? ((⟨r, 0, none⟩ : Addr).add 2) = some (.int .i64 r_19) ∧
  ∃ r_20 : Int, w1_41.cell? ((⟨r, 0, none⟩ : Addr).add 3) = some (.int .i64 r_20) ∧
  ∃ r_21 : Int, w1_41.cell? ((⟨r, 0, none⟩ : Addr).add 4) = some (.int .i64 r_21) ∧
  ∃ r_22 : Int, w1_41.cell? ((⟨r, 0, none⟩ : Addr).add 5) = some (.int .i64 r_22) ∧
  ∃ r_23 : Int, w1_41.cell? ((⟨r, 0, none⟩ : Addr).add 6) = some (.int .i64 r_23) ∧
  ∃ r_24 : Int, w1_41.cell? ((⟨r, 0, none⟩ : Addr).add 7) = some (.int .i64 r_24) ∧
  ∃ r_25 : Int, w1_41.cell? ((⟨r, 0, none⟩ : Addr).add 8) = some (.int .i64 r_25) ∧
  R r_18 rP_2 rN_2 rC_2 r_19 r_20 r_21 r_22 r_23 r_24 r_25 true w1_41)))

def G_frame_Stack_Choice : Gen where
  loop := lookL []
  plan := fun _ => none

theorem loops_frame_Stack_Choice : LoopOk Try.prog Try.f26.ntmps G_frame_Stack_Choice (codeOf Try.f26) := loopOk_none fun _ => rfl

theorem den_frame_Stack_Choice (sx : Option Addr) (i : Int) (w : World) (R : Value → World → Prop) :
    F_frame_Stack_Choice sx i w (fun r00 r01P r01N r01C r02 r03 r04 r05 r06 r07 r08 r1 w1 => R (.tuple #[.agg #[.int .i64 r00, .slice r01P r01N r01C, .int .i64 r02, .int .i64 r03, .int .i64 r04, .int .i64 r05, .int .i64 r06, .int .i64 r07, .int .i64 r08], .bool r1]) w1) = den Try.prog Try.f26.ntmps G_frame_Stack_Choice (codeOf Try.f26) [] (postD Try.prog Try.f26.results.toList R) (entry [.pointer sx, .int .i64 i] 0) w := by kernel_rfl

theorem C_frame_Stack_Choice.of {sx : Option Addr} {i : Int} {w : World} {R : Int → Option Addr → Nat → Nat → Int → Int → Int → Int → Int → Int → Int → Bool → World → Prop} (h : F_frame_Stack_Choice sx i w R) : C_frame_Stack_Choice sx i w R := by
  refine (calls_of_den (c := codeOf Try.f26) seat_ok seat_mixed Try.func26 (by kernel_rfl) loops_frame_Stack_Choice (args := [.pointer sx, .int .i64 i]) rfl (R := fun v w1 => ∃ (r00 : Int) (r01P : Option Addr) (r01N : Nat) (r01C : Nat) (r02 : Int) (r03 : Int) (r04 : Int) (r05 : Int) (r06 : Int) (r07 : Int) (r08 : Int) (r1 : Bool), v = (.tuple #[.agg #[.int .i64 r00, .slice r01P r01N r01C, .int .i64 r02, .int .i64 r03, .int .i64 r04, .int .i64 r05, .int .i64 r06, .int .i64 r07, .int .i64 r08], .bool r1] : Value) ∧ R r00 r01P r01N r01C r02 r03 r04 r05 r06 r07 r08 r1 w1) ?_).mono ?_
  · rw [← den_frame_Stack_Choice]
    have e : (fun r00 r01P r01N r01C r02 r03 r04 r05 r06 r07 r08 r1 w1 => ∃ (r00' : Int) (r01P' : Option Addr) (r01N' : Nat) (r01C' : Nat) (r02' : Int) (r03' : Int) (r04' : Int) (r05' : Int) (r06' : Int) (r07' : Int) (r08' : Int) (r1' : Bool), (.tuple #[.agg #[.int .i64 r00, .slice r01P r01N r01C, .int .i64 r02, .int .i64 r03, .int .i64 r04, .int .i64 r05, .int .i64 r06, .int .i64 r07, .int .i64 r08], .bool r1] : Value) = (.tuple #[.agg #[.int .i64 r00', .slice r01P' r01N' r01C', .int .i64 r02', .int .i64 r03', .int .i64 r04', .int .i64 r05', .int .i64 r06', .int .i64 r07', .int .i64 r08'], .bool r1'] : Value) ∧ R r00' r01P' r01N' r01C' r02' r03' r04' r05' r06' r07' r08' r1' w1) = R := by
      funext r00 r01P r01N r01C r02 r03 r04 r05 r06 r07 r08 r1 w1
      exact propext ⟨fun ⟨r00', r01P', r01N', r01C', r02', r03', r04', r05', r06', r07', r08', r1', he, h⟩ => by first | (simp at he; simp_all) | (cases he; exact h), fun h => ⟨_, _, _, _, _, _, _, _, _, _, _, _, rfl, h⟩⟩
    simpa only [e] using h
  · rintro en w1 ⟨v, he, r00, r01P, r01N, r01C, r02, r03, r04, r05, r06, r07, r08, r1, rfl, h⟩
    exact ⟨_, _, _, _, _, _, _, _, _, _, _, _, he, h⟩

end Go.Proofs.Ytdmjbkpibgfeiaa
