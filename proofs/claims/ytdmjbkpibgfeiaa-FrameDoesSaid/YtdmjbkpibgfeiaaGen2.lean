/- The formulas of this seat's functions, held against the loaded program by the kernel. Printed by a program. -/
import Derived.Test.YtdmjbkpibgfeiaaGenC
set_option maxRecDepth 100000
set_option linter.unusedVariables false
namespace Go.Proofs.Ytdmjbkpibgfeiaa
open Go Go.D Go.Proofs

def F_law22_FrameNobody_k1 (R : Bool → World → Prop) (w1_41 : World) : Prop :=
  R false w1_41

def F_law22_FrameNobody (o0 : Int) (o1 : Int) (o2 : Int) (o3 : Int) (o4 : Int) (o5 : Int) (o6P : Option Addr) (o6N : Nat) (o6C : Nat) (o7 : Int) (o8 : Int) (o9 : Int) (o10 : Int) (o11 : Int) (o12 : Int) (o13 : Int) (w : World) (R : Bool → World → Prop) : Prop :=
  New w (.cells #[.int .i64 o0, .int .i64 o1, .int .u64 o2, .int .i64 o3, .int .i64 o4, .int .i64 o5, .slice o6P o6N o6C, .int .i64 o7, .int .i64 o8, .int .i64 o9, .int .i64 o10, .int .i64 o11, .int .i64 o12, .int .i64 o13] 36) fun r w1 =>
  C_frame_Stack_Dealloc none w1 fun t1400 t1401 t141 w1_1 =>
  New w1_1 (.cells #[.int .i64 0, .int .i64 0] 31) fun r_1 w1_2 =>
  St w1_2 ((⟨r_1, 0, none⟩ : Addr).add 0) (.int .i64 t1400) fun w1_3 =>
  St w1_3 ((⟨r_1, 0, none⟩ : Addr).add 1) (.int .i64 t1401) fun w1_4 =>
  ∃ N : Int, w1_4.cell? ((⟨r, 0, none⟩ : Addr).add 1) = some (.int .i64 N) ∧
  C_frame_Stack_Get none N w1_4 fun t210 t211 w1_5 =>
  C_frame_Stack_Last none w1_5 fun t2600 t2601P t2601N t2601C t2602 t2603 t2604 t2605 t2606 t2607 t2608 t261 w1_6 =>
  New w1_6 (.cells #[.int .i64 0, .slice none 0 0, .int .i64 0, .int .i64 0, .int .i64 0, .int .i64 0, .int .i64 0, .int .i64 0, .int .i64 0] 34) fun r_2 w1_7 =>
  St w1_7 ((⟨r_2, 0, none⟩ : Addr).add 0) (.int .i64 t2600) fun w1_8 =>
  St w1_8 ((⟨r_2, 0, none⟩ : Addr).add 1) (.slice t2601P t2601N t2601C) fun w1_9 =>
  St w1_9 ((⟨r_2, 0, none⟩ : Addr).add 2) (.int .i64 t2602) fun w1_10 =>
  St w1_10 ((⟨r_2, 0, none⟩ : Addr).add 3) (.int .i64 t2603) fun w1_11 =>
  St w1_11 ((⟨r_2, 0, none⟩ : Addr).add 4) (.int .i64 t2604) fun w1_12 =>
  St w1_12 ((⟨r_2, 0, none⟩ : Addr).add 5) (.int .i64 t2605) fun w1_13 =>
  St w1_13 ((⟨r_2, 0, none⟩ : Addr).add 6) (.int .i64 t2606) fun w1_14 =>
  St w1_14 ((⟨r_2, 0, none⟩ : Addr).add 7) (.int .i64 t2607) fun w1_15 =>
  St w1_15 ((⟨r_2, 0, none⟩ : Addr).add 8) (.int .i64 t2608) fun w1_16 =>
  ∃ N_1 : Int, w1_16.cell? ((⟨r, 0, none⟩ : Addr).add 1) = some (.int .i64 N_1) ∧
  C_frame_Stack_Choice none N_1 w1_16 fun t3300 t3301P t3301N t3301C t3302 t3303 t3304 t3305 t3306 t3307 t3308 t331 w1_17 =>
  New w1_17 (.cells #[.int .i64 0, .slice none 0 0, .int .i64 0, .int .i64 0, .int .i64 0, .int .i64 0, .int .i64 0, .int .i64 0, .int .i64 0] 34) fun r_3 w1_18 =>
  St w1_18 ((⟨r_3, 0, none⟩ : Addr).add 0) (.int .i64 t3300) fun w1_19 =>
  St w1_19 ((⟨r_3, 0, none⟩ : Addr).add 1) (.slice t3301P t3301N t3301C) fun w1_20 =>
  St w1_20 ((⟨r_3, 0, none⟩ : Addr).add 2) (.int .i64 t3302) fun w1_21 =>
  St w1_21 ((⟨r_3, 0, none⟩ : Addr).add 3) (.int .i64 t3303) fun w1_22 =>
  St w1_22 ((⟨r_3, 0, none⟩ : Addr).add 4) (.int .i64 t3304) fun w1_23 =>
  St w1_23 ((⟨r_3, 0, none⟩ : Addr).add 5) (.int .i64 t3305) fun w1_24 =>
  St w1_24 ((⟨r_3, 0, none⟩ : Addr).add 6) (.int .i64 t3306) fun w1_25 =>
  St w1_25 ((⟨r_3, 0, none⟩ : Addr).add 7) (.int .i64 t3307) fun w1_26 =>
  St w1_26 ((⟨r_3, 0, none⟩ : Addr).add 8) (.int .i64 t3308) fun w1_27 =>
  C_frame_Stack_Change none (.func (.func 28) #[] #[]) w1_27 fun w1_28 =>
  C_law22_lives  w1_28 fun t38 w1_29 =>
  If t38
  (If (t141 == (6 : Int))
  (If (t211 == (6 : Int))
  (If (!t261)
  (If (!t331)
  (∃ N_2 : Int, w1_29.cell? ((⟨r, 0, none⟩ : Addr).add 1) = some (.int .i64 N_2) ∧
  ∃ Cont0 : Int, w1_29.cell? (((⟨r, 0, none⟩ : Addr).add 3).add 0) = some (.int .i64 Cont0) ∧
  ∃ Cont1 : Int, w1_29.cell? (((⟨r, 0, none⟩ : Addr).add 3).add 1) = some (.int .i64 Cont1) ∧
  C_frame_Stack_Alloc none N_2 Cont0 Cont1 w1_29 fun t61 w1_30 =>
  If (t61 == (6 : Int))
  (∃ N_3 : Int, w1_30.cell? ((⟨r, 0, none⟩ : Addr).add 1) = some (.int .i64 N_3) ∧
  ∃ W : Int, w1_30.cell? ((⟨r, 0, none⟩ : Addr).add 2) = some (.int .u64 W) ∧
  C_frame_Stack_Set none N_3 W w1_30 fun t70 w1_31 =>
  If (t70 == (6 : Int))
  (∃ N_4 : Int, w1_31.cell? ((⟨r, 0, none⟩ : Addr).add 1) = some (.int .i64 N_4) ∧
  C_frame_Stack_Trim none N_4 w1_31 fun t77 w1_32 =>
  If (!t77)
  (C_frame_Stack_Slots none w1_32 fun t82 w1_33 =>
  If (t82 == (0 : Int))
  (C_frame_Stack_Env none w1_33 fun t87 w1_34 =>
  If (t87 == (-1))
  (∃ Choice0 : Int, w1_34.cell? (((⟨r, 0, none⟩ : Addr).add 5).add 0) = some (.int .i64 Choice0) ∧
  ∃ Choice1P : Option Addr, ∃ Choice1N : Nat, ∃ Choice1C : Nat, w1_34.cell? (((⟨r, 0, none⟩ : Addr).add 5).add 1) = some (.slice Choice1P Choice1N Choice1C) ∧
  ∃ Choice2 : Int, w1_34.cell? (((⟨r, 0, none⟩ : Addr).add 5).add 2) = some (.int .i64 Choice2) ∧
  ∃ Choice3 : Int, w1_34.cell? (((⟨r, 0, none⟩ : Addr).add 5).add 3) = some (.int .i64 Choice3) ∧
  ∃ Choice4 : Int, w1_34.cell? (((⟨r, 0, none⟩ : Addr).add 5).add 4) = some (.int .i64 Choice4) ∧
  ∃ Choice5 : Int, w1_34.cell? (((⟨r, 0, none⟩ : Addr).add 5).add 5) = some (.int .i64 Choice5) ∧
  ∃ Choice6 : Int, w1_34.cell? (((⟨r, 0, none⟩ : Addr).add 5).add 6) = some (.int .i64 Choice6) ∧
  ∃ Choice7 : Int, w1_34.cell? (((⟨r, 0, none⟩ : Addr).add 5).add 7) = some (.int .i64 Choice7) ∧
  ∃ Choice8 : Int, w1_34.cell? (((⟨r, 0, none⟩ : Addr).add 5).add 8) = some (.int .i64 Choice8) ∧
  C_frame_Stack_Push none Choice0 Choice1P Choice1N Choice1C Choice2 Choice3 Choice4 Choice5 Choice6 Choice7 Choice8 w1_34 fun t94 w1_35 =>
  If (t94 == (6 : Int))
  (∃ N_5 : Int, w1_35.cell? ((⟨r, 0, none⟩ : Addr).add 1) = some (.int .i64 N_5) ∧
  C_frame_Stack_Turn none N_5 w1_35 fun t101 w1_36 =>
  If (t101 == (6 : Int))
  (C_frame_Stack_Drop none w1_36 fun t106 w1_37 =>
  If (t106 == (6 : Int))
  (C_frame_Stack_Restore none w1_37 fun t111 w1_38 =>
  If (t111 == (6 : Int))
  (C_frame_Stack_Depth none w1_38 fun t116 w1_39 =>
  If (t116 == (0 : Int))
  (∃ N_6 : Int, w1_39.cell? ((⟨r, 0, none⟩ : Addr).add 1) = some (.int .i64 N_6) ∧
  C_frame_Stack_Chain none N_6 w1_39 fun t123P t123N t123C w1_40 =>
  R ((t123N : Int) == (0 : Int)) w1_40)
  (F_law22_FrameNobody_k1 R w1_39))
  (F_law22_FrameNobody_k1 R w1_38))
  (F_law22_FrameNobody_k1 R w1_37))
  (F_law22_FrameNobody_k1 R w1_36))
  (F_law22_FrameNobody_k1 R w1_35))
  (F_law22_FrameNobody_k1 R w1_34))
  (F_law22_FrameNobody_k1 R w1_33))
  (F_law22_FrameNobody_k1 R w1_32))
  (F_law22_FrameNobody_k1 R w1_31))
  (F_law22_FrameNobody_k1 R w1_30))
  (F_law22_FrameNobody_k1 R w1_29))
  (F_law22_FrameNobody_k1 R w1_29))
  (F_law22_FrameNobody_k1 R w1_29))
  (F_law22_FrameNobody_k1 R w1_29))
  (F_law22_FrameNobody_k1 R w1_29)

def G_law22_FrameNobody : Gen where
  loop := lookL []
  plan := fun _ => none

theorem loops_law22_FrameNobody : LoopOk Try.prog Try.f6.ntmps G_law22_FrameNobody (codeOf Try.f6) := loopOk_none fun _ => rfl

theorem den_law22_FrameNobody (o0 : Int) (o1 : Int) (o2 : Int) (o3 : Int) (o4 : Int) (o5 : Int) (o6P : Option Addr) (o6N : Nat) (o6C : Nat) (o7 : Int) (o8 : Int) (o9 : Int) (o10 : Int) (o11 : Int) (o12 : Int) (o13 : Int) (w : World) (R : Value → World → Prop) :
    F_law22_FrameNobody o0 o1 o2 o3 o4 o5 o6P o6N o6C o7 o8 o9 o10 o11 o12 o13 w (fun r w1 => R (.bool r) w1) = den Try.prog Try.f6.ntmps G_law22_FrameNobody (codeOf Try.f6) [] (postD Try.prog Try.f6.results.toList R) (entry [.agg #[.int .i64 o0, .int .i64 o1, .int .u64 o2, .int .i64 o3, .int .i64 o4, .int .i64 o5, .slice o6P o6N o6C, .int .i64 o7, .int .i64 o8, .int .i64 o9, .int .i64 o10, .int .i64 o11, .int .i64 o12, .int .i64 o13]] 0) w := by kernel_rfl

theorem C_law22_FrameNobody.of {o0 : Int} {o1 : Int} {o2 : Int} {o3 : Int} {o4 : Int} {o5 : Int} {o6P : Option Addr} {o6N : Nat} {o6C : Nat} {o7 : Int} {o8 : Int} {o9 : Int} {o10 : Int} {o11 : Int} {o12 : Int} {o13 : Int} {w : World} {R : Bool → World → Prop} (h : F_law22_FrameNobody o0 o1 o2 o3 o4 o5 o6P o6N o6C o7 o8 o9 o10 o11 o12 o13 w R) : C_law22_FrameNobody o0 o1 o2 o3 o4 o5 o6P o6N o6C o7 o8 o9 o10 o11 o12 o13 w R := by
  refine (calls_of_den (c := codeOf Try.f6) seat_ok seat_mixed Try.func6 (by kernel_rfl) loops_law22_FrameNobody (args := [.agg #[.int .i64 o0, .int .i64 o1, .int .u64 o2, .int .i64 o3, .int .i64 o4, .int .i64 o5, .slice o6P o6N o6C, .int .i64 o7, .int .i64 o8, .int .i64 o9, .int .i64 o10, .int .i64 o11, .int .i64 o12, .int .i64 o13]]) rfl (R := fun v w1 => ∃ (r : Bool), v = (.bool r : Value) ∧ R r w1) ?_).mono ?_
  · rw [← den_law22_FrameNobody]
    have e : (fun r w1 => ∃ (r' : Bool), (.bool r : Value) = (.bool r' : Value) ∧ R r' w1) = R := by
      funext r w1
      exact propext ⟨fun ⟨r', he, h⟩ => by first | (simp at he; simp_all) | (cases he; exact h), fun h => ⟨_, rfl, h⟩⟩
    simpa only [e] using h
  · rintro en w1 ⟨v, he, r, rfl, h⟩
    exact ⟨_, he, h⟩

def F_frame_New_k1 (R : Option Addr → Int → World → Prop) (w1_1 : World) : Prop :=
  R none (1 : Int) w1_1

def F_frame_New (words : Int) (choices : Int) (w : World) (R : Option Addr → Int → World → Prop) : Prop :=
  C_room_New words w fun t100 t101 w1 =>
  If (t101 != (0 : Int))
  (F_frame_New_k1 R w1)
  (If (decide (choices < (0 : Int)))
  (F_frame_New_k1 R w1)
  (If (decide (choices ≥ (4096 : Int)))
  (R none (1 : Int) w1)
  (New w1 (.cells #[.pointer t100, .int .i64 (-1), .slice none 0 0, .int .i64 choices] 70) fun r w1_2 =>
  R (some ⟨r, 0, none⟩) (0 : Int) w1_2)))

def G_frame_New : Gen where
  loop := lookL []
  plan := fun _ => none

theorem loops_frame_New : LoopOk Try.prog Try.f7.ntmps G_frame_New (codeOf Try.f7) := loopOk_none fun _ => rfl

theorem den_frame_New (words : Int) (choices : Int) (w : World) (R : Value → World → Prop) :
    F_frame_New words choices w (fun r0 r1 w1 => R (.tuple #[.pointer r0, .int .i64 r1]) w1) = den Try.prog Try.f7.ntmps G_frame_New (codeOf Try.f7) [] (postD Try.prog Try.f7.results.toList R) (entry [.int .i64 words, .int .i64 choices] 0) w := by kernel_rfl

theorem C_frame_New.of {words : Int} {choices : Int} {w : World} {R : Option Addr → Int → World → Prop} (h : F_frame_New words choices w R) : C_frame_New words choices w R := by
  refine (calls_of_den (c := codeOf Try.f7) seat_ok seat_mixed Try.func7 (by kernel_rfl) loops_frame_New (args := [.int .i64 words, .int .i64 choices]) rfl (R := fun v w1 => ∃ (r0 : Option Addr) (r1 : Int), v = (.tuple #[.pointer r0, .int .i64 r1] : Value) ∧ R r0 r1 w1) ?_).mono ?_
  · rw [← den_frame_New]
    have e : (fun r0 r1 w1 => ∃ (r0' : Option Addr) (r1' : Int), (.tuple #[.pointer r0, .int .i64 r1] : Value) = (.tuple #[.pointer r0', .int .i64 r1'] : Value) ∧ R r0' r1' w1) = R := by
      funext r0 r1 w1
      exact propext ⟨fun ⟨r0', r1', he, h⟩ => by first | (simp at he; simp_all) | (cases he; exact h), fun h => ⟨_, _, rfl, h⟩⟩
    simpa only [e] using h
  · rintro en w1 ⟨v, he, r0, r1, rfl, h⟩
    exact ⟨_, _, he, h⟩

def F_law22_lives_k1 (R : Bool → World → Prop) (w1_34 : World) : Prop :=
  R false w1_34

def F_law22_lives (w : World) (R : Bool → World → Prop) : Prop :=
  C_frame_New (100 : Int) (3 : Int) w fun t180 t181 w1 =>
  If (t181 != (0 : Int))
  (R false w1)
  (If t180.isNone
  (R false w1)
  (C_frame_Stack_Alloc t180 (2 : Int) (3 : Int) (4 : Int) w1 fun t29 w1_1 =>
  C_frame_Stack_Set t180 (2 : Int) (77 : Int) w1_1 fun t31 w1_2 =>
  BSl Try.prog 32 1 [(0, .int .u64 5)] w1_2 fun t33P t33N t33C w1_3 =>
  C_frame_Stack_Push t180 (1 : Int) t33P t33N t33C (0 : Int) (0 : Int) (0 : Int) (9 : Int) (0 : Int) (0 : Int) (0 : Int) w1_3 fun t35 w1_4 =>
  C_frame_Stack_Dealloc t180 w1_4 fun t3800 t3801 t381 w1_5 =>
  New w1_5 (.cells #[.int .i64 0, .int .i64 0] 31) fun r w1_6 =>
  St w1_6 ((⟨r, 0, none⟩ : Addr).add 0) (.int .i64 t3800) fun w1_7 =>
  St w1_7 ((⟨r, 0, none⟩ : Addr).add 1) (.int .i64 t3801) fun w1_8 =>
  C_frame_Stack_Alloc t180 (0 : Int) (0 : Int) (0 : Int) w1_8 fun t43 w1_9 =>
  C_frame_Stack_Env t180 w1_9 fun t45 w1_10 =>
  C_frame_Stack_Restore t180 w1_10 fun t47 w1_11 =>
  C_frame_Stack_Get t180 (2 : Int) w1_11 fun t500 t501 w1_12 =>
  C_frame_Stack_Last t180 w1_12 fun t5500 t5501P t5501N t5501C t5502 t5503 t5504 t5505 t5506 t5507 t5508 t551 w1_13 =>
  New w1_13 (.cells #[.int .i64 0, .slice none 0 0, .int .i64 0, .int .i64 0, .int .i64 0, .int .i64 0, .int .i64 0, .int .i64 0, .int .i64 0] 34) fun r_1 w1_14 =>
  St w1_14 ((⟨r_1, 0, none⟩ : Addr).add 0) (.int .i64 t5500) fun w1_15 =>
  St w1_15 ((⟨r_1, 0, none⟩ : Addr).add 1) (.slice t5501P t5501N t5501C) fun w1_16 =>
  St w1_16 ((⟨r_1, 0, none⟩ : Addr).add 2) (.int .i64 t5502) fun w1_17 =>
  St w1_17 ((⟨r_1, 0, none⟩ : Addr).add 3) (.int .i64 t5503) fun w1_18 =>
  St w1_18 ((⟨r_1, 0, none⟩ : Addr).add 4) (.int .i64 t5504) fun w1_19 =>
  St w1_19 ((⟨r_1, 0, none⟩ : Addr).add 5) (.int .i64 t5505) fun w1_20 =>
  St w1_20 ((⟨r_1, 0, none⟩ : Addr).add 6) (.int .i64 t5506) fun w1_21 =>
  St w1_21 ((⟨r_1, 0, none⟩ : Addr).add 7) (.int .i64 t5507) fun w1_22 =>
  St w1_22 ((⟨r_1, 0, none⟩ : Addr).add 8) (.int .i64 t5508) fun w1_23 =>
  C_frame_New (-1) (0 : Int) w1_23 fun t590 t591 w1_24 =>
  If (t29 == (0 : Int))
  (If (t31 == (0 : Int))
  (If (t35 == (0 : Int))
  (If (t381 == (0 : Int))
  (∃ t770 : Int, w1_24.cell? ((⟨r, 0, none⟩ : Addr).add 0) = some (.int .i64 t770) ∧
  ∃ t771 : Int, w1_24.cell? ((⟨r, 0, none⟩ : Addr).add 1) = some (.int .i64 t771) ∧
  AggEq Try.prog 31 (.agg #[.int .i64 t770, .int .i64 t771]) (.agg #[.int .i64 3, .int .i64 4]) fun bb =>
  If bb
  (If (t43 == (0 : Int))
  (If (t45 == (6 : Int))
  (If (t47 == (0 : Int))
  (If (t501 == (0 : Int))
  (If (t500 == (77 : Int))
  (If t551
  (∃ Next : Int, w1_24.cell? ((⟨r_1, 0, none⟩ : Addr).add 5) = some (.int .i64 Next) ∧
  If (Next == (9 : Int))
  (∃ Top : Int, w1_24.cell? ((⟨r_1, 0, none⟩ : Addr).add 8) = some (.int .i64 Top) ∧
  If (Top == (6 : Int))
  (∃ ArgsP : Option Addr, ∃ ArgsN : Nat, ∃ ArgsC : Nat, w1_24.cell? ((⟨r_1, 0, none⟩ : Addr).add 1) = some (.slice ArgsP ArgsN ArgsC) ∧
  If ((ArgsN : Int) == (1 : Int))
  (C_frame_Stack_Env t180 w1_24 fun t122 w1_25 =>
  If (t122 == (0 : Int))
  (C_frame_Stack_Slots t180 w1_25 fun t127 w1_26 =>
  If (t127 == (2 : Int))
  (C_frame_Stack_Trim t180 (1 : Int) w1_26 fun t132 w1_27 =>
  If (!t132)
  (C_frame_Stack_Turn t180 (8 : Int) w1_27 fun t137 w1_28 =>
  If (t137 == (0 : Int))
  (C_frame_Stack_Drop t180 w1_28 fun t142 w1_29 =>
  If (t142 == (0 : Int))
  (C_frame_Stack_Drop t180 w1_29 fun t147 w1_30 =>
  If (t147 == (4 : Int))
  (C_frame_Stack_Trim t180 (1 : Int) w1_30 fun t152 w1_31 =>
  If t152
  (C_frame_Stack_Depth t180 w1_31 fun t156 w1_32 =>
  If (t156 == (0 : Int))
  (C_frame_Stack_Chain t180 (0 : Int) w1_32 fun t161P t161N t161C w1_33 =>
  If ((t161N : Int) == (1 : Int))
  (R (t591 == (1 : Int)) w1_33)
  (F_law22_lives_k1 R w1_33))
  (F_law22_lives_k1 R w1_32))
  (F_law22_lives_k1 R w1_31))
  (F_law22_lives_k1 R w1_30))
  (F_law22_lives_k1 R w1_29))
  (F_law22_lives_k1 R w1_28))
  (F_law22_lives_k1 R w1_27))
  (F_law22_lives_k1 R w1_26))
  (F_law22_lives_k1 R w1_25))
  (F_law22_lives_k1 R w1_24))
  (F_law22_lives_k1 R w1_24))
  (F_law22_lives_k1 R w1_24))
  (F_law22_lives_k1 R w1_24))
  (F_law22_lives_k1 R w1_24))
  (F_law22_lives_k1 R w1_24))
  (F_law22_lives_k1 R w1_24))
  (F_law22_lives_k1 R w1_24))
  (F_law22_lives_k1 R w1_24))
  (F_law22_lives_k1 R w1_24))
  (F_law22_lives_k1 R w1_24))
  (F_law22_lives_k1 R w1_24))
  (F_law22_lives_k1 R w1_24))
  (F_law22_lives_k1 R w1_24)))

def G_law22_lives : Gen where
  loop := lookL []
  plan := fun _ => none

theorem loops_law22_lives : LoopOk Try.prog Try.f8.ntmps G_law22_lives (codeOf Try.f8) := loopOk_none fun _ => rfl

theorem den_law22_lives  (w : World) (R : Value → World → Prop) :
    F_law22_lives w (fun r w1 => R (.bool r) w1) = den Try.prog Try.f8.ntmps G_law22_lives (codeOf Try.f8) [] (postD Try.prog Try.f8.results.toList R) (entry [] 0) w := by kernel_rfl

theorem C_law22_lives.of {w : World} {R : Bool → World → Prop} (h : F_law22_lives w R) : C_law22_lives w R := by
  refine (calls_of_den (c := codeOf Try.f8) seat_ok seat_mixed Try.func8 (by kernel_rfl) loops_law22_lives (args := []) rfl (R := fun v w1 => ∃ (r : Bool), v = (.bool r : Value) ∧ R r w1) ?_).mono ?_
  · rw [← den_law22_lives]
    have e : (fun r w1 => ∃ (r' : Bool), (.bool r : Value) = (.bool r' : Value) ∧ R r' w1) = R := by
      funext r w1
      exact propext ⟨fun ⟨r', he, h⟩ => by first | (simp at he; simp_all) | (cases he; exact h), fun h => ⟨_, rfl, h⟩⟩
    simpa only [e] using h
  · rintro en w1 ⟨v, he, r, rfl, h⟩
    exact ⟨_, he, h⟩

def F_law22_step (sx : Option Addr) (o0 : Int) (o1 : Int) (o2 : Int) (o3 : Int) (o4 : Int) (o5 : Int) (o6P : Option Addr) (o6N : Nat) (o6C : Nat) (o7 : Int) (o8 : Int) (o9 : Int) (o10 : Int) (o11 : Int) (o12 : Int) (o13 : Int) (w : World) (R : World → Prop) : Prop :=
  New w (.cells #[.int .i64 o0, .int .i64 o1, .int .u64 o2, .int .i64 o3, .int .i64 o4, .int .i64 o5, .slice o6P o6N o6C, .int .i64 o7, .int .i64 o8, .int .i64 o9, .int .i64 o10, .int .i64 o11, .int .i64 o12, .int .i64 o13] 36) fun r w1 =>
  ∃ Kind : Int, w1.cell? ((⟨r, 0, none⟩ : Addr).add 0) = some (.int .i64 Kind) ∧
  If (Kind == (1 : Int))
  (∃ N : Int, w1.cell? ((⟨r, 0, none⟩ : Addr).add 1) = some (.int .i64 N) ∧
  ∃ Cont0 : Int, w1.cell? (((⟨r, 0, none⟩ : Addr).add 3).add 0) = some (.int .i64 Cont0) ∧
  ∃ Cont1 : Int, w1.cell? (((⟨r, 0, none⟩ : Addr).add 3).add 1) = some (.int .i64 Cont1) ∧
  C_frame_Stack_Alloc sx N Cont0 Cont1 w1 fun t13 w1_1 =>
  R w1_1)
  (If (Kind == (2 : Int))
  (C_frame_Stack_Dealloc sx w1 fun t1700 t1701 t171 w1_2 =>
  R w1_2)
  (If (Kind == (4 : Int))
  (∃ N_1 : Int, w1.cell? ((⟨r, 0, none⟩ : Addr).add 1) = some (.int .i64 N_1) ∧
  ∃ W : Int, w1.cell? ((⟨r, 0, none⟩ : Addr).add 2) = some (.int .u64 W) ∧
  C_frame_Stack_Set sx N_1 W w1 fun t25 w1_3 =>
  R w1_3)
  (If (Kind == (5 : Int))
  (∃ N_2 : Int, w1.cell? ((⟨r, 0, none⟩ : Addr).add 1) = some (.int .i64 N_2) ∧
  C_frame_Stack_Trim sx N_2 w1 fun t31 w1_4 =>
  R w1_4)
  (If (Kind == (6 : Int))
  (C_frame_Stack_Push sx (1 : Int) none 0 0 (0 : Int) (0 : Int) (0 : Int) (0 : Int) (0 : Int) (0 : Int) (0 : Int) w1 fun t36 w1_5 =>
  R w1_5)
  (If (Kind == (8 : Int))
  (C_frame_Stack_Drop sx w1 fun t40 w1_6 =>
  R w1_6)
  (If (Kind == (9 : Int))
  (C_frame_Stack_Restore sx w1 fun t44 w1_7 =>
  R w1_7)
  (R w1)))))))

def G_law22_step : Gen where
  loop := lookL []
  plan := fun _ => none

theorem loops_law22_step : LoopOk Try.prog Try.f9.ntmps G_law22_step (codeOf Try.f9) := loopOk_none fun _ => rfl

theorem den_law22_step (sx : Option Addr) (o0 : Int) (o1 : Int) (o2 : Int) (o3 : Int) (o4 : Int) (o5 : Int) (o6P : Option Addr) (o6N : Nat) (o6C : Nat) (o7 : Int) (o8 : Int) (o9 : Int) (o10 : Int) (o11 : Int) (o12 : Int) (o13 : Int) (w : World) (R : Value → World → Prop) :
    F_law22_step sx o0 o1 o2 o3 o4 o5 o6P o6N o6C o7 o8 o9 o10 o11 o12 o13 w (fun w1 => R (.tuple #[]) w1) = den Try.prog Try.f9.ntmps G_law22_step (codeOf Try.f9) [] (postD Try.prog Try.f9.results.toList R) (entry [.pointer sx, .agg #[.int .i64 o0, .int .i64 o1, .int .u64 o2, .int .i64 o3, .int .i64 o4, .int .i64 o5, .slice o6P o6N o6C, .int .i64 o7, .int .i64 o8, .int .i64 o9, .int .i64 o10, .int .i64 o11, .int .i64 o12, .int .i64 o13]] 0) w := by kernel_rfl

theorem C_law22_step.of {sx : Option Addr} {o0 : Int} {o1 : Int} {o2 : Int} {o3 : Int} {o4 : Int} {o5 : Int} {o6P : Option Addr} {o6N : Nat} {o6C : Nat} {o7 : Int} {o8 : Int} {o9 : Int} {o10 : Int} {o11 : Int} {o12 : Int} {o13 : Int} {w : World} {R : World → Prop} (h : F_law22_step sx o0 o1 o2 o3 o4 o5 o6P o6N o6C o7 o8 o9 o10 o11 o12 o13 w R) : C_law22_step sx o0 o1 o2 o3 o4 o5 o6P o6N o6C o7 o8 o9 o10 o11 o12 o13 w R := by
  refine (calls_of_den (c := codeOf Try.f9) seat_ok seat_mixed Try.func9 (by kernel_rfl) loops_law22_step (args := [.pointer sx, .agg #[.int .i64 o0, .int .i64 o1, .int .u64 o2, .int .i64 o3, .int .i64 o4, .int .i64 o5, .slice o6P o6N o6C, .int .i64 o7, .int .i64 o8, .int .i64 o9, .int .i64 o10, .int .i64 o11, .int .i64 o12, .int .i64 o13]]) rfl (R := fun v w1 => v = (.tuple #[] : Value) ∧ R w1) ?_).mono ?_
  · rw [← den_law22_step]
    simpa using h
  · rintro en w1 ⟨v, he, rfl, h⟩
    exact ⟨he, h⟩

def F_frame_Stack_Push (sx : Option Addr) (c0 : Int) (c1P : Option Addr) (c1N : Nat) (c1C : Nat) (c2 : Int) (c3 : Int) (c4 : Int) (c5 : Int) (c6 : Int) (c7 : Int) (c8 : Int) (w : World) (R : Int → World → Prop) : Prop :=
  New w (.cells #[.int .i64 c0, .slice c1P c1N c1C, .int .i64 c2, .int .i64 c3, .int .i64 c4, .int .i64 c5, .int .i64 c6, .int .i64 c7, .int .i64 c8] 34) fun r w1 =>
  C_frame_Stack_made sx w1 fun t7 w1_1 =>
  If (!t7)
  (R (6 : Int) w1_1)
  (NN sx fun a =>
  ∃ lP : Option Addr, ∃ lN : Nat, ∃ lC : Nat, (drw w1_1).cell? (a.add 2) = some (.slice lP lN lC) ∧
  NN sx fun a_1 =>
  ∃ limitx : Int, (drw w1_1).cell? (a_1.add 3) = some (.int .i64 limitx) ∧
  If (decide ((lN : Int) ≥ limitx))
  (R (2 : Int) (drw w1_1))
  (∃ ArgsP : Option Addr, ∃ ArgsN : Nat, ∃ ArgsC : Nat, (drw w1_1).cell? ((⟨r, 0, none⟩ : Addr).add 1) = some (.slice ArgsP ArgsN ArgsC) ∧
  C_slices_Clone ArgsP ArgsN ArgsC (drw w1_1) fun t22P t22N t22C w1_2 =>
  St w1_2 (((⟨r, 0, none⟩ : Addr).add 1).add 0) (.slice t22P t22N t22C) fun w1_3 =>
  NN sx fun a_2 =>
  ∃ env : Int, (drw w1_3).cell? (a_2.add 1) = some (.int .i64 env) ∧
  C_frame_Stack_top sx (drw w1_3) fun t29 w1_4 =>
  w1_4.cell? (a_2.add 1) = (drw w1_3).cell? (a_2.add 1) ∧
  St w1_4 (((⟨r, 0, none⟩ : Addr).add 7).add 0) (.int .i64 env) fun w1_5 =>
  St w1_5 (((⟨r, 0, none⟩ : Addr).add 8).add 0) (.int .i64 t29) fun w1_6 =>
  NN sx fun a_3 =>
  ∃ lP_1 : Option Addr, ∃ lN_1 : Nat, ∃ lC_1 : Nat, (drw w1_6).cell? (a_3.add 2) = some (.slice lP_1 lN_1 lC_1) ∧
  ∃ t370 : Int, (drw w1_6).cell? ((⟨r, 0, none⟩ : Addr).add 0) = some (.int .i64 t370) ∧
  ∃ t371P : Option Addr, ∃ t371N : Nat, ∃ t371C : Nat, (drw w1_6).cell? ((⟨r, 0, none⟩ : Addr).add 1) = some (.slice t371P t371N t371C) ∧
  ∃ t372 : Int, (drw w1_6).cell? ((⟨r, 0, none⟩ : Addr).add 2) = some (.int .i64 t372) ∧
  ∃ t373 : Int, (drw w1_6).cell? ((⟨r, 0, none⟩ : Addr).add 3) = some (.int .i64 t373) ∧
  ∃ t374 : Int, (drw w1_6).cell? ((⟨r, 0, none⟩ : Addr).add 4) = some (.int .i64 t374) ∧
  ∃ t375 : Int, (drw w1_6).cell? ((⟨r, 0, none⟩ : Addr).add 5) = some (.int .i64 t375) ∧
  ∃ t376 : Int, (drw w1_6).cell? ((⟨r, 0, none⟩ : Addr).add 6) = some (.int .i64 t376) ∧
  ∃ t377 : Int, (drw w1_6).cell? ((⟨r, 0, none⟩ : Addr).add 7) = some (.int .i64 t377) ∧
  ∃ t378 : Int, (drw w1_6).cell? ((⟨r, 0, none⟩ : Addr).add 8) = some (.int .i64 t378) ∧
  BSl Try.prog 68 1 [(0, .agg #[.int .i64 t370, .slice t371P t371N t371C, .int .i64 t372, .int .i64 t373, .int .i64 t374, .int .i64 t375, .int .i64 t376, .int .i64 t377, .int .i64 t378])] (drw w1_6) fun t38P t38N t38C w1_7 =>
  w1_7.cell? (a_3.add 2) = (drw w1_6).cell? (a_3.add 2) ∧
  App Try.prog #[68, 68] 68 #[.slice lP_1 lN_1 lC_1, .slice t38P t38N t38C] w1_7 fun t39P t39N t39C w1_8 =>
  NN sx fun a_4 =>
  St w1_8 ((a_4.add 2).add 0) (.slice t39P t39N t39C) fun w1_9 =>
  R (0 : Int) w1_9))

def G_frame_Stack_Push : Gen where
  loop := lookL []
  plan := fun id =>
    bif Nat.beq id 3 then some ([0, 1, 3, 7, 15, 0, 32, 96, 224, 511, 1023], .take 0 (.take 1 (.take 2 (.take 3 (.take 4 (.take 5 (.take 6 (.take 7 (.take 8 (.take 9 (.take 10 .done))))))))))) else
    bif Nat.beq id 6 then some ([0, 1, 3, 7, 0, 16, 15, 127, 255, 511], .take 0 (.take 1 (.take 2 (.take 3 (.take 4 (.take 6 (.take 5 (.take 7 (.take 8 (.take 9 .done)))))))))) else
    bif Nat.beq id 7 then some ([0, 0, 2, 6, 14, 0, 32, 126, 255, 511, 1023], .take 0 (.take 1 (.take 2 (.take 3 (.take 4 (.take 5 (.take 6 (.take 7 (.take 8 (.take 9 (.take 10 .done))))))))))) else none

theorem loops_frame_Stack_Push : LoopOk Try.prog Try.f10.ntmps G_frame_Stack_Push (codeOf Try.f10) := loopOk_none fun _ => rfl

theorem den_frame_Stack_Push (sx : Option Addr) (c0 : Int) (c1P : Option Addr) (c1N : Nat) (c1C : Nat) (c2 : Int) (c3 : Int) (c4 : Int) (c5 : Int) (c6 : Int) (c7 : Int) (c8 : Int) (w : World) (R : Value → World → Prop) :
    F_frame_Stack_Push sx c0 c1P c1N c1C c2 c3 c4 c5 c6 c7 c8 w (fun r w1 => R (.int .i64 r) w1) = den Try.prog Try.f10.ntmps G_frame_Stack_Push (codeOf Try.f10) [] (postD Try.prog Try.f10.results.toList R) (entry [.pointer sx, .agg #[.int .i64 c0, .slice c1P c1N c1C, .int .i64 c2, .int .i64 c3, .int .i64 c4, .int .i64 c5, .int .i64 c6, .int .i64 c7, .int .i64 c8]] 0) w := by kernel_rfl

theorem C_frame_Stack_Push.of {sx : Option Addr} {c0 : Int} {c1P : Option Addr} {c1N : Nat} {c1C : Nat} {c2 : Int} {c3 : Int} {c4 : Int} {c5 : Int} {c6 : Int} {c7 : Int} {c8 : Int} {w : World} {R : Int → World → Prop} (h : F_frame_Stack_Push sx c0 c1P c1N c1C c2 c3 c4 c5 c6 c7 c8 w R) : C_frame_Stack_Push sx c0 c1P c1N c1C c2 c3 c4 c5 c6 c7 c8 w R := by
  refine (calls_of_den (c := codeOf Try.f10) seat_ok seat_mixed Try.func10 (by kernel_rfl) loops_frame_Stack_Push (args := [.pointer sx, .agg #[.int .i64 c0, .slice c1P c1N c1C, .int .i64 c2, .int .i64 c3, .int .i64 c4, .int .i64 c5, .int .i64 c6, .int .i64 c7, .int .i64 c8]]) rfl (R := fun v w1 => ∃ (r : Int), v = (.int .i64 r : Value) ∧ R r w1) ?_).mono ?_
  · rw [← den_frame_Stack_Push]
    have e : (fun r w1 => ∃ (r' : Int), (.int .i64 r : Value) = (.int .i64 r' : Value) ∧ R r' w1) = R := by
      funext r w1
      exact propext ⟨fun ⟨r', he, h⟩ => by first | (simp at he; simp_all) | (cases he; exact h), fun h => ⟨_, rfl, h⟩⟩
    simpa only [e] using h
  · rintro en w1 ⟨v, he, r, rfl, h⟩
    exact ⟨_, he, h⟩

structure S_frame_Stack_Chain_L1 where
  outP : Option Addr
  outN : Nat
  outC : Nat

/-- One round. -/
def B_frame_Stack_Chain_L1 (sx_1 : Option Addr) (basex_1 : Addr) (s : S_frame_Stack_Chain_L1) (w : World) (Kn : S_frame_Stack_Chain_L1 → World → Prop) (Kx0 : Option Addr → Nat → Nat → World → Prop) : Prop :=
  ∃ t15 : Int, w.cell? basex_1 = some (.int .i64 t15) ∧
  If (decide (t15 ≥ (0 : Int)))
  (∃ t21 : Int, (drw w).cell? basex_1 = some (.int .i64 t21) ∧
  ∃ t23 : Int, (drw w).cell? basex_1 = some (.int .i64 t23) ∧
  ∃ t26 : Int, (drw w).cell? basex_1 = some (.int .i64 t26) ∧
  C_frame_Stack_row sx_1 t23 (drw w) fun t24P t24N t24C w1_5 =>
  w1_5.cell? basex_1 = (drw w).cell? basex_1 ∧
  w1_5.cell? basex_1 = (drw w).cell? basex_1 ∧
  C_frame_Stack_cont sx_1 t26 w1_5 fun t270 t271 w1_6 =>
  w1_6.cell? basex_1 = (drw w).cell? basex_1 ∧
  BSl Try.prog 38 1 [(0, .agg #[.int .i64 t21, .slice t24P t24N t24C, .int .i64 t270, .int .i64 t271])] w1_6 fun t29P t29N t29C w1_7 =>
  App Try.prog #[38, 38] 38 #[.slice s.outP s.outN s.outC, .slice t29P t29N t29C] w1_7 fun t30P t30N t30C w1_8 =>
  ∃ t18 : Int, w1_8.cell? basex_1 = some (.int .i64 t18) ∧
  C_frame_Stack_prev sx_1 t18 w1_8 fun t19 w1_9 =>
  St w1_9 (basex_1.add 0) (.int .i64 t19) fun w1_10 =>
  Kn ⟨t30P, t30N, t30C⟩ w1_10)
  (Kx0 s.outP s.outN s.outC w)

def F_frame_Stack_Chain_L1 (sx_1 : Option Addr) (basex_1 : Addr) (s : S_frame_Stack_Chain_L1) (w : World) (Kx0 : Option Addr → Nat → Nat → World → Prop) : Prop :=
  LoopS (fun s w Kn => B_frame_Stack_Chain_L1 sx_1 basex_1 s w Kn Kx0) s w

def F_frame_Stack_Chain (sx : Option Addr) (basex : Int) (w : World) (R : Option Addr → Nat → Nat → World → Prop) : Prop :=
  New w (.cells #[.int .i64 basex] 3) fun r w1 =>
  C_frame_Stack_made sx w1 fun t8 w1_1 =>
  If (!t8)
  (R none 0 0 w1_1)
  (New w1_1 (.cells #[.bool false] 4) fun r_1 w1_2 =>
  St w1_2 ((⟨r_1, 0, none⟩ : Addr).add 0) (.bool false) fun w1_3 =>
  C_frame_Stack_all sx (.func (.func 36) #[] #[.pointer (some ⟨r_1, 0, none⟩), .pointer (some ⟨r, 0, none⟩)]) w1_3 fun w1_4 =>
  ∃ t13 : Bool, w1_4.cell? ⟨r_1, 0, none⟩ = some (.bool t13) ∧
  If (!t13)
  (R none 0 0 w1_4)
  (F_frame_Stack_Chain_L1 sx ⟨r, 0, none⟩ ⟨none, 0, 0⟩ w1_4
  (fun outP_2 outN_2 outC_2 w1_11 =>
  R outP_2 outN_2 outC_2 w1_11)))

def lit_frame_Stack_Chain_L1 (f : (Option Addr) × Addr) (s : S_frame_Stack_Chain_L1) : Env := [⟨0, .pointer f.1, none⟩, ⟨3, .pointer (some f.2), none⟩, ⟨6, .slice s.outP s.outN s.outC, none⟩]

def dec_frame_Stack_Chain_L1 (e : Env) (K : ((Option Addr) × Addr) → S_frame_Stack_Chain_L1 → Prop) : Prop :=
  onV (getV e 0) fun u1 =>
  asP u1 fun sx_1 =>
  onV (getV e 3) fun u2 =>
  asA u2 fun basex_1 =>
  onV (getV e 6) fun u3 =>
  asS u3 fun outP outN outC =>
    K (sx_1, basex_1) ⟨outP, outN, outC⟩

theorem dec_frame_Stack_Chain_L1_ok {N : Nat} (e : Env) (a : Act) (K : ((Option Addr) × Addr) → S_frame_Stack_Chain_L1 → Prop) (hr : Rep N a e) (h0 : dec_frame_Stack_Chain_L1 e K) : ∃ f s, K f s ∧ Rep N a (lit_frame_Stack_Chain_L1 f s) := by
  unfold dec_frame_Stack_Chain_L1 at h0
  obtain ⟨u1, g0, h1⟩ := onV_elim h0
  obtain ⟨sx_1, rfl, h2⟩ := asP_elim h1
  obtain ⟨u2, g3, h3⟩ := onV_elim h2
  obtain ⟨basex_1, rfl, h4⟩ := asA_elim h3
  obtain ⟨u3, g6, h5⟩ := onV_elim h4
  obtain ⟨outP, outN, outC, rfl, h6⟩ := asS_elim h5
  exact ⟨_, _, h6, rep_less hr (by simp [lit_frame_Stack_Chain_L1, g0, g3, g6])⟩

def spec_frame_Stack_Chain_L1 (Q : Post) (e : Env) (w : World) : Prop :=
  dec_frame_Stack_Chain_L1 e fun f s => F_frame_Stack_Chain_L1 f.1 f.2 s w (fun outP_1 outN_1 outC_1 w1 => Q (.exit 0) [⟨6, .slice outP_1 outN_1 outC_1, none⟩] w1)

def G_frame_Stack_Chain : Gen where
  loop := lookL [([false, false, true, true, true, true, true, true], spec_frame_Stack_Chain_L1)]
  plan := fun id =>
    bif Nat.beq id 10 then some ([0, 0, 0, 0, 12, 0, 0, 124, 254, 510, 1023, 2047], .take 0 (.take 1 (.take 2 (.take 3 (.take 5 (.take 6 (.take 4 (.take 7 (.take 8 (.take 9 (.take 10 (.take 11 .done)))))))))))) else none

def dx_frame_Stack_Chain_L1_0 (e : Env) (K : ((Option Addr) × Addr) → Option Addr → Nat → Nat → Prop) : Prop :=
  onV (getV e 0) fun u1 =>
  asP u1 fun sx_1 =>
  onV (getV e 3) fun u2 =>
  asA u2 fun basex_1 =>
  onV (getV e 6) fun u3 =>
  asS u3 fun outP_1 outN_1 outC_1 =>
    K (sx_1, basex_1) outP_1 outN_1 outC_1

theorem body_frame_Stack_Chain_L1 (f : (Option Addr) × Addr) (s : S_frame_Stack_Chain_L1) (w : World) (Kn : ((Option Addr) × Addr) → S_frame_Stack_Chain_L1 → World → Prop) (Kx0 : ((Option Addr) × Addr) → Option Addr → Nat → Nat → World → Prop) :
    B_frame_Stack_Chain_L1 f.1 f.2 s w (fun s1 w1 => Kn f s1 w1) (fun outP_1 outN_1 outC_1 w1 => Kx0 f outP_1 outN_1 outC_1 w1) =
    den Try.prog Try.f11.ntmps G_frame_Stack_Chain (sub (codeOf Try.f11) [false, false, false, true, true, true, true, true, true]) [false, false, false, true, true, true, true, true, true] (roundQ (fun e w => dec_frame_Stack_Chain_L1 e fun f s => Kn f s w) (fun e w => False) (fun id e w => match Nat.beq id 0 with | true => dx_frame_Stack_Chain_L1_0 e fun f outP_1 outN_1 outC_1 => Kx0 f outP_1 outN_1 outC_1 w | false => False)) (lit_frame_Stack_Chain_L1 f s) w := by kernel_rfl

theorem ok_frame_Stack_Chain_L1 : OneOk Try.prog Try.f11.ntmps G_frame_Stack_Chain (codeOf Try.f11) [false, false, true, true, true, true, true, true] spec_frame_Stack_Chain_L1 := by
  intro c hc ih Q e w a hr h
  have hcc : sub (codeOf Try.f11) [false, false, false, true, true, true, true, true, true] = c := sub_of_codeAt hc
  obtain ⟨f, s, h, hrep⟩ := dec_frame_Stack_Chain_L1_ok e a _ hr h
  obtain ⟨J, μ, hj, hround⟩ := h
  refine loop_rule_deep seat_ok seat_mixed ih lit_frame_Stack_Chain_L1 dec_frame_Stack_Chain_L1 dec_frame_Stack_Chain_L1_ok hc f J μ (Kr := fun e w => False) (Kx := fun id e w => match Nat.beq id 0 with | true => (dx_frame_Stack_Chain_L1_0 e fun f1 outP_1 outN_1 outC_1 => f1 = f ∧ Q (.exit 0) [⟨6, .slice outP_1 outN_1 outC_1, none⟩] w) | false => False) ?_ ?_ ?_ s w a hj hrep
  · intro e a w hr h
    exact h.elim
  · intro id e a w hr h0
    (try dsimp only at h0)
    split at h0
    · rename_i hid
      obtain rfl := Nat.eq_of_beq_eq_true hid
      unfold dx_frame_Stack_Chain_L1_0 at h0
      obtain ⟨u1, g0, h1⟩ := onV_elim h0
      obtain ⟨sx_1, rfl, h2⟩ := asP_elim h1
      obtain ⟨u2, g3, h3⟩ := onV_elim h2
      obtain ⟨basex_1, rfl, h4⟩ := asA_elim h3
      obtain ⟨u3, g6, h5⟩ := onV_elim h4
      obtain ⟨outP_1, outN_1, outC_1, rfl, h6⟩ := asS_elim h5
      obtain ⟨hf, hq⟩ := h6
      subst hf
      exact ⟨_, rep_less hr (by simp [g6]), hq⟩
    · exact h0.elim
  · intro s w hj
    have hb := hround s w hj
    rw [← hcc]
    have e1 := body_frame_Stack_Chain_L1 f s w (fun f1 s1 w1 => f1 = f ∧ J s1 w1 ∧ μ s1 w1 < μ s w) (fun f1 outP_1 outN_1 outC_1 w1 => f1 = f ∧ Q (.exit 0) [⟨6, .slice outP_1 outN_1 outC_1, none⟩] w1)
    simp only [true_and] at e1
    exact cast e1 hb

theorem loops_frame_Stack_Chain : LoopOk Try.prog Try.f11.ntmps G_frame_Stack_Chain (codeOf Try.f11) := loopOk_list rfl ⟨ok_frame_Stack_Chain_L1, trivial⟩

theorem den_frame_Stack_Chain (sx : Option Addr) (basex : Int) (w : World) (R : Value → World → Prop) :
    F_frame_Stack_Chain sx basex w (fun rP rN rC w1 => R (.slice rP rN rC) w1) = den Try.prog Try.f11.ntmps G_frame_Stack_Chain (codeOf Try.f11) [] (postD Try.prog Try.f11.results.toList R) (entry [.pointer sx, .int .i64 basex] 0) w := by kernel_rfl

theorem C_frame_Stack_Chain.of {sx : Option Addr} {basex : Int} {w : World} {R : Option Addr → Nat → Nat → World → Prop} (h : F_frame_Stack_Chain sx basex w R) : C_frame_Stack_Chain sx basex w R := by
  refine (calls_of_den (c := codeOf Try.f11) seat_ok seat_mixed Try.func11 (by kernel_rfl) loops_frame_Stack_Chain (args := [.pointer sx, .int .i64 basex]) rfl (R := fun v w1 => ∃ (rP : Option Addr) (rN : Nat) (rC : Nat), v = (.slice rP rN rC : Value) ∧ R rP rN rC w1) ?_).mono ?_
  · rw [← den_frame_Stack_Chain]
    have e : (fun rP rN rC w1 => ∃ (rP' : Option Addr) (rN' : Nat) (rC' : Nat), (.slice rP rN rC : Value) = (.slice rP' rN' rC' : Value) ∧ R rP' rN' rC' w1) = R := by
      funext rP rN rC w1
      exact propext ⟨fun ⟨rP', rN', rC', he, h⟩ => by first | (simp at he; simp_all) | (cases he; exact h), fun h => ⟨_, _, _, rfl, h⟩⟩
    simpa only [e] using h
  · rintro en w1 ⟨v, he, rP, rN, rC, rfl, h⟩
    exact ⟨_, _, _, he, h⟩

def F_frame_Stack_Env (sx : Option Addr) (w : World) (R : Int → World → Prop) : Prop :=
  C_frame_Stack_made sx w fun t4 w1 =>
  If (!t4)
  (R (-1) w1)
  (NN sx fun a =>
  ∃ env : Int, w1.cell? (a.add 1) = some (.int .i64 env) ∧
  R env w1)

def G_frame_Stack_Env : Gen where
  loop := lookL []
  plan := fun _ => none

theorem loops_frame_Stack_Env : LoopOk Try.prog Try.f12.ntmps G_frame_Stack_Env (codeOf Try.f12) := loopOk_none fun _ => rfl

theorem den_frame_Stack_Env (sx : Option Addr) (w : World) (R : Value → World → Prop) :
    F_frame_Stack_Env sx w (fun r w1 => R (.int .i64 r) w1) = den Try.prog Try.f12.ntmps G_frame_Stack_Env (codeOf Try.f12) [] (postD Try.prog Try.f12.results.toList R) (entry [.pointer sx] 0) w := by kernel_rfl

theorem C_frame_Stack_Env.of {sx : Option Addr} {w : World} {R : Int → World → Prop} (h : F_frame_Stack_Env sx w R) : C_frame_Stack_Env sx w R := by
  refine (calls_of_den (c := codeOf Try.f12) seat_ok seat_mixed Try.func12 (by kernel_rfl) loops_frame_Stack_Env (args := [.pointer sx]) rfl (R := fun v w1 => ∃ (r : Int), v = (.int .i64 r : Value) ∧ R r w1) ?_).mono ?_
  · rw [← den_frame_Stack_Env]
    have e : (fun r w1 => ∃ (r' : Int), (.int .i64 r : Value) = (.int .i64 r' : Value) ∧ R r' w1) = R := by
      funext r w1
      exact propext ⟨fun ⟨r', he, h⟩ => by first | (simp at he; simp_all) | (cases he; exact h), fun h => ⟨_, rfl, h⟩⟩
    simpa only [e] using h
  · rintro en w1 ⟨v, he, r, rfl, h⟩
    exact ⟨_, he, h⟩

def F_frame_Stack_Depth (sx : Option Addr) (w : World) (R : Int → World → Prop) : Prop :=
  C_frame_Stack_made sx w fun t4 w1 =>
  If (!t4)
  (R (0 : Int) w1)
  (NN sx fun a =>
  ∃ lP : Option Addr, ∃ lN : Nat, ∃ lC : Nat, w1.cell? (a.add 2) = some (.slice lP lN lC) ∧
  R (lN : Int) w1)

def G_frame_Stack_Depth : Gen where
  loop := lookL []
  plan := fun _ => none

theorem loops_frame_Stack_Depth : LoopOk Try.prog Try.f13.ntmps G_frame_Stack_Depth (codeOf Try.f13) := loopOk_none fun _ => rfl

theorem den_frame_Stack_Depth (sx : Option Addr) (w : World) (R : Value → World → Prop) :
    F_frame_Stack_Depth sx w (fun r w1 => R (.int .i64 r) w1) = den Try.prog Try.f13.ntmps G_frame_Stack_Depth (codeOf Try.f13) [] (postD Try.prog Try.f13.results.toList R) (entry [.pointer sx] 0) w := by kernel_rfl

theorem C_frame_Stack_Depth.of {sx : Option Addr} {w : World} {R : Int → World → Prop} (h : F_frame_Stack_Depth sx w R) : C_frame_Stack_Depth sx w R := by
  refine (calls_of_den (c := codeOf Try.f13) seat_ok seat_mixed Try.func13 (by kernel_rfl) loops_frame_Stack_Depth (args := [.pointer sx]) rfl (R := fun v w1 => ∃ (r : Int), v = (.int .i64 r : Value) ∧ R r w1) ?_).mono ?_
  · rw [← den_frame_Stack_Depth]
    have e : (fun r w1 => ∃ (r' : Int), (.int .i64 r : Value) = (.int .i64 r' : Value) ∧ R r' w1) = R := by
      funext r w1
      exact propext ⟨fun ⟨r', he, h⟩ => by first | (simp at he; simp_all) | (cases he; exact h), fun h => ⟨_, rfl, h⟩⟩
    simpa only [e] using h
  · rintro en w1 ⟨v, he, r, rfl, h⟩
    exact ⟨_, he, h⟩

def F_frame_Stack_Drop_k1 (R : Int → World → Prop) (t71 : Int) (w1_2 : World) : Prop :=
  R t71 w1_2

def F_frame_Stack_Drop (sx : Option Addr) (w : World) (R : Int → World → Prop) : Prop :=
  C_frame_Stack_last sx w fun t70 t71 w1 =>
  If (t71 == (0 : Int))
  (NN sx fun a =>
  ∃ lP : Option Addr, ∃ lN : Nat, ∃ lC : Nat, (drw w1).cell? (a.add 2) = some (.slice lP lN lC) ∧
  NN sx fun a_1 =>
  ∃ lP_1 : Option Addr, ∃ lN_1 : Nat, ∃ lC_1 : Nat, (drw w1).cell? (a_1.add 2) = some (.slice lP_1 lN_1 lC_1) ∧
  0 ≤ (IntKind.i64.wrap ((lN_1 : Int) - (1 : Int))) ∧ (IntKind.i64.wrap ((lN_1 : Int) - (1 : Int))) ≤ (lC : Int) ∧
  NN sx fun a_2 =>
  St (drw w1) ((a_2.add 2).add 0) (.slice lP ((IntKind.i64.wrap ((lN_1 : Int) - (1 : Int))).toNat) lC) fun w1_1 =>
  F_frame_Stack_Drop_k1 R t71 w1_1)
  (F_frame_Stack_Drop_k1 R t71 w1)

def G_frame_Stack_Drop : Gen where
  loop := lookL []
  plan := fun id =>
    bif Nat.beq id 3 then some ([0, 0, 2, 6, 14, 0, 32, 96, 224, 480, 992, 2046, 4095, 8191, 16383], .take 0 (.take 1 (.take 2 (.take 3 (.take 4 (.take 5 (.take 6 (.take 7 (.take 8 (.take 9 (.take 10 (.take 11 (.take 12 (.take 13 (.take 14 .done))))))))))))))) else none

theorem loops_frame_Stack_Drop : LoopOk Try.prog Try.f14.ntmps G_frame_Stack_Drop (codeOf Try.f14) := loopOk_none fun _ => rfl

theorem den_frame_Stack_Drop (sx : Option Addr) (w : World) (R : Value → World → Prop) :
    F_frame_Stack_Drop sx w (fun r w1 => R (.int .i64 r) w1) = den Try.prog Try.f14.ntmps G_frame_Stack_Drop (codeOf Try.f14) [] (postD Try.prog Try.f14.results.toList R) (entry [.pointer sx] 0) w := by kernel_rfl

theorem C_frame_Stack_Drop.of {sx : Option Addr} {w : World} {R : Int → World → Prop} (h : F_frame_Stack_Drop sx w R) : C_frame_Stack_Drop sx w R := by
  refine (calls_of_den (c := codeOf Try.f14) seat_ok seat_mixed Try.func14 (by kernel_rfl) loops_frame_Stack_Drop (args := [.pointer sx]) rfl (R := fun v w1 => ∃ (r : Int), v = (.int .i64 r : Value) ∧ R r w1) ?_).mono ?_
  · rw [← den_frame_Stack_Drop]
    have e : (fun r w1 => ∃ (r' : Int), (.int .i64 r : Value) = (.int .i64 r' : Value) ∧ R r' w1) = R := by
      funext r w1
      exact propext ⟨fun ⟨r', he, h⟩ => by first | (simp at he; simp_all) | (cases he; exact h), fun h => ⟨_, rfl, h⟩⟩
    simpa only [e] using h
  · rintro en w1 ⟨v, he, r, rfl, h⟩
    exact ⟨_, he, h⟩

def F_frame_Stack_Restore_k1 (R : Int → World → Prop) (t71 : Int) (w1_2 : World) : Prop :=
  R t71 w1_2

def F_frame_Stack_Restore (sx : Option Addr) (w : World) (R : Int → World → Prop) : Prop :=
  C_frame_Stack_last sx w fun t70 t71 w1 =>
  If (t71 == (0 : Int))
  (NN t70 fun a =>
  ∃ Env : Int, w1.cell? (a.add 7) = some (.int .i64 Env) ∧
  NN sx fun a_1 =>
  St w1 ((a_1.add 1).add 0) (.int .i64 Env) fun w1_1 =>
  F_frame_Stack_Restore_k1 R t71 w1_1)
  (F_frame_Stack_Restore_k1 R t71 w1)

def G_frame_Stack_Restore : Gen where
  loop := lookL []
  plan := fun _ => none

theorem loops_frame_Stack_Restore : LoopOk Try.prog Try.f15.ntmps G_frame_Stack_Restore (codeOf Try.f15) := loopOk_none fun _ => rfl

theorem den_frame_Stack_Restore (sx : Option Addr) (w : World) (R : Value → World → Prop) :
    F_frame_Stack_Restore sx w (fun r w1 => R (.int .i64 r) w1) = den Try.prog Try.f15.ntmps G_frame_Stack_Restore (codeOf Try.f15) [] (postD Try.prog Try.f15.results.toList R) (entry [.pointer sx] 0) w := by kernel_rfl

theorem C_frame_Stack_Restore.of {sx : Option Addr} {w : World} {R : Int → World → Prop} (h : F_frame_Stack_Restore sx w R) : C_frame_Stack_Restore sx w R := by
  refine (calls_of_den (c := codeOf Try.f15) seat_ok seat_mixed Try.func15 (by kernel_rfl) loops_frame_Stack_Restore (args := [.pointer sx]) rfl (R := fun v w1 => ∃ (r : Int), v = (.int .i64 r : Value) ∧ R r w1) ?_).mono ?_
  · rw [← den_frame_Stack_Restore]
    have e : (fun r w1 => ∃ (r' : Int), (.int .i64 r : Value) = (.int .i64 r' : Value) ∧ R r' w1) = R := by
      funext r w1
      exact propext ⟨fun ⟨r', he, h⟩ => by first | (simp at he; simp_all) | (cases he; exact h), fun h => ⟨_, rfl, h⟩⟩
    simpa only [e] using h
  · rintro en w1 ⟨v, he, r, rfl, h⟩
    exact ⟨_, he, h⟩

structure S_ref22_SameFrames_L1 where
  i : Int

def F_ref22_SameFrames_k1 (Kr : Bool → World → Prop) (w1_1 : World) : Prop :=
  Kr false w1_1

/-- One round. -/
def B_ref22_SameFrames_L1 (aP_1 : Option Addr) (aN_1 : Nat) (aC_1 : Nat) (bP_1 : Option Addr) (bN_1 : Nat) (bC_1 : Nat) (s : S_ref22_SameFrames_L1) (w : World) (Kn : S_ref22_SameFrames_L1 → World → Prop) (Kx0 : World → Prop) (Kr : Bool → World → Prop) : Prop :=
  If (decide ((s.i : Int) < (aN_1 : Int)))
  (0 ≤ (s.i : Int) ∧ (s.i : Int) < (aN_1 : Int) ∧ NN aP_1 fun a =>
  ∃ Base : Int, (drw w).cell? ((a.add ((s.i : Int).toNat * 4)).add 0) = some (.int .i64 Base) ∧
  0 ≤ (s.i : Int) ∧ (s.i : Int) < (bN_1 : Int) ∧ NN bP_1 fun a_1 =>
  ∃ Base_1 : Int, (drw w).cell? ((a_1.add ((s.i : Int).toNat * 4)).add 0) = some (.int .i64 Base_1) ∧
  If (Base != Base_1)
  (F_ref22_SameFrames_k1 Kr (drw w))
  (0 ≤ (s.i : Int) ∧ (s.i : Int) < (aN_1 : Int) ∧ NN aP_1 fun a_2 =>
  ∃ Cont0 : Int, (drw w).cell? (((a_2.add ((s.i : Int).toNat * 4)).add 2).add 0) = some (.int .i64 Cont0) ∧
  ∃ Cont1 : Int, (drw w).cell? (((a_2.add ((s.i : Int).toNat * 4)).add 2).add 1) = some (.int .i64 Cont1) ∧
  0 ≤ (s.i : Int) ∧ (s.i : Int) < (bN_1 : Int) ∧ NN bP_1 fun a_3 =>
  ∃ Cont0_1 : Int, (drw w).cell? (((a_3.add ((s.i : Int).toNat * 4)).add 2).add 0) = some (.int .i64 Cont0_1) ∧
  ∃ Cont1_1 : Int, (drw w).cell? (((a_3.add ((s.i : Int).toNat * 4)).add 2).add 1) = some (.int .i64 Cont1_1) ∧
  AggEq Try.prog 31 (.agg #[.int .i64 Cont0, .int .i64 Cont1]) (.agg #[.int .i64 Cont0_1, .int .i64 Cont1_1]) fun bb =>
  If (!bb)
  (F_ref22_SameFrames_k1 Kr (drw w))
  (0 ≤ (s.i : Int) ∧ (s.i : Int) < (aN_1 : Int) ∧ NN aP_1 fun a_4 =>
  ∃ SlotsP : Option Addr, ∃ SlotsN : Nat, ∃ SlotsC : Nat, (drw w).cell? ((a_4.add ((s.i : Int).toNat * 4)).add 1) = some (.slice SlotsP SlotsN SlotsC) ∧
  0 ≤ (s.i : Int) ∧ (s.i : Int) < (bN_1 : Int) ∧ NN bP_1 fun a_5 =>
  ∃ SlotsP_1 : Option Addr, ∃ SlotsN_1 : Nat, ∃ SlotsC_1 : Nat, (drw w).cell? ((a_5.add ((s.i : Int).toNat * 4)).add 1) = some (.slice SlotsP_1 SlotsN_1 SlotsC_1) ∧
  C_ref22_SameWords SlotsP SlotsN SlotsC SlotsP_1 SlotsN_1 SlotsC_1 (drw w) fun t52 w1 =>
  If (!t52)
  (Kr false w1)
  (Kn ⟨(IntKind.i64.wrap ((s.i : Int) + (1 : Int)))⟩ w1))))
  (Kx0 w)

def F_ref22_SameFrames_L1 (aP_1 : Option Addr) (aN_1 : Nat) (aC_1 : Nat) (bP_1 : Option Addr) (bN_1 : Nat) (bC_1 : Nat) (s : S_ref22_SameFrames_L1) (w : World) (Kx0 : World → Prop) (Kr : Bool → World → Prop) : Prop :=
  LoopS (fun s w Kn => B_ref22_SameFrames_L1 aP_1 aN_1 aC_1 bP_1 bN_1 bC_1 s w Kn Kx0 Kr) s w

def F_ref22_SameFrames (aP : Option Addr) (aN : Nat) (aC : Nat) (bP : Option Addr) (bN : Nat) (bC : Nat) (w : World) (R : Bool → World → Prop) : Prop :=
  If ((aN : Int) != (bN : Int))
  (R false w)
  (F_ref22_SameFrames_L1 aP aN aC bP bN bC ⟨(0 : Int)⟩ w
  (fun w1_2 =>
  R true w1_2)
  (fun t4_1 w1_3 =>
  R t4_1 w1_3))

def lit_ref22_SameFrames_L1 (f : (Option Addr) × Nat × Nat × (Option Addr) × Nat × Nat) (s : S_ref22_SameFrames_L1) : Env := [⟨0, .slice f.1 f.2.1 f.2.2.1, none⟩, ⟨1, .slice f.2.2.2.1 f.2.2.2.2.1 f.2.2.2.2.2, none⟩, ⟨5, .int .i64 s.i, none⟩]

def dec_ref22_SameFrames_L1 (e : Env) (K : ((Option Addr) × Nat × Nat × (Option Addr) × Nat × Nat) → S_ref22_SameFrames_L1 → Prop) : Prop :=
  onV (getV e 0) fun u1 =>
  asS u1 fun aP_1 aN_1 aC_1 =>
  onV (getV e 1) fun u2 =>
  asS u2 fun bP_1 bN_1 bC_1 =>
  onV (getV e 5) fun u3 =>
  asI .i64 u3 fun i =>
    K (aP_1, aN_1, aC_1, bP_1, bN_1, bC_1) ⟨i⟩

theorem dec_ref22_SameFrames_L1_ok {N : Nat} (e : Env) (a : Act) (K : ((Option Addr) × Nat × Nat × (Option Addr) × Nat × Nat) → S_ref22_SameFrames_L1 → Prop) (hr : Rep N a e) (h0 : dec_ref22_SameFrames_L1 e K) : ∃ f s, K f s ∧ Rep N a (lit_ref22_SameFrames_L1 f s) := by
  unfold dec_ref22_SameFrames_L1 at h0
  obtain ⟨u1, g0, h1⟩ := onV_elim h0
  obtain ⟨aP_1, aN_1, aC_1, rfl, h2⟩ := asS_elim h1
  obtain ⟨u2, g1, h3⟩ := onV_elim h2
  obtain ⟨bP_1, bN_1, bC_1, rfl, h4⟩ := asS_elim h3
  obtain ⟨u3, g5, h5⟩ := onV_elim h4
  obtain ⟨i, rfl, h6⟩ := asI_elim h5
  exact ⟨_, _, h6, rep_less hr (by simp [lit_ref22_SameFrames_L1, g0, g1, g5])⟩

def spec_ref22_SameFrames_L1 (Q : Post) (e : Env) (w : World) : Prop :=
  dec_ref22_SameFrames_L1 e fun f s => F_ref22_SameFrames_L1 f.1 f.2.1 f.2.2.1 f.2.2.2.1 f.2.2.2.2.1 f.2.2.2.2.2 s w (fun w1 => Q (.exit 0) [] w1) (fun t4 w1 => Q .ret [⟨4, .bool t4, none⟩] w1)

def G_ref22_SameFrames : Gen where
  loop := lookL [([false, true, false, true, true], spec_ref22_SameFrames_L1)]
  plan := fun id =>
    bif Nat.beq id 6 then some ([0, 0, 3, 7, 15, 0, 0, 96, 224, 480, 1023, 2047, 4095, 4095, 16383, 32767, 65535, 4095, 4095, 397311, 921599, 1970175, 4194303, 8388607, 16777215, 33554431, 33554431, 134217727, 268435455, 536870911, 33554431, 33554431, 3254779903, 7549747199, 16139681791, 34359738367, 68719476735, 137438953471], .take 0 (.take 1 (.take 2 (.take 3 (.take 4 (.take 5 (.take 6 (.take 7 (.take 8 (.take 9 (.take 10 (.take 11 (.take 12 (.take 13 (.take 14 (.take 15 (.take 16 (.take 17 (.take 18 (.take 19 (.take 20 (.take 21 (.take 22 (.take 23 (.take 24 (.take 25 (.take 26 (.take 27 (.take 28 (.take 29 (.take 30 (.take 31 (.take 32 (.take 33 (.take 34 (.take 35 (.take 36 (.take 37 .done)))))))))))))))))))))))))))))))))))))) else none

def dx_ref22_SameFrames_L1_0 (e : Env) (K : ((Option Addr) × Nat × Nat × (Option Addr) × Nat × Nat) → Prop) : Prop :=
  onV (getV e 0) fun u1 =>
  asS u1 fun aP_1 aN_1 aC_1 =>
  onV (getV e 1) fun u2 =>
  asS u2 fun bP_1 bN_1 bC_1 =>
    K (aP_1, aN_1, aC_1, bP_1, bN_1, bC_1)

def dx_ref22_SameFrames_L1_ret (e : Env) (K : ((Option Addr) × Nat × Nat × (Option Addr) × Nat × Nat) → Bool → Prop) : Prop :=
  onV (getV e 0) fun u1 =>
  asS u1 fun aP_1 aN_1 aC_1 =>
  onV (getV e 1) fun u2 =>
  asS u2 fun bP_1 bN_1 bC_1 =>
  onV (getV e 4) fun u3 =>
  asB u3 fun t4 =>
    K (aP_1, aN_1, aC_1, bP_1, bN_1, bC_1) t4

theorem body_ref22_SameFrames_L1 (f : (Option Addr) × Nat × Nat × (Option Addr) × Nat × Nat) (s : S_ref22_SameFrames_L1) (w : World) (Kn : ((Option Addr) × Nat × Nat × (Option Addr) × Nat × Nat) → S_ref22_SameFrames_L1 → World → Prop) (Kx0 : ((Option Addr) × Nat × Nat × (Option Addr) × Nat × Nat) → World → Prop) (Kr : ((Option Addr) × Nat × Nat × (Option Addr) × Nat × Nat) → Bool → World → Prop) :
    B_ref22_SameFrames_L1 f.1 f.2.1 f.2.2.1 f.2.2.2.1 f.2.2.2.2.1 f.2.2.2.2.2 s w (fun s1 w1 => Kn f s1 w1) (fun w1 => Kx0 f w1) (fun t4 w1 => Kr f t4 w1) =
    den Try.prog Try.f16.ntmps G_ref22_SameFrames (sub (codeOf Try.f16) [false, false, true, false, true, true]) [false, false, true, false, true, true] (roundQ (fun e w => dec_ref22_SameFrames_L1 e fun f s => Kn f s w) (fun e w => dx_ref22_SameFrames_L1_ret e fun f t4 => Kr f t4 w) (fun id e w => match Nat.beq id 0 with | true => dx_ref22_SameFrames_L1_0 e fun f => Kx0 f w | false => False)) (lit_ref22_SameFrames_L1 f s) w := by kernel_rfl

theorem ok_ref22_SameFrames_L1 : OneOk Try.prog Try.f16.ntmps G_ref22_SameFrames (codeOf Try.f16) [false, true, false, true, true] spec_ref22_SameFrames_L1 := by
  intro c hc ih Q e w a hr h
  have hcc : sub (codeOf Try.f16) [false, false, true, false, true, true] = c := sub_of_codeAt hc
  obtain ⟨f, s, h, hrep⟩ := dec_ref22_SameFrames_L1_ok e a _ hr h
  obtain ⟨J, μ, hj, hround⟩ := h
  refine loop_rule_deep seat_ok seat_mixed ih lit_ref22_SameFrames_L1 dec_ref22_SameFrames_L1 dec_ref22_SameFrames_L1_ok hc f J μ (Kr := fun e w => dx_ref22_SameFrames_L1_ret e fun f1 t4 => f1 = f ∧ Q .ret [⟨4, .bool t4, none⟩] w) (Kx := fun id e w => match Nat.beq id 0 with | true => (dx_ref22_SameFrames_L1_0 e fun f1 => f1 = f ∧ Q (.exit 0) [] w) | false => False) ?_ ?_ ?_ s w a hj hrep
  · intro e a w hr h0
    unfold dx_ref22_SameFrames_L1_ret at h0
    obtain ⟨u1, g0, h1⟩ := onV_elim h0
    obtain ⟨aP_1, aN_1, aC_1, rfl, h2⟩ := asS_elim h1
    obtain ⟨u2, g1, h3⟩ := onV_elim h2
    obtain ⟨bP_1, bN_1, bC_1, rfl, h4⟩ := asS_elim h3
    obtain ⟨u3, g4, h5⟩ := onV_elim h4
    obtain ⟨t4, rfl, h6⟩ := asB_elim h5
    obtain ⟨hf, hq⟩ := h6
    subst hf
    exact ⟨_, rep_less hr (by simp [g4]), hq⟩
  · intro id e a w hr h0
    (try dsimp only at h0)
    split at h0
    · rename_i hid
      obtain rfl := Nat.eq_of_beq_eq_true hid
      unfold dx_ref22_SameFrames_L1_0 at h0
      obtain ⟨u1, g0, h1⟩ := onV_elim h0
      obtain ⟨aP_1, aN_1, aC_1, rfl, h2⟩ := asS_elim h1
      obtain ⟨u2, g1, h3⟩ := onV_elim h2
      obtain ⟨bP_1, bN_1, bC_1, rfl, h4⟩ := asS_elim h3
      obtain ⟨hf, hq⟩ := h4
      subst hf
      exact ⟨_, rep_less hr (by simp), hq⟩
    · exact h0.elim
  · intro s w hj
    have hb := hround s w hj
    rw [← hcc]
    have e1 := body_ref22_SameFrames_L1 f s w (fun f1 s1 w1 => f1 = f ∧ J s1 w1 ∧ μ s1 w1 < μ s w) (fun f1 w1 => f1 = f ∧ Q (.exit 0) [] w1) (fun f1 t4 w1 => f1 = f ∧ Q .ret [⟨4, .bool t4, none⟩] w1)
    simp only [true_and] at e1
    exact cast e1 hb

theorem loops_ref22_SameFrames : LoopOk Try.prog Try.f16.ntmps G_ref22_SameFrames (codeOf Try.f16) := loopOk_list rfl ⟨ok_ref22_SameFrames_L1, trivial⟩

theorem den_ref22_SameFrames (aP : Option Addr) (aN : Nat) (aC : Nat) (bP : Option Addr) (bN : Nat) (bC : Nat) (w : World) (R : Value → World → Prop) :
    F_ref22_SameFrames aP aN aC bP bN bC w (fun r w1 => R (.bool r) w1) = den Try.prog Try.f16.ntmps G_ref22_SameFrames (codeOf Try.f16) [] (postD Try.prog Try.f16.results.toList R) (entry [.slice aP aN aC, .slice bP bN bC] 0) w := by kernel_rfl

theorem C_ref22_SameFrames.of {aP : Option Addr} {aN : Nat} {aC : Nat} {bP : Option Addr} {bN : Nat} {bC : Nat} {w : World} {R : Bool → World → Prop} (h : F_ref22_SameFrames aP aN aC bP bN bC w R) : C_ref22_SameFrames aP aN aC bP bN bC w R := by
  refine (calls_of_den (c := codeOf Try.f16) seat_ok seat_mixed Try.func16 (by kernel_rfl) loops_ref22_SameFrames (args := [.slice aP aN aC, .slice bP bN bC]) rfl (R := fun v w1 => ∃ (r : Bool), v = (.bool r : Value) ∧ R r w1) ?_).mono ?_
  · rw [← den_ref22_SameFrames]
    have e : (fun r w1 => ∃ (r' : Bool), (.bool r : Value) = (.bool r' : Value) ∧ R r' w1) = R := by
      funext r w1
      exact propext ⟨fun ⟨r', he, h⟩ => by first | (simp at he; simp_all) | (cases he; exact h), fun h => ⟨_, rfl, h⟩⟩
    simpa only [e] using h
  · rintro en w1 ⟨v, he, r, rfl, h⟩
    exact ⟨_, he, h⟩

structure S_frame_Stack_Alloc_L1 where
  t65 : Int

structure S_frame_Stack_Alloc_L2 where
  t78 : Int

/-- One round. -/
def B_frame_Stack_Alloc_L1 (sx_1 : Option Addr) (slots_1 : Int) (basex : Int) (t63P_1 : Option Addr) (t63N_1 : Nat) (t63C_1 : Nat) (t64 : Int) (s : S_frame_Stack_Alloc_L1) (w : World) (Kn : S_frame_Stack_Alloc_L1 → World → Prop) (Kx1 : World → Prop) : Prop :=
  If (decide ((s.t65 : Int) < t64))
  (0 ≤ (s.t65 : Int) ∧ (s.t65 : Int) < (t63N_1 : Int) ∧ NN t63P_1 fun a_4 =>
  ∃ t69 : Int, w.cell? (a_4.add ((s.t65 : Int).toNat * 1)) = some (.int .i64 t69) ∧
  C_frame_Stack_set sx_1 (IntKind.i64.wrap (basex + (s.t65 : Int))) t69 w fun w1_8 =>
  Kn ⟨(IntKind.i64.wrap ((s.t65 : Int) + (1 : Int)))⟩ w1_8)
  (Kx1 w)

def F_frame_Stack_Alloc_L1 (sx_1 : Option Addr) (slots_1 : Int) (basex : Int) (t63P_1 : Option Addr) (t63N_1 : Nat) (t63C_1 : Nat) (t64 : Int) (s : S_frame_Stack_Alloc_L1) (w : World) (Kx1 : World → Prop) : Prop :=
  LoopS (fun s w Kn => B_frame_Stack_Alloc_L1 sx_1 slots_1 basex t63P_1 t63N_1 t63C_1 t64 s w Kn Kx1) s w

/-- One round. -/
def B_frame_Stack_Alloc_L2 (sx_2 : Option Addr) (basex_1 : Int) (t77 : Int) (s : S_frame_Stack_Alloc_L2) (w : World) (Kn : S_frame_Stack_Alloc_L2 → World → Prop) (Kx3 : World → Prop) : Prop :=
  If (decide ((s.t78 : Int) < t77))
  (C_frame_Stack_set sx_2 (IntKind.i64.wrap ((IntKind.i64.wrap (basex_1 + (4 : Int))) + (s.t78 : Int))) (0 : Int) w fun w1_10 =>
  Kn ⟨(IntKind.i64.wrap ((s.t78 : Int) + (1 : Int)))⟩ w1_10)
  (Kx3 w)

def F_frame_Stack_Alloc_L2 (sx_2 : Option Addr) (basex_1 : Int) (t77 : Int) (s : S_frame_Stack_Alloc_L2) (w : World) (Kx3 : World → Prop) : Prop :=
  LoopS (fun s w Kn => B_frame_Stack_Alloc_L2 sx_2 basex_1 t77 s w Kn Kx3) s w

def F_frame_Stack_Alloc_k1 (sx : Option Addr) (slots : Int) (R : Int → World → Prop) (r : Nat) (t25 : Int) (w1_6 : World) : Prop :=
  NN sx fun a_3 =>
  ∃ env : Int, (drw w1_6).cell? (a_3.add 1) = some (.int .i64 env) ∧
  ∃ Clause : Int, (drw w1_6).cell? ((⟨r, 0, none⟩ : Addr).add 0) = some (.int .i64 Clause) ∧
  ∃ At : Int, (drw w1_6).cell? ((⟨r, 0, none⟩ : Addr).add 1) = some (.int .i64 At) ∧
  BSl Try.prog 44 4 [(0, .int .i64 (IntKind.i64.wrap (env + (1 : Int)))), (1, .int .i64 Clause), (2, .int .i64 At), (3, .int .i64 slots)] (drw w1_6) fun t63P t63N t63C w1_7 =>
  F_frame_Stack_Alloc_L1 sx slots t25 t63P t63N t63C (t63N : Int) ⟨(0 : Int)⟩ w1_7
  (fun w1_9 =>
  F_frame_Stack_Alloc_L2 sx t25 slots ⟨(0 : Int)⟩ w1_9
  (fun w1_11 =>
  NN sx fun a_5 =>
  St w1_11 ((a_5.add 1).add 0) (.int .i64 t25) fun w1_12 =>
  R (0 : Int) w1_12))

def F_frame_Stack_Alloc (sx : Option Addr) (slots : Int) (cont0 : Int) (cont1 : Int) (w : World) (R : Int → World → Prop) : Prop :=
  New w (.cells #[.int .i64 cont0, .int .i64 cont1] 31) fun r w1 =>
  C_frame_Stack_made sx w1 fun t15 w1_1 =>
  If (!t15)
  (R (6 : Int) w1_1)
  (If (decide (slots < (0 : Int)))
  (R (1 : Int) w1_1)
  (If (decide (slots > (64 : Int)))
  (R (1 : Int) w1_1)
  (C_frame_Stack_top sx w1_1 fun t25 w1_2 =>
  NN sx fun a =>
  ∃ words : Option Addr, w1_2.cell? (a.add 0) = some (.pointer words) ∧
  C_room_Room_Limit words w1_2 fun t35 w1_3 =>
  If (decide ((IntKind.i64.wrap ((IntKind.i64.wrap (t25 + (4 : Int))) + slots)) > t35))
  (R (2 : Int) w1_3)
  (NN sx fun a_1 =>
  ∃ words_1 : Option Addr, w1_3.cell? (a_1.add 0) = some (.pointer words_1) ∧
  C_room_Room_Len words_1 w1_3 fun t41 w1_4 =>
  If (decide (t41 < (IntKind.i64.wrap ((IntKind.i64.wrap (t25 + (4 : Int))) + slots))))
  (NN sx fun a_2 =>
  ∃ words_2 : Option Addr, w1_4.cell? (a_2.add 0) = some (.pointer words_2) ∧
  C_room_Room_Grow words_2 (IntKind.i64.wrap ((IntKind.i64.wrap ((IntKind.i64.wrap (t25 + (4 : Int))) + slots)) - t41)) w1_4 fun t52 w1_5 =>
  F_frame_Stack_Alloc_k1 sx slots R r t25 w1_5)
  (F_frame_Stack_Alloc_k1 sx slots R r t25 w1_4)))))

def lit_frame_Stack_Alloc_L1 (f : (Option Addr) × Int × Int × (Option Addr) × Nat × Nat × Int) (s : S_frame_Stack_Alloc_L1) : Env := [⟨0, .pointer f.1, none⟩, ⟨1, .int .i64 f.2.1, none⟩, ⟨7, .int .i64 f.2.2.1, none⟩, ⟨63, .slice f.2.2.2.1 f.2.2.2.2.1 f.2.2.2.2.2.1, none⟩, ⟨64, .int .i64 f.2.2.2.2.2.2, none⟩, ⟨65, .int .i64 s.t65, none⟩]

def dec_frame_Stack_Alloc_L1 (e : Env) (K : ((Option Addr) × Int × Int × (Option Addr) × Nat × Nat × Int) → S_frame_Stack_Alloc_L1 → Prop) : Prop :=
  onV (getV e 0) fun u1 =>
  asP u1 fun sx_1 =>
  onV (getV e 1) fun u2 =>
  asI .i64 u2 fun slots_1 =>
  onV (getV e 7) fun u3 =>
  asI .i64 u3 fun basex =>
  onV (getV e 63) fun u4 =>
  asS u4 fun t63P_1 t63N_1 t63C_1 =>
  onV (getV e 64) fun u5 =>
  asI .i64 u5 fun t64 =>
  onV (getV e 65) fun u6 =>
  asI .i64 u6 fun t65 =>
    K (sx_1, slots_1, basex, t63P_1, t63N_1, t63C_1, t64) ⟨t65⟩

theorem dec_frame_Stack_Alloc_L1_ok {N : Nat} (e : Env) (a : Act) (K : ((Option Addr) × Int × Int × (Option Addr) × Nat × Nat × Int) → S_frame_Stack_Alloc_L1 → Prop) (hr : Rep N a e) (h0 : dec_frame_Stack_Alloc_L1 e K) : ∃ f s, K f s ∧ Rep N a (lit_frame_Stack_Alloc_L1 f s) := by
  unfold dec_frame_Stack_Alloc_L1 at h0
  obtain ⟨u1, g0, h1⟩ := onV_elim h0
  obtain ⟨sx_1, rfl, h2⟩ := asP_elim h1
  obtain ⟨u2, g1, h3⟩ := onV_elim h2
  obtain ⟨slots_1, rfl, h4⟩ := asI_elim h3
  obtain ⟨u3, g7, h5⟩ := onV_elim h4
  obtain ⟨basex, rfl, h6⟩ := asI_elim h5
  obtain ⟨u4, g63, h7⟩ := onV_elim h6
  obtain ⟨t63P_1, t63N_1, t63C_1, rfl, h8⟩ := asS_elim h7
  obtain ⟨u5, g64, h9⟩ := onV_elim h8
  obtain ⟨t64, rfl, h10⟩ := asI_elim h9
  obtain ⟨u6, g65, h11⟩ := onV_elim h10
  obtain ⟨t65, rfl, h12⟩ := asI_elim h11
  exact ⟨_, _, h12, rep_less hr (by simp [lit_frame_Stack_Alloc_L1, g0, g1, g7, g63, g64, g65])⟩

def spec_frame_Stack_Alloc_L1 (Q : Post) (e : Env) (w : World) : Prop :=
  dec_frame_Stack_Alloc_L1 e fun f s => F_frame_Stack_Alloc_L1 f.1 f.2.1 f.2.2.1 f.2.2.2.1 f.2.2.2.2.1 f.2.2.2.2.2.1 f.2.2.2.2.2.2 s w (fun w1 => Q (.exit 1) [⟨0, .pointer f.1, none⟩, ⟨1, .int .i64 f.2.1, none⟩, ⟨7, .int .i64 f.2.2.1, none⟩] w1)

def lit_frame_Stack_Alloc_L2 (f : (Option Addr) × Int × Int) (s : S_frame_Stack_Alloc_L2) : Env := [⟨0, .pointer f.1, none⟩, ⟨7, .int .i64 f.2.1, none⟩, ⟨77, .int .i64 f.2.2, none⟩, ⟨78, .int .i64 s.t78, none⟩]

def dec_frame_Stack_Alloc_L2 (e : Env) (K : ((Option Addr) × Int × Int) → S_frame_Stack_Alloc_L2 → Prop) : Prop :=
  onV (getV e 0) fun u1 =>
  asP u1 fun sx_2 =>
  onV (getV e 7) fun u2 =>
  asI .i64 u2 fun basex_1 =>
  onV (getV e 77) fun u3 =>
  asI .i64 u3 fun t77 =>
  onV (getV e 78) fun u4 =>
  asI .i64 u4 fun t78 =>
    K (sx_2, basex_1, t77) ⟨t78⟩

theorem dec_frame_Stack_Alloc_L2_ok {N : Nat} (e : Env) (a : Act) (K : ((Option Addr) × Int × Int) → S_frame_Stack_Alloc_L2 → Prop) (hr : Rep N a e) (h0 : dec_frame_Stack_Alloc_L2 e K) : ∃ f s, K f s ∧ Rep N a (lit_frame_Stack_Alloc_L2 f s) := by
  unfold dec_frame_Stack_Alloc_L2 at h0
  obtain ⟨u1, g0, h1⟩ := onV_elim h0
  obtain ⟨sx_2, rfl, h2⟩ := asP_elim h1
  obtain ⟨u2, g7, h3⟩ := onV_elim h2
  obtain ⟨basex_1, rfl, h4⟩ := asI_elim h3
  obtain ⟨u3, g77, h5⟩ := onV_elim h4
  obtain ⟨t77, rfl, h6⟩ := asI_elim h5
  obtain ⟨u4, g78, h7⟩ := onV_elim h6
  obtain ⟨t78, rfl, h8⟩ := asI_elim h7
  exact ⟨_, _, h8, rep_less hr (by simp [lit_frame_Stack_Alloc_L2, g0, g7, g77, g78])⟩

def spec_frame_Stack_Alloc_L2 (Q : Post) (e : Env) (w : World) : Prop :=
  dec_frame_Stack_Alloc_L2 e fun f s => F_frame_Stack_Alloc_L2 f.1 f.2.1 f.2.2 s w (fun w1 => Q (.exit 3) [⟨0, .pointer f.1, none⟩, ⟨7, .int .i64 f.2.1, none⟩] w1)

def G_frame_Stack_Alloc : Gen where
  loop := lookL [([false, true, false, true, true, true, true, true, true], spec_frame_Stack_Alloc_L1), ([false, true, false, true, true, true, true, true, true, true], spec_frame_Stack_Alloc_L2)]
  plan := fun id =>
    bif Nat.beq id 12 then some ([0, 1, 3, 7, 15, 0, 32, 0, 128, 0, 1023, 2047, 0], .take 0 (.take 1 (.take 2 (.take 3 (.take 4 (.take 5 (.take 6 (.take 7 (.take 8 (.take 9 (.take 12 (.take 10 (.take 11 .done))))))))))))) else none

def dx_frame_Stack_Alloc_L1_1 (e : Env) (K : ((Option Addr) × Int × Int × (Option Addr) × Nat × Nat × Int) → Prop) : Prop :=
  onV (getV e 0) fun u1 =>
  asP u1 fun sx_1 =>
  onV (getV e 1) fun u2 =>
  asI .i64 u2 fun slots_1 =>
  onV (getV e 7) fun u3 =>
  asI .i64 u3 fun basex =>
  onV (getV e 63) fun u4 =>
  asS u4 fun t63P_1 t63N_1 t63C_1 =>
  onV (getV e 64) fun u5 =>
  asI .i64 u5 fun t64 =>
    K (sx_1, slots_1, basex, t63P_1, t63N_1, t63C_1, t64)

theorem body_frame_Stack_Alloc_L1 (f : (Option Addr) × Int × Int × (Option Addr) × Nat × Nat × Int) (s : S_frame_Stack_Alloc_L1) (w : World) (Kn : ((Option Addr) × Int × Int × (Option Addr) × Nat × Nat × Int) → S_frame_Stack_Alloc_L1 → World → Prop) (Kx1 : ((Option Addr) × Int × Int × (Option Addr) × Nat × Nat × Int) → World → Prop) :
    B_frame_Stack_Alloc_L1 f.1 f.2.1 f.2.2.1 f.2.2.2.1 f.2.2.2.2.1 f.2.2.2.2.2.1 f.2.2.2.2.2.2 s w (fun s1 w1 => Kn f s1 w1) (fun w1 => Kx1 f w1) =
    den Try.prog Try.f17.ntmps G_frame_Stack_Alloc (sub (codeOf Try.f17) [false, false, true, false, true, true, true, true, true, true]) [false, false, true, false, true, true, true, true, true, true] (roundQ (fun e w => dec_frame_Stack_Alloc_L1 e fun f s => Kn f s w) (fun e w => False) (fun id e w => match Nat.beq id 1 with | true => dx_frame_Stack_Alloc_L1_1 e fun f => Kx1 f w | false => False)) (lit_frame_Stack_Alloc_L1 f s) w := by kernel_rfl

def dx_frame_Stack_Alloc_L2_3 (e : Env) (K : ((Option Addr) × Int × Int) → Prop) : Prop :=
  onV (getV e 0) fun u1 =>
  asP u1 fun sx_2 =>
  onV (getV e 7) fun u2 =>
  asI .i64 u2 fun basex_1 =>
  onV (getV e 77) fun u3 =>
  asI .i64 u3 fun t77 =>
    K (sx_2, basex_1, t77)

theorem body_frame_Stack_Alloc_L2 (f : (Option Addr) × Int × Int) (s : S_frame_Stack_Alloc_L2) (w : World) (Kn : ((Option Addr) × Int × Int) → S_frame_Stack_Alloc_L2 → World → Prop) (Kx3 : ((Option Addr) × Int × Int) → World → Prop) :
    B_frame_Stack_Alloc_L2 f.1 f.2.1 f.2.2 s w (fun s1 w1 => Kn f s1 w1) (fun w1 => Kx3 f w1) =
    den Try.prog Try.f17.ntmps G_frame_Stack_Alloc (sub (codeOf Try.f17) [false, false, true, false, true, true, true, true, true, true, true]) [false, false, true, false, true, true, true, true, true, true, true] (roundQ (fun e w => dec_frame_Stack_Alloc_L2 e fun f s => Kn f s w) (fun e w => False) (fun id e w => match Nat.beq id 3 with | true => dx_frame_Stack_Alloc_L2_3 e fun f => Kx3 f w | false => False)) (lit_frame_Stack_Alloc_L2 f s) w := by kernel_rfl

theorem ok_frame_Stack_Alloc_L1 : OneOk Try.prog Try.f17.ntmps G_frame_Stack_Alloc (codeOf Try.f17) [false, true, false, true, true, true, true, true, true] spec_frame_Stack_Alloc_L1 := by
  intro c hc ih Q e w a hr h
  have hcc : sub (codeOf Try.f17) [false, false, true, false, true, true, true, true, true, true] = c := sub_of_codeAt hc
  obtain ⟨f, s, h, hrep⟩ := dec_frame_Stack_Alloc_L1_ok e a _ hr h
  obtain ⟨J, μ, hj, hround⟩ := h
  refine loop_rule_deep seat_ok seat_mixed ih lit_frame_Stack_Alloc_L1 dec_frame_Stack_Alloc_L1 dec_frame_Stack_Alloc_L1_ok hc f J μ (Kr := fun e w => False) (Kx := fun id e w => match Nat.beq id 1 with | true => (dx_frame_Stack_Alloc_L1_1 e fun f1 => f1 = f ∧ Q (.exit 1) [⟨0, .pointer f.1, none⟩, ⟨1, .int .i64 f.2.1, none⟩, ⟨7, .int .i64 f.2.2.1, none⟩] w) | false => False) ?_ ?_ ?_ s w a hj hrep
  · intro e a w hr h
    exact h.elim
  · intro id e a w hr h0
    (try dsimp only at h0)
    split at h0
    · rename_i hid
      obtain rfl := Nat.eq_of_beq_eq_true hid
      unfold dx_frame_Stack_Alloc_L1_1 at h0
      obtain ⟨u1, g0, h1⟩ := onV_elim h0
      obtain ⟨sx_1, rfl, h2⟩ := asP_elim h1
      obtain ⟨u2, g1, h3⟩ := onV_elim h2
      obtain ⟨slots_1, rfl, h4⟩ := asI_elim h3
      obtain ⟨u3, g7, h5⟩ := onV_elim h4
      obtain ⟨basex, rfl, h6⟩ := asI_elim h5
      obtain ⟨u4, g63, h7⟩ := onV_elim h6
      obtain ⟨t63P_1, t63N_1, t63C_1, rfl, h8⟩ := asS_elim h7
      obtain ⟨u5, g64, h9⟩ := onV_elim h8
      obtain ⟨t64, rfl, h10⟩ := asI_elim h9
      obtain ⟨hf, hq⟩ := h10
      subst hf
      exact ⟨_, rep_less hr (by simp [g0, g1, g7]), hq⟩
    · exact h0.elim
  · intro s w hj
    have hb := hround s w hj
    rw [← hcc]
    have e1 := body_frame_Stack_Alloc_L1 f s w (fun f1 s1 w1 => f1 = f ∧ J s1 w1 ∧ μ s1 w1 < μ s w) (fun f1 w1 => f1 = f ∧ Q (.exit 1) [⟨0, .pointer f.1, none⟩, ⟨1, .int .i64 f.2.1, none⟩, ⟨7, .int .i64 f.2.2.1, none⟩] w1)
    simp only [true_and] at e1
    exact cast e1 hb

theorem ok_frame_Stack_Alloc_L2 : OneOk Try.prog Try.f17.ntmps G_frame_Stack_Alloc (codeOf Try.f17) [false, true, false, true, true, true, true, true, true, true] spec_frame_Stack_Alloc_L2 := by
  intro c hc ih Q e w a hr h
  have hcc : sub (codeOf Try.f17) [false, false, true, false, true, true, true, true, true, true, true] = c := sub_of_codeAt hc
  obtain ⟨f, s, h, hrep⟩ := dec_frame_Stack_Alloc_L2_ok e a _ hr h
  obtain ⟨J, μ, hj, hround⟩ := h
  refine loop_rule_deep seat_ok seat_mixed ih lit_frame_Stack_Alloc_L2 dec_frame_Stack_Alloc_L2 dec_frame_Stack_Alloc_L2_ok hc f J μ (Kr := fun e w => False) (Kx := fun id e w => match Nat.beq id 3 with | true => (dx_frame_Stack_Alloc_L2_3 e fun f1 => f1 = f ∧ Q (.exit 3) [⟨0, .pointer f.1, none⟩, ⟨7, .int .i64 f.2.1, none⟩] w) | false => False) ?_ ?_ ?_ s w a hj hrep
  · intro e a w hr h
    exact h.elim
  · intro id e a w hr h0
    (try dsimp only at h0)
    split at h0
    · rename_i hid
      obtain rfl := Nat.eq_of_beq_eq_true hid
      unfold dx_frame_Stack_Alloc_L2_3 at h0
      obtain ⟨u1, g0, h1⟩ := onV_elim h0
      obtain ⟨sx_2, rfl, h2⟩ := asP_elim h1
      obtain ⟨u2, g7, h3⟩ := onV_elim h2
      obtain ⟨basex_1, rfl, h4⟩ := asI_elim h3
      obtain ⟨u3, g77, h5⟩ := onV_elim h4
      obtain ⟨t77, rfl, h6⟩ := asI_elim h5
      obtain ⟨hf, hq⟩ := h6
      subst hf
      exact ⟨_, rep_less hr (by simp [g0, g7]), hq⟩
    · exact h0.elim
  · intro s w hj
    have hb := hround s w hj
    rw [← hcc]
    have e1 := body_frame_Stack_Alloc_L2 f s w (fun f1 s1 w1 => f1 = f ∧ J s1 w1 ∧ μ s1 w1 < μ s w) (fun f1 w1 => f1 = f ∧ Q (.exit 3) [⟨0, .pointer f.1, none⟩, ⟨7, .int .i64 f.2.1, none⟩] w1)
    simp only [true_and] at e1
    exact cast e1 hb

theorem loops_frame_Stack_Alloc : LoopOk Try.prog Try.f17.ntmps G_frame_Stack_Alloc (codeOf Try.f17) := loopOk_list rfl ⟨ok_frame_Stack_Alloc_L1, ⟨ok_frame_Stack_Alloc_L2, trivial⟩⟩

theorem den_frame_Stack_Alloc (sx : Option Addr) (slots : Int) (cont0 : Int) (cont1 : Int) (w : World) (R : Value → World → Prop) :
    F_frame_Stack_Alloc sx slots cont0 cont1 w (fun r w1 => R (.int .i64 r) w1) = den Try.prog Try.f17.ntmps G_frame_Stack_Alloc (codeOf Try.f17) [] (postD Try.prog Try.f17.results.toList R) (entry [.pointer sx, .int .i64 slots, .agg #[.int .i64 cont0, .int .i64 cont1]] 0) w := by kernel_rfl

theorem C_frame_Stack_Alloc.of {sx : Option Addr} {slots : Int} {cont0 : Int} {cont1 : Int} {w : World} {R : Int → World → Prop} (h : F_frame_Stack_Alloc sx slots cont0 cont1 w R) : C_frame_Stack_Alloc sx slots cont0 cont1 w R := by
  refine (calls_of_den (c := codeOf Try.f17) seat_ok seat_mixed Try.func17 (by kernel_rfl) loops_frame_Stack_Alloc (args := [.pointer sx, .int .i64 slots, .agg #[.int .i64 cont0, .int .i64 cont1]]) rfl (R := fun v w1 => ∃ (r : Int), v = (.int .i64 r : Value) ∧ R r w1) ?_).mono ?_
  · rw [← den_frame_Stack_Alloc]
    have e : (fun r w1 => ∃ (r' : Int), (.int .i64 r : Value) = (.int .i64 r' : Value) ∧ R r' w1) = R := by
      funext r w1
      exact propext ⟨fun ⟨r', he, h⟩ => by first | (simp at he; simp_all) | (cases he; exact h), fun h => ⟨_, rfl, h⟩⟩
    simpa only [e] using h
  · rintro en w1 ⟨v, he, r, rfl, h⟩
    exact ⟨_, he, h⟩

end Go.Proofs.Ytdmjbkpibgfeiaa
