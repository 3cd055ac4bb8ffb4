/- The formulas of this seat's functions, held against the loaded program by the kernel. Printed by a program. -/
import Derived.Test.YtdkkkomcolklbaaGenC
set_option maxRecDepth 100000
set_option linter.unusedVariables false
namespace Go.Proofs.Ytdkkkomcolklbaa
open Go Go.D Go.Proofs

def F_room_Room_Push (m : Option Addr) (wx : Int) (w : World) (R : Int → World → Prop) : Prop :=
  If m.isNone
  (R (6 : Int) w)
  (NN m fun a =>
  ∃ lP : Option Addr, ∃ lN : Nat, ∃ lC : Nat, (drw w).cell? (a.add 0) = some (.slice lP lN lC) ∧
  NN m fun a_1 =>
  ∃ limitx : Int, (drw w).cell? (a_1.add 1) = some (.int .i64 limitx) ∧
  If (decide ((lN : Int) ≥ limitx))
  (R (2 : Int) (drw w))
  (NN m fun a_2 =>
  ∃ lP_1 : Option Addr, ∃ lN_1 : Nat, ∃ lC_1 : Nat, (drw w).cell? (a_2.add 0) = some (.slice lP_1 lN_1 lC_1) ∧
  BSl Try.prog 22 1 [(0, .int .u64 wx)] (drw w) fun t25P t25N t25C w1 =>
  App Try.prog #[22, 22] 22 #[.slice lP_1 lN_1 lC_1, .slice t25P t25N t25C] w1 fun t26P t26N t26C w1_1 =>
  NN m fun a_3 =>
  St w1_1 ((a_3.add 0).add 0) (.slice t26P t26N t26C) fun w1_2 =>
  C_room_Room_note m w1_2 fun w1_3 =>
  R (0 : Int) w1_3))

def G_room_Room_Push : Gen where
  loop := lookL []
  plan := fun id =>
    bif Nat.beq id 3 then some ([0, 1, 3, 7, 15, 0, 32, 96, 224, 511, 1023], .take 0 (.take 1 (.take 2 (.take 3 (.take 4 (.take 5 (.take 6 (.take 7 (.take 8 (.take 9 (.take 10 .done))))))))))) else none

theorem loops_room_Room_Push : LoopOk Try.prog Try.f10.ntmps G_room_Room_Push (codeOf Try.f10) := loopOk_none fun _ => rfl

theorem den_room_Room_Push (m : Option Addr) (wx : Int) (w : World) (R : Value → World → Prop) :
    F_room_Room_Push m wx w (fun r w1 => R (.int .i64 r) w1) = den Try.prog Try.f10.ntmps G_room_Room_Push (codeOf Try.f10) [] (postD Try.prog Try.f10.results.toList R) (entry [.pointer m, .int .u64 wx] 0) w := by kernel_rfl

theorem C_room_Room_Push.of {m : Option Addr} {wx : Int} {w : World} {R : Int → World → Prop} (h : F_room_Room_Push m wx w R) : C_room_Room_Push m wx w R := by
  refine (calls_of_den (c := codeOf Try.f10) seat_ok seat_mixed Try.func10 (by kernel_rfl) loops_room_Room_Push (args := [.pointer m, .int .u64 wx]) rfl (R := fun v w1 => ∃ (r : Int), v = (.int .i64 r : Value) ∧ R r w1) ?_).mono ?_
  · rw [← den_room_Room_Push]
    have e : (fun r w1 => ∃ (r' : Int), (.int .i64 r : Value) = (.int .i64 r' : Value) ∧ R r' w1) = R := by
      funext r w1
      exact propext ⟨fun ⟨r', he, h⟩ => by simp at he; simp_all, fun h => ⟨_, rfl, h⟩⟩
    simpa only [e] using h
  · rintro en w1 ⟨v, he, r, rfl, h⟩
    exact ⟨_, he, h⟩

def F_room_Room_Pop_k1 (R : Int → Int → World → Prop) (t130 : Int) (t131 : Int) (w1_3 : World) : Prop :=
  R t130 t131 w1_3

def F_room_Room_Pop (m : Option Addr) (w : World) (R : Int → Int → World → Prop) : Prop :=
  C_room_Room_Len m w fun t8 w1 =>
  C_room_Room_Get m (IntKind.i64.wrap (t8 - (1 : Int))) w1 fun t130 t131 w1_1 =>
  If (t131 == (0 : Int))
  (NN m fun a =>
  ∃ lP : Option Addr, ∃ lN : Nat, ∃ lC : Nat, w1_1.cell? (a.add 0) = some (.slice lP lN lC) ∧
  0 ≤ (IntKind.i64.wrap (t8 - (1 : Int))) ∧ (IntKind.i64.wrap (t8 - (1 : Int))) ≤ (lC : Int) ∧
  NN m fun a_1 =>
  St w1_1 ((a_1.add 0).add 0) (.slice lP ((IntKind.i64.wrap (t8 - (1 : Int))).toNat) lC) fun w1_2 =>
  F_room_Room_Pop_k1 R t130 t131 w1_2)
  (F_room_Room_Pop_k1 R t130 t131 w1_1)

def G_room_Room_Pop : Gen where
  loop := lookL []
  plan := fun _ => none

theorem loops_room_Room_Pop : LoopOk Try.prog Try.f11.ntmps G_room_Room_Pop (codeOf Try.f11) := loopOk_none fun _ => rfl

theorem den_room_Room_Pop (m : Option Addr) (w : World) (R : Value → World → Prop) :
    F_room_Room_Pop m w (fun r0 r1 w1 => R (.tuple #[.int .u64 r0, .int .i64 r1]) w1) = den Try.prog Try.f11.ntmps G_room_Room_Pop (codeOf Try.f11) [] (postD Try.prog Try.f11.results.toList R) (entry [.pointer m] 0) w := by kernel_rfl

theorem C_room_Room_Pop.of {m : Option Addr} {w : World} {R : Int → Int → World → Prop} (h : F_room_Room_Pop m w R) : C_room_Room_Pop m w R := by
  refine (calls_of_den (c := codeOf Try.f11) seat_ok seat_mixed Try.func11 (by kernel_rfl) loops_room_Room_Pop (args := [.pointer m]) rfl (R := fun v w1 => ∃ (r0 : Int) (r1 : Int), v = (.tuple #[.int .u64 r0, .int .i64 r1] : Value) ∧ R r0 r1 w1) ?_).mono ?_
  · rw [← den_room_Room_Pop]
    have e : (fun r0 r1 w1 => ∃ (r0' : Int) (r1' : Int), (.tuple #[.int .u64 r0, .int .i64 r1] : Value) = (.tuple #[.int .u64 r0', .int .i64 r1'] : Value) ∧ R r0' r1' w1) = R := by
      funext r0 r1 w1
      exact propext ⟨fun ⟨r0', r1', he, h⟩ => by simp at he; simp_all, fun h => ⟨_, _, rfl, h⟩⟩
    simpa only [e] using h
  · rintro en w1 ⟨v, he, r0, r1, rfl, h⟩
    exact ⟨_, _, he, h⟩

def F_room_Room_Most (m : Option Addr) (w : World) (R : Int → World → Prop) : Prop :=
  If m.isNone
  (R (0 : Int) w)
  (NN m fun a =>
  ∃ mostx : Int, w.cell? (a.add 2) = some (.int .i64 mostx) ∧
  R mostx w)

def G_room_Room_Most : Gen where
  loop := lookL []
  plan := fun _ => none

theorem loops_room_Room_Most : LoopOk Try.prog Try.f12.ntmps G_room_Room_Most (codeOf Try.f12) := loopOk_none fun _ => rfl

theorem den_room_Room_Most (m : Option Addr) (w : World) (R : Value → World → Prop) :
    F_room_Room_Most m w (fun r w1 => R (.int .i64 r) w1) = den Try.prog Try.f12.ntmps G_room_Room_Most (codeOf Try.f12) [] (postD Try.prog Try.f12.results.toList R) (entry [.pointer m] 0) w := by kernel_rfl

theorem C_room_Room_Most.of {m : Option Addr} {w : World} {R : Int → World → Prop} (h : F_room_Room_Most m w R) : C_room_Room_Most m w R := by
  refine (calls_of_den (c := codeOf Try.f12) seat_ok seat_mixed Try.func12 (by kernel_rfl) loops_room_Room_Most (args := [.pointer m]) rfl (R := fun v w1 => ∃ (r : Int), v = (.int .i64 r : Value) ∧ R r w1) ?_).mono ?_
  · rw [← den_room_Room_Most]
    have e : (fun r w1 => ∃ (r' : Int), (.int .i64 r : Value) = (.int .i64 r' : Value) ∧ R r' w1) = R := by
      funext r w1
      exact propext ⟨fun ⟨r', he, h⟩ => by simp at he; simp_all, fun h => ⟨_, rfl, h⟩⟩
    simpa only [e] using h
  · rintro en w1 ⟨v, he, r, rfl, h⟩
    exact ⟨_, he, h⟩

def F_room_Room_Len (m : Option Addr) (w : World) (R : Int → World → Prop) : Prop :=
  If m.isNone
  (R (0 : Int) w)
  (NN m fun a =>
  ∃ lP : Option Addr, ∃ lN : Nat, ∃ lC : Nat, w.cell? (a.add 0) = some (.slice lP lN lC) ∧
  R (lN : Int) w)

def G_room_Room_Len : Gen where
  loop := lookL []
  plan := fun _ => none

theorem loops_room_Room_Len : LoopOk Try.prog Try.f13.ntmps G_room_Room_Len (codeOf Try.f13) := loopOk_none fun _ => rfl

theorem den_room_Room_Len (m : Option Addr) (w : World) (R : Value → World → Prop) :
    F_room_Room_Len m w (fun r w1 => R (.int .i64 r) w1) = den Try.prog Try.f13.ntmps G_room_Room_Len (codeOf Try.f13) [] (postD Try.prog Try.f13.results.toList R) (entry [.pointer m] 0) w := by kernel_rfl

theorem C_room_Room_Len.of {m : Option Addr} {w : World} {R : Int → World → Prop} (h : F_room_Room_Len m w R) : C_room_Room_Len m w R := by
  refine (calls_of_den (c := codeOf Try.f13) seat_ok seat_mixed Try.func13 (by kernel_rfl) loops_room_Room_Len (args := [.pointer m]) rfl (R := fun v w1 => ∃ (r : Int), v = (.int .i64 r : Value) ∧ R r w1) ?_).mono ?_
  · rw [← den_room_Room_Len]
    have e : (fun r w1 => ∃ (r' : Int), (.int .i64 r : Value) = (.int .i64 r' : Value) ∧ R r' w1) = R := by
      funext r w1
      exact propext ⟨fun ⟨r', he, h⟩ => by simp at he; simp_all, fun h => ⟨_, rfl, h⟩⟩
    simpa only [e] using h
  · rintro en w1 ⟨v, he, r, rfl, h⟩
    exact ⟨_, he, h⟩

def F_ref02_New (limitx : Int) (w : World) (R : Option Addr → World → Prop) : Prop :=
  If (decide (limitx < (0 : Int)))
  (R none w)
  (If (decide (limitx > (1048576 : Int)))
  (R none w)
  (New w (.cells #[.slice none 0 0, .int .i64 limitx, .int .i64 0] 42) fun r w1 =>
  R (some ⟨r, 0, none⟩) w1))

def G_ref02_New : Gen where
  loop := lookL []
  plan := fun _ => none

theorem loops_ref02_New : LoopOk Try.prog Try.f14.ntmps G_ref02_New (codeOf Try.f14) := loopOk_none fun _ => rfl

theorem den_ref02_New (limitx : Int) (w : World) (R : Value → World → Prop) :
    F_ref02_New limitx w (fun r w1 => R (.pointer r) w1) = den Try.prog Try.f14.ntmps G_ref02_New (codeOf Try.f14) [] (postD Try.prog Try.f14.results.toList R) (entry [.int .i64 limitx] 0) w := by kernel_rfl

theorem C_ref02_New.of {limitx : Int} {w : World} {R : Option Addr → World → Prop} (h : F_ref02_New limitx w R) : C_ref02_New limitx w R := by
  refine (calls_of_den (c := codeOf Try.f14) seat_ok seat_mixed Try.func14 (by kernel_rfl) loops_ref02_New (args := [.int .i64 limitx]) rfl (R := fun v w1 => ∃ (r : Option Addr), v = (.pointer r : Value) ∧ R r w1) ?_).mono ?_
  · rw [← den_ref02_New]
    have e : (fun r w1 => ∃ (r' : Option Addr), (.pointer r : Value) = (.pointer r' : Value) ∧ R r' w1) = R := by
      funext r w1
      exact propext ⟨fun ⟨r', he, h⟩ => by simp at he; simp_all, fun h => ⟨_, rfl, h⟩⟩
    simpa only [e] using h
  · rintro en w1 ⟨v, he, r, rfl, h⟩
    exact ⟨_, he, h⟩

def F_law02_do (m : Option Addr) (x : Option Addr) (o0 : Int) (o1 : Int) (o2 : Int) (w : World) (R : Bool → World → Prop) : Prop :=
  New w (.cells #[.int .i64 o0, .int .i64 o1, .int .u64 o2] 40) fun r w1 =>
  ∃ Kind : Int, w1.cell? ((⟨r, 0, none⟩ : Addr).add 0) = some (.int .i64 Kind) ∧
  If (Kind == (1 : Int))
  (∃ W : Int, (drw w1).cell? ((⟨r, 0, none⟩ : Addr).add 2) = some (.int .u64 W) ∧
  ∃ W_1 : Int, (drw w1).cell? ((⟨r, 0, none⟩ : Addr).add 2) = some (.int .u64 W_1) ∧
  C_room_Room_Push m W (drw w1) fun t21 w1_1 =>
  w1_1.cell? ((⟨r, 0, none⟩ : Addr).add 2) = (drw w1).cell? ((⟨r, 0, none⟩ : Addr).add 2) ∧
  C_ref02_Room_Push x W_1 w1_1 fun t25 w1_2 =>
  R (t21 == t25) w1_2)
  (If (Kind == (2 : Int))
  (C_room_Room_Pop m w1 fun t310 t311 w1_3 =>
  C_ref02_Room_Pop x w1_3 fun t360 t361 w1_4 =>
  If (t310 == t360)
  (R (t311 == t361) w1_4)
  (R false w1_4))
  (If (Kind == (3 : Int))
  (∃ N : Int, w1.cell? ((⟨r, 0, none⟩ : Addr).add 1) = some (.int .i64 N) ∧
  C_room_Room_Get m N w1 fun t530 t531 w1_5 =>
  ∃ N_1 : Int, (drw w1_5).cell? ((⟨r, 0, none⟩ : Addr).add 1) = some (.int .i64 N_1) ∧
  If (decide (N_1 < (0 : Int)))
  (If (t530 == (0 : Int))
  (R (t531 == (4 : Int)) (drw w1_5))
  (R false (drw w1_5)))
  (∃ N_2 : Int, (drw w1_5).cell? ((⟨r, 0, none⟩ : Addr).add 1) = some (.int .i64 N_2) ∧
  NN x fun a =>
  ∃ LP : Option Addr, ∃ LN : Nat, ∃ LC : Nat, (drw w1_5).cell? (a.add 0) = some (.slice LP LN LC) ∧
  If (decide (N_2 ≥ (LN : Int)))
  (If (t530 == (0 : Int))
  (R (t531 == (4 : Int)) (drw w1_5))
  (R false (drw w1_5)))
  (NN x fun a_1 =>
  ∃ LP_1 : Option Addr, ∃ LN_1 : Nat, ∃ LC_1 : Nat, (drw (drw w1_5)).cell? (a_1.add 0) = some (.slice LP_1 LN_1 LC_1) ∧
  ∃ N_3 : Int, (drw (drw w1_5)).cell? ((⟨r, 0, none⟩ : Addr).add 1) = some (.int .i64 N_3) ∧
  0 ≤ N_3 ∧ N_3 < (LN_1 : Int) ∧ NN LP_1 fun a_2 =>
  ∃ t83 : Int, (drw (drw w1_5)).cell? (a_2.add (N_3.toNat * 1)) = some (.int .u64 t83) ∧
  If (t530 == t83)
  (R (t531 == (0 : Int)) (drw (drw w1_5)))
  (R false (drw (drw w1_5))))))
  (If (Kind == (4 : Int))
  (∃ N_4 : Int, w1.cell? ((⟨r, 0, none⟩ : Addr).add 1) = some (.int .i64 N_4) ∧
  ∃ W_2 : Int, w1.cell? ((⟨r, 0, none⟩ : Addr).add 2) = some (.int .u64 W_2) ∧
  C_room_Room_Set m N_4 W_2 w1 fun t96 w1_6 =>
  ∃ N_5 : Int, (drw w1_6).cell? ((⟨r, 0, none⟩ : Addr).add 1) = some (.int .i64 N_5) ∧
  If (decide (N_5 < (0 : Int)))
  (R (t96 == (4 : Int)) (drw w1_6))
  (∃ N_6 : Int, (drw w1_6).cell? ((⟨r, 0, none⟩ : Addr).add 1) = some (.int .i64 N_6) ∧
  NN x fun a_3 =>
  ∃ LP_2 : Option Addr, ∃ LN_2 : Nat, ∃ LC_2 : Nat, (drw w1_6).cell? (a_3.add 0) = some (.slice LP_2 LN_2 LC_2) ∧
  If (decide (N_6 ≥ (LN_2 : Int)))
  (R (t96 == (4 : Int)) (drw w1_6))
  (NN x fun a_4 =>
  ∃ LP_3 : Option Addr, ∃ LN_3 : Nat, ∃ LC_3 : Nat, (drw (drw w1_6)).cell? (a_4.add 0) = some (.slice LP_3 LN_3 LC_3) ∧
  ∃ N_7 : Int, (drw (drw w1_6)).cell? ((⟨r, 0, none⟩ : Addr).add 1) = some (.int .i64 N_7) ∧
  ∃ W_3 : Int, (drw (drw w1_6)).cell? ((⟨r, 0, none⟩ : Addr).add 2) = some (.int .u64 W_3) ∧
  0 ≤ N_7 ∧ N_7 < (LN_3 : Int) ∧ NN LP_3 fun a_5 =>
  St (drw (drw w1_6)) ((a_5.add (N_7.toNat * 1)).add 0) (.int .u64 W_3) fun w1_7 =>
  R (t96 == (0 : Int)) w1_7)))
  (If (Kind == (5 : Int))
  (∃ N_8 : Int, (drw w1).cell? ((⟨r, 0, none⟩ : Addr).add 1) = some (.int .i64 N_8) ∧
  ∃ N_9 : Int, (drw w1).cell? ((⟨r, 0, none⟩ : Addr).add 1) = some (.int .i64 N_9) ∧
  C_room_Room_Cut m N_8 (drw w1) fun t128 w1_8 =>
  w1_8.cell? ((⟨r, 0, none⟩ : Addr).add 1) = (drw w1).cell? ((⟨r, 0, none⟩ : Addr).add 1) ∧
  C_ref02_Room_Cut x N_9 w1_8 fun t132 w1_9 =>
  R (t128 == t132) w1_9)
  (If (Kind == (6 : Int))
  (∃ N_10 : Int, (drw w1).cell? ((⟨r, 0, none⟩ : Addr).add 1) = some (.int .i64 N_10) ∧
  ∃ N_11 : Int, (drw w1).cell? ((⟨r, 0, none⟩ : Addr).add 1) = some (.int .i64 N_11) ∧
  C_room_Room_Grow m N_10 (drw w1) fun t139 w1_10 =>
  w1_10.cell? ((⟨r, 0, none⟩ : Addr).add 1) = (drw w1).cell? ((⟨r, 0, none⟩ : Addr).add 1) ∧
  C_ref02_Room_Grow x N_11 w1_10 fun t143 w1_11 =>
  R (t139 == t143) w1_11)
  (If (Kind == (7 : Int))
  (∃ N_12 : Int, w1.cell? ((⟨r, 0, none⟩ : Addr).add 1) = some (.int .i64 N_12) ∧
  C_law02_kept m x N_12 w1 fun t151 w1_12 =>
  R t151 w1_12)
  (R true w1)))))))

def G_law02_do : Gen where
  loop := lookL []
  plan := fun id =>
    bif Nat.beq id 3 then some ([0, 0, 2, 7, 0, 0, 32, 127, 255, 511], .take 0 (.take 1 (.take 2 (.take 4 (.take 5 (.take 6 (.take 3 (.take 7 (.take 8 (.take 9 .done)))))))))) else
    bif Nat.beq id 10 then some ([0, 1, 3, 7, 15, 31, 15, 79, 207, 463, 975, 2047, 4095], .take 0 (.take 1 (.take 2 (.take 3 (.take 4 (.take 5 (.take 6 (.take 7 (.take 8 (.take 9 (.take 10 (.take 11 (.take 12 .done))))))))))))) else
    bif Nat.beq id 12 then some ([0, 0, 2, 6, 14, 0, 32, 126, 254, 511, 1023, 2047, 4095, 8191, 16383], .take 0 (.take 1 (.take 2 (.take 3 (.take 4 (.take 5 (.take 6 (.take 7 (.take 8 (.take 9 (.take 10 (.take 11 (.take 12 (.take 13 (.take 14 .done))))))))))))))) else
    bif Nat.beq id 15 then some ([0, 1, 3, 7, 15, 31, 15, 79, 207, 463, 975, 2047, 4095], .take 0 (.take 1 (.take 2 (.take 3 (.take 4 (.take 5 (.take 6 (.take 7 (.take 8 (.take 9 (.take 10 (.take 11 (.take 12 .done))))))))))))) else
    bif Nat.beq id 17 then some ([0, 1, 3, 7, 0, 16, 0, 64, 255, 511], .take 0 (.take 1 (.take 2 (.take 3 (.take 4 (.take 5 (.take 6 (.take 7 (.take 8 (.take 9 .done)))))))))) else
    bif Nat.beq id 20 then some ([0, 0, 2, 7, 0, 0, 32, 127, 255, 511], .take 0 (.take 1 (.take 2 (.take 4 (.take 5 (.take 6 (.take 3 (.take 7 (.take 8 (.take 9 .done)))))))))) else
    bif Nat.beq id 22 then some ([0, 0, 2, 7, 0, 0, 32, 127, 255, 511], .take 0 (.take 1 (.take 2 (.take 4 (.take 5 (.take 6 (.take 3 (.take 7 (.take 8 (.take 9 .done)))))))))) else none

theorem loops_law02_do : LoopOk Try.prog Try.f15.ntmps G_law02_do (codeOf Try.f15) := loopOk_none fun _ => rfl

theorem den_law02_do (m : Option Addr) (x : Option Addr) (o0 : Int) (o1 : Int) (o2 : Int) (w : World) (R : Value → World → Prop) :
    F_law02_do m x o0 o1 o2 w (fun r w1 => R (.bool r) w1) = den Try.prog Try.f15.ntmps G_law02_do (codeOf Try.f15) [] (postD Try.prog Try.f15.results.toList R) (entry [.pointer m, .pointer x, .agg #[.int .i64 o0, .int .i64 o1, .int .u64 o2]] 0) w := by kernel_rfl

theorem C_law02_do.of {m : Option Addr} {x : Option Addr} {o0 : Int} {o1 : Int} {o2 : Int} {w : World} {R : Bool → World → Prop} (h : F_law02_do m x o0 o1 o2 w R) : C_law02_do m x o0 o1 o2 w R := by
  refine (calls_of_den (c := codeOf Try.f15) seat_ok seat_mixed Try.func15 (by kernel_rfl) loops_law02_do (args := [.pointer m, .pointer x, .agg #[.int .i64 o0, .int .i64 o1, .int .u64 o2]]) rfl (R := fun v w1 => ∃ (r : Bool), v = (.bool r : Value) ∧ R r w1) ?_).mono ?_
  · rw [← den_law02_do]
    have e : (fun r w1 => ∃ (r' : Bool), (.bool r : Value) = (.bool r' : Value) ∧ R r' w1) = R := by
      funext r w1
      exact propext ⟨fun ⟨r', he, h⟩ => by simp at he; simp_all, fun h => ⟨_, rfl, h⟩⟩
    simpa only [e] using h
  · rintro en w1 ⟨v, he, r, rfl, h⟩
    exact ⟨_, he, h⟩

def F_room_Room_Limit (m : Option Addr) (w : World) (R : Int → World → Prop) : Prop :=
  If m.isNone
  (R (0 : Int) w)
  (NN m fun a =>
  ∃ limitx : Int, w.cell? (a.add 1) = some (.int .i64 limitx) ∧
  R limitx w)

def G_room_Room_Limit : Gen where
  loop := lookL []
  plan := fun _ => none

theorem loops_room_Room_Limit : LoopOk Try.prog Try.f16.ntmps G_room_Room_Limit (codeOf Try.f16) := loopOk_none fun _ => rfl

theorem den_room_Room_Limit (m : Option Addr) (w : World) (R : Value → World → Prop) :
    F_room_Room_Limit m w (fun r w1 => R (.int .i64 r) w1) = den Try.prog Try.f16.ntmps G_room_Room_Limit (codeOf Try.f16) [] (postD Try.prog Try.f16.results.toList R) (entry [.pointer m] 0) w := by kernel_rfl

theorem C_room_Room_Limit.of {m : Option Addr} {w : World} {R : Int → World → Prop} (h : F_room_Room_Limit m w R) : C_room_Room_Limit m w R := by
  refine (calls_of_den (c := codeOf Try.f16) seat_ok seat_mixed Try.func16 (by kernel_rfl) loops_room_Room_Limit (args := [.pointer m]) rfl (R := fun v w1 => ∃ (r : Int), v = (.int .i64 r : Value) ∧ R r w1) ?_).mono ?_
  · rw [← den_room_Room_Limit]
    have e : (fun r w1 => ∃ (r' : Int), (.int .i64 r : Value) = (.int .i64 r' : Value) ∧ R r' w1) = R := by
      funext r w1
      exact propext ⟨fun ⟨r', he, h⟩ => by simp at he; simp_all, fun h => ⟨_, rfl, h⟩⟩
    simpa only [e] using h
  · rintro en w1 ⟨v, he, r, rfl, h⟩
    exact ⟨_, he, h⟩

structure S_ref02_Same_L1 where
  i : Int

/-- One round. -/
def B_ref02_Same_L1 (aP_1 : Option Addr) (aN_1 : Nat) (aC_1 : Nat) (bP_1 : Option Addr) (bN_1 : Nat) (bC_1 : Nat) (s : S_ref02_Same_L1) (w : World) (Kn : S_ref02_Same_L1 → World → Prop) (Kx0 : World → Prop) (Kr : Bool → World → Prop) : Prop :=
  If (decide ((s.i : Int) < (aN_1 : Int)))
  (0 ≤ (s.i : Int) ∧ (s.i : Int) < (aN_1 : Int) ∧ NN aP_1 fun a =>
  ∃ t20 : Int, (drw w).cell? (a.add ((s.i : Int).toNat * 1)) = some (.int .u64 t20) ∧
  0 ≤ (s.i : Int) ∧ (s.i : Int) < (bN_1 : Int) ∧ NN bP_1 fun a_1 =>
  ∃ t24 : Int, (drw w).cell? (a_1.add ((s.i : Int).toNat * 1)) = some (.int .u64 t24) ∧
  If (t20 != t24)
  (Kr false (drw w))
  (Kn ⟨(IntKind.i64.wrap ((s.i : Int) + (1 : Int)))⟩ (drw w)))
  (Kx0 w)

def F_ref02_Same_L1 (aP_1 : Option Addr) (aN_1 : Nat) (aC_1 : Nat) (bP_1 : Option Addr) (bN_1 : Nat) (bC_1 : Nat) (s : S_ref02_Same_L1) (w : World) (Kx0 : World → Prop) (Kr : Bool → World → Prop) : Prop :=
  LoopS (fun s w Kn => B_ref02_Same_L1 aP_1 aN_1 aC_1 bP_1 bN_1 bC_1 s w Kn Kx0 Kr) s w

def F_ref02_Same (aP : Option Addr) (aN : Nat) (aC : Nat) (bP : Option Addr) (bN : Nat) (bC : Nat) (w : World) (R : Bool → World → Prop) : Prop :=
  If ((aN : Int) != (bN : Int))
  (R false w)
  (F_ref02_Same_L1 aP aN aC bP bN bC ⟨(0 : Int)⟩ w
  (fun w1 =>
  R true w1)
  (fun t4_1 w1_1 =>
  R t4_1 w1_1))

def lit_ref02_Same_L1 (f : (Option Addr) × Nat × Nat × (Option Addr) × Nat × Nat) (s : S_ref02_Same_L1) : Env := [⟨0, .slice f.1 f.2.1 f.2.2.1, none⟩, ⟨1, .slice f.2.2.2.1 f.2.2.2.2.1 f.2.2.2.2.2, none⟩, ⟨5, .int .i64 s.i, none⟩]

def dec_ref02_Same_L1 (e : Env) (K : ((Option Addr) × Nat × Nat × (Option Addr) × Nat × Nat) → S_ref02_Same_L1 → Prop) : Prop :=
  onV (getV e 0) fun u1 =>
  asS u1 fun aP_1 aN_1 aC_1 =>
  onV (getV e 1) fun u2 =>
  asS u2 fun bP_1 bN_1 bC_1 =>
  onV (getV e 5) fun u3 =>
  asI .i64 u3 fun i =>
    K (aP_1, aN_1, aC_1, bP_1, bN_1, bC_1) ⟨i⟩

theorem dec_ref02_Same_L1_ok {N : Nat} (e : Env) (a : Act) (K : ((Option Addr) × Nat × Nat × (Option Addr) × Nat × Nat) → S_ref02_Same_L1 → Prop) (hr : Rep N a e) (h0 : dec_ref02_Same_L1 e K) : ∃ f s, K f s ∧ Rep N a (lit_ref02_Same_L1 f s) := by
  unfold dec_ref02_Same_L1 at h0
  obtain ⟨u1, g0, h1⟩ := onV_elim h0
  obtain ⟨aP_1, aN_1, aC_1, rfl, h2⟩ := asS_elim h1
  obtain ⟨u2, g1, h3⟩ := onV_elim h2
  obtain ⟨bP_1, bN_1, bC_1, rfl, h4⟩ := asS_elim h3
  obtain ⟨u3, g5, h5⟩ := onV_elim h4
  obtain ⟨i, rfl, h6⟩ := asI_elim h5
  exact ⟨_, _, h6, rep_less hr (by simp [lit_ref02_Same_L1, g0, g1, g5])⟩

def spec_ref02_Same_L1 (Q : Post) (e : Env) (w : World) : Prop :=
  dec_ref02_Same_L1 e fun f s => F_ref02_Same_L1 f.1 f.2.1 f.2.2.1 f.2.2.2.1 f.2.2.2.2.1 f.2.2.2.2.2 s w (fun w1 => Q (.exit 0) [] w1) (fun t4 w1 => Q .ret [⟨4, .bool t4, none⟩] w1)

def G_ref02_Same : Gen where
  loop := lookL [([false, true, false, true, true], spec_ref02_Same_L1)]
  plan := fun id =>
    bif Nat.beq id 6 then some ([0, 0, 3, 7, 0, 0, 48, 112, 255], .take 0 (.take 1 (.take 2 (.take 3 (.take 4 (.take 5 (.take 6 (.take 7 (.take 8 .done))))))))) else none

def dx_ref02_Same_L1_0 (e : Env) (K : ((Option Addr) × Nat × Nat × (Option Addr) × Nat × Nat) → Prop) : Prop :=
  onV (getV e 0) fun u1 =>
  asS u1 fun aP_1 aN_1 aC_1 =>
  onV (getV e 1) fun u2 =>
  asS u2 fun bP_1 bN_1 bC_1 =>
    K (aP_1, aN_1, aC_1, bP_1, bN_1, bC_1)

def dx_ref02_Same_L1_ret (e : Env) (K : ((Option Addr) × Nat × Nat × (Option Addr) × Nat × Nat) → Bool → Prop) : Prop :=
  onV (getV e 0) fun u1 =>
  asS u1 fun aP_1 aN_1 aC_1 =>
  onV (getV e 1) fun u2 =>
  asS u2 fun bP_1 bN_1 bC_1 =>
  onV (getV e 4) fun u3 =>
  asB u3 fun t4 =>
    K (aP_1, aN_1, aC_1, bP_1, bN_1, bC_1) t4

theorem body_ref02_Same_L1 (f : (Option Addr) × Nat × Nat × (Option Addr) × Nat × Nat) (s : S_ref02_Same_L1) (w : World) (Kn : ((Option Addr) × Nat × Nat × (Option Addr) × Nat × Nat) → S_ref02_Same_L1 → World → Prop) (Kx0 : ((Option Addr) × Nat × Nat × (Option Addr) × Nat × Nat) → World → Prop) (Kr : ((Option Addr) × Nat × Nat × (Option Addr) × Nat × Nat) → Bool → World → Prop) :
    B_ref02_Same_L1 f.1 f.2.1 f.2.2.1 f.2.2.2.1 f.2.2.2.2.1 f.2.2.2.2.2 s w (fun s1 w1 => Kn f s1 w1) (fun w1 => Kx0 f w1) (fun t4 w1 => Kr f t4 w1) =
    den Try.prog Try.f17.ntmps G_ref02_Same (sub (codeOf Try.f17) [false, false, true, false, true, true]) [false, false, true, false, true, true] (roundQ (fun e w => dec_ref02_Same_L1 e fun f s => Kn f s w) (fun e w => dx_ref02_Same_L1_ret e fun f t4 => Kr f t4 w) (fun id e w => match Nat.beq id 0 with | true => dx_ref02_Same_L1_0 e fun f => Kx0 f w | false => False)) (lit_ref02_Same_L1 f s) w := by kernel_rfl

theorem ok_ref02_Same_L1 : OneOk Try.prog Try.f17.ntmps G_ref02_Same (codeOf Try.f17) [false, true, false, true, true] spec_ref02_Same_L1 := by
  intro c hc ih Q e w a hr h
  have hcc : sub (codeOf Try.f17) [false, false, true, false, true, true] = c := sub_of_codeAt hc
  obtain ⟨f, s, h, hrep⟩ := dec_ref02_Same_L1_ok e a _ hr h
  obtain ⟨J, μ, hj, hround⟩ := h
  refine loop_rule_deep seat_ok seat_mixed ih lit_ref02_Same_L1 dec_ref02_Same_L1 dec_ref02_Same_L1_ok hc f J μ (Kr := fun e w => dx_ref02_Same_L1_ret e fun f1 t4 => f1 = f ∧ Q .ret [⟨4, .bool t4, none⟩] w) (Kx := fun id e w => match Nat.beq id 0 with | true => (dx_ref02_Same_L1_0 e fun f1 => f1 = f ∧ Q (.exit 0) [] w) | false => False) ?_ ?_ ?_ s w a hj hrep
  · intro e a w hr h0
    unfold dx_ref02_Same_L1_ret at h0
    obtain ⟨u1, g0, h1⟩ := onV_elim h0
    obtain ⟨aP_1, aN_1, aC_1, rfl, h2⟩ := asS_elim h1
    obtain ⟨u2, g1, h3⟩ := onV_elim h2
    obtain ⟨bP_1, bN_1, bC_1, rfl, h4⟩ := asS_elim h3
    obtain ⟨u3, g4, h5⟩ := onV_elim h4
    obtain ⟨t4, rfl, h6⟩ := asB_elim h5
    obtain ⟨hf, hq⟩ := h6
    subst hf
    exact ⟨_, rep_less hr (by simp [g4]), hq⟩
  · intro id e a w hr h0
    (try dsimp only at h0)
    split at h0
    · rename_i hid
      obtain rfl := Nat.eq_of_beq_eq_true hid
      unfold dx_ref02_Same_L1_0 at h0
      obtain ⟨u1, g0, h1⟩ := onV_elim h0
      obtain ⟨aP_1, aN_1, aC_1, rfl, h2⟩ := asS_elim h1
      obtain ⟨u2, g1, h3⟩ := onV_elim h2
      obtain ⟨bP_1, bN_1, bC_1, rfl, h4⟩ := asS_elim h3
      obtain ⟨hf, hq⟩ := h4
      subst hf
      exact ⟨_, rep_less hr (by simp), hq⟩
    · exact h0.elim
  · intro s w hj
    have hb := hround s w hj
    rw [← hcc]
    have e1 := body_ref02_Same_L1 f s w (fun f1 s1 w1 => f1 = f ∧ J s1 w1 ∧ μ s1 w1 < μ s w) (fun f1 w1 => f1 = f ∧ Q (.exit 0) [] w1) (fun f1 t4 w1 => f1 = f ∧ Q .ret [⟨4, .bool t4, none⟩] w1)
    simp only [true_and] at e1
    exact cast e1 hb

theorem loops_ref02_Same : LoopOk Try.prog Try.f17.ntmps G_ref02_Same (codeOf Try.f17) := loopOk_list rfl ⟨ok_ref02_Same_L1, trivial⟩

theorem den_ref02_Same (aP : Option Addr) (aN : Nat) (aC : Nat) (bP : Option Addr) (bN : Nat) (bC : Nat) (w : World) (R : Value → World → Prop) :
    F_ref02_Same aP aN aC bP bN bC w (fun r w1 => R (.bool r) w1) = den Try.prog Try.f17.ntmps G_ref02_Same (codeOf Try.f17) [] (postD Try.prog Try.f17.results.toList R) (entry [.slice aP aN aC, .slice bP bN bC] 0) w := by kernel_rfl

theorem C_ref02_Same.of {aP : Option Addr} {aN : Nat} {aC : Nat} {bP : Option Addr} {bN : Nat} {bC : Nat} {w : World} {R : Bool → World → Prop} (h : F_ref02_Same aP aN aC bP bN bC w R) : C_ref02_Same aP aN aC bP bN bC w R := by
  refine (calls_of_den (c := codeOf Try.f17) seat_ok seat_mixed Try.func17 (by kernel_rfl) loops_ref02_Same (args := [.slice aP aN aC, .slice bP bN bC]) rfl (R := fun v w1 => ∃ (r : Bool), v = (.bool r : Value) ∧ R r w1) ?_).mono ?_
  · rw [← den_ref02_Same]
    have e : (fun r w1 => ∃ (r' : Bool), (.bool r : Value) = (.bool r' : Value) ∧ R r' w1) = R := by
      funext r w1
      exact propext ⟨fun ⟨r', he, h⟩ => by simp at he; simp_all, fun h => ⟨_, rfl, h⟩⟩
    simpa only [e] using h
  · rintro en w1 ⟨v, he, r, rfl, h⟩
    exact ⟨_, he, h⟩

def F_room_Room_Words (m : Option Addr) (w : World) (R : Option Addr → Nat → Nat → World → Prop) : Prop :=
  If m.isNone
  (R none 0 0 w)
  (NN m fun a =>
  ∃ lP : Option Addr, ∃ lN : Nat, ∃ lC : Nat, w.cell? (a.add 0) = some (.slice lP lN lC) ∧
  C_slices_Clone lP lN lC w fun t9P t9N t9C w1 =>
  R t9P t9N t9C w1)

def G_room_Room_Words : Gen where
  loop := lookL []
  plan := fun _ => none

theorem loops_room_Room_Words : LoopOk Try.prog Try.f18.ntmps G_room_Room_Words (codeOf Try.f18) := loopOk_none fun _ => rfl

theorem den_room_Room_Words (m : Option Addr) (w : World) (R : Value → World → Prop) :
    F_room_Room_Words m w (fun rP rN rC w1 => R (.slice rP rN rC) w1) = den Try.prog Try.f18.ntmps G_room_Room_Words (codeOf Try.f18) [] (postD Try.prog Try.f18.results.toList R) (entry [.pointer m] 0) w := by kernel_rfl

theorem C_room_Room_Words.of {m : Option Addr} {w : World} {R : Option Addr → Nat → Nat → World → Prop} (h : F_room_Room_Words m w R) : C_room_Room_Words m w R := by
  refine (calls_of_den (c := codeOf Try.f18) seat_ok seat_mixed Try.func18 (by kernel_rfl) loops_room_Room_Words (args := [.pointer m]) rfl (R := fun v w1 => ∃ (rP : Option Addr) (rN : Nat) (rC : Nat), v = (.slice rP rN rC : Value) ∧ R rP rN rC w1) ?_).mono ?_
  · rw [← den_room_Room_Words]
    have e : (fun rP rN rC w1 => ∃ (rP' : Option Addr) (rN' : Nat) (rC' : Nat), (.slice rP rN rC : Value) = (.slice rP' rN' rC' : Value) ∧ R rP' rN' rC' w1) = R := by
      funext rP rN rC w1
      exact propext ⟨fun ⟨rP', rN', rC', he, h⟩ => by simp at he; simp_all, fun h => ⟨_, _, _, rfl, h⟩⟩
    simpa only [e] using h
  · rintro en w1 ⟨v, he, rP, rN, rC, rfl, h⟩
    exact ⟨_, _, _, he, h⟩

def F_room_Room_Get (m : Option Addr) (i : Int) (w : World) (R : Int → Int → World → Prop) : Prop :=
  C_room_Room_has m i w fun t9 w1 =>
  If (t9 != (0 : Int))
  (R (0 : Int) t9 w1)
  (NN m fun a =>
  ∃ lP : Option Addr, ∃ lN : Nat, ∃ lC : Nat, w1.cell? (a.add 0) = some (.slice lP lN lC) ∧
  0 ≤ i ∧ i < (lN : Int) ∧ NN lP fun a_1 =>
  ∃ t19 : Int, w1.cell? (a_1.add (i.toNat * 1)) = some (.int .u64 t19) ∧
  R t19 (0 : Int) w1)

def G_room_Room_Get : Gen where
  loop := lookL []
  plan := fun _ => none

theorem loops_room_Room_Get : LoopOk Try.prog Try.f19.ntmps G_room_Room_Get (codeOf Try.f19) := loopOk_none fun _ => rfl

theorem den_room_Room_Get (m : Option Addr) (i : Int) (w : World) (R : Value → World → Prop) :
    F_room_Room_Get m i w (fun r0 r1 w1 => R (.tuple #[.int .u64 r0, .int .i64 r1]) w1) = den Try.prog Try.f19.ntmps G_room_Room_Get (codeOf Try.f19) [] (postD Try.prog Try.f19.results.toList R) (entry [.pointer m, .int .i64 i] 0) w := by kernel_rfl

theorem C_room_Room_Get.of {m : Option Addr} {i : Int} {w : World} {R : Int → Int → World → Prop} (h : F_room_Room_Get m i w R) : C_room_Room_Get m i w R := by
  refine (calls_of_den (c := codeOf Try.f19) seat_ok seat_mixed Try.func19 (by kernel_rfl) loops_room_Room_Get (args := [.pointer m, .int .i64 i]) rfl (R := fun v w1 => ∃ (r0 : Int) (r1 : Int), v = (.tuple #[.int .u64 r0, .int .i64 r1] : Value) ∧ R r0 r1 w1) ?_).mono ?_
  · rw [← den_room_Room_Get]
    have e : (fun r0 r1 w1 => ∃ (r0' : Int) (r1' : Int), (.tuple #[.int .u64 r0, .int .i64 r1] : Value) = (.tuple #[.int .u64 r0', .int .i64 r1'] : Value) ∧ R r0' r1' w1) = R := by
      funext r0 r1 w1
      exact propext ⟨fun ⟨r0', r1', he, h⟩ => by simp at he; simp_all, fun h => ⟨_, _, rfl, h⟩⟩
    simpa only [e] using h
  · rintro en w1 ⟨v, he, r0, r1, rfl, h⟩
    exact ⟨_, _, he, h⟩

def F_room_Room_Set (m : Option Addr) (i : Int) (wx : Int) (w : World) (R : Int → World → Prop) : Prop :=
  C_room_Room_has m i w fun t10 w1 =>
  If (t10 != (0 : Int))
  (R t10 w1)
  (NN m fun a =>
  ∃ lP : Option Addr, ∃ lN : Nat, ∃ lC : Nat, w1.cell? (a.add 0) = some (.slice lP lN lC) ∧
  0 ≤ i ∧ i < (lN : Int) ∧ NN lP fun a_1 =>
  St w1 ((a_1.add (i.toNat * 1)).add 0) (.int .u64 wx) fun w1_1 =>
  R (0 : Int) w1_1)

def G_room_Room_Set : Gen where
  loop := lookL []
  plan := fun _ => none

theorem loops_room_Room_Set : LoopOk Try.prog Try.f20.ntmps G_room_Room_Set (codeOf Try.f20) := loopOk_none fun _ => rfl

theorem den_room_Room_Set (m : Option Addr) (i : Int) (wx : Int) (w : World) (R : Value → World → Prop) :
    F_room_Room_Set m i wx w (fun r w1 => R (.int .i64 r) w1) = den Try.prog Try.f20.ntmps G_room_Room_Set (codeOf Try.f20) [] (postD Try.prog Try.f20.results.toList R) (entry [.pointer m, .int .i64 i, .int .u64 wx] 0) w := by kernel_rfl

theorem C_room_Room_Set.of {m : Option Addr} {i : Int} {wx : Int} {w : World} {R : Int → World → Prop} (h : F_room_Room_Set m i wx w R) : C_room_Room_Set m i wx w R := by
  refine (calls_of_den (c := codeOf Try.f20) seat_ok seat_mixed Try.func20 (by kernel_rfl) loops_room_Room_Set (args := [.pointer m, .int .i64 i, .int .u64 wx]) rfl (R := fun v w1 => ∃ (r : Int), v = (.int .i64 r : Value) ∧ R r w1) ?_).mono ?_
  · rw [← den_room_Room_Set]
    have e : (fun r w1 => ∃ (r' : Int), (.int .i64 r : Value) = (.int .i64 r' : Value) ∧ R r' w1) = R := by
      funext r w1
      exact propext ⟨fun ⟨r', he, h⟩ => by simp at he; simp_all, fun h => ⟨_, rfl, h⟩⟩
    simpa only [e] using h
  · rintro en w1 ⟨v, he, r, rfl, h⟩
    exact ⟨_, he, h⟩

def F_room_Room_Cut (m : Option Addr) (n : Int) (w : World) (R : Int → World → Prop) : Prop :=
  If m.isNone
  (R (6 : Int) w)
  (If (decide (n < (0 : Int)))
  (R (1 : Int) w)
  (NN m fun a =>
  ∃ lP : Option Addr, ∃ lN : Nat, ∃ lC : Nat, w.cell? (a.add 0) = some (.slice lP lN lC) ∧
  If (decide (n > (lN : Int)))
  (R (1 : Int) w)
  (NN m fun a_1 =>
  ∃ lP_1 : Option Addr, ∃ lN_1 : Nat, ∃ lC_1 : Nat, w.cell? (a_1.add 0) = some (.slice lP_1 lN_1 lC_1) ∧
  0 ≤ n ∧ n ≤ (lC_1 : Int) ∧
  NN m fun a_2 =>
  St w ((a_2.add 0).add 0) (.slice lP_1 n.toNat lC_1) fun w1 =>
  R (0 : Int) w1)))

def G_room_Room_Cut : Gen where
  loop := lookL []
  plan := fun _ => none

theorem loops_room_Room_Cut : LoopOk Try.prog Try.f21.ntmps G_room_Room_Cut (codeOf Try.f21) := loopOk_none fun _ => rfl

theorem den_room_Room_Cut (m : Option Addr) (n : Int) (w : World) (R : Value → World → Prop) :
    F_room_Room_Cut m n w (fun r w1 => R (.int .i64 r) w1) = den Try.prog Try.f21.ntmps G_room_Room_Cut (codeOf Try.f21) [] (postD Try.prog Try.f21.results.toList R) (entry [.pointer m, .int .i64 n] 0) w := by kernel_rfl

theorem C_room_Room_Cut.of {m : Option Addr} {n : Int} {w : World} {R : Int → World → Prop} (h : F_room_Room_Cut m n w R) : C_room_Room_Cut m n w R := by
  refine (calls_of_den (c := codeOf Try.f21) seat_ok seat_mixed Try.func21 (by kernel_rfl) loops_room_Room_Cut (args := [.pointer m, .int .i64 n]) rfl (R := fun v w1 => ∃ (r : Int), v = (.int .i64 r : Value) ∧ R r w1) ?_).mono ?_
  · rw [← den_room_Room_Cut]
    have e : (fun r w1 => ∃ (r' : Int), (.int .i64 r : Value) = (.int .i64 r' : Value) ∧ R r' w1) = R := by
      funext r w1
      exact propext ⟨fun ⟨r', he, h⟩ => by simp at he; simp_all, fun h => ⟨_, rfl, h⟩⟩
    simpa only [e] using h
  · rintro en w1 ⟨v, he, r, rfl, h⟩
    exact ⟨_, he, h⟩

def F_room_Room_Grow (m : Option Addr) (n : Int) (w : World) (R : Int → World → Prop) : Prop :=
  If m.isNone
  (R (6 : Int) w)
  (If (decide (n < (0 : Int)))
  (R (1 : Int) w)
  (NN m fun a =>
  ∃ limitx : Int, (drw w).cell? (a.add 1) = some (.int .i64 limitx) ∧
  NN m fun a_1 =>
  ∃ lP : Option Addr, ∃ lN : Nat, ∃ lC : Nat, (drw w).cell? (a_1.add 0) = some (.slice lP lN lC) ∧
  If (decide (n > (IntKind.i64.wrap (limitx - (lN : Int)))))
  (R (2 : Int) (drw w))
  (NN m fun a_2 =>
  ∃ lP_1 : Option Addr, ∃ lN_1 : Nat, ∃ lC_1 : Nat, (drw w).cell? (a_2.add 0) = some (.slice lP_1 lN_1 lC_1) ∧
  App Try.prog #[22, 3] 22 #[.slice lP_1 lN_1 lC_1, .int .i64 n] (drw w) fun t30P t30N t30C w1 =>
  NN m fun a_3 =>
  St w1 ((a_3.add 0).add 0) (.slice t30P t30N t30C) fun w1_1 =>
  C_room_Room_note m w1_1 fun w1_2 =>
  R (0 : Int) w1_2)))

def G_room_Room_Grow : Gen where
  loop := lookL []
  plan := fun id =>
    bif Nat.beq id 5 then some ([0, 0, 2, 6, 14, 0, 32, 96, 224, 480, 1022, 2047, 4095], .take 0 (.take 1 (.take 2 (.take 3 (.take 4 (.take 5 (.take 6 (.take 7 (.take 8 (.take 9 (.take 10 (.take 11 (.take 12 .done))))))))))))) else none

theorem loops_room_Room_Grow : LoopOk Try.prog Try.f22.ntmps G_room_Room_Grow (codeOf Try.f22) := loopOk_none fun _ => rfl

theorem den_room_Room_Grow (m : Option Addr) (n : Int) (w : World) (R : Value → World → Prop) :
    F_room_Room_Grow m n w (fun r w1 => R (.int .i64 r) w1) = den Try.prog Try.f22.ntmps G_room_Room_Grow (codeOf Try.f22) [] (postD Try.prog Try.f22.results.toList R) (entry [.pointer m, .int .i64 n] 0) w := by kernel_rfl

theorem C_room_Room_Grow.of {m : Option Addr} {n : Int} {w : World} {R : Int → World → Prop} (h : F_room_Room_Grow m n w R) : C_room_Room_Grow m n w R := by
  refine (calls_of_den (c := codeOf Try.f22) seat_ok seat_mixed Try.func22 (by kernel_rfl) loops_room_Room_Grow (args := [.pointer m, .int .i64 n]) rfl (R := fun v w1 => ∃ (r : Int), v = (.int .i64 r : Value) ∧ R r w1) ?_).mono ?_
  · rw [← den_room_Room_Grow]
    have e : (fun r w1 => ∃ (r' : Int), (.int .i64 r : Value) = (.int .i64 r' : Value) ∧ R r' w1) = R := by
      funext r w1
      exact propext ⟨fun ⟨r', he, h⟩ => by simp at he; simp_all, fun h => ⟨_, rfl, h⟩⟩
    simpa only [e] using h
  · rintro en w1 ⟨v, he, r, rfl, h⟩
    exact ⟨_, he, h⟩

def F_room_Room_Keep (m : Option Addr) (keepx : Value) (w : World) (R : Int → World → Prop) : Prop :=
  New w (.cells (Value.cells keepx) 50) fun r w1 =>
  If m.isNone
  (R (0 : Int) w1)
  (NN m fun a =>
  ∃ lP : Option Addr, ∃ lN : Nat, ∃ lC : Nat, w1.cell? (a.add 0) = some (.slice lP lN lC) ∧
  New w1 (.cells #[.int .i64 0] 3) fun r_1 w1_1 =>
  St w1_1 ((⟨r_1, 0, none⟩ : Addr).add 0) (.int .i64 (-1)) fun w1_2 =>
  NN m fun a_1 =>
  ∃ lP_1 : Option Addr, ∃ lN_1 : Nat, ∃ lC_1 : Nat, w1_2.cell? (a_1.add 0) = some (.slice lP_1 lN_1 lC_1) ∧
  C_slices_DeleteFunc lP_1 lN_1 lC_1 (.func (.func 35) #[] #[.pointer (some ⟨r_1, 0, none⟩), .pointer (some ⟨r, 0, none⟩)]) w1_2 fun t20P t20N t20C w1_3 =>
  NN m fun a_2 =>
  St w1_3 ((a_2.add 0).add 0) (.slice t20P t20N t20C) fun w1_4 =>
  NN m fun a_3 =>
  ∃ lP_2 : Option Addr, ∃ lN_2 : Nat, ∃ lC_2 : Nat, w1_4.cell? (a_3.add 0) = some (.slice lP_2 lN_2 lC_2) ∧
  R (IntKind.i64.wrap ((lN : Int) - (lN_2 : Int))) w1_4)

def G_room_Room_Keep : Gen where
  loop := lookL []
  plan := fun _ => none

theorem loops_room_Room_Keep : LoopOk Try.prog Try.f23.ntmps G_room_Room_Keep (codeOf Try.f23) := loopOk_none fun _ => rfl

theorem den_room_Room_Keep (m : Option Addr) (keepx : Value) (w : World) (R : Value → World → Prop) :
    F_room_Room_Keep m keepx w (fun r w1 => R (.int .i64 r) w1) = den Try.prog Try.f23.ntmps G_room_Room_Keep (codeOf Try.f23) [] (postD Try.prog Try.f23.results.toList R) (entry [.pointer m, keepx] 0) w := by kernel_rfl

theorem C_room_Room_Keep.of {m : Option Addr} {keepx : Value} {w : World} {R : Int → World → Prop} (h : F_room_Room_Keep m keepx w R) : C_room_Room_Keep m keepx w R := by
  refine (calls_of_den (c := codeOf Try.f23) seat_ok seat_mixed Try.func23 (by kernel_rfl) loops_room_Room_Keep (args := [.pointer m, keepx]) rfl (R := fun v w1 => ∃ (r : Int), v = (.int .i64 r : Value) ∧ R r w1) ?_).mono ?_
  · rw [← den_room_Room_Keep]
    have e : (fun r w1 => ∃ (r' : Int), (.int .i64 r : Value) = (.int .i64 r' : Value) ∧ R r' w1) = R := by
      funext r w1
      exact propext ⟨fun ⟨r', he, h⟩ => by simp at he; simp_all, fun h => ⟨_, rfl, h⟩⟩
    simpa only [e] using h
  · rintro en w1 ⟨v, he, r, rfl, h⟩
    exact ⟨_, he, h⟩

def F_law02_never (i : Int) (wx : Int) (w : World) (R : Bool → World → Prop) : Prop :=
  R false w

def G_law02_never : Gen where
  loop := lookL []
  plan := fun _ => none

theorem loops_law02_never : LoopOk Try.prog Try.f24.ntmps G_law02_never (codeOf Try.f24) := loopOk_none fun _ => rfl

theorem den_law02_never (i : Int) (wx : Int) (w : World) (R : Value → World → Prop) :
    F_law02_never i wx w (fun r w1 => R (.bool r) w1) = den Try.prog Try.f24.ntmps G_law02_never (codeOf Try.f24) [] (postD Try.prog Try.f24.results.toList R) (entry [.int .i64 i, .int .u64 wx] 0) w := by kernel_rfl

theorem C_law02_never.of {i : Int} {wx : Int} {w : World} {R : Bool → World → Prop} (h : F_law02_never i wx w R) : C_law02_never i wx w R := by
  refine (calls_of_den (c := codeOf Try.f24) seat_ok seat_mixed Try.func24 (by kernel_rfl) loops_law02_never (args := [.int .i64 i, .int .u64 wx]) rfl (R := fun v w1 => ∃ (r : Bool), v = (.bool r : Value) ∧ R r w1) ?_).mono ?_
  · rw [← den_law02_never]
    have e : (fun r w1 => ∃ (r' : Bool), (.bool r : Value) = (.bool r' : Value) ∧ R r' w1) = R := by
      funext r w1
      exact propext ⟨fun ⟨r', he, h⟩ => by simp at he; simp_all, fun h => ⟨_, rfl, h⟩⟩
    simpa only [e] using h
  · rintro en w1 ⟨v, he, r, rfl, h⟩
    exact ⟨_, he, h⟩

def F_law02_always (i : Int) (wx : Int) (w : World) (R : Bool → World → Prop) : Prop :=
  R true w

def G_law02_always : Gen where
  loop := lookL []
  plan := fun _ => none

theorem loops_law02_always : LoopOk Try.prog Try.f25.ntmps G_law02_always (codeOf Try.f25) := loopOk_none fun _ => rfl

theorem den_law02_always (i : Int) (wx : Int) (w : World) (R : Value → World → Prop) :
    F_law02_always i wx w (fun r w1 => R (.bool r) w1) = den Try.prog Try.f25.ntmps G_law02_always (codeOf Try.f25) [] (postD Try.prog Try.f25.results.toList R) (entry [.int .i64 i, .int .u64 wx] 0) w := by kernel_rfl

theorem C_law02_always.of {i : Int} {wx : Int} {w : World} {R : Bool → World → Prop} (h : F_law02_always i wx w R) : C_law02_always i wx w R := by
  refine (calls_of_den (c := codeOf Try.f25) seat_ok seat_mixed Try.func25 (by kernel_rfl) loops_law02_always (args := [.int .i64 i, .int .u64 wx]) rfl (R := fun v w1 => ∃ (r : Bool), v = (.bool r : Value) ∧ R r w1) ?_).mono ?_
  · rw [← den_law02_always]
    have e : (fun r w1 => ∃ (r' : Bool), (.bool r : Value) = (.bool r' : Value) ∧ R r' w1) = R := by
      funext r w1
      exact propext ⟨fun ⟨r', he, h⟩ => by simp at he; simp_all, fun h => ⟨_, rfl, h⟩⟩
    simpa only [e] using h
  · rintro en w1 ⟨v, he, r, rfl, h⟩
    exact ⟨_, he, h⟩

def F_room_Room_note (m : Option Addr) (w : World) (R : World → Prop) : Prop :=
  NN m fun a =>
  ∃ mostx : Int, (drw w).cell? (a.add 2) = some (.int .i64 mostx) ∧
  NN m fun a_1 =>
  ∃ lP : Option Addr, ∃ lN : Nat, ∃ lC : Nat, (drw w).cell? (a_1.add 0) = some (.slice lP lN lC) ∧
  NN m fun a_2 =>
  St (drw w) ((a_2.add 2).add 0) (.int .i64 (maxI mostx (lN : Int))) fun w1 =>
  R w1

def G_room_Room_note : Gen where
  loop := lookL []
  plan := fun id =>
    bif Nat.beq id 0 then some ([0, 0, 2, 6, 14, 0, 32, 96, 224, 480, 1022, 2047, 4095, 8191], .take 0 (.take 1 (.take 2 (.take 3 (.take 4 (.take 5 (.take 6 (.take 7 (.take 8 (.take 9 (.take 10 (.take 11 (.take 12 (.take 13 .done)))))))))))))) else none

theorem loops_room_Room_note : LoopOk Try.prog Try.f26.ntmps G_room_Room_note (codeOf Try.f26) := loopOk_none fun _ => rfl

theorem den_room_Room_note (m : Option Addr) (w : World) (R : Value → World → Prop) :
    F_room_Room_note m w (fun w1 => R (.tuple #[]) w1) = den Try.prog Try.f26.ntmps G_room_Room_note (codeOf Try.f26) [] (postD Try.prog Try.f26.results.toList R) (entry [.pointer m] 0) w := by kernel_rfl

theorem C_room_Room_note.of {m : Option Addr} {w : World} {R : World → Prop} (h : F_room_Room_note m w R) : C_room_Room_note m w R := by
  refine (calls_of_den (c := codeOf Try.f26) seat_ok seat_mixed Try.func26 (by kernel_rfl) loops_room_Room_note (args := [.pointer m]) rfl (R := fun v w1 => v = (.tuple #[] : Value) ∧ R w1) ?_).mono ?_
  · rw [← den_room_Room_note]
    simpa using h
  · rintro en w1 ⟨v, he, rfl, h⟩
    exact ⟨he, h⟩

def F_ref02_Room_Push (m : Option Addr) (wx : Int) (w : World) (R : Int → World → Prop) : Prop :=
  NN m fun a =>
  ∃ LP : Option Addr, ∃ LN : Nat, ∃ LC : Nat, (drw w).cell? (a.add 0) = some (.slice LP LN LC) ∧
  NN m fun a_1 =>
  ∃ Limit : Int, (drw w).cell? (a_1.add 1) = some (.int .i64 Limit) ∧
  If (decide ((LN : Int) ≥ Limit))
  (R (2 : Int) (drw w))
  (NN m fun a_2 =>
  ∃ LP_1 : Option Addr, ∃ LN_1 : Nat, ∃ LC_1 : Nat, (drw w).cell? (a_2.add 0) = some (.slice LP_1 LN_1 LC_1) ∧
  BSl Try.prog 22 1 [(0, .int .u64 wx)] (drw w) fun t21P t21N t21C w1 =>
  App Try.prog #[22, 22] 22 #[.slice LP_1 LN_1 LC_1, .slice t21P t21N t21C] w1 fun t22P t22N t22C w1_1 =>
  NN m fun a_3 =>
  St w1_1 ((a_3.add 0).add 0) (.slice t22P t22N t22C) fun w1_2 =>
  C_ref02_Room_note m w1_2 fun w1_3 =>
  R (0 : Int) w1_3)

def G_ref02_Room_Push : Gen where
  loop := lookL []
  plan := fun id =>
    bif Nat.beq id 1 then some ([0, 1, 3, 7, 15, 0, 32, 96, 224, 511], .take 0 (.take 1 (.take 2 (.take 3 (.take 4 (.take 5 (.take 6 (.take 7 (.take 8 (.take 9 .done)))))))))) else none

theorem loops_ref02_Room_Push : LoopOk Try.prog Try.f27.ntmps G_ref02_Room_Push (codeOf Try.f27) := loopOk_none fun _ => rfl

theorem den_ref02_Room_Push (m : Option Addr) (wx : Int) (w : World) (R : Value → World → Prop) :
    F_ref02_Room_Push m wx w (fun r w1 => R (.int .i64 r) w1) = den Try.prog Try.f27.ntmps G_ref02_Room_Push (codeOf Try.f27) [] (postD Try.prog Try.f27.results.toList R) (entry [.pointer m, .int .u64 wx] 0) w := by kernel_rfl

theorem C_ref02_Room_Push.of {m : Option Addr} {wx : Int} {w : World} {R : Int → World → Prop} (h : F_ref02_Room_Push m wx w R) : C_ref02_Room_Push m wx w R := by
  refine (calls_of_den (c := codeOf Try.f27) seat_ok seat_mixed Try.func27 (by kernel_rfl) loops_ref02_Room_Push (args := [.pointer m, .int .u64 wx]) rfl (R := fun v w1 => ∃ (r : Int), v = (.int .i64 r : Value) ∧ R r w1) ?_).mono ?_
  · rw [← den_ref02_Room_Push]
    have e : (fun r w1 => ∃ (r' : Int), (.int .i64 r : Value) = (.int .i64 r' : Value) ∧ R r' w1) = R := by
      funext r w1
      exact propext ⟨fun ⟨r', he, h⟩ => by simp at he; simp_all, fun h => ⟨_, rfl, h⟩⟩
    simpa only [e] using h
  · rintro en w1 ⟨v, he, r, rfl, h⟩
    exact ⟨_, he, h⟩

def F_ref02_Room_Pop (m : Option Addr) (w : World) (R : Int → Int → World → Prop) : Prop :=
  NN m fun a =>
  ∃ LP : Option Addr, ∃ LN : Nat, ∃ LC : Nat, w.cell? (a.add 0) = some (.slice LP LN LC) ∧
  If ((LN : Int) == (0 : Int))
  (R (0 : Int) (4 : Int) w)
  (NN m fun a_1 =>
  ∃ LP_1 : Option Addr, ∃ LN_1 : Nat, ∃ LC_1 : Nat, w.cell? (a_1.add 0) = some (.slice LP_1 LN_1 LC_1) ∧
  0 ≤ (IntKind.i64.wrap ((LN : Int) - (1 : Int))) ∧ (IntKind.i64.wrap ((LN : Int) - (1 : Int))) < (LN_1 : Int) ∧ NN LP_1 fun a_2 =>
  ∃ t20 : Int, w.cell? (a_2.add ((IntKind.i64.wrap ((LN : Int) - (1 : Int))).toNat * 1)) = some (.int .u64 t20) ∧
  NN m fun a_3 =>
  ∃ LP_2 : Option Addr, ∃ LN_2 : Nat, ∃ LC_2 : Nat, w.cell? (a_3.add 0) = some (.slice LP_2 LN_2 LC_2) ∧
  0 ≤ (IntKind.i64.wrap ((LN : Int) - (1 : Int))) ∧ (IntKind.i64.wrap ((LN : Int) - (1 : Int))) ≤ (LC_2 : Int) ∧
  NN m fun a_4 =>
  St w ((a_4.add 0).add 0) (.slice LP_2 ((IntKind.i64.wrap ((LN : Int) - (1 : Int))).toNat) LC_2) fun w1 =>
  R t20 (0 : Int) w1)

def G_ref02_Room_Pop : Gen where
  loop := lookL []
  plan := fun _ => none

theorem loops_ref02_Room_Pop : LoopOk Try.prog Try.f28.ntmps G_ref02_Room_Pop (codeOf Try.f28) := loopOk_none fun _ => rfl

theorem den_ref02_Room_Pop (m : Option Addr) (w : World) (R : Value → World → Prop) :
    F_ref02_Room_Pop m w (fun r0 r1 w1 => R (.tuple #[.int .u64 r0, .int .i64 r1]) w1) = den Try.prog Try.f28.ntmps G_ref02_Room_Pop (codeOf Try.f28) [] (postD Try.prog Try.f28.results.toList R) (entry [.pointer m] 0) w := by kernel_rfl

theorem C_ref02_Room_Pop.of {m : Option Addr} {w : World} {R : Int → Int → World → Prop} (h : F_ref02_Room_Pop m w R) : C_ref02_Room_Pop m w R := by
  refine (calls_of_den (c := codeOf Try.f28) seat_ok seat_mixed Try.func28 (by kernel_rfl) loops_ref02_Room_Pop (args := [.pointer m]) rfl (R := fun v w1 => ∃ (r0 : Int) (r1 : Int), v = (.tuple #[.int .u64 r0, .int .i64 r1] : Value) ∧ R r0 r1 w1) ?_).mono ?_
  · rw [← den_ref02_Room_Pop]
    have e : (fun r0 r1 w1 => ∃ (r0' : Int) (r1' : Int), (.tuple #[.int .u64 r0, .int .i64 r1] : Value) = (.tuple #[.int .u64 r0', .int .i64 r1'] : Value) ∧ R r0' r1' w1) = R := by
      funext r0 r1 w1
      exact propext ⟨fun ⟨r0', r1', he, h⟩ => by simp at he; simp_all, fun h => ⟨_, _, rfl, h⟩⟩
    simpa only [e] using h
  · rintro en w1 ⟨v, he, r0, r1, rfl, h⟩
    exact ⟨_, _, he, h⟩

def F_ref02_Room_Cut (m : Option Addr) (n : Int) (w : World) (R : Int → World → Prop) : Prop :=
  If (decide (n < (0 : Int)))
  (R (1 : Int) w)
  (NN m fun a =>
  ∃ LP : Option Addr, ∃ LN : Nat, ∃ LC : Nat, w.cell? (a.add 0) = some (.slice LP LN LC) ∧
  If (decide (n > (LN : Int)))
  (R (1 : Int) w)
  (NN m fun a_1 =>
  ∃ LP_1 : Option Addr, ∃ LN_1 : Nat, ∃ LC_1 : Nat, w.cell? (a_1.add 0) = some (.slice LP_1 LN_1 LC_1) ∧
  0 ≤ n ∧ n ≤ (LC_1 : Int) ∧
  NN m fun a_2 =>
  St w ((a_2.add 0).add 0) (.slice LP_1 n.toNat LC_1) fun w1 =>
  R (0 : Int) w1))

def G_ref02_Room_Cut : Gen where
  loop := lookL []
  plan := fun _ => none

theorem loops_ref02_Room_Cut : LoopOk Try.prog Try.f29.ntmps G_ref02_Room_Cut (codeOf Try.f29) := loopOk_none fun _ => rfl

theorem den_ref02_Room_Cut (m : Option Addr) (n : Int) (w : World) (R : Value → World → Prop) :
    F_ref02_Room_Cut m n w (fun r w1 => R (.int .i64 r) w1) = den Try.prog Try.f29.ntmps G_ref02_Room_Cut (codeOf Try.f29) [] (postD Try.prog Try.f29.results.toList R) (entry [.pointer m, .int .i64 n] 0) w := by kernel_rfl

theorem C_ref02_Room_Cut.of {m : Option Addr} {n : Int} {w : World} {R : Int → World → Prop} (h : F_ref02_Room_Cut m n w R) : C_ref02_Room_Cut m n w R := by
  refine (calls_of_den (c := codeOf Try.f29) seat_ok seat_mixed Try.func29 (by kernel_rfl) loops_ref02_Room_Cut (args := [.pointer m, .int .i64 n]) rfl (R := fun v w1 => ∃ (r : Int), v = (.int .i64 r : Value) ∧ R r w1) ?_).mono ?_
  · rw [← den_ref02_Room_Cut]
    have e : (fun r w1 => ∃ (r' : Int), (.int .i64 r : Value) = (.int .i64 r' : Value) ∧ R r' w1) = R := by
      funext r w1
      exact propext ⟨fun ⟨r', he, h⟩ => by simp at he; simp_all, fun h => ⟨_, rfl, h⟩⟩
    simpa only [e] using h
  · rintro en w1 ⟨v, he, r, rfl, h⟩
    exact ⟨_, he, h⟩

structure S_ref02_Room_Grow_L1 where
  i : Int

/-- One round. -/
def B_ref02_Room_Grow_L1 (m_1 : Option Addr) (n_1 : Int) (s : S_ref02_Room_Grow_L1) (w : World) (Kn : S_ref02_Room_Grow_L1 → World → Prop) (Kx0 : World → Prop) : Prop :=
  If (decide ((s.i : Int) < n_1))
  (NN m_1 fun a_2 =>
  ∃ LP_1 : Option Addr, ∃ LN_1 : Nat, ∃ LC_1 : Nat, w.cell? (a_2.add 0) = some (.slice LP_1 LN_1 LC_1) ∧
  BSl Try.prog 22 1 [(0, .int .u64 0)] w fun t30P t30N t30C w1 =>
  App Try.prog #[22, 22] 22 #[.slice LP_1 LN_1 LC_1, .slice t30P t30N t30C] w1 fun t31P t31N t31C w1_1 =>
  NN m_1 fun a_3 =>
  St w1_1 ((a_3.add 0).add 0) (.slice t31P t31N t31C) fun w1_2 =>
  Kn ⟨(IntKind.i64.wrap ((s.i : Int) + (1 : Int)))⟩ w1_2)
  (Kx0 w)

def F_ref02_Room_Grow_L1 (m_1 : Option Addr) (n_1 : Int) (s : S_ref02_Room_Grow_L1) (w : World) (Kx0 : World → Prop) : Prop :=
  LoopS (fun s w Kn => B_ref02_Room_Grow_L1 m_1 n_1 s w Kn Kx0) s w

def F_ref02_Room_Grow (m : Option Addr) (n : Int) (w : World) (R : Int → World → Prop) : Prop :=
  If (decide (n < (0 : Int)))
  (R (1 : Int) w)
  (NN m fun a =>
  ∃ Limit : Int, (drw w).cell? (a.add 1) = some (.int .i64 Limit) ∧
  NN m fun a_1 =>
  ∃ LP : Option Addr, ∃ LN : Nat, ∃ LC : Nat, (drw w).cell? (a_1.add 0) = some (.slice LP LN LC) ∧
  If (decide (n > (IntKind.i64.wrap (Limit - (LN : Int)))))
  (R (2 : Int) (drw w))
  (F_ref02_Room_Grow_L1 m n ⟨(0 : Int)⟩ (drw w)
  (fun w1_3 =>
  C_ref02_Room_note m w1_3 fun w1_4 =>
  R (0 : Int) w1_4)))

def lit_ref02_Room_Grow_L1 (f : (Option Addr) × Int) (s : S_ref02_Room_Grow_L1) : Env := [⟨0, .pointer f.1, none⟩, ⟨1, .int .i64 f.2, none⟩, ⟨5, .int .i64 s.i, none⟩]

def dec_ref02_Room_Grow_L1 (e : Env) (K : ((Option Addr) × Int) → S_ref02_Room_Grow_L1 → Prop) : Prop :=
  onV (getV e 0) fun u1 =>
  asP u1 fun m_1 =>
  onV (getV e 1) fun u2 =>
  asI .i64 u2 fun n_1 =>
  onV (getV e 5) fun u3 =>
  asI .i64 u3 fun i =>
    K (m_1, n_1) ⟨i⟩

theorem dec_ref02_Room_Grow_L1_ok {N : Nat} (e : Env) (a : Act) (K : ((Option Addr) × Int) → S_ref02_Room_Grow_L1 → Prop) (hr : Rep N a e) (h0 : dec_ref02_Room_Grow_L1 e K) : ∃ f s, K f s ∧ Rep N a (lit_ref02_Room_Grow_L1 f s) := by
  unfold dec_ref02_Room_Grow_L1 at h0
  obtain ⟨u1, g0, h1⟩ := onV_elim h0
  obtain ⟨m_1, rfl, h2⟩ := asP_elim h1
  obtain ⟨u2, g1, h3⟩ := onV_elim h2
  obtain ⟨n_1, rfl, h4⟩ := asI_elim h3
  obtain ⟨u3, g5, h5⟩ := onV_elim h4
  obtain ⟨i, rfl, h6⟩ := asI_elim h5
  exact ⟨_, _, h6, rep_less hr (by simp [lit_ref02_Room_Grow_L1, g0, g1, g5])⟩

def spec_ref02_Room_Grow_L1 (Q : Post) (e : Env) (w : World) : Prop :=
  dec_ref02_Room_Grow_L1 e fun f s => F_ref02_Room_Grow_L1 f.1 f.2 s w (fun w1 => Q (.exit 0) [⟨0, .pointer f.1, none⟩] w1)

def G_ref02_Room_Grow : Gen where
  loop := lookL [([false, true, false, true, true, true], spec_ref02_Room_Grow_L1)]
  plan := fun id =>
    bif Nat.beq id 3 then some ([0, 0, 2, 6, 14, 0, 32, 96, 224, 480, 1022, 2047], .take 0 (.take 1 (.take 2 (.take 3 (.take 4 (.take 5 (.take 6 (.take 7 (.take 8 (.take 9 (.take 10 (.take 11 .done)))))))))))) else none

def dx_ref02_Room_Grow_L1_0 (e : Env) (K : ((Option Addr) × Int) → Prop) : Prop :=
  onV (getV e 0) fun u1 =>
  asP u1 fun m_1 =>
  onV (getV e 1) fun u2 =>
  asI .i64 u2 fun n_1 =>
    K (m_1, n_1)

theorem body_ref02_Room_Grow_L1 (f : (Option Addr) × Int) (s : S_ref02_Room_Grow_L1) (w : World) (Kn : ((Option Addr) × Int) → S_ref02_Room_Grow_L1 → World → Prop) (Kx0 : ((Option Addr) × Int) → World → Prop) :
    B_ref02_Room_Grow_L1 f.1 f.2 s w (fun s1 w1 => Kn f s1 w1) (fun w1 => Kx0 f w1) =
    den Try.prog Try.f30.ntmps G_ref02_Room_Grow (sub (codeOf Try.f30) [false, false, true, false, true, true, true]) [false, false, true, false, true, true, true] (roundQ (fun e w => dec_ref02_Room_Grow_L1 e fun f s => Kn f s w) (fun e w => False) (fun id e w => match Nat.beq id 0 with | true => dx_ref02_Room_Grow_L1_0 e fun f => Kx0 f w | false => False)) (lit_ref02_Room_Grow_L1 f s) w := by kernel_rfl

theorem ok_ref02_Room_Grow_L1 : OneOk Try.prog Try.f30.ntmps G_ref02_Room_Grow (codeOf Try.f30) [false, true, false, true, true, true] spec_ref02_Room_Grow_L1 := by
  intro c hc ih Q e w a hr h
  have hcc : sub (codeOf Try.f30) [false, false, true, false, true, true, true] = c := sub_of_codeAt hc
  obtain ⟨f, s, h, hrep⟩ := dec_ref02_Room_Grow_L1_ok e a _ hr h
  obtain ⟨J, μ, hj, hround⟩ := h
  refine loop_rule_deep seat_ok seat_mixed ih lit_ref02_Room_Grow_L1 dec_ref02_Room_Grow_L1 dec_ref02_Room_Grow_L1_ok hc f J μ (Kr := fun e w => False) (Kx := fun id e w => match Nat.beq id 0 with | true => (dx_ref02_Room_Grow_L1_0 e fun f1 => f1 = f ∧ Q (.exit 0) [⟨0, .pointer f.1, none⟩] w) | false => False) ?_ ?_ ?_ s w a hj hrep
  · intro e a w hr h
    exact h.elim
  · intro id e a w hr h0
    (try dsimp only at h0)
    split at h0
    · rename_i hid
      obtain rfl := Nat.eq_of_beq_eq_true hid
      unfold dx_ref02_Room_Grow_L1_0 at h0
      obtain ⟨u1, g0, h1⟩ := onV_elim h0
      obtain ⟨m_1, rfl, h2⟩ := asP_elim h1
      obtain ⟨u2, g1, h3⟩ := onV_elim h2
      obtain ⟨n_1, rfl, h4⟩ := asI_elim h3
      obtain ⟨hf, hq⟩ := h4
      subst hf
      exact ⟨_, rep_less hr (by simp [g0]), hq⟩
    · exact h0.elim
  · intro s w hj
    have hb := hround s w hj
    rw [← hcc]
    have e1 := body_ref02_Room_Grow_L1 f s w (fun f1 s1 w1 => f1 = f ∧ J s1 w1 ∧ μ s1 w1 < μ s w) (fun f1 w1 => f1 = f ∧ Q (.exit 0) [⟨0, .pointer f.1, none⟩] w1)
    simp only [true_and] at e1
    exact cast e1 hb

theorem loops_ref02_Room_Grow : LoopOk Try.prog Try.f30.ntmps G_ref02_Room_Grow (codeOf Try.f30) := loopOk_list rfl ⟨ok_ref02_Room_Grow_L1, trivial⟩

theorem den_ref02_Room_Grow (m : Option Addr) (n : Int) (w : World) (R : Value → World → Prop) :
    F_ref02_Room_Grow m n w (fun r w1 => R (.int .i64 r) w1) = den Try.prog Try.f30.ntmps G_ref02_Room_Grow (codeOf Try.f30) [] (postD Try.prog Try.f30.results.toList R) (entry [.pointer m, .int .i64 n] 0) w := by kernel_rfl

theorem C_ref02_Room_Grow.of {m : Option Addr} {n : Int} {w : World} {R : Int → World → Prop} (h : F_ref02_Room_Grow m n w R) : C_ref02_Room_Grow m n w R := by
  refine (calls_of_den (c := codeOf Try.f30) seat_ok seat_mixed Try.func30 (by kernel_rfl) loops_ref02_Room_Grow (args := [.pointer m, .int .i64 n]) rfl (R := fun v w1 => ∃ (r : Int), v = (.int .i64 r : Value) ∧ R r w1) ?_).mono ?_
  · rw [← den_ref02_Room_Grow]
    have e : (fun r w1 => ∃ (r' : Int), (.int .i64 r : Value) = (.int .i64 r' : Value) ∧ R r' w1) = R := by
      funext r w1
      exact propext ⟨fun ⟨r', he, h⟩ => by simp at he; simp_all, fun h => ⟨_, rfl, h⟩⟩
    simpa only [e] using h
  · rintro en w1 ⟨v, he, r, rfl, h⟩
    exact ⟨_, he, h⟩

structure S_law02_kept_L1 where
  leftP : Option Addr
  leftN : Nat
  leftC : Nat
  i : Int

def F_law02_kept_k1 (s : S_law02_kept_L1) (Kn : S_law02_kept_L1 → World → Prop) (leftP_2 : Option Addr) (leftN_2 : Nat) (leftC_2 : Nat) (w1_5 : World) : Prop :=
  Kn ⟨leftP_2, leftN_2, leftC_2, (IntKind.i64.wrap ((s.i : Int) + (1 : Int)))⟩ w1_5

def F_law02_kept_k2 (x : Option Addr) (R : Bool → World → Prop) (leftP_3 : Option Addr) (leftN_3 : Nat) (leftC_3 : Nat) (w1_9 : World) : Prop :=
  NN x fun a_10 =>
  St w1_9 ((a_10.add 0).add 0) (.slice leftP_3 leftN_3 leftC_3) fun w1_10 =>
  R false w1_10

/-- One round. -/
def B_law02_kept_L1 (x_1 : Option Addr) (n_2 : Int) (k : Addr) (gone : Int) (s : S_law02_kept_L1) (w : World) (Kn : S_law02_kept_L1 → World → Prop) (Kx0 : Option Addr → Nat → Nat → World → Prop) : Prop :=
  NN x_1 fun a =>
  ∃ LP : Option Addr, ∃ LN : Nat, ∃ LC : Nat, w.cell? (a.add 0) = some (.slice LP LN LC) ∧
  If (decide ((s.i : Int) < (LN : Int)))
  (NN x_1 fun a_1 =>
  ∃ LP_1 : Option Addr, ∃ LN_1 : Nat, ∃ LC_1 : Nat, w.cell? (a_1.add 0) = some (.slice LP_1 LN_1 LC_1) ∧
  0 ≤ (s.i : Int) ∧ (s.i : Int) < (LN_1 : Int) ∧ NN LP_1 fun a_2 =>
  ∃ t41 : Int, w.cell? (a_2.add ((s.i : Int).toNat * 1)) = some (.int .u64 t41) ∧
  (IntKind.u64.wrap n_2) ≠ 0 ∧
  If ((t41.tmod (IntKind.u64.wrap n_2)) != (0 : Int))
  (NN x_1 fun a_3 =>
  ∃ LP_2 : Option Addr, ∃ LN_2 : Nat, ∃ LC_2 : Nat, w.cell? (a_3.add 0) = some (.slice LP_2 LN_2 LC_2) ∧
  0 ≤ (s.i : Int) ∧ (s.i : Int) < (LN_2 : Int) ∧ NN LP_2 fun a_4 =>
  ∃ t53 : Int, w.cell? (a_4.add ((s.i : Int).toNat * 1)) = some (.int .u64 t53) ∧
  BSl Try.prog 22 1 [(0, .int .u64 t53)] w fun t54P t54N t54C w1_3 =>
  App Try.prog #[22, 22] 22 #[.slice s.leftP s.leftN s.leftC, .slice t54P t54N t54C] w1_3 fun t55P t55N t55C w1_4 =>
  F_law02_kept_k1 s Kn t55P t55N t55C w1_4)
  (F_law02_kept_k1 s Kn s.leftP s.leftN s.leftC w))
  (Kx0 s.leftP s.leftN s.leftC w)

def F_law02_kept_L1 (x_1 : Option Addr) (n_2 : Int) (k : Addr) (gone : Int) (s : S_law02_kept_L1) (w : World) (Kx0 : Option Addr → Nat → Nat → World → Prop) : Prop :=
  LoopS (fun s w Kn => B_law02_kept_L1 x_1 n_2 k gone s w Kn Kx0) s w

def F_law02_kept_k3 (m : Option Addr) (x : Option Addr) (R : Bool → World → Prop) (n_1 : Int) (w1 : World) : Prop :=
  New w1 (.cells #[.int .u64 (IntKind.u64.wrap n_1), .slice none 0 0, .int .i64 0, .bool true] 60) fun r w1_1 =>
  C_room_Room_Keep m (.func (.func 37) #[.pointer (some ⟨r, 0, none⟩)] #[]) w1_1 fun t25 w1_2 =>
  F_law02_kept_L1 x n_1 ⟨r, 0, none⟩ t25 ⟨none, 0, 0, (0 : Int)⟩ w1_2
  (fun leftP_3 leftN_3 leftC_3 w1_6 =>
  NN (some ⟨r, 0, none⟩) fun a_5 =>
  ∃ ok : Bool, (drw w1_6).cell? (a_5.add 3) = some (.bool ok) ∧
  If ok
  (NN (some ⟨r, 0, none⟩) fun a_6 =>
  ∃ askedP : Option Addr, ∃ askedN : Nat, ∃ askedC : Nat, (drw w1_6).cell? (a_6.add 1) = some (.slice askedP askedN askedC) ∧
  NN x fun a_7 =>
  ∃ LP_3 : Option Addr, ∃ LN_3 : Nat, ∃ LC_3 : Nat, (drw w1_6).cell? (a_7.add 0) = some (.slice LP_3 LN_3 LC_3) ∧
  C_ref02_Same askedP askedN askedC LP_3 LN_3 LC_3 (drw w1_6) fun t69 w1_7 =>
  If t69
  (NN x fun a_8 =>
  ∃ LP_4 : Option Addr, ∃ LN_4 : Nat, ∃ LC_4 : Nat, w1_7.cell? (a_8.add 0) = some (.slice LP_4 LN_4 LC_4) ∧
  NN x fun a_9 =>
  St w1_7 ((a_9.add 0).add 0) (.slice leftP_3 leftN_3 leftC_3) fun w1_8 =>
  R (t25 == (IntKind.i64.wrap ((LN_4 : Int) - (leftN_3 : Int)))) w1_8)
  (F_law02_kept_k2 x R leftP_3 leftN_3 leftC_3 w1_7))
  (F_law02_kept_k2 x R leftP_3 leftN_3 leftC_3 (drw w1_6)))

def F_law02_kept (m : Option Addr) (x : Option Addr) (n : Int) (w : World) (R : Bool → World → Prop) : Prop :=
  If (decide (n < (1 : Int)))
  (F_law02_kept_k3 m x R (2 : Int) w)
  (If (decide (n > (100 : Int)))
  (F_law02_kept_k3 m x R (2 : Int) w)
  (F_law02_kept_k3 m x R n w))

def lit_law02_kept_L1 (f : (Option Addr) × Int × Addr × Int) (s : S_law02_kept_L1) : Env := [⟨1, .pointer f.1, none⟩, ⟨2, .int .i64 f.2.1, none⟩, ⟨7, .pointer (some f.2.2.1), none⟩, ⟨8, .int .i64 f.2.2.2, none⟩, ⟨9, .slice s.leftP s.leftN s.leftC, none⟩, ⟨10, .int .i64 s.i, none⟩]

def dec_law02_kept_L1 (e : Env) (K : ((Option Addr) × Int × Addr × Int) → S_law02_kept_L1 → Prop) : Prop :=
  onV (getV e 1) fun u1 =>
  asP u1 fun x_1 =>
  onV (getV e 2) fun u2 =>
  asI .i64 u2 fun n_2 =>
  onV (getV e 7) fun u3 =>
  asA u3 fun k =>
  onV (getV e 8) fun u4 =>
  asI .i64 u4 fun gone =>
  onV (getV e 9) fun u5 =>
  asS u5 fun leftP leftN leftC =>
  onV (getV e 10) fun u6 =>
  asI .i64 u6 fun i =>
    K (x_1, n_2, k, gone) ⟨leftP, leftN, leftC, i⟩

theorem dec_law02_kept_L1_ok {N : Nat} (e : Env) (a : Act) (K : ((Option Addr) × Int × Addr × Int) → S_law02_kept_L1 → Prop) (hr : Rep N a e) (h0 : dec_law02_kept_L1 e K) : ∃ f s, K f s ∧ Rep N a (lit_law02_kept_L1 f s) := by
  unfold dec_law02_kept_L1 at h0
  obtain ⟨u1, g1, h1⟩ := onV_elim h0
  obtain ⟨x_1, rfl, h2⟩ := asP_elim h1
  obtain ⟨u2, g2, h3⟩ := onV_elim h2
  obtain ⟨n_2, rfl, h4⟩ := asI_elim h3
  obtain ⟨u3, g7, h5⟩ := onV_elim h4
  obtain ⟨k, rfl, h6⟩ := asA_elim h5
  obtain ⟨u4, g8, h7⟩ := onV_elim h6
  obtain ⟨gone, rfl, h8⟩ := asI_elim h7
  obtain ⟨u5, g9, h9⟩ := onV_elim h8
  obtain ⟨leftP, leftN, leftC, rfl, h10⟩ := asS_elim h9
  obtain ⟨u6, g10, h11⟩ := onV_elim h10
  obtain ⟨i, rfl, h12⟩ := asI_elim h11
  exact ⟨_, _, h12, rep_less hr (by simp [lit_law02_kept_L1, g1, g2, g7, g8, g9, g10])⟩

def spec_law02_kept_L1 (Q : Post) (e : Env) (w : World) : Prop :=
  dec_law02_kept_L1 e fun f s => F_law02_kept_L1 f.1 f.2.1 f.2.2.1 f.2.2.2 s w (fun leftP_1 leftN_1 leftC_1 w1 => Q (.exit 0) [⟨1, .pointer f.1, none⟩, ⟨7, .pointer (some f.2.2.1), none⟩, ⟨8, .int .i64 f.2.2.2, none⟩, ⟨9, .slice leftP_1 leftN_1 leftC_1, none⟩] w1)

def G_law02_kept : Gen where
  loop := lookL [([false, true, false, true, true, true, true, true], spec_law02_kept_L1)]
  plan := fun id =>
    bif Nat.beq id 11 then some ([0, 1, 3, 7, 15, 31, 63, 127, 255, 31, 543, 1567, 3615, 8191, 16383, 32767, 65535, 65535, 196607, 458751, 983039, 2031615, 65535, 4259839, 16711679, 33554431, 67108863, 134217727], .take 0 (.take 1 (.take 2 (.take 3 (.take 4 (.take 5 (.take 6 (.take 7 (.take 8 (.take 9 (.take 10 (.take 11 (.take 12 (.take 13 (.take 14 (.take 15 (.take 16 (.take 17 (.take 18 (.take 19 (.take 20 (.take 21 (.take 22 (.take 23 (.take 24 (.take 25 (.take 26 (.take 27 .done)))))))))))))))))))))))))))) else none

def dx_law02_kept_L1_0 (e : Env) (K : ((Option Addr) × Int × Addr × Int) → Option Addr → Nat → Nat → Prop) : Prop :=
  onV (getV e 1) fun u1 =>
  asP u1 fun x_1 =>
  onV (getV e 2) fun u2 =>
  asI .i64 u2 fun n_2 =>
  onV (getV e 7) fun u3 =>
  asA u3 fun k =>
  onV (getV e 8) fun u4 =>
  asI .i64 u4 fun gone =>
  onV (getV e 9) fun u5 =>
  asS u5 fun leftP_1 leftN_1 leftC_1 =>
    K (x_1, n_2, k, gone) leftP_1 leftN_1 leftC_1

theorem body_law02_kept_L1 (f : (Option Addr) × Int × Addr × Int) (s : S_law02_kept_L1) (w : World) (Kn : ((Option Addr) × Int × Addr × Int) → S_law02_kept_L1 → World → Prop) (Kx0 : ((Option Addr) × Int × Addr × Int) → Option Addr → Nat → Nat → World → Prop) :
    B_law02_kept_L1 f.1 f.2.1 f.2.2.1 f.2.2.2 s w (fun s1 w1 => Kn f s1 w1) (fun leftP_1 leftN_1 leftC_1 w1 => Kx0 f leftP_1 leftN_1 leftC_1 w1) =
    den Try.prog Try.f31.ntmps G_law02_kept (sub (codeOf Try.f31) [false, false, true, false, true, true, true, true, true]) [false, false, true, false, true, true, true, true, true] (roundQ (fun e w => dec_law02_kept_L1 e fun f s => Kn f s w) (fun e w => False) (fun id e w => match Nat.beq id 0 with | true => dx_law02_kept_L1_0 e fun f leftP_1 leftN_1 leftC_1 => Kx0 f leftP_1 leftN_1 leftC_1 w | false => False)) (lit_law02_kept_L1 f s) w := by kernel_rfl

theorem ok_law02_kept_L1 : OneOk Try.prog Try.f31.ntmps G_law02_kept (codeOf Try.f31) [false, true, false, true, true, true, true, true] spec_law02_kept_L1 := by
  intro c hc ih Q e w a hr h
  have hcc : sub (codeOf Try.f31) [false, false, true, false, true, true, true, true, true] = c := sub_of_codeAt hc
  obtain ⟨f, s, h, hrep⟩ := dec_law02_kept_L1_ok e a _ hr h
  obtain ⟨J, μ, hj, hround⟩ := h
  refine loop_rule_deep seat_ok seat_mixed ih lit_law02_kept_L1 dec_law02_kept_L1 dec_law02_kept_L1_ok hc f J μ (Kr := fun e w => False) (Kx := fun id e w => match Nat.beq id 0 with | true => (dx_law02_kept_L1_0 e fun f1 leftP_1 leftN_1 leftC_1 => f1 = f ∧ Q (.exit 0) [⟨1, .pointer f.1, none⟩, ⟨7, .pointer (some f.2.2.1), none⟩, ⟨8, .int .i64 f.2.2.2, none⟩, ⟨9, .slice leftP_1 leftN_1 leftC_1, none⟩] w) | false => False) ?_ ?_ ?_ s w a hj hrep
  · intro e a w hr h
    exact h.elim
  · intro id e a w hr h0
    (try dsimp only at h0)
    split at h0
    · rename_i hid
      obtain rfl := Nat.eq_of_beq_eq_true hid
      unfold dx_law02_kept_L1_0 at h0
      obtain ⟨u1, g1, h1⟩ := onV_elim h0
      obtain ⟨x_1, rfl, h2⟩ := asP_elim h1
      obtain ⟨u2, g2, h3⟩ := onV_elim h2
      obtain ⟨n_2, rfl, h4⟩ := asI_elim h3
      obtain ⟨u3, g7, h5⟩ := onV_elim h4
      obtain ⟨k, rfl, h6⟩ := asA_elim h5
      obtain ⟨u4, g8, h7⟩ := onV_elim h6
      obtain ⟨gone, rfl, h8⟩ := asI_elim h7
      obtain ⟨u5, g9, h9⟩ := onV_elim h8
      obtain ⟨leftP_1, leftN_1, leftC_1, rfl, h10⟩ := asS_elim h9
      obtain ⟨hf, hq⟩ := h10
      subst hf
      exact ⟨_, rep_less hr (by simp [g1, g7, g8, g9]), hq⟩
    · exact h0.elim
  · intro s w hj
    have hb := hround s w hj
    rw [← hcc]
    have e1 := body_law02_kept_L1 f s w (fun f1 s1 w1 => f1 = f ∧ J s1 w1 ∧ μ s1 w1 < μ s w) (fun f1 leftP_1 leftN_1 leftC_1 w1 => f1 = f ∧ Q (.exit 0) [⟨1, .pointer f.1, none⟩, ⟨7, .pointer (some f.2.2.1), none⟩, ⟨8, .int .i64 f.2.2.2, none⟩, ⟨9, .slice leftP_1 leftN_1 leftC_1, none⟩] w1)
    simp only [true_and] at e1
    exact cast e1 hb

theorem loops_law02_kept : LoopOk Try.prog Try.f31.ntmps G_law02_kept (codeOf Try.f31) := loopOk_list rfl ⟨ok_law02_kept_L1, trivial⟩

theorem den_law02_kept (m : Option Addr) (x : Option Addr) (n : Int) (w : World) (R : Value → World → Prop) :
    F_law02_kept m x n w (fun r w1 => R (.bool r) w1) = den Try.prog Try.f31.ntmps G_law02_kept (codeOf Try.f31) [] (postD Try.prog Try.f31.results.toList R) (entry [.pointer m, .pointer x, .int .i64 n] 0) w := by kernel_rfl

theorem C_law02_kept.of {m : Option Addr} {x : Option Addr} {n : Int} {w : World} {R : Bool → World → Prop} (h : F_law02_kept m x n w R) : C_law02_kept m x n w R := by
  refine (calls_of_den (c := codeOf Try.f31) seat_ok seat_mixed Try.func31 (by kernel_rfl) loops_law02_kept (args := [.pointer m, .pointer x, .int .i64 n]) rfl (R := fun v w1 => ∃ (r : Bool), v = (.bool r : Value) ∧ R r w1) ?_).mono ?_
  · rw [← den_law02_kept]
    have e : (fun r w1 => ∃ (r' : Bool), (.bool r : Value) = (.bool r' : Value) ∧ R r' w1) = R := by
      funext r w1
      exact propext ⟨fun ⟨r', he, h⟩ => by simp at he; simp_all, fun h => ⟨_, rfl, h⟩⟩
    simpa only [e] using h
  · rintro en w1 ⟨v, he, r, rfl, h⟩
    exact ⟨_, he, h⟩

end Go.Proofs.Ytdkkkomcolklbaa
