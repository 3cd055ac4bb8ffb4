/- The formulas of this seat's functions, held against the loaded program by the kernel. Printed by a program. -/
import Derived.Test.YtlngmelfjiemlaaGenC
set_option maxRecDepth 100000
set_option linter.unusedVariables false
namespace Go.Proofs.Ytlngmelfjiemlaa
open Go Go.D Go.Proofs

def F_sync_atomic_Bool_Load (x : Option Addr) (w : World) (R : Bool → World → Prop) : Prop :=
  NN x fun a =>
  CallX Try.prog 74 [.pointer (some (a.add 0))] w fun v w1 => ∃ t6 : Int, v = (.int .u32 t6) ∧
  R (t6 != (0 : Int)) w1

def G_sync_atomic_Bool_Load : Gen where
  loop := lookL []
  plan := fun _ => none

theorem loops_sync_atomic_Bool_Load : LoopOk Try.prog Try.f66.ntmps G_sync_atomic_Bool_Load (codeOf Try.f66) := loopOk_none fun _ => rfl

theorem den_sync_atomic_Bool_Load (x : Option Addr) (w : World) (R : Value → World → Prop) :
    F_sync_atomic_Bool_Load x w (fun r w1 => R (.bool r) w1) = den Try.prog Try.f66.ntmps G_sync_atomic_Bool_Load (codeOf Try.f66) [] (postD Try.prog Try.f66.results.toList R) (entry [.pointer x] 0) w := by kernel_rfl

theorem C_sync_atomic_Bool_Load.of {x : Option Addr} {w : World} {R : Bool → World → Prop} (h : F_sync_atomic_Bool_Load x w R) : C_sync_atomic_Bool_Load x w R := by
  refine (calls_of_den (c := codeOf Try.f66) seat_ok seat_mixed Try.func66 (by kernel_rfl) loops_sync_atomic_Bool_Load (args := [.pointer x]) rfl (R := fun v w1 => ∃ (r : Bool), v = (.bool r : Value) ∧ R r w1) ?_).mono ?_
  · rw [← den_sync_atomic_Bool_Load]
    have e : (fun r w1 => ∃ (r' : Bool), (.bool r : Value) = (.bool r' : Value) ∧ R r' w1) = R := by
      funext r w1
      exact propext ⟨fun ⟨r', he, h⟩ => by simp at he; simp_all, fun h => ⟨_, rfl, h⟩⟩
    simpa only [e] using h
  · rintro en w1 ⟨v, he, r, rfl, h⟩
    exact ⟨_, he, h⟩

def F_cmp_isNaN (x : Int) (w : World) (R : Bool → World → Prop) : Prop :=
  R (x != x) w

def G_cmp_isNaN : Gen where
  loop := lookL []
  plan := fun _ => none

theorem loops_cmp_isNaN : LoopOk Try.prog Try.f73.ntmps G_cmp_isNaN (codeOf Try.f73) := loopOk_none fun _ => rfl

theorem den_cmp_isNaN (x : Int) (w : World) (R : Value → World → Prop) :
    F_cmp_isNaN x w (fun r w1 => R (.bool r) w1) = den Try.prog Try.f73.ntmps G_cmp_isNaN (codeOf Try.f73) [] (postD Try.prog Try.f73.results.toList R) (entry [.int .i64 x] 0) w := by kernel_rfl

theorem C_cmp_isNaN.of {x : Int} {w : World} {R : Bool → World → Prop} (h : F_cmp_isNaN x w R) : C_cmp_isNaN x w R := by
  refine (calls_of_den (c := codeOf Try.f73) seat_ok seat_mixed Try.func73 (by kernel_rfl) loops_cmp_isNaN (args := [.int .i64 x]) rfl (R := fun v w1 => ∃ (r : Bool), v = (.bool r : Value) ∧ R r w1) ?_).mono ?_
  · rw [← den_cmp_isNaN]
    have e : (fun r w1 => ∃ (r' : Bool), (.bool r : Value) = (.bool r' : Value) ∧ R r' w1) = R := by
      funext r w1
      exact propext ⟨fun ⟨r', he, h⟩ => by simp at he; simp_all, fun h => ⟨_, rfl, h⟩⟩
    simpa only [e] using h
  · rintro en w1 ⟨v, he, r, rfl, h⟩
    exact ⟨_, he, h⟩

def F_sync_Mutex_Lock (m : Option Addr) (w : World) (R : World → Prop) : Prop :=
  NN m fun a =>
  C_internal_sync_Mutex_Lock (some (a.add 0)) w fun w1 =>
  R w1

def G_sync_Mutex_Lock : Gen where
  loop := lookL []
  plan := fun _ => none

theorem loops_sync_Mutex_Lock : LoopOk Try.prog Try.f75.ntmps G_sync_Mutex_Lock (codeOf Try.f75) := loopOk_none fun _ => rfl

theorem den_sync_Mutex_Lock (m : Option Addr) (w : World) (R : Value → World → Prop) :
    F_sync_Mutex_Lock m w (fun w1 => R (.tuple #[]) w1) = den Try.prog Try.f75.ntmps G_sync_Mutex_Lock (codeOf Try.f75) [] (postD Try.prog Try.f75.results.toList R) (entry [.pointer m] 0) w := by kernel_rfl

theorem C_sync_Mutex_Lock.of {m : Option Addr} {w : World} {R : World → Prop} (h : F_sync_Mutex_Lock m w R) : C_sync_Mutex_Lock m w R := by
  refine (calls_of_den (c := codeOf Try.f75) seat_ok seat_mixed Try.func75 (by kernel_rfl) loops_sync_Mutex_Lock (args := [.pointer m]) rfl (R := fun v w1 => v = (.tuple #[] : Value) ∧ R w1) ?_).mono ?_
  · rw [← den_sync_Mutex_Lock]
    simpa using h
  · rintro en w1 ⟨v, he, rfl, h⟩
    exact ⟨he, h⟩

def F_sync_Mutex_Unlock (m : Option Addr) (w : World) (R : World → Prop) : Prop :=
  NN m fun a =>
  C_internal_sync_Mutex_Unlock (some (a.add 0)) w fun w1 =>
  R w1

def G_sync_Mutex_Unlock : Gen where
  loop := lookL []
  plan := fun _ => none

theorem loops_sync_Mutex_Unlock : LoopOk Try.prog Try.f76.ntmps G_sync_Mutex_Unlock (codeOf Try.f76) := loopOk_none fun _ => rfl

theorem den_sync_Mutex_Unlock (m : Option Addr) (w : World) (R : Value → World → Prop) :
    F_sync_Mutex_Unlock m w (fun w1 => R (.tuple #[]) w1) = den Try.prog Try.f76.ntmps G_sync_Mutex_Unlock (codeOf Try.f76) [] (postD Try.prog Try.f76.results.toList R) (entry [.pointer m] 0) w := by kernel_rfl

theorem C_sync_Mutex_Unlock.of {m : Option Addr} {w : World} {R : World → Prop} (h : F_sync_Mutex_Unlock m w R) : C_sync_Mutex_Unlock m w R := by
  refine (calls_of_den (c := codeOf Try.f76) seat_ok seat_mixed Try.func76 (by kernel_rfl) loops_sync_Mutex_Unlock (args := [.pointer m]) rfl (R := fun v w1 => v = (.tuple #[] : Value) ∧ R w1) ?_).mono ?_
  · rw [← den_sync_Mutex_Unlock]
    simpa using h
  · rintro en w1 ⟨v, he, rfl, h⟩
    exact ⟨he, h⟩

def F_sync_atomic_Bool_Store (x : Option Addr) (val : Bool) (w : World) (R : World → Prop) : Prop :=
  NN x fun a =>
  C_sync_atomic_b32 val (drw w) fun t8 w1 =>
  CallX Try.prog 81 [.pointer (some (a.add 0)), .int .u32 t8] w1 fun v w1_1 => v = (.tuple #[]) ∧
  R w1_1

def G_sync_atomic_Bool_Store : Gen where
  loop := lookL []
  plan := fun id =>
    bif Nat.beq id 0 then some ([0, 1, 3, 0, 8, 31], .take 0 (.take 1 (.take 2 (.take 3 (.take 4 (.take 5 .done)))))) else none

theorem loops_sync_atomic_Bool_Store : LoopOk Try.prog Try.f77.ntmps G_sync_atomic_Bool_Store (codeOf Try.f77) := loopOk_none fun _ => rfl

theorem den_sync_atomic_Bool_Store (x : Option Addr) (val : Bool) (w : World) (R : Value → World → Prop) :
    F_sync_atomic_Bool_Store x val w (fun w1 => R (.tuple #[]) w1) = den Try.prog Try.f77.ntmps G_sync_atomic_Bool_Store (codeOf Try.f77) [] (postD Try.prog Try.f77.results.toList R) (entry [.pointer x, .bool val] 0) w := by kernel_rfl

theorem C_sync_atomic_Bool_Store.of {x : Option Addr} {val : Bool} {w : World} {R : World → Prop} (h : F_sync_atomic_Bool_Store x val w R) : C_sync_atomic_Bool_Store x val w R := by
  refine (calls_of_den (c := codeOf Try.f77) seat_ok seat_mixed Try.func77 (by kernel_rfl) loops_sync_atomic_Bool_Store (args := [.pointer x, .bool val]) rfl (R := fun v w1 => v = (.tuple #[] : Value) ∧ R w1) ?_).mono ?_
  · rw [← den_sync_atomic_Bool_Store]
    simpa using h
  · rintro en w1 ⟨v, he, rfl, h⟩
    exact ⟨he, h⟩

def F_internal_sync_Mutex_Lock (m : Option Addr) (w : World) (R : World → Prop) : Prop :=
  CallX Try.prog 83 [] w fun v w1 => v = (.tuple #[]) ∧
  NN m fun a =>
  CallX Try.prog 84 [.pointer (some (a.add 0)), .int .i32 0, .int .i32 1] w1 fun v_1 w1_1 => ∃ t6 : Bool, v_1 = (.bool t6) ∧
  If t6
  (CallX Try.prog 85 [] w1_1 fun v_2 w1_2 => v_2 = (.tuple #[]) ∧
  Run Try.prog (convert 140 144 (.pointer m)) w1_2 fun v_3 w1_3 => ∃ t9 : Value, v_3 = (t9) ∧
  CallX Try.prog 86 [t9] w1_3 fun v_4 w1_4 => v_4 = (.tuple #[]) ∧
  R w1_4)
  (C_internal_sync_Mutex_lockSlow m w1_1 fun w1_5 =>
  R w1_5)

def G_internal_sync_Mutex_Lock : Gen where
  loop := lookL []
  plan := fun _ => none

theorem loops_internal_sync_Mutex_Lock : LoopOk Try.prog Try.f79.ntmps G_internal_sync_Mutex_Lock (codeOf Try.f79) := loopOk_none fun _ => rfl

theorem den_internal_sync_Mutex_Lock (m : Option Addr) (w : World) (R : Value → World → Prop) :
    F_internal_sync_Mutex_Lock m w (fun w1 => R (.tuple #[]) w1) = den Try.prog Try.f79.ntmps G_internal_sync_Mutex_Lock (codeOf Try.f79) [] (postD Try.prog Try.f79.results.toList R) (entry [.pointer m] 0) w := by kernel_rfl

theorem C_internal_sync_Mutex_Lock.of {m : Option Addr} {w : World} {R : World → Prop} (h : F_internal_sync_Mutex_Lock m w R) : C_internal_sync_Mutex_Lock m w R := by
  refine (calls_of_den (c := codeOf Try.f79) seat_ok seat_mixed Try.func79 (by kernel_rfl) loops_internal_sync_Mutex_Lock (args := [.pointer m]) rfl (R := fun v w1 => v = (.tuple #[] : Value) ∧ R w1) ?_).mono ?_
  · rw [← den_internal_sync_Mutex_Lock]
    simpa using h
  · rintro en w1 ⟨v, he, rfl, h⟩
    exact ⟨he, h⟩

def F_internal_sync_Mutex_Unlock_k1 (R : World → Prop) (w1_5 : World) : Prop :=
  CallX Try.prog 85 [] w1_5 fun v_4 w1_6 => v_4 = (.tuple #[]) ∧
  R w1_6

def F_internal_sync_Mutex_Unlock (m : Option Addr) (w : World) (R : World → Prop) : Prop :=
  NN m fun a =>
  ∃ state : Int, w.cell? (a.add 0) = some (.int .i32 state) ∧
  Run Try.prog (convert 140 144 (.pointer m)) w fun v w1 => ∃ t8 : Value, v = (t8) ∧
  CallX Try.prog 88 [t8] w1 fun v_1 w1_1 => v_1 = (.tuple #[]) ∧
  CallX Try.prog 83 [] w1_1 fun v_2 w1_2 => v_2 = (.tuple #[]) ∧
  NN m fun a_1 =>
  CallX Try.prog 89 [.pointer (some (a_1.add 0)), .int .i32 (-1)] w1_2 fun v_3 w1_3 => ∃ t14 : Int, v_3 = (.int .i32 t14) ∧
  If (t14 != (0 : Int))
  (C_internal_sync_Mutex_unlockSlow m t14 w1_3 fun w1_4 =>
  F_internal_sync_Mutex_Unlock_k1 R w1_4)
  (F_internal_sync_Mutex_Unlock_k1 R w1_3)

def G_internal_sync_Mutex_Unlock : Gen where
  loop := lookL []
  plan := fun _ => none

theorem loops_internal_sync_Mutex_Unlock : LoopOk Try.prog Try.f80.ntmps G_internal_sync_Mutex_Unlock (codeOf Try.f80) := loopOk_none fun _ => rfl

theorem den_internal_sync_Mutex_Unlock (m : Option Addr) (w : World) (R : Value → World → Prop) :
    F_internal_sync_Mutex_Unlock m w (fun w1 => R (.tuple #[]) w1) = den Try.prog Try.f80.ntmps G_internal_sync_Mutex_Unlock (codeOf Try.f80) [] (postD Try.prog Try.f80.results.toList R) (entry [.pointer m] 0) w := by kernel_rfl

theorem C_internal_sync_Mutex_Unlock.of {m : Option Addr} {w : World} {R : World → Prop} (h : F_internal_sync_Mutex_Unlock m w R) : C_internal_sync_Mutex_Unlock m w R := by
  refine (calls_of_den (c := codeOf Try.f80) seat_ok seat_mixed Try.func80 (by kernel_rfl) loops_internal_sync_Mutex_Unlock (args := [.pointer m]) rfl (R := fun v w1 => v = (.tuple #[] : Value) ∧ R w1) ?_).mono ?_
  · rw [← den_internal_sync_Mutex_Unlock]
    simpa using h
  · rintro en w1 ⟨v, he, rfl, h⟩
    exact ⟨he, h⟩

def F_sync_atomic_b32 (b : Bool) (w : World) (R : Int → World → Prop) : Prop :=
  If b
  (R (1 : Int) w)
  (R (0 : Int) w)

def G_sync_atomic_b32 : Gen where
  loop := lookL []
  plan := fun _ => none

theorem loops_sync_atomic_b32 : LoopOk Try.prog Try.f82.ntmps G_sync_atomic_b32 (codeOf Try.f82) := loopOk_none fun _ => rfl

theorem den_sync_atomic_b32 (b : Bool) (w : World) (R : Value → World → Prop) :
    F_sync_atomic_b32 b w (fun r w1 => R (.int .u32 r) w1) = den Try.prog Try.f82.ntmps G_sync_atomic_b32 (codeOf Try.f82) [] (postD Try.prog Try.f82.results.toList R) (entry [.bool b] 0) w := by kernel_rfl

theorem C_sync_atomic_b32.of {b : Bool} {w : World} {R : Int → World → Prop} (h : F_sync_atomic_b32 b w R) : C_sync_atomic_b32 b w R := by
  refine (calls_of_den (c := codeOf Try.f82) seat_ok seat_mixed Try.func82 (by kernel_rfl) loops_sync_atomic_b32 (args := [.bool b]) rfl (R := fun v w1 => ∃ (r : Int), v = (.int .u32 r : Value) ∧ R r w1) ?_).mono ?_
  · rw [← den_sync_atomic_b32]
    have e : (fun r w1 => ∃ (r' : Int), (.int .u32 r : Value) = (.int .u32 r' : Value) ∧ R r' w1) = R := by
      funext r w1
      exact propext ⟨fun ⟨r', he, h⟩ => by simp at he; simp_all, fun h => ⟨_, rfl, h⟩⟩
    simpa only [e] using h
  · rintro en w1 ⟨v, he, r, rfl, h⟩
    exact ⟨_, he, h⟩

end Go.Proofs.Ytlngmelfjiemlaa
