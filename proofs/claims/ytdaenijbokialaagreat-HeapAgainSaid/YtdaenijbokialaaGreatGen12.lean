/- The formulas of this seat's functions, held against the loaded program by the kernel. Printed by a program. -/
import Derived.Test.YtdaenijbokialaaGreatGenC
set_option maxRecDepth 100000
set_option linter.unusedVariables false
namespace Go.Proofs.YtdaenijbokialaaGreat
open Go Go.D Go.Proofs

def F_heap_matcher_bind (m : Option Addr) (wx : Int) (x : Int) (w : World) (R : Bool → World → Prop) : Prop :=
  NN m fun a =>
  ∃ hx : Option Addr, w.cell? (a.add 0) = some (.pointer hx) ∧
  C_heap_Heap_bind hx wx x w fun t160 t161 w1 =>
  NN m fun a_1 =>
  ∃ ex : Int, w1.cell? (a_1.add 2) = some (.int .i64 ex) ∧
  NN m fun a_2 =>
  St w1 ((a_2.add 2).add 0) (.int .i64 (maxI ex t161)) fun w1_1 =>
  R t160 w1_1

def G_heap_matcher_bind : Gen where
  loop := lookL []
  plan := fun _ => none

theorem loops_heap_matcher_bind : LoopOk Tryz.prog Tryz.f129.ntmps G_heap_matcher_bind (codeOf Tryz.f129) := loopOk_none fun _ => rfl

theorem den_heap_matcher_bind (m : Option Addr) (wx : Int) (x : Int) (w : World) (R : Value → World → Prop) :
    F_heap_matcher_bind m wx x w (fun r w1 => R (.bool r) w1) = den Tryz.prog Tryz.f129.ntmps G_heap_matcher_bind (codeOf Tryz.f129) [] (postD Tryz.prog Tryz.f129.results.toList R) (entry [.pointer m, .int .u64 wx, .int .u64 x] 0) w := by kernel_rfl

theorem C_heap_matcher_bind.of {m : Option Addr} {wx : Int} {x : Int} {w : World} {R : Bool → World → Prop} (h : F_heap_matcher_bind m wx x w R) : C_heap_matcher_bind m wx x w R := by
  refine (calls_of_den (c := codeOf Tryz.f129) seat_ok seat_mixed Tryz.func129 (by kernel_rfl) loops_heap_matcher_bind (args := [.pointer m, .int .u64 wx, .int .u64 x]) rfl (R := fun v w1 => ∃ (r : Bool), v = (.bool r : Value) ∧ R r w1) ?_).mono ?_
  · rw [← den_heap_matcher_bind]
    have e : (fun r w1 => ∃ (r' : Bool), (.bool r : Value) = (.bool r' : Value) ∧ R r' w1) = R := by
      funext r w1
      exact propext ⟨fun ⟨r', he, h⟩ => by first | (simp at he; simp_all) | (cases he; exact h), fun h => ⟨_, rfl, h⟩⟩
    simpa only [e] using h
  · rintro en w1 ⟨v, he, r, rfl, h⟩
    exact ⟨_, he, h⟩

def F_pool_Pool_Free (p : Option Addr) (atx : Int) (w : World) (R : Bool → World → Prop) : Prop :=
  C_pool_Pool_Segment p atx w fun t8 w1 =>
  If (decide (t8 ≥ (0 : Int)))
  (NN p fun a =>
  ∃ lP : Option Addr, ∃ lN : Nat, ∃ lC : Nat, w1.cell? (a.add 0) = some (.slice lP lN lC) ∧
  0 ≤ t8 ∧ t8 < (lN : Int) ∧ NN lP fun a_1 =>
  C_pool_segment_meets (some (a_1.add (t8.toNat * 2))) atx (1 : Int) w1 fun t19 w1_1 =>
  R t19 w1_1)
  (R false w1)

def G_pool_Pool_Free : Gen where
  loop := lookL []
  plan := fun _ => none

theorem loops_pool_Pool_Free : LoopOk Tryz.prog Tryz.f130.ntmps G_pool_Pool_Free (codeOf Tryz.f130) := loopOk_none fun _ => rfl

theorem den_pool_Pool_Free (p : Option Addr) (atx : Int) (w : World) (R : Value → World → Prop) :
    F_pool_Pool_Free p atx w (fun r w1 => R (.bool r) w1) = den Tryz.prog Tryz.f130.ntmps G_pool_Pool_Free (codeOf Tryz.f130) [] (postD Tryz.prog Tryz.f130.results.toList R) (entry [.pointer p, .int .i64 atx] 0) w := by kernel_rfl

theorem C_pool_Pool_Free.of {p : Option Addr} {atx : Int} {w : World} {R : Bool → World → Prop} (h : F_pool_Pool_Free p atx w R) : C_pool_Pool_Free p atx w R := by
  refine (calls_of_den (c := codeOf Tryz.f130) seat_ok seat_mixed Tryz.func130 (by kernel_rfl) loops_pool_Pool_Free (args := [.pointer p, .int .i64 atx]) rfl (R := fun v w1 => ∃ (r : Bool), v = (.bool r : Value) ∧ R r w1) ?_).mono ?_
  · rw [← den_pool_Pool_Free]
    have e : (fun r w1 => ∃ (r' : Bool), (.bool r : Value) = (.bool r' : Value) ∧ R r' w1) = R := by
      funext r w1
      exact propext ⟨fun ⟨r', he, h⟩ => by first | (simp at he; simp_all) | (cases he; exact h), fun h => ⟨_, rfl, h⟩⟩
    simpa only [e] using h
  · rintro en w1 ⟨v, he, r, rfl, h⟩
    exact ⟨_, he, h⟩

def F_pool_Pool_last (p : Option Addr) (w : World) (R : Option Addr → World → Prop) : Prop :=
  NN p fun a =>
  ∃ lP : Option Addr, ∃ lN : Nat, ∃ lC : Nat, (drw w).cell? (a.add 0) = some (.slice lP lN lC) ∧
  NN p fun a_1 =>
  ∃ lP_1 : Option Addr, ∃ lN_1 : Nat, ∃ lC_1 : Nat, (drw w).cell? (a_1.add 0) = some (.slice lP_1 lN_1 lC_1) ∧
  0 ≤ (IntKind.i64.wrap ((lN_1 : Int) - (1 : Int))) ∧ (IntKind.i64.wrap ((lN_1 : Int) - (1 : Int))) < (lN : Int) ∧ NN lP fun a_2 =>
  R (some (a_2.add ((IntKind.i64.wrap ((lN_1 : Int) - (1 : Int))).toNat * 2))) (drw w)

def G_pool_Pool_last : Gen where
  loop := lookL []
  plan := fun id =>
    bif Nat.beq id 1 then some ([0, 1, 3, 7, 0, 16, 48, 112, 240, 496, 1023, 2047], .take 0 (.take 1 (.take 2 (.take 3 (.take 4 (.take 5 (.take 6 (.take 7 (.take 8 (.take 9 (.take 10 (.take 11 .done)))))))))))) else none

theorem loops_pool_Pool_last : LoopOk Tryz.prog Tryz.f131.ntmps G_pool_Pool_last (codeOf Tryz.f131) := loopOk_none fun _ => rfl

theorem den_pool_Pool_last (p : Option Addr) (w : World) (R : Value → World → Prop) :
    F_pool_Pool_last p w (fun r w1 => R (.pointer r) w1) = den Tryz.prog Tryz.f131.ntmps G_pool_Pool_last (codeOf Tryz.f131) [] (postD Tryz.prog Tryz.f131.results.toList R) (entry [.pointer p] 0) w := by kernel_rfl

theorem C_pool_Pool_last.of {p : Option Addr} {w : World} {R : Option Addr → World → Prop} (h : F_pool_Pool_last p w R) : C_pool_Pool_last p w R := by
  refine (calls_of_den (c := codeOf Tryz.f131) seat_ok seat_mixed Tryz.func131 (by kernel_rfl) loops_pool_Pool_last (args := [.pointer p]) rfl (R := fun v w1 => ∃ (r : Option Addr), v = (.pointer r : Value) ∧ R r w1) ?_).mono ?_
  · rw [← den_pool_Pool_last]
    have e : (fun r w1 => ∃ (r' : Option Addr), (.pointer r : Value) = (.pointer r' : Value) ∧ R r' w1) = R := by
      funext r w1
      exact propext ⟨fun ⟨r', he, h⟩ => by first | (simp at he; simp_all) | (cases he; exact h), fun h => ⟨_, rfl, h⟩⟩
    simpa only [e] using h
  · rintro en w1 ⟨v, he, r, rfl, h⟩
    exact ⟨_, he, h⟩

def F_atom_Table_ready (t : Option Addr) (w : World) (R : Bool → World → Prop) : Prop :=
  If t.isNone
  (R false w)
  (NN t fun a =>
  ∃ limitx : Int, w.cell? (a.add 4) = some (.int .i64 limitx) ∧
  If (limitx == (0 : Int))
  (R false w)
  (NN t fun a_1 =>
  C_sync_Once_Do (some (a_1.add 0)) (.func (.func 157) #[.pointer t] #[]) w fun w1 =>
  R true w1))

def G_atom_Table_ready : Gen where
  loop := lookL []
  plan := fun _ => none

theorem loops_atom_Table_ready : LoopOk Tryz.prog Tryz.f138.ntmps G_atom_Table_ready (codeOf Tryz.f138) := loopOk_none fun _ => rfl

theorem den_atom_Table_ready (t : Option Addr) (w : World) (R : Value → World → Prop) :
    F_atom_Table_ready t w (fun r w1 => R (.bool r) w1) = den Tryz.prog Tryz.f138.ntmps G_atom_Table_ready (codeOf Tryz.f138) [] (postD Tryz.prog Tryz.f138.results.toList R) (entry [.pointer t] 0) w := by kernel_rfl

theorem C_atom_Table_ready.of {t : Option Addr} {w : World} {R : Bool → World → Prop} (h : F_atom_Table_ready t w R) : C_atom_Table_ready t w R := by
  refine (calls_of_den (c := codeOf Tryz.f138) seat_ok seat_mixed Tryz.func138 (by kernel_rfl) loops_atom_Table_ready (args := [.pointer t]) rfl (R := fun v w1 => ∃ (r : Bool), v = (.bool r : Value) ∧ R r w1) ?_).mono ?_
  · rw [← den_atom_Table_ready]
    have e : (fun r w1 => ∃ (r' : Bool), (.bool r : Value) = (.bool r' : Value) ∧ R r' w1) = R := by
      funext r w1
      exact propext ⟨fun ⟨r', he, h⟩ => by first | (simp at he; simp_all) | (cases he; exact h), fun h => ⟨_, rfl, h⟩⟩
    simpa only [e] using h
  · rintro en w1 ⟨v, he, r, rfl, h⟩
    exact ⟨_, he, h⟩

def F_sync_atomic_Int64_Add (x : Option Addr) (delta : Int) (w : World) (R : Int → World → Prop) : Prop :=
  NN x fun a =>
  CallX Tryz.prog 158 [.pointer (some (a.add 0)), .int .i64 delta] w fun v w1 => ∃ t9 : Int, v = (.int .i64 t9) ∧
  R t9 w1

def G_sync_atomic_Int64_Add : Gen where
  loop := lookL []
  plan := fun _ => none

theorem loops_sync_atomic_Int64_Add : LoopOk Tryz.prog Tryz.f139.ntmps G_sync_atomic_Int64_Add (codeOf Tryz.f139) := loopOk_none fun _ => rfl

theorem den_sync_atomic_Int64_Add (x : Option Addr) (delta : Int) (w : World) (R : Value → World → Prop) :
    F_sync_atomic_Int64_Add x delta w (fun r w1 => R (.int .i64 r) w1) = den Tryz.prog Tryz.f139.ntmps G_sync_atomic_Int64_Add (codeOf Tryz.f139) [] (postD Tryz.prog Tryz.f139.results.toList R) (entry [.pointer x, .int .i64 delta] 0) w := by kernel_rfl

theorem C_sync_atomic_Int64_Add.of {x : Option Addr} {delta : Int} {w : World} {R : Int → World → Prop} (h : F_sync_atomic_Int64_Add x delta w R) : C_sync_atomic_Int64_Add x delta w R := by
  refine (calls_of_den (c := codeOf Tryz.f139) seat_ok seat_mixed Tryz.func139 (by kernel_rfl) loops_sync_atomic_Int64_Add (args := [.pointer x, .int .i64 delta]) rfl (R := fun v w1 => ∃ (r : Int), v = (.int .i64 r : Value) ∧ R r w1) ?_).mono ?_
  · rw [← den_sync_atomic_Int64_Add]
    have e : (fun r w1 => ∃ (r' : Int), (.int .i64 r : Value) = (.int .i64 r' : Value) ∧ R r' w1) = R := by
      funext r w1
      exact propext ⟨fun ⟨r', he, h⟩ => by first | (simp at he; simp_all) | (cases he; exact h), fun h => ⟨_, rfl, h⟩⟩
    simpa only [e] using h
  · rintro en w1 ⟨v, he, r, rfl, h⟩
    exact ⟨_, he, h⟩

def F_room_Room_Get (m : Option Addr) (i : Int) (w : World) (R : Int → Int → World → Prop) : Prop :=
  C_room_Room_has m i w fun t9 w1 =>
  If (t9 != (0 : Int))
  (R (0 : Int) t9 w1)
  (NN m fun a =>
  ∃ lP : Option Addr, ∃ lN : Nat, ∃ lC : Nat, w1.cell? (a.add 0) = some (.slice lP lN lC) ∧
  0 ≤ i ∧ i < (lN : Int) ∧ NN lP fun a_1 =>
  ∃ t19 : Int, w1.cell? (a_1.add (i.toNat * 1)) = some (.int .u64 t19) ∧
  R t19 (0 : Int) w1)

def G_room_Room_Get : Gen where
  loop := lookL []
  plan := fun _ => none

theorem loops_room_Room_Get : LoopOk Tryz.prog Tryz.f140.ntmps G_room_Room_Get (codeOf Tryz.f140) := loopOk_none fun _ => rfl

theorem den_room_Room_Get (m : Option Addr) (i : Int) (w : World) (R : Value → World → Prop) :
    F_room_Room_Get m i w (fun r0 r1 w1 => R (.tuple #[.int .u64 r0, .int .i64 r1]) w1) = den Tryz.prog Tryz.f140.ntmps G_room_Room_Get (codeOf Tryz.f140) [] (postD Tryz.prog Tryz.f140.results.toList R) (entry [.pointer m, .int .i64 i] 0) w := by kernel_rfl

theorem C_room_Room_Get.of {m : Option Addr} {i : Int} {w : World} {R : Int → Int → World → Prop} (h : F_room_Room_Get m i w R) : C_room_Room_Get m i w R := by
  refine (calls_of_den (c := codeOf Tryz.f140) seat_ok seat_mixed Tryz.func140 (by kernel_rfl) loops_room_Room_Get (args := [.pointer m, .int .i64 i]) rfl (R := fun v w1 => ∃ (r0 : Int) (r1 : Int), v = (.tuple #[.int .u64 r0, .int .i64 r1] : Value) ∧ R r0 r1 w1) ?_).mono ?_
  · rw [← den_room_Room_Get]
    have e : (fun r0 r1 w1 => ∃ (r0' : Int) (r1' : Int), (.tuple #[.int .u64 r0, .int .i64 r1] : Value) = (.tuple #[.int .u64 r0', .int .i64 r1'] : Value) ∧ R r0' r1' w1) = R := by
      funext r0 r1 w1
      exact propext ⟨fun ⟨r0', r1', he, h⟩ => by first | (simp at he; simp_all) | (cases he; exact h), fun h => ⟨_, _, rfl, h⟩⟩
    simpa only [e] using h
  · rintro en w1 ⟨v, he, r0, r1, rfl, h⟩
    exact ⟨_, _, he, h⟩

end Go.Proofs.YtdaenijbokialaaGreat
