/- The formulas of this seat's functions, held against the loaded program by the kernel. Printed by a program. -/
import Derived.Test.YtdaenijbokialaaGreatGenC
set_option maxRecDepth 100000
set_option linter.unusedVariables false
namespace Go.Proofs.YtdaenijbokialaaGreat
open Go Go.D Go.Proofs

def F_heap_Heap_Is (hx : Option Addr) (wx : Int) (namex : ByteArray) (arity : Int) (w : World) (R : Bool → World → Prop) : Prop :=
  C_heap_Heap_Deref hx wx w fun t15 w1 =>
  C_cell_Tag t15 w1 fun t17 w1_1 =>
  If (t17 == (3 : Int))
  (NN hx fun a =>
  ∃ atoms : Option Addr, (drw w1_1).cell? (a.add 2) = some (.pointer atoms) ∧
  C_cell_Number t15 (drw w1_1) fun t26 w1_2 =>
  w1_2.cell? (a.add 2) = (drw w1_1).cell? (a.add 2) ∧
  C_atom_Table_Name atoms t26 w1_2 fun t270 t271 w1_3 =>
  If (t270.toList == namex.toList)
  (R (arity == (0 : Int)) w1_3)
  (R false w1_3))
  (If (t17 == (2 : Int))
  (C_heap_Heap_fun hx t15 w1_1 fun t420 t421 w1_4 =>
  If (t420.toList == namex.toList)
  (R (t421 == arity) w1_4)
  (R false w1_4))
  (R false w1_1))

def G_heap_Heap_Is : Gen where
  loop := lookL []
  plan := fun id =>
    bif Nat.beq id 4 then some ([0, 1, 3, 7, 0, 16, 63, 127, 255, 255, 511, 2047], .take 0 (.take 1 (.take 2 (.take 3 (.take 4 (.take 5 (.take 6 (.take 7 (.take 8 (.take 9 (.take 10 (.take 11 .done)))))))))))) else none

theorem loops_heap_Heap_Is : LoopOk Tryz.prog Tryz.f23.ntmps G_heap_Heap_Is (codeOf Tryz.f23) := loopOk_none fun _ => rfl

theorem den_heap_Heap_Is (hx : Option Addr) (wx : Int) (namex : ByteArray) (arity : Int) (w : World) (R : Value → World → Prop) :
    F_heap_Heap_Is hx wx namex arity w (fun r w1 => R (.bool r) w1) = den Tryz.prog Tryz.f23.ntmps G_heap_Heap_Is (codeOf Tryz.f23) [] (postD Tryz.prog Tryz.f23.results.toList R) (entry [.pointer hx, .int .u64 wx, .string namex, .int .i64 arity] 0) w := by kernel_rfl

theorem C_heap_Heap_Is.of {hx : Option Addr} {wx : Int} {namex : ByteArray} {arity : Int} {w : World} {R : Bool → World → Prop} (h : F_heap_Heap_Is hx wx namex arity w R) : C_heap_Heap_Is hx wx namex arity w R := by
  refine (calls_of_den (c := codeOf Tryz.f23) seat_ok seat_mixed Tryz.func23 (by kernel_rfl) loops_heap_Heap_Is (args := [.pointer hx, .int .u64 wx, .string namex, .int .i64 arity]) rfl (R := fun v w1 => ∃ (r : Bool), v = (.bool r : Value) ∧ R r w1) ?_).mono ?_
  · rw [← den_heap_Heap_Is]
    have e : (fun r w1 => ∃ (r' : Bool), (.bool r : Value) = (.bool r' : Value) ∧ R r' w1) = R := by
      funext r w1
      exact propext ⟨fun ⟨r', he, h⟩ => by first | (simp at he; simp_all) | (cases he; exact h), fun h => ⟨_, rfl, h⟩⟩
    simpa only [e] using h
  · rintro en w1 ⟨v, he, r, rfl, h⟩
    exact ⟨_, he, h⟩

def F_heap_Heap_Deref (hx : Option Addr) (wx : Int) (w : World) (R : Int → World → Prop) : Prop :=
  C_heap_Heap_right hx wx w fun t7 w1 =>
  If (!t7)
  (R (0 : Int) w1)
  (C_heap_Heap_deref hx wx w1 fun t11 w1_1 =>
  R t11 w1_1)

def G_heap_Heap_Deref : Gen where
  loop := lookL []
  plan := fun _ => none

theorem loops_heap_Heap_Deref : LoopOk Tryz.prog Tryz.f24.ntmps G_heap_Heap_Deref (codeOf Tryz.f24) := loopOk_none fun _ => rfl

theorem den_heap_Heap_Deref (hx : Option Addr) (wx : Int) (w : World) (R : Value → World → Prop) :
    F_heap_Heap_Deref hx wx w (fun r w1 => R (.int .u64 r) w1) = den Tryz.prog Tryz.f24.ntmps G_heap_Heap_Deref (codeOf Tryz.f24) [] (postD Tryz.prog Tryz.f24.results.toList R) (entry [.pointer hx, .int .u64 wx] 0) w := by kernel_rfl

theorem C_heap_Heap_Deref.of {hx : Option Addr} {wx : Int} {w : World} {R : Int → World → Prop} (h : F_heap_Heap_Deref hx wx w R) : C_heap_Heap_Deref hx wx w R := by
  refine (calls_of_den (c := codeOf Tryz.f24) seat_ok seat_mixed Tryz.func24 (by kernel_rfl) loops_heap_Heap_Deref (args := [.pointer hx, .int .u64 wx]) rfl (R := fun v w1 => ∃ (r : Int), v = (.int .u64 r : Value) ∧ R r w1) ?_).mono ?_
  · rw [← den_heap_Heap_Deref]
    have e : (fun r w1 => ∃ (r' : Int), (.int .u64 r : Value) = (.int .u64 r' : Value) ∧ R r' w1) = R := by
      funext r w1
      exact propext ⟨fun ⟨r', he, h⟩ => by first | (simp at he; simp_all) | (cases he; exact h), fun h => ⟨_, rfl, h⟩⟩
    simpa only [e] using h
  · rintro en w1 ⟨v, he, r, rfl, h⟩
    exact ⟨_, he, h⟩

end Go.Proofs.YtdaenijbokialaaGreat
