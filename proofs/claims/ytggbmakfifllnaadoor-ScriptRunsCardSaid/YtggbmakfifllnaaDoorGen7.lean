/- The formulas of this seat's functions, held against the loaded program by the kernel. Printed by a program. -/
import Derived.Test.YtggbmakfifllnaaDoorGenC
set_option maxRecDepth 100000
set_option linter.unusedVariables false
namespace Go.Proofs.YtggbmakfifllnaaDoor
open Go Go.D Go.Proofs

def F_math_bits_Len64_k1 (R : Int → World → Prop) (x_3 : Int) (n_2 : Int) (w1_2 : World) : Prop :=
  0 ≤ (IntKind.u8.wrap x_3) ∧ ∃ b : UInt8, (⟨#[0, 1, 2, 2, 3, 3, 3, 3, 4, 4, 4, 4, 4, 4, 4, 4, 5, 5, 5, 5, 5, 5, 5, 5, 5, 5, 5, 5, 5, 5, 5, 5, 6, 6, 6, 6, 6, 6, 6, 6, 6, 6, 6, 6, 6, 6, 6, 6, 6, 6, 6, 6, 6, 6, 6, 6, 6, 6, 6, 6, 6, 6, 6, 6, 7, 7, 7, 7, 7, 7, 7, 7, 7, 7, 7, 7, 7, 7, 7, 7, 7, 7, 7, 7, 7, 7, 7, 7, 7, 7, 7, 7, 7, 7, 7, 7, 7, 7, 7, 7, 7, 7, 7, 7, 7, 7, 7, 7, 7, 7, 7, 7, 7, 7, 7, 7, 7, 7, 7, 7, 7, 7, 7, 7, 7, 7, 7, 7, 8, 8, 8, 8, 8, 8, 8, 8, 8, 8, 8, 8, 8, 8, 8, 8, 8, 8, 8, 8, 8, 8, 8, 8, 8, 8, 8, 8, 8, 8, 8, 8, 8, 8, 8, 8, 8, 8, 8, 8, 8, 8, 8, 8, 8, 8, 8, 8, 8, 8, 8, 8, 8, 8, 8, 8, 8, 8, 8, 8, 8, 8, 8, 8, 8, 8, 8, 8, 8, 8, 8, 8, 8, 8, 8, 8, 8, 8, 8, 8, 8, 8, 8, 8, 8, 8, 8, 8, 8, 8, 8, 8, 8, 8, 8, 8, 8, 8, 8, 8, 8, 8, 8, 8, 8, 8, 8, 8, 8, 8, 8, 8, 8, 8, 8, 8, 8, 8, 8, 8, 8, 8, 8, 8, 8, 8, 8, 8]⟩ : ByteArray)[(IntKind.u8.wrap x_3).toNat]? = some b ∧
  R (IntKind.i64.wrap (n_2 + (IntKind.i64.wrap (b.toNat : Int)))) w1_2

def F_math_bits_Len64_k2 (R : Int → World → Prop) (x_2 : Int) (n_1 : Int) (w1_1 : World) : Prop :=
  If (decide (x_2 ≥ (256 : Int)))
  (0 ≤ (8 : Int) ∧
  F_math_bits_Len64_k1 R (shrI .u64 x_2 (8 : Int)) (IntKind.i64.wrap (n_1 + (8 : Int))) w1_1)
  (F_math_bits_Len64_k1 R x_2 n_1 w1_1)

def F_math_bits_Len64_k3 (R : Int → World → Prop) (x_1 : Int) (n : Int) (w1 : World) : Prop :=
  If (decide (x_1 ≥ (65536 : Int)))
  (0 ≤ (16 : Int) ∧
  F_math_bits_Len64_k2 R (shrI .u64 x_1 (16 : Int)) (IntKind.i64.wrap (n + (16 : Int))) w1)
  (F_math_bits_Len64_k2 R x_1 n w1)

def F_math_bits_Len64 (x : Int) (w : World) (R : Int → World → Prop) : Prop :=
  If (decide (x ≥ (4294967296 : Int)))
  (0 ≤ (32 : Int) ∧
  F_math_bits_Len64_k3 R (shrI .u64 x (32 : Int)) (32 : Int) w)
  (F_math_bits_Len64_k3 R x (0 : Int) w)

def G_math_bits_Len64 : Gen where
  loop := lookL []
  plan := fun _ => none

theorem loops_math_bits_Len64 : LoopOk Tryd.prog Tryd.f68.ntmps G_math_bits_Len64 (codeOf Tryd.f68) := loopOk_none fun _ => rfl

theorem den_math_bits_Len64 (x : Int) (w : World) (R : Value → World → Prop) :
    F_math_bits_Len64 x w (fun r w1 => R (.int .i64 r) w1) = den Tryd.prog Tryd.f68.ntmps G_math_bits_Len64 (codeOf Tryd.f68) [] (postD Tryd.prog Tryd.f68.results.toList R) (entry [.int .u64 x] 0) w := by kernel_rfl

theorem C_math_bits_Len64.of {x : Int} {w : World} {R : Int → World → Prop} (h : F_math_bits_Len64 x w R) : C_math_bits_Len64 x w R := by
  refine (calls_of_den (c := codeOf Tryd.f68) seat_ok seat_mixed Tryd.func68 (by kernel_rfl) loops_math_bits_Len64 (args := [.int .u64 x]) rfl (R := fun v w1 => ∃ (r : Int), v = (.int .i64 r : Value) ∧ R r w1) ?_).mono ?_
  · rw [← den_math_bits_Len64]
    have e : (fun r w1 => ∃ (r' : Int), (.int .i64 r : Value) = (.int .i64 r' : Value) ∧ R r' w1) = R := by
      funext r w1
      exact propext ⟨fun ⟨r', he, h⟩ => by first | (simp at he; simp_all) | (cases he; exact h), fun h => ⟨_, rfl, h⟩⟩
    simpa only [e] using h
  · rintro en w1 ⟨v, he, r, rfl, h⟩
    exact ⟨_, he, h⟩

def F_internal_strconv_isPowerOfTwo (x : Int) (w : World) (R : Bool → World → Prop) : Prop :=
  R ((andI .i64 x (IntKind.i64.wrap (x - (1 : Int)))) == (0 : Int)) w

def G_internal_strconv_isPowerOfTwo : Gen where
  loop := lookL []
  plan := fun _ => none

theorem loops_internal_strconv_isPowerOfTwo : LoopOk Tryd.prog Tryd.f70.ntmps G_internal_strconv_isPowerOfTwo (codeOf Tryd.f70) := loopOk_none fun _ => rfl

theorem den_internal_strconv_isPowerOfTwo (x : Int) (w : World) (R : Value → World → Prop) :
    F_internal_strconv_isPowerOfTwo x w (fun r w1 => R (.bool r) w1) = den Tryd.prog Tryd.f70.ntmps G_internal_strconv_isPowerOfTwo (codeOf Tryd.f70) [] (postD Tryd.prog Tryd.f70.results.toList R) (entry [.int .i64 x] 0) w := by kernel_rfl

theorem C_internal_strconv_isPowerOfTwo.of {x : Int} {w : World} {R : Bool → World → Prop} (h : F_internal_strconv_isPowerOfTwo x w R) : C_internal_strconv_isPowerOfTwo x w R := by
  refine (calls_of_den (c := codeOf Tryd.f70) seat_ok seat_mixed Tryd.func70 (by kernel_rfl) loops_internal_strconv_isPowerOfTwo (args := [.int .i64 x]) rfl (R := fun v w1 => ∃ (r : Bool), v = (.bool r : Value) ∧ R r w1) ?_).mono ?_
  · rw [← den_internal_strconv_isPowerOfTwo]
    have e : (fun r w1 => ∃ (r' : Bool), (.bool r : Value) = (.bool r' : Value) ∧ R r' w1) = R := by
      funext r w1
      exact propext ⟨fun ⟨r', he, h⟩ => by first | (simp at he; simp_all) | (cases he; exact h), fun h => ⟨_, rfl, h⟩⟩
    simpa only [e] using h
  · rintro en w1 ⟨v, he, r, rfl, h⟩
    exact ⟨_, he, h⟩

def F_math_bits_TrailingZeros (x : Int) (w : World) (R : Int → World → Prop) : Prop :=
  C_math_bits_TrailingZeros64 x w fun t7 w1 =>
  R t7 w1

def G_math_bits_TrailingZeros : Gen where
  loop := lookL []
  plan := fun _ => none

theorem loops_math_bits_TrailingZeros : LoopOk Tryd.prog Tryd.f71.ntmps G_math_bits_TrailingZeros (codeOf Tryd.f71) := loopOk_none fun _ => rfl

theorem den_math_bits_TrailingZeros (x : Int) (w : World) (R : Value → World → Prop) :
    F_math_bits_TrailingZeros x w (fun r w1 => R (.int .i64 r) w1) = den Tryd.prog Tryd.f71.ntmps G_math_bits_TrailingZeros (codeOf Tryd.f71) [] (postD Tryd.prog Tryd.f71.results.toList R) (entry [.int .u64 x] 0) w := by kernel_rfl

theorem C_math_bits_TrailingZeros.of {x : Int} {w : World} {R : Int → World → Prop} (h : F_math_bits_TrailingZeros x w R) : C_math_bits_TrailingZeros x w R := by
  refine (calls_of_den (c := codeOf Tryd.f71) seat_ok seat_mixed Tryd.func71 (by kernel_rfl) loops_math_bits_TrailingZeros (args := [.int .u64 x]) rfl (R := fun v w1 => ∃ (r : Int), v = (.int .i64 r : Value) ∧ R r w1) ?_).mono ?_
  · rw [← den_math_bits_TrailingZeros]
    have e : (fun r w1 => ∃ (r' : Int), (.int .i64 r : Value) = (.int .i64 r' : Value) ∧ R r' w1) = R := by
      funext r w1
      exact propext ⟨fun ⟨r', he, h⟩ => by first | (simp at he; simp_all) | (cases he; exact h), fun h => ⟨_, rfl, h⟩⟩
    simpa only [e] using h
  · rintro en w1 ⟨v, he, r, rfl, h⟩
    exact ⟨_, he, h⟩

def F_math_bits_TrailingZeros32 (x : Int) (w : World) (R : Int → World → Prop) : Prop :=
  If (x == (0 : Int))
  (R (32 : Int) w)
  (0 ≤ (27 : Int) ∧
  0 ≤ (shrI .u32 (IntKind.u32.wrap ((andI .u32 x (IntKind.u32.wrap (0 - x))) * (125613361 : Int))) (27 : Int)) ∧ (shrI .u32 (IntKind.u32.wrap ((andI .u32 x (IntKind.u32.wrap (0 - x))) * (125613361 : Int))) (27 : Int)) < ((32 : Nat) : Int) ∧
  ∃ t12 : Int, w.cell? ((⟨2, 0, none⟩ : Addr).add ((shrI .u32 (IntKind.u32.wrap ((andI .u32 x (IntKind.u32.wrap (0 - x))) * (125613361 : Int))) (27 : Int)).toNat * 1)) = some (.int .u8 t12) ∧
  R (IntKind.i64.wrap t12) w)

def G_math_bits_TrailingZeros32 : Gen where
  loop := lookL []
  plan := fun _ => none

theorem loops_math_bits_TrailingZeros32 : LoopOk Tryd.prog Tryd.f72.ntmps G_math_bits_TrailingZeros32 (codeOf Tryd.f72) := loopOk_none fun _ => rfl

theorem den_math_bits_TrailingZeros32 (x : Int) (w : World) (R : Value → World → Prop) :
    F_math_bits_TrailingZeros32 x w (fun r w1 => R (.int .i64 r) w1) = den Tryd.prog Tryd.f72.ntmps G_math_bits_TrailingZeros32 (codeOf Tryd.f72) [] (postD Tryd.prog Tryd.f72.results.toList R) (entry [.int .u32 x] 0) w := by kernel_rfl

theorem C_math_bits_TrailingZeros32.of {x : Int} {w : World} {R : Int → World → Prop} (h : F_math_bits_TrailingZeros32 x w R) : C_math_bits_TrailingZeros32 x w R := by
  refine (calls_of_den (c := codeOf Tryd.f72) seat_ok seat_mixed Tryd.func72 (by kernel_rfl) loops_math_bits_TrailingZeros32 (args := [.int .u32 x]) rfl (R := fun v w1 => ∃ (r : Int), v = (.int .i64 r : Value) ∧ R r w1) ?_).mono ?_
  · rw [← den_math_bits_TrailingZeros32]
    have e : (fun r w1 => ∃ (r' : Int), (.int .i64 r : Value) = (.int .i64 r' : Value) ∧ R r' w1) = R := by
      funext r w1
      exact propext ⟨fun ⟨r', he, h⟩ => by first | (simp at he; simp_all) | (cases he; exact h), fun h => ⟨_, rfl, h⟩⟩
    simpa only [e] using h
  · rintro en w1 ⟨v, he, r, rfl, h⟩
    exact ⟨_, he, h⟩

def F_math_bits_TrailingZeros64 (x : Int) (w : World) (R : Int → World → Prop) : Prop :=
  If (x == (0 : Int))
  (R (64 : Int) w)
  (0 ≤ (58 : Int) ∧
  0 ≤ (shrI .u64 (IntKind.u64.wrap ((andI .u64 x (IntKind.u64.wrap (0 - x))) * (285870213051353865 : Int))) (58 : Int)) ∧ (shrI .u64 (IntKind.u64.wrap ((andI .u64 x (IntKind.u64.wrap (0 - x))) * (285870213051353865 : Int))) (58 : Int)) < ((64 : Nat) : Int) ∧
  ∃ t12 : Int, w.cell? ((⟨3, 0, none⟩ : Addr).add ((shrI .u64 (IntKind.u64.wrap ((andI .u64 x (IntKind.u64.wrap (0 - x))) * (285870213051353865 : Int))) (58 : Int)).toNat * 1)) = some (.int .u8 t12) ∧
  R (IntKind.i64.wrap t12) w)

def G_math_bits_TrailingZeros64 : Gen where
  loop := lookL []
  plan := fun _ => none

theorem loops_math_bits_TrailingZeros64 : LoopOk Tryd.prog Tryd.f73.ntmps G_math_bits_TrailingZeros64 (codeOf Tryd.f73) := loopOk_none fun _ => rfl

theorem den_math_bits_TrailingZeros64 (x : Int) (w : World) (R : Value → World → Prop) :
    F_math_bits_TrailingZeros64 x w (fun r w1 => R (.int .i64 r) w1) = den Tryd.prog Tryd.f73.ntmps G_math_bits_TrailingZeros64 (codeOf Tryd.f73) [] (postD Tryd.prog Tryd.f73.results.toList R) (entry [.int .u64 x] 0) w := by kernel_rfl

theorem C_math_bits_TrailingZeros64.of {x : Int} {w : World} {R : Int → World → Prop} (h : F_math_bits_TrailingZeros64 x w R) : C_math_bits_TrailingZeros64 x w R := by
  refine (calls_of_den (c := codeOf Tryd.f73) seat_ok seat_mixed Tryd.func73 (by kernel_rfl) loops_math_bits_TrailingZeros64 (args := [.int .u64 x]) rfl (R := fun v w1 => ∃ (r : Int), v = (.int .i64 r : Value) ∧ R r w1) ?_).mono ?_
  · rw [← den_math_bits_TrailingZeros64]
    have e : (fun r w1 => ∃ (r' : Int), (.int .i64 r : Value) = (.int .i64 r' : Value) ∧ R r' w1) = R := by
      funext r w1
      exact propext ⟨fun ⟨r', he, h⟩ => by first | (simp at he; simp_all) | (cases he; exact h), fun h => ⟨_, rfl, h⟩⟩
    simpa only [e] using h
  · rintro en w1 ⟨v, he, r, rfl, h⟩
    exact ⟨_, he, h⟩

end Go.Proofs.YtggbmakfifllnaaDoor
