/- The formulas of this seat's functions, held against the loaded program by the kernel. Printed by a program. -/
import Derived.Test.YtchbhocpmhlhjaaDoorGenC
set_option maxRecDepth 100000
set_option linter.unusedVariables false
namespace Go.Proofs.YtchbhocpmhlhjaaDoor
open Go Go.D Go.Proofs

def F_gosem_cut_init (w : World) (R : World → Prop) : Prop :=
  CallX Tryd.prog 1 [] w fun v w1 => v = (.tuple #[]) ∧
  R w1

def G_gosem_cut_init : Gen where
  loop := lookL []
  plan := fun _ => none

theorem loops_gosem_cut_init : LoopOk Tryd.prog Tryd.f2.ntmps G_gosem_cut_init (codeOf Tryd.f2) := loopOk_none fun _ => rfl

theorem den_gosem_cut_init  (w : World) (R : Value → World → Prop) :
    F_gosem_cut_init w (fun w1 => R (.tuple #[]) w1) = den Tryd.prog Tryd.f2.ntmps G_gosem_cut_init (codeOf Tryd.f2) [] (postD Tryd.prog Tryd.f2.results.toList R) (entry [] 0) w := by kernel_rfl

theorem C_gosem_cut_init.of {w : World} {R : World → Prop} (h : F_gosem_cut_init w R) : C_gosem_cut_init w R := by
  refine (calls_of_den (c := codeOf Tryd.f2) seat_ok seat_mixed Tryd.func2 (by kernel_rfl) loops_gosem_cut_init (args := []) rfl (R := fun v w1 => v = (.tuple #[] : Value) ∧ R w1) ?_).mono ?_
  · rw [← den_gosem_cut_init]
    simpa using h
  · rintro en w1 ⟨v, he, rfl, h⟩
    exact ⟨he, h⟩

def F_law01_CellMakes_k1 (R : Bool → World → Prop) (w1_7 : World) : Prop :=
  R false w1_7

def F_law01_CellMakes (tag : Int) (n : Int) (w : World) (R : Bool → World → Prop) : Prop :=
  C_cell_Make tag n w fun t100 t101 w1 =>
  C_law01_lives  w1 fun t13 w1_1 =>
  If (!t13)
  (R false w1_1)
  (C_ref01_May tag n w1_1 fun t17 w1_2 =>
  If (!t17)
  (If (t100 == (0 : Int))
  (R (t101 == (1 : Int)) w1_2)
  (R false w1_2))
  (If (t101 == (0 : Int))
  (C_ref01_Make tag n w1_2 fun t31 w1_3 =>
  If (t100 == t31)
  (C_cell_Tag t100 w1_3 fun t36 w1_4 =>
  If (t36 == tag)
  (C_cell_Number t100 w1_4 fun t42 w1_5 =>
  If (t42 == n)
  (C_cell_Is t100 tag w1_5 fun t49 w1_6 =>
  R t49 w1_6)
  (F_law01_CellMakes_k1 R w1_5))
  (F_law01_CellMakes_k1 R w1_4))
  (F_law01_CellMakes_k1 R w1_3))
  (F_law01_CellMakes_k1 R w1_2)))

def G_law01_CellMakes : Gen where
  loop := lookL []
  plan := fun _ => none

theorem loops_law01_CellMakes : LoopOk Tryd.prog Tryd.f3.ntmps G_law01_CellMakes (codeOf Tryd.f3) := loopOk_none fun _ => rfl

theorem den_law01_CellMakes (tag : Int) (n : Int) (w : World) (R : Value → World → Prop) :
    F_law01_CellMakes tag n w (fun r w1 => R (.bool r) w1) = den Tryd.prog Tryd.f3.ntmps G_law01_CellMakes (codeOf Tryd.f3) [] (postD Tryd.prog Tryd.f3.results.toList R) (entry [.int .i64 tag, .int .i64 n] 0) w := by kernel_rfl

theorem C_law01_CellMakes.of {tag : Int} {n : Int} {w : World} {R : Bool → World → Prop} (h : F_law01_CellMakes tag n w R) : C_law01_CellMakes tag n w R := by
  refine (calls_of_den (c := codeOf Tryd.f3) seat_ok seat_mixed Tryd.func3 (by kernel_rfl) loops_law01_CellMakes (args := [.int .i64 tag, .int .i64 n]) rfl (R := fun v w1 => ∃ (r : Bool), v = (.bool r : Value) ∧ R r w1) ?_).mono ?_
  · rw [← den_law01_CellMakes]
    have e : (fun r w1 => ∃ (r' : Bool), (.bool r : Value) = (.bool r' : Value) ∧ R r' w1) = R := by
      funext r w1
      exact propext ⟨fun ⟨r', he, h⟩ => by simp at he; simp_all, fun h => ⟨_, rfl, h⟩⟩
    simpa only [e] using h
  · rintro en w1 ⟨v, he, r, rfl, h⟩
    exact ⟨_, he, h⟩

def F_law01_CellReads_k1 (R : Bool → World → Prop) (w1_14 : World) : Prop :=
  R false w1_14

def F_law01_CellReads_k2 (wx : Int) (R : Bool → World → Prop) (t9 : Int) (t51 : Bool) (w1_15 : World) : Prop :=
  If t51
  (R false w1_15)
  (If (t9 == (0 : Int))
  (R true w1_15)
  (C_cell_Tag wx w1_15 fun t56 w1_16 =>
  C_cell_Number wx w1_16 fun t58 w1_17 =>
  C_cell_Make t56 t58 w1_17 fun t590 t591 w1_18 =>
  If (t591 == (0 : Int))
  (R (t590 == wx) w1_18)
  (R false w1_18)))

def F_law01_CellReads (wx : Int) (tag : Int) (w : World) (R : Bool → World → Prop) : Prop :=
  C_ref01_Tag wx w fun t9 w1 =>
  C_law01_lives  w1 fun t10 w1_1 =>
  If (!t10)
  (F_law01_CellReads_k1 R w1_1)
  (C_cell_Tag wx w1_1 fun t14 w1_2 =>
  If (t14 != t9)
  (F_law01_CellReads_k1 R w1_2)
  (C_cell_Number wx w1_2 fun t20 w1_3 =>
  C_ref01_Number wx w1_3 fun t22 w1_4 =>
  If (t20 != t22)
  (F_law01_CellReads_k1 R w1_4)
  (C_cell_Is wx tag w1_4 fun t28 w1_5 =>
  If (t9 == tag)
  (If (!(t28 == (decide (t9 > (0 : Int)))))
  (F_law01_CellReads_k1 R w1_5)
  (C_cell_Text wx w1_5 fun t40 w1_6 =>
  C_ref01_Text wx w1_6 fun t42 w1_7 =>
  If (!(t40.toList == t42.toList))
  (F_law01_CellReads_k1 R w1_7)
  (C_cell_Name tag w1_7 fun t47 w1_8 =>
  C_ref01_Name tag w1_8 fun t49 w1_9 =>
  F_law01_CellReads_k2 wx R t9 (!(t47.toList == t49.toList)) w1_9)))
  (If (!(t28 == false))
  (F_law01_CellReads_k1 R w1_5)
  (C_cell_Text wx w1_5 fun t40_1 w1_10 =>
  C_ref01_Text wx w1_10 fun t42_1 w1_11 =>
  If (!(t40_1.toList == t42_1.toList))
  (F_law01_CellReads_k1 R w1_11)
  (C_cell_Name tag w1_11 fun t47_1 w1_12 =>
  C_ref01_Name tag w1_12 fun t49_1 w1_13 =>
  F_law01_CellReads_k2 wx R t9 (!(t47_1.toList == t49_1.toList)) w1_13))))))

def G_law01_CellReads : Gen where
  loop := lookL []
  plan := fun _ => none

theorem loops_law01_CellReads : LoopOk Tryd.prog Tryd.f4.ntmps G_law01_CellReads (codeOf Tryd.f4) := loopOk_none fun _ => rfl

theorem den_law01_CellReads (wx : Int) (tag : Int) (w : World) (R : Value → World → Prop) :
    F_law01_CellReads wx tag w (fun r w1 => R (.bool r) w1) = den Tryd.prog Tryd.f4.ntmps G_law01_CellReads (codeOf Tryd.f4) [] (postD Tryd.prog Tryd.f4.results.toList R) (entry [.int .u64 wx, .int .i64 tag] 0) w := by kernel_rfl

theorem C_law01_CellReads.of {wx : Int} {tag : Int} {w : World} {R : Bool → World → Prop} (h : F_law01_CellReads wx tag w R) : C_law01_CellReads wx tag w R := by
  refine (calls_of_den (c := codeOf Tryd.f4) seat_ok seat_mixed Tryd.func4 (by kernel_rfl) loops_law01_CellReads (args := [.int .u64 wx, .int .i64 tag]) rfl (R := fun v w1 => ∃ (r : Bool), v = (.bool r : Value) ∧ R r w1) ?_).mono ?_
  · rw [← den_law01_CellReads]
    have e : (fun r w1 => ∃ (r' : Bool), (.bool r : Value) = (.bool r' : Value) ∧ R r' w1) = R := by
      funext r w1
      exact propext ⟨fun ⟨r', he, h⟩ => by simp at he; simp_all, fun h => ⟨_, rfl, h⟩⟩
    simpa only [e] using h
  · rintro en w1 ⟨v, he, r, rfl, h⟩
    exact ⟨_, he, h⟩

def F_law01_CellTexts_k1 (R : Bool → World → Prop) (w1_4 : World) : Prop :=
  R false w1_4

def F_law01_CellTexts_k2 (R : Bool → World → Prop) (w1_7 : World) : Prop :=
  R false w1_7

def F_law01_CellTexts_k3 (sx : ByteArray) (R : Bool → World → Prop) (wx_1 : Int) (w1 : World) : Prop :=
  C_cell_Text wx_1 w1 fun t16 w1_1 =>
  C_cell_Parse t16 w1_1 fun t170 t171 w1_2 =>
  C_law01_lives  w1_2 fun t20 w1_3 =>
  If (!t20)
  (F_law01_CellTexts_k1 R w1_3)
  (If (t171 != (0 : Int))
  (F_law01_CellTexts_k1 R w1_3)
  (If (t170 != wx_1)
  (R false w1_3)
  (If (decide ((sx.size : Int) > (100 : Int)))
  (R true w1_3)
  (C_cell_Parse sx w1_3 fun t360 t361 w1_5 =>
  C_ref01_Parse sx w1_5 fun t410 t411 w1_6 =>
  If (t360 == t410)
  (If ((t361 == (0 : Int)) == t411)
  (If t411
  (R true w1_6)
  (R (t361 == (10 : Int)) w1_6))
  (F_law01_CellTexts_k2 R w1_6))
  (F_law01_CellTexts_k2 R w1_6)))))

def F_law01_CellTexts (wx : Int) (sx : ByteArray) (w : World) (R : Bool → World → Prop) : Prop :=
  (8 : Int) ≠ 0 ∧
  If ((wx.tmod (8 : Int)) == (0 : Int))
  (F_law01_CellTexts_k3 sx R (0 : Int) w)
  (F_law01_CellTexts_k3 sx R wx w)

def G_law01_CellTexts : Gen where
  loop := lookL []
  plan := fun _ => none

theorem loops_law01_CellTexts : LoopOk Tryd.prog Tryd.f5.ntmps G_law01_CellTexts (codeOf Tryd.f5) := loopOk_none fun _ => rfl

theorem den_law01_CellTexts (wx : Int) (sx : ByteArray) (w : World) (R : Value → World → Prop) :
    F_law01_CellTexts wx sx w (fun r w1 => R (.bool r) w1) = den Tryd.prog Tryd.f5.ntmps G_law01_CellTexts (codeOf Tryd.f5) [] (postD Tryd.prog Tryd.f5.results.toList R) (entry [.int .u64 wx, .string sx] 0) w := by kernel_rfl

theorem C_law01_CellTexts.of {wx : Int} {sx : ByteArray} {w : World} {R : Bool → World → Prop} (h : F_law01_CellTexts wx sx w R) : C_law01_CellTexts wx sx w R := by
  refine (calls_of_den (c := codeOf Tryd.f5) seat_ok seat_mixed Tryd.func5 (by kernel_rfl) loops_law01_CellTexts (args := [.int .u64 wx, .string sx]) rfl (R := fun v w1 => ∃ (r : Bool), v = (.bool r : Value) ∧ R r w1) ?_).mono ?_
  · rw [← den_law01_CellTexts]
    have e : (fun r w1 => ∃ (r' : Bool), (.bool r : Value) = (.bool r' : Value) ∧ R r' w1) = R := by
      funext r w1
      exact propext ⟨fun ⟨r', he, h⟩ => by simp at he; simp_all, fun h => ⟨_, rfl, h⟩⟩
    simpa only [e] using h
  · rintro en w1 ⟨v, he, r, rfl, h⟩
    exact ⟨_, he, h⟩

def F_law01_CellApart_k1 (R : Bool → World → Prop) (w1_3 : World) : Prop :=
  C_law01_lives  w1_3 fun t35 w1_4 =>
  R t35 w1_4

def F_law01_CellApart_k2 (R : Bool → World → Prop) (t8 : Bool) (w1_6 : World) : Prop :=
  R t8 w1_6

def F_law01_CellApart (tag : Int) (n : Int) (other : Int) (m : Int) (w : World) (R : Bool → World → Prop) : Prop :=
  C_cell_Make tag n w fun t160 t161 w1 =>
  C_cell_Make other m w1 fun t220 t221 w1_1 =>
  C_law01_lives  w1_1 fun t25 w1_2 =>
  If (!t25)
  (F_law01_CellApart_k1 R w1_2)
  (If (t161 != (0 : Int))
  (F_law01_CellApart_k1 R w1_2)
  (If (t221 != (0 : Int))
  (C_law01_lives  w1_2 fun t35_1 w1_5 =>
  R t35_1 w1_5)
  (If (tag == other)
  (F_law01_CellApart_k2 R ((t160 == t220) == (n == m)) w1_2)
  (F_law01_CellApart_k2 R ((t160 == t220) == false) w1_2))))

def G_law01_CellApart : Gen where
  loop := lookL []
  plan := fun _ => none

theorem loops_law01_CellApart : LoopOk Tryd.prog Tryd.f6.ntmps G_law01_CellApart (codeOf Tryd.f6) := loopOk_none fun _ => rfl

theorem den_law01_CellApart (tag : Int) (n : Int) (other : Int) (m : Int) (w : World) (R : Value → World → Prop) :
    F_law01_CellApart tag n other m w (fun r w1 => R (.bool r) w1) = den Tryd.prog Tryd.f6.ntmps G_law01_CellApart (codeOf Tryd.f6) [] (postD Tryd.prog Tryd.f6.results.toList R) (entry [.int .i64 tag, .int .i64 n, .int .i64 other, .int .i64 m] 0) w := by kernel_rfl

theorem C_law01_CellApart.of {tag : Int} {n : Int} {other : Int} {m : Int} {w : World} {R : Bool → World → Prop} (h : F_law01_CellApart tag n other m w R) : C_law01_CellApart tag n other m w R := by
  refine (calls_of_den (c := codeOf Tryd.f6) seat_ok seat_mixed Tryd.func6 (by kernel_rfl) loops_law01_CellApart (args := [.int .i64 tag, .int .i64 n, .int .i64 other, .int .i64 m]) rfl (R := fun v w1 => ∃ (r : Bool), v = (.bool r : Value) ∧ R r w1) ?_).mono ?_
  · rw [← den_law01_CellApart]
    have e : (fun r w1 => ∃ (r' : Bool), (.bool r : Value) = (.bool r' : Value) ∧ R r' w1) = R := by
      funext r w1
      exact propext ⟨fun ⟨r', he, h⟩ => by simp at he; simp_all, fun h => ⟨_, rfl, h⟩⟩
    simpa only [e] using h
  · rintro en w1 ⟨v, he, r, rfl, h⟩
    exact ⟨_, he, h⟩

def F_law01_CellRises_k1 (R : Bool → World → Prop) (w1_3 : World) : Prop :=
  C_law01_lives  w1_3 fun t41 w1_4 =>
  R t41 w1_4

def F_law01_CellRises (tag : Int) (n : Int) (m : Int) (w : World) (R : Bool → World → Prop) : Prop :=
  C_cell_Make tag n w fun t140 t141 w1 =>
  C_cell_Make tag m w1 fun t200 t201 w1_1 =>
  C_law01_lives  w1_1 fun t23 w1_2 =>
  If (!t23)
  (F_law01_CellRises_k1 R w1_2)
  (If (t141 != (0 : Int))
  (F_law01_CellRises_k1 R w1_2)
  (If (t201 != (0 : Int))
  (F_law01_CellRises_k1 R w1_2)
  (If (decide (n < (0 : Int)))
  (F_law01_CellRises_k1 R w1_2)
  (If (decide (m < (0 : Int)))
  (C_law01_lives  w1_2 fun t41_1 w1_5 =>
  R t41_1 w1_5)
  (If ((decide (t140 < t200)) == (decide (n < m)))
  (R ((t140 == t200) == (n == m)) w1_2)
  (R false w1_2))))))

def G_law01_CellRises : Gen where
  loop := lookL []
  plan := fun _ => none

theorem loops_law01_CellRises : LoopOk Tryd.prog Tryd.f7.ntmps G_law01_CellRises (codeOf Tryd.f7) := loopOk_none fun _ => rfl

theorem den_law01_CellRises (tag : Int) (n : Int) (m : Int) (w : World) (R : Value → World → Prop) :
    F_law01_CellRises tag n m w (fun r w1 => R (.bool r) w1) = den Tryd.prog Tryd.f7.ntmps G_law01_CellRises (codeOf Tryd.f7) [] (postD Tryd.prog Tryd.f7.results.toList R) (entry [.int .i64 tag, .int .i64 n, .int .i64 m] 0) w := by kernel_rfl

theorem C_law01_CellRises.of {tag : Int} {n : Int} {m : Int} {w : World} {R : Bool → World → Prop} (h : F_law01_CellRises tag n m w R) : C_law01_CellRises tag n m w R := by
  refine (calls_of_den (c := codeOf Tryd.f7) seat_ok seat_mixed Tryd.func7 (by kernel_rfl) loops_law01_CellRises (args := [.int .i64 tag, .int .i64 n, .int .i64 m]) rfl (R := fun v w1 => ∃ (r : Bool), v = (.bool r : Value) ∧ R r w1) ?_).mono ?_
  · rw [← den_law01_CellRises]
    have e : (fun r w1 => ∃ (r' : Bool), (.bool r : Value) = (.bool r' : Value) ∧ R r' w1) = R := by
      funext r w1
      exact propext ⟨fun ⟨r', he, h⟩ => by simp at he; simp_all, fun h => ⟨_, rfl, h⟩⟩
    simpa only [e] using h
  · rintro en w1 ⟨v, he, r, rfl, h⟩
    exact ⟨_, he, h⟩

def F_cell_Make_k1 (R : Int → Int → World → Prop) (w1 : World) : Prop :=
  R (0 : Int) (1 : Int) w1

def F_cell_Make (tag : Int) (n : Int) (w : World) (R : Int → Int → World → Prop) : Prop :=
  If (decide (tag < (1 : Int)))
  (F_cell_Make_k1 R w)
  (If (decide (tag > (7 : Int)))
  (F_cell_Make_k1 R w)
  (If (decide (n < (-1152921504606846976)))
  (F_cell_Make_k1 R w)
  (If (decide (n > (1152921504606846975 : Int)))
  (R (0 : Int) (1 : Int) w)
  (0 ≤ (3 : Int) ∧
  R (orI .u64 (shlI .u64 (IntKind.u64.wrap n) (3 : Int)) (IntKind.u64.wrap tag)) (0 : Int) w))))

def G_cell_Make : Gen where
  loop := lookL []
  plan := fun _ => none

theorem loops_cell_Make : LoopOk Tryd.prog Tryd.f8.ntmps G_cell_Make (codeOf Tryd.f8) := loopOk_none fun _ => rfl

theorem den_cell_Make (tag : Int) (n : Int) (w : World) (R : Value → World → Prop) :
    F_cell_Make tag n w (fun r0 r1 w1 => R (.tuple #[.int .u64 r0, .int .i64 r1]) w1) = den Tryd.prog Tryd.f8.ntmps G_cell_Make (codeOf Tryd.f8) [] (postD Tryd.prog Tryd.f8.results.toList R) (entry [.int .i64 tag, .int .i64 n] 0) w := by kernel_rfl

theorem C_cell_Make.of {tag : Int} {n : Int} {w : World} {R : Int → Int → World → Prop} (h : F_cell_Make tag n w R) : C_cell_Make tag n w R := by
  refine (calls_of_den (c := codeOf Tryd.f8) seat_ok seat_mixed Tryd.func8 (by kernel_rfl) loops_cell_Make (args := [.int .i64 tag, .int .i64 n]) rfl (R := fun v w1 => ∃ (r0 : Int) (r1 : Int), v = (.tuple #[.int .u64 r0, .int .i64 r1] : Value) ∧ R r0 r1 w1) ?_).mono ?_
  · rw [← den_cell_Make]
    have e : (fun r0 r1 w1 => ∃ (r0' : Int) (r1' : Int), (.tuple #[.int .u64 r0, .int .i64 r1] : Value) = (.tuple #[.int .u64 r0', .int .i64 r1'] : Value) ∧ R r0' r1' w1) = R := by
      funext r0 r1 w1
      exact propext ⟨fun ⟨r0', r1', he, h⟩ => by simp at he; simp_all, fun h => ⟨_, _, rfl, h⟩⟩
    simpa only [e] using h
  · rintro en w1 ⟨v, he, r0, r1, rfl, h⟩
    exact ⟨_, _, he, h⟩

def F_law01_lives_k1 (R : Bool → World → Prop) (w1_10 : World) : Prop :=
  R false w1_10

def F_law01_lives (w : World) (R : Bool → World → Prop) : Prop :=
  C_cell_Make (4 : Int) (-1) w fun t100 t101 w1 =>
  C_cell_Make (0 : Int) (1 : Int) w1 fun t140 t141 w1_1 =>
  C_cell_Parse ⟨#[97, 116, 111, 109, 58, 53]⟩ w1_1 fun t180 t181 w1_2 =>
  C_cell_Parse ⟨#[97, 116, 111, 109, 58, 48, 53]⟩ w1_2 fun t220 t221 w1_3 =>
  If (t101 == (0 : Int))
  (If (t100 == (18446744073709551612 : Int))
  (If (t141 == (1 : Int))
  (If (t181 == (0 : Int))
  (If (t180 == (43 : Int))
  (If (t221 == (10 : Int))
  (C_cell_Tag t100 w1_3 fun t49 w1_4 =>
  If (t49 == (4 : Int))
  (C_cell_Number t100 w1_4 fun t54 w1_5 =>
  If (t54 == (-1))
  (C_cell_Is t100 (4 : Int) w1_5 fun t59 w1_6 =>
  If t59
  (C_cell_Is t100 (3 : Int) w1_6 fun t63 w1_7 =>
  If (!t63)
  (C_cell_Text t100 w1_7 fun t68 w1_8 =>
  If (t68.toList == (⟨#[105, 110, 116, 58, 45, 49]⟩ : ByteArray).toList)
  (C_cell_Name (1 : Int) w1_8 fun t72 w1_9 =>
  R (t72.toList == (⟨#[114, 101, 102]⟩ : ByteArray).toList) w1_9)
  (F_law01_lives_k1 R w1_8))
  (F_law01_lives_k1 R w1_7))
  (F_law01_lives_k1 R w1_6))
  (F_law01_lives_k1 R w1_5))
  (F_law01_lives_k1 R w1_4))
  (F_law01_lives_k1 R w1_3))
  (F_law01_lives_k1 R w1_3))
  (F_law01_lives_k1 R w1_3))
  (F_law01_lives_k1 R w1_3))
  (F_law01_lives_k1 R w1_3))
  (F_law01_lives_k1 R w1_3)

def G_law01_lives : Gen where
  loop := lookL []
  plan := fun _ => none

theorem loops_law01_lives : LoopOk Tryd.prog Tryd.f9.ntmps G_law01_lives (codeOf Tryd.f9) := loopOk_none fun _ => rfl

theorem den_law01_lives  (w : World) (R : Value → World → Prop) :
    F_law01_lives w (fun r w1 => R (.bool r) w1) = den Tryd.prog Tryd.f9.ntmps G_law01_lives (codeOf Tryd.f9) [] (postD Tryd.prog Tryd.f9.results.toList R) (entry [] 0) w := by kernel_rfl

theorem C_law01_lives.of {w : World} {R : Bool → World → Prop} (h : F_law01_lives w R) : C_law01_lives w R := by
  refine (calls_of_den (c := codeOf Tryd.f9) seat_ok seat_mixed Tryd.func9 (by kernel_rfl) loops_law01_lives (args := []) rfl (R := fun v w1 => ∃ (r : Bool), v = (.bool r : Value) ∧ R r w1) ?_).mono ?_
  · rw [← den_law01_lives]
    have e : (fun r w1 => ∃ (r' : Bool), (.bool r : Value) = (.bool r' : Value) ∧ R r' w1) = R := by
      funext r w1
      exact propext ⟨fun ⟨r', he, h⟩ => by simp at he; simp_all, fun h => ⟨_, rfl, h⟩⟩
    simpa only [e] using h
  · rintro en w1 ⟨v, he, r, rfl, h⟩
    exact ⟨_, he, h⟩

def F_ref01_May_k1 (R : Bool → World → Prop) (w1 : World) : Prop :=
  R false w1

def F_ref01_May (tag : Int) (n : Int) (w : World) (R : Bool → World → Prop) : Prop :=
  If (decide (tag ≥ (1 : Int)))
  (If (decide (tag ≤ (7 : Int)))
  (If (decide (n ≥ (-1152921504606846976)))
  (R (decide (n ≤ (1152921504606846975 : Int))) w)
  (F_ref01_May_k1 R w))
  (F_ref01_May_k1 R w))
  (F_ref01_May_k1 R w)

def G_ref01_May : Gen where
  loop := lookL []
  plan := fun _ => none

theorem loops_ref01_May : LoopOk Tryd.prog Tryd.f10.ntmps G_ref01_May (codeOf Tryd.f10) := loopOk_none fun _ => rfl

theorem den_ref01_May (tag : Int) (n : Int) (w : World) (R : Value → World → Prop) :
    F_ref01_May tag n w (fun r w1 => R (.bool r) w1) = den Tryd.prog Tryd.f10.ntmps G_ref01_May (codeOf Tryd.f10) [] (postD Tryd.prog Tryd.f10.results.toList R) (entry [.int .i64 tag, .int .i64 n] 0) w := by kernel_rfl

theorem C_ref01_May.of {tag : Int} {n : Int} {w : World} {R : Bool → World → Prop} (h : F_ref01_May tag n w R) : C_ref01_May tag n w R := by
  refine (calls_of_den (c := codeOf Tryd.f10) seat_ok seat_mixed Tryd.func10 (by kernel_rfl) loops_ref01_May (args := [.int .i64 tag, .int .i64 n]) rfl (R := fun v w1 => ∃ (r : Bool), v = (.bool r : Value) ∧ R r w1) ?_).mono ?_
  · rw [← den_ref01_May]
    have e : (fun r w1 => ∃ (r' : Bool), (.bool r : Value) = (.bool r' : Value) ∧ R r' w1) = R := by
      funext r w1
      exact propext ⟨fun ⟨r', he, h⟩ => by simp at he; simp_all, fun h => ⟨_, rfl, h⟩⟩
    simpa only [e] using h
  · rintro en w1 ⟨v, he, r, rfl, h⟩
    exact ⟨_, he, h⟩

def F_ref01_Make (tag : Int) (n : Int) (w : World) (R : Int → World → Prop) : Prop :=
  If (decide (n ≥ (0 : Int)))
  (R (IntKind.u64.wrap ((IntKind.u64.wrap ((8 : Int) * (IntKind.u64.wrap n))) + (IntKind.u64.wrap tag))) w)
  (R (IntKind.u64.wrap ((IntKind.u64.wrap ((8 : Int) * (IntKind.u64.wrap ((2305843009213693952 : Int) - (IntKind.u64.wrap (IntKind.i64.wrap (0 - n))))))) + (IntKind.u64.wrap tag))) w)

def G_ref01_Make : Gen where
  loop := lookL []
  plan := fun _ => none

theorem loops_ref01_Make : LoopOk Tryd.prog Tryd.f11.ntmps G_ref01_Make (codeOf Tryd.f11) := loopOk_none fun _ => rfl

theorem den_ref01_Make (tag : Int) (n : Int) (w : World) (R : Value → World → Prop) :
    F_ref01_Make tag n w (fun r w1 => R (.int .u64 r) w1) = den Tryd.prog Tryd.f11.ntmps G_ref01_Make (codeOf Tryd.f11) [] (postD Tryd.prog Tryd.f11.results.toList R) (entry [.int .i64 tag, .int .i64 n] 0) w := by kernel_rfl

theorem C_ref01_Make.of {tag : Int} {n : Int} {w : World} {R : Int → World → Prop} (h : F_ref01_Make tag n w R) : C_ref01_Make tag n w R := by
  refine (calls_of_den (c := codeOf Tryd.f11) seat_ok seat_mixed Tryd.func11 (by kernel_rfl) loops_ref01_Make (args := [.int .i64 tag, .int .i64 n]) rfl (R := fun v w1 => ∃ (r : Int), v = (.int .u64 r : Value) ∧ R r w1) ?_).mono ?_
  · rw [← den_ref01_Make]
    have e : (fun r w1 => ∃ (r' : Int), (.int .u64 r : Value) = (.int .u64 r' : Value) ∧ R r' w1) = R := by
      funext r w1
      exact propext ⟨fun ⟨r', he, h⟩ => by simp at he; simp_all, fun h => ⟨_, rfl, h⟩⟩
    simpa only [e] using h
  · rintro en w1 ⟨v, he, r, rfl, h⟩
    exact ⟨_, he, h⟩

def F_cell_Tag (wx : Int) (w : World) (R : Int → World → Prop) : Prop :=
  R (IntKind.i64.wrap (andI .u64 wx (7 : Int))) w

def G_cell_Tag : Gen where
  loop := lookL []
  plan := fun _ => none

theorem loops_cell_Tag : LoopOk Tryd.prog Tryd.f12.ntmps G_cell_Tag (codeOf Tryd.f12) := loopOk_none fun _ => rfl

theorem den_cell_Tag (wx : Int) (w : World) (R : Value → World → Prop) :
    F_cell_Tag wx w (fun r w1 => R (.int .i64 r) w1) = den Tryd.prog Tryd.f12.ntmps G_cell_Tag (codeOf Tryd.f12) [] (postD Tryd.prog Tryd.f12.results.toList R) (entry [.int .u64 wx] 0) w := by kernel_rfl

theorem C_cell_Tag.of {wx : Int} {w : World} {R : Int → World → Prop} (h : F_cell_Tag wx w R) : C_cell_Tag wx w R := by
  refine (calls_of_den (c := codeOf Tryd.f12) seat_ok seat_mixed Tryd.func12 (by kernel_rfl) loops_cell_Tag (args := [.int .u64 wx]) rfl (R := fun v w1 => ∃ (r : Int), v = (.int .i64 r : Value) ∧ R r w1) ?_).mono ?_
  · rw [← den_cell_Tag]
    have e : (fun r w1 => ∃ (r' : Int), (.int .i64 r : Value) = (.int .i64 r' : Value) ∧ R r' w1) = R := by
      funext r w1
      exact propext ⟨fun ⟨r', he, h⟩ => by simp at he; simp_all, fun h => ⟨_, rfl, h⟩⟩
    simpa only [e] using h
  · rintro en w1 ⟨v, he, r, rfl, h⟩
    exact ⟨_, he, h⟩

def F_cell_Number (wx : Int) (w : World) (R : Int → World → Prop) : Prop :=
  C_cell_Tag wx w fun t4 w1 =>
  If (t4 == (0 : Int))
  (R (0 : Int) w1)
  (0 ≤ (3 : Int) ∧
  R (shrI .i64 (IntKind.i64.wrap wx) (3 : Int)) w1)

def G_cell_Number : Gen where
  loop := lookL []
  plan := fun _ => none

theorem loops_cell_Number : LoopOk Tryd.prog Tryd.f13.ntmps G_cell_Number (codeOf Tryd.f13) := loopOk_none fun _ => rfl

theorem den_cell_Number (wx : Int) (w : World) (R : Value → World → Prop) :
    F_cell_Number wx w (fun r w1 => R (.int .i64 r) w1) = den Tryd.prog Tryd.f13.ntmps G_cell_Number (codeOf Tryd.f13) [] (postD Tryd.prog Tryd.f13.results.toList R) (entry [.int .u64 wx] 0) w := by kernel_rfl

theorem C_cell_Number.of {wx : Int} {w : World} {R : Int → World → Prop} (h : F_cell_Number wx w R) : C_cell_Number wx w R := by
  refine (calls_of_den (c := codeOf Tryd.f13) seat_ok seat_mixed Tryd.func13 (by kernel_rfl) loops_cell_Number (args := [.int .u64 wx]) rfl (R := fun v w1 => ∃ (r : Int), v = (.int .i64 r : Value) ∧ R r w1) ?_).mono ?_
  · rw [← den_cell_Number]
    have e : (fun r w1 => ∃ (r' : Int), (.int .i64 r : Value) = (.int .i64 r' : Value) ∧ R r' w1) = R := by
      funext r w1
      exact propext ⟨fun ⟨r', he, h⟩ => by simp at he; simp_all, fun h => ⟨_, rfl, h⟩⟩
    simpa only [e] using h
  · rintro en w1 ⟨v, he, r, rfl, h⟩
    exact ⟨_, he, h⟩

def F_cell_Is (wx : Int) (tag : Int) (w : World) (R : Bool → World → Prop) : Prop :=
  If (decide (tag > (0 : Int)))
  (C_cell_Tag wx w fun t9 w1 =>
  R (t9 == tag) w1)
  (R false w)

def G_cell_Is : Gen where
  loop := lookL []
  plan := fun _ => none

theorem loops_cell_Is : LoopOk Tryd.prog Tryd.f14.ntmps G_cell_Is (codeOf Tryd.f14) := loopOk_none fun _ => rfl

theorem den_cell_Is (wx : Int) (tag : Int) (w : World) (R : Value → World → Prop) :
    F_cell_Is wx tag w (fun r w1 => R (.bool r) w1) = den Tryd.prog Tryd.f14.ntmps G_cell_Is (codeOf Tryd.f14) [] (postD Tryd.prog Tryd.f14.results.toList R) (entry [.int .u64 wx, .int .i64 tag] 0) w := by kernel_rfl

theorem C_cell_Is.of {wx : Int} {tag : Int} {w : World} {R : Bool → World → Prop} (h : F_cell_Is wx tag w R) : C_cell_Is wx tag w R := by
  refine (calls_of_den (c := codeOf Tryd.f14) seat_ok seat_mixed Tryd.func14 (by kernel_rfl) loops_cell_Is (args := [.int .u64 wx, .int .i64 tag]) rfl (R := fun v w1 => ∃ (r : Bool), v = (.bool r : Value) ∧ R r w1) ?_).mono ?_
  · rw [← den_cell_Is]
    have e : (fun r w1 => ∃ (r' : Bool), (.bool r : Value) = (.bool r' : Value) ∧ R r' w1) = R := by
      funext r w1
      exact propext ⟨fun ⟨r', he, h⟩ => by simp at he; simp_all, fun h => ⟨_, rfl, h⟩⟩
    simpa only [e] using h
  · rintro en w1 ⟨v, he, r, rfl, h⟩
    exact ⟨_, he, h⟩

def F_ref01_Tag (wx : Int) (w : World) (R : Int → World → Prop) : Prop :=
  (8 : Int) ≠ 0 ∧
  R (IntKind.i64.wrap (wx.tmod (8 : Int))) w

def G_ref01_Tag : Gen where
  loop := lookL []
  plan := fun _ => none

theorem loops_ref01_Tag : LoopOk Tryd.prog Tryd.f15.ntmps G_ref01_Tag (codeOf Tryd.f15) := loopOk_none fun _ => rfl

theorem den_ref01_Tag (wx : Int) (w : World) (R : Value → World → Prop) :
    F_ref01_Tag wx w (fun r w1 => R (.int .i64 r) w1) = den Tryd.prog Tryd.f15.ntmps G_ref01_Tag (codeOf Tryd.f15) [] (postD Tryd.prog Tryd.f15.results.toList R) (entry [.int .u64 wx] 0) w := by kernel_rfl

theorem C_ref01_Tag.of {wx : Int} {w : World} {R : Int → World → Prop} (h : F_ref01_Tag wx w R) : C_ref01_Tag wx w R := by
  refine (calls_of_den (c := codeOf Tryd.f15) seat_ok seat_mixed Tryd.func15 (by kernel_rfl) loops_ref01_Tag (args := [.int .u64 wx]) rfl (R := fun v w1 => ∃ (r : Int), v = (.int .i64 r : Value) ∧ R r w1) ?_).mono ?_
  · rw [← den_ref01_Tag]
    have e : (fun r w1 => ∃ (r' : Int), (.int .i64 r : Value) = (.int .i64 r' : Value) ∧ R r' w1) = R := by
      funext r w1
      exact propext ⟨fun ⟨r', he, h⟩ => by simp at he; simp_all, fun h => ⟨_, rfl, h⟩⟩
    simpa only [e] using h
  · rintro en w1 ⟨v, he, r, rfl, h⟩
    exact ⟨_, he, h⟩

def F_ref01_Number (wx : Int) (w : World) (R : Int → World → Prop) : Prop :=
  (8 : Int) ≠ 0 ∧
  If ((wx.tmod (8 : Int)) == (0 : Int))
  (R (0 : Int) w)
  ((8 : Int) ≠ 0 ∧
  If (decide ((IntKind.u64.wrap (wx.tdiv (8 : Int))) < (1152921504606846976 : Int)))
  (R (IntKind.i64.wrap (IntKind.u64.wrap (wx.tdiv (8 : Int)))) w)
  (R (IntKind.i64.wrap (0 - (IntKind.i64.wrap (IntKind.u64.wrap ((2305843009213693952 : Int) - (IntKind.u64.wrap (wx.tdiv (8 : Int)))))))) w))

def G_ref01_Number : Gen where
  loop := lookL []
  plan := fun _ => none

theorem loops_ref01_Number : LoopOk Tryd.prog Tryd.f16.ntmps G_ref01_Number (codeOf Tryd.f16) := loopOk_none fun _ => rfl

theorem den_ref01_Number (wx : Int) (w : World) (R : Value → World → Prop) :
    F_ref01_Number wx w (fun r w1 => R (.int .i64 r) w1) = den Tryd.prog Tryd.f16.ntmps G_ref01_Number (codeOf Tryd.f16) [] (postD Tryd.prog Tryd.f16.results.toList R) (entry [.int .u64 wx] 0) w := by kernel_rfl

theorem C_ref01_Number.of {wx : Int} {w : World} {R : Int → World → Prop} (h : F_ref01_Number wx w R) : C_ref01_Number wx w R := by
  refine (calls_of_den (c := codeOf Tryd.f16) seat_ok seat_mixed Tryd.func16 (by kernel_rfl) loops_ref01_Number (args := [.int .u64 wx]) rfl (R := fun v w1 => ∃ (r : Int), v = (.int .i64 r : Value) ∧ R r w1) ?_).mono ?_
  · rw [← den_ref01_Number]
    have e : (fun r w1 => ∃ (r' : Int), (.int .i64 r : Value) = (.int .i64 r' : Value) ∧ R r' w1) = R := by
      funext r w1
      exact propext ⟨fun ⟨r', he, h⟩ => by simp at he; simp_all, fun h => ⟨_, rfl, h⟩⟩
    simpa only [e] using h
  · rintro en w1 ⟨v, he, r, rfl, h⟩
    exact ⟨_, he, h⟩

def F_cell_Text (wx : Int) (w : World) (R : ByteArray → World → Prop) : Prop :=
  C_cell_Tag wx w fun t4 w1 =>
  If (t4 == (0 : Int))
  (R ⟨#[46]⟩ w1)
  (C_cell_Tag wx w1 fun t7 w1_1 =>
  C_cell_Name t7 w1_1 fun t8 w1_2 =>
  ((t8.size + (⟨#[58]⟩ : ByteArray).size : Nat) : Int) ≤ IntKind.i64.max ∧
  C_cell_Number wx w1_2 fun t11 w1_3 =>
  C_strconv_Itoa t11 w1_3 fun t12 w1_4 =>
  (((t8 ++ (⟨#[58]⟩ : ByteArray)).size + t12.size : Nat) : Int) ≤ IntKind.i64.max ∧
  R ((t8 ++ (⟨#[58]⟩ : ByteArray)) ++ t12) w1_4)

def G_cell_Text : Gen where
  loop := lookL []
  plan := fun _ => none

theorem loops_cell_Text : LoopOk Tryd.prog Tryd.f17.ntmps G_cell_Text (codeOf Tryd.f17) := loopOk_none fun _ => rfl

theorem den_cell_Text (wx : Int) (w : World) (R : Value → World → Prop) :
    F_cell_Text wx w (fun r w1 => R (.string r) w1) = den Tryd.prog Tryd.f17.ntmps G_cell_Text (codeOf Tryd.f17) [] (postD Tryd.prog Tryd.f17.results.toList R) (entry [.int .u64 wx] 0) w := by kernel_rfl

theorem C_cell_Text.of {wx : Int} {w : World} {R : ByteArray → World → Prop} (h : F_cell_Text wx w R) : C_cell_Text wx w R := by
  refine (calls_of_den (c := codeOf Tryd.f17) seat_ok seat_mixed Tryd.func17 (by kernel_rfl) loops_cell_Text (args := [.int .u64 wx]) rfl (R := fun v w1 => ∃ (r : ByteArray), v = (.string r : Value) ∧ R r w1) ?_).mono ?_
  · rw [← den_cell_Text]
    have e : (fun r w1 => ∃ (r' : ByteArray), (.string r : Value) = (.string r' : Value) ∧ R r' w1) = R := by
      funext r w1
      exact propext ⟨fun ⟨r', he, h⟩ => by simp at he; simp_all, fun h => ⟨_, rfl, h⟩⟩
    simpa only [e] using h
  · rintro en w1 ⟨v, he, r, rfl, h⟩
    exact ⟨_, he, h⟩

def F_ref01_Text (wx : Int) (w : World) (R : ByteArray → World → Prop) : Prop :=
  (8 : Int) ≠ 0 ∧
  If ((wx.tmod (8 : Int)) == (0 : Int))
  (R ⟨#[46]⟩ w)
  (C_ref01_Tag wx w fun t7 w1 =>
  C_ref01_Name t7 w1 fun t8 w1_1 =>
  ((t8.size + (⟨#[58]⟩ : ByteArray).size : Nat) : Int) ≤ IntKind.i64.max ∧
  C_ref01_Number wx w1_1 fun t11 w1_2 =>
  C_ref01_Digits t11 w1_2 fun t12 w1_3 =>
  (((t8 ++ (⟨#[58]⟩ : ByteArray)).size + t12.size : Nat) : Int) ≤ IntKind.i64.max ∧
  R ((t8 ++ (⟨#[58]⟩ : ByteArray)) ++ t12) w1_3)

def G_ref01_Text : Gen where
  loop := lookL []
  plan := fun _ => none

theorem loops_ref01_Text : LoopOk Tryd.prog Tryd.f18.ntmps G_ref01_Text (codeOf Tryd.f18) := loopOk_none fun _ => rfl

theorem den_ref01_Text (wx : Int) (w : World) (R : Value → World → Prop) :
    F_ref01_Text wx w (fun r w1 => R (.string r) w1) = den Tryd.prog Tryd.f18.ntmps G_ref01_Text (codeOf Tryd.f18) [] (postD Tryd.prog Tryd.f18.results.toList R) (entry [.int .u64 wx] 0) w := by kernel_rfl

theorem C_ref01_Text.of {wx : Int} {w : World} {R : ByteArray → World → Prop} (h : F_ref01_Text wx w R) : C_ref01_Text wx w R := by
  refine (calls_of_den (c := codeOf Tryd.f18) seat_ok seat_mixed Tryd.func18 (by kernel_rfl) loops_ref01_Text (args := [.int .u64 wx]) rfl (R := fun v w1 => ∃ (r : ByteArray), v = (.string r : Value) ∧ R r w1) ?_).mono ?_
  · rw [← den_ref01_Text]
    have e : (fun r w1 => ∃ (r' : ByteArray), (.string r : Value) = (.string r' : Value) ∧ R r' w1) = R := by
      funext r w1
      exact propext ⟨fun ⟨r', he, h⟩ => by simp at he; simp_all, fun h => ⟨_, rfl, h⟩⟩
    simpa only [e] using h
  · rintro en w1 ⟨v, he, r, rfl, h⟩
    exact ⟨_, he, h⟩

def F_cell_Name (tag : Int) (w : World) (R : ByteArray → World → Prop) : Prop :=
  If (decide (tag < (0 : Int)))
  (R ⟨#[]⟩ w)
  (If (decide (tag > (7 : Int)))
  (R ⟨#[]⟩ w)
  (0 ≤ tag ∧ tag < ((8 : Nat) : Int) ∧
  ∃ t11 : ByteArray, w.cell? ((⟨0, 0, none⟩ : Addr).add (tag.toNat * 1)) = some (.string t11) ∧
  R t11 w))

def G_cell_Name : Gen where
  loop := lookL []
  plan := fun _ => none

theorem loops_cell_Name : LoopOk Tryd.prog Tryd.f19.ntmps G_cell_Name (codeOf Tryd.f19) := loopOk_none fun _ => rfl

theorem den_cell_Name (tag : Int) (w : World) (R : Value → World → Prop) :
    F_cell_Name tag w (fun r w1 => R (.string r) w1) = den Tryd.prog Tryd.f19.ntmps G_cell_Name (codeOf Tryd.f19) [] (postD Tryd.prog Tryd.f19.results.toList R) (entry [.int .i64 tag] 0) w := by kernel_rfl

theorem C_cell_Name.of {tag : Int} {w : World} {R : ByteArray → World → Prop} (h : F_cell_Name tag w R) : C_cell_Name tag w R := by
  refine (calls_of_den (c := codeOf Tryd.f19) seat_ok seat_mixed Tryd.func19 (by kernel_rfl) loops_cell_Name (args := [.int .i64 tag]) rfl (R := fun v w1 => ∃ (r : ByteArray), v = (.string r : Value) ∧ R r w1) ?_).mono ?_
  · rw [← den_cell_Name]
    have e : (fun r w1 => ∃ (r' : ByteArray), (.string r : Value) = (.string r' : Value) ∧ R r' w1) = R := by
      funext r w1
      exact propext ⟨fun ⟨r', he, h⟩ => by simp at he; simp_all, fun h => ⟨_, rfl, h⟩⟩
    simpa only [e] using h
  · rintro en w1 ⟨v, he, r, rfl, h⟩
    exact ⟨_, he, h⟩

def F_ref01_Name (tag : Int) (w : World) (R : ByteArray → World → Prop) : Prop :=
  If (tag == (1 : Int))
  (R ⟨#[114, 101, 102]⟩ w)
  (If (tag == (2 : Int))
  (R ⟨#[115, 116, 114]⟩ w)
  (If (tag == (3 : Int))
  (R ⟨#[97, 116, 111, 109]⟩ w)
  (If (tag == (4 : Int))
  (R ⟨#[105, 110, 116]⟩ w)
  (If (tag == (5 : Int))
  (R ⟨#[102, 117, 110]⟩ w)
  (If (tag == (6 : Int))
  (R ⟨#[102, 114, 101, 101]⟩ w)
  (If (tag == (7 : Int))
  (R ⟨#[116, 97, 103, 55]⟩ w)
  (R ⟨#[]⟩ w)))))))

def G_ref01_Name : Gen where
  loop := lookL []
  plan := fun _ => none

theorem loops_ref01_Name : LoopOk Tryd.prog Tryd.f20.ntmps G_ref01_Name (codeOf Tryd.f20) := loopOk_none fun _ => rfl

theorem den_ref01_Name (tag : Int) (w : World) (R : Value → World → Prop) :
    F_ref01_Name tag w (fun r w1 => R (.string r) w1) = den Tryd.prog Tryd.f20.ntmps G_ref01_Name (codeOf Tryd.f20) [] (postD Tryd.prog Tryd.f20.results.toList R) (entry [.int .i64 tag] 0) w := by kernel_rfl

theorem C_ref01_Name.of {tag : Int} {w : World} {R : ByteArray → World → Prop} (h : F_ref01_Name tag w R) : C_ref01_Name tag w R := by
  refine (calls_of_den (c := codeOf Tryd.f20) seat_ok seat_mixed Tryd.func20 (by kernel_rfl) loops_ref01_Name (args := [.int .i64 tag]) rfl (R := fun v w1 => ∃ (r : ByteArray), v = (.string r : Value) ∧ R r w1) ?_).mono ?_
  · rw [← den_ref01_Name]
    have e : (fun r w1 => ∃ (r' : ByteArray), (.string r : Value) = (.string r' : Value) ∧ R r' w1) = R := by
      funext r w1
      exact propext ⟨fun ⟨r', he, h⟩ => by simp at he; simp_all, fun h => ⟨_, rfl, h⟩⟩
    simpa only [e] using h
  · rintro en w1 ⟨v, he, r, rfl, h⟩
    exact ⟨_, he, h⟩

def F_cell_Parse (sx : ByteArray) (w : World) (R : Int → Int → World → Prop) : Prop :=
  If (sx.toList == (⟨#[46]⟩ : ByteArray).toList)
  (R (0 : Int) (0 : Int) w)
  (C_strings_Cut sx ⟨#[58]⟩ w fun t150 t151 t152 w1 =>
  C_strconv_ParseInt t151 (10 : Int) (64 : Int) w1 fun t210 t211 w1_1 =>
  isIf t211 ∧
  If (!isNilV t211)
  (R (0 : Int) (10 : Int) w1_1)
  (C_strconv_FormatInt t210 (10 : Int) w1_1 fun t28 w1_2 =>
  If (!(t28.toList == t151.toList))
  (R (0 : Int) (10 : Int) w1_2)
  (C_cell_tagOf t150 w1_2 fun t34 w1_3 =>
  C_cell_Make t34 t210 w1_3 fun t360 t361 w1_4 =>
  If (t361 != (0 : Int))
  (R (0 : Int) (10 : Int) w1_4)
  (R t360 (0 : Int) w1_4))))

def G_cell_Parse : Gen where
  loop := lookL []
  plan := fun _ => none

theorem loops_cell_Parse : LoopOk Tryd.prog Tryd.f21.ntmps G_cell_Parse (codeOf Tryd.f21) := loopOk_none fun _ => rfl

theorem den_cell_Parse (sx : ByteArray) (w : World) (R : Value → World → Prop) :
    F_cell_Parse sx w (fun r0 r1 w1 => R (.tuple #[.int .u64 r0, .int .i64 r1]) w1) = den Tryd.prog Tryd.f21.ntmps G_cell_Parse (codeOf Tryd.f21) [] (postD Tryd.prog Tryd.f21.results.toList R) (entry [.string sx] 0) w := by kernel_rfl

theorem C_cell_Parse.of {sx : ByteArray} {w : World} {R : Int → Int → World → Prop} (h : F_cell_Parse sx w R) : C_cell_Parse sx w R := by
  refine (calls_of_den (c := codeOf Tryd.f21) seat_ok seat_mixed Tryd.func21 (by kernel_rfl) loops_cell_Parse (args := [.string sx]) rfl (R := fun v w1 => ∃ (r0 : Int) (r1 : Int), v = (.tuple #[.int .u64 r0, .int .i64 r1] : Value) ∧ R r0 r1 w1) ?_).mono ?_
  · rw [← den_cell_Parse]
    have e : (fun r0 r1 w1 => ∃ (r0' : Int) (r1' : Int), (.tuple #[.int .u64 r0, .int .i64 r1] : Value) = (.tuple #[.int .u64 r0', .int .i64 r1'] : Value) ∧ R r0' r1' w1) = R := by
      funext r0 r1 w1
      exact propext ⟨fun ⟨r0', r1', he, h⟩ => by simp at he; simp_all, fun h => ⟨_, _, rfl, h⟩⟩
    simpa only [e] using h
  · rintro en w1 ⟨v, he, r0, r1, rfl, h⟩
    exact ⟨_, _, he, h⟩

structure S_ref01_Parse_L1 where
  tag : Int

def F_ref01_Parse_k1 (s : S_ref01_Parse_L1) (Kn : S_ref01_Parse_L1 → World → Prop) (w1_3 : World) : Prop :=
  Kn ⟨(IntKind.i64.wrap ((s.tag : Int) + (1 : Int)))⟩ w1_3

/-- One round. -/
def B_ref01_Parse_L1 (sx_1 : ByteArray) (s : S_ref01_Parse_L1) (w : World) (Kn : S_ref01_Parse_L1 → World → Prop) (Kx0 : World → Prop) (Kr : Int → Bool → World → Prop) : Prop :=
  If (decide ((s.tag : Int) ≤ (7 : Int)))
  (C_ref01_Name (s.tag : Int) w fun t15 w1 =>
  ((t15.size + (⟨#[58]⟩ : ByteArray).size : Nat) : Int) ≤ IntKind.i64.max ∧
  If (decide ((sx_1.size : Int) > ((t15 ++ (⟨#[58]⟩ : ByteArray)).size : Int)))
  (0 ≤ ((t15 ++ (⟨#[58]⟩ : ByteArray)).size : Int) ∧ ((t15 ++ (⟨#[58]⟩ : ByteArray)).size : Int) ≤ (sx_1.size : Int) ∧
  If ((sx_1.extract 0 ((t15 ++ (⟨#[58]⟩ : ByteArray)).size : Int).toNat).toList == (t15 ++ (⟨#[58]⟩ : ByteArray)).toList)
  (0 ≤ ((t15 ++ (⟨#[58]⟩ : ByteArray)).size : Int) ∧ ((t15 ++ (⟨#[58]⟩ : ByteArray)).size : Int) ≤ (sx_1.size : Int) ∧
  C_ref01_number (sx_1.extract ((t15 ++ (⟨#[58]⟩ : ByteArray)).size : Int).toNat sx_1.size) w1 fun t350 t351 w1_1 =>
  If (!t351)
  (Kr (0 : Int) false w1_1)
  (C_ref01_Make (s.tag : Int) t350 w1_1 fun t42 w1_2 =>
  Kr t42 true w1_2))
  (F_ref01_Parse_k1 s Kn w1))
  (F_ref01_Parse_k1 s Kn w1))
  (Kx0 w)

def F_ref01_Parse_L1 (sx_1 : ByteArray) (s : S_ref01_Parse_L1) (w : World) (Kx0 : World → Prop) (Kr : Int → Bool → World → Prop) : Prop :=
  LoopS (fun s w Kn => B_ref01_Parse_L1 sx_1 s w Kn Kx0 Kr) s w

def F_ref01_Parse (sx : ByteArray) (w : World) (R : Int → Bool → World → Prop) : Prop :=
  If (sx.toList == (⟨#[46]⟩ : ByteArray).toList)
  (R (0 : Int) true w)
  (F_ref01_Parse_L1 sx ⟨(1 : Int)⟩ w
  (fun w1_4 =>
  R (0 : Int) false w1_4)
  (fun t2_1 t3_1 w1_5 =>
  R t2_1 t3_1 w1_5))

def lit_ref01_Parse_L1 (f : ByteArray) (s : S_ref01_Parse_L1) : Env := [⟨0, .string f, none⟩, ⟨4, .int .i64 s.tag, none⟩]

def dec_ref01_Parse_L1 (e : Env) (K : ByteArray → S_ref01_Parse_L1 → Prop) : Prop :=
  onV (getV e 0) fun u1 =>
  asT u1 fun sx_1 =>
  onV (getV e 4) fun u2 =>
  asI .i64 u2 fun tag =>
    K (sx_1) ⟨tag⟩

theorem dec_ref01_Parse_L1_ok {N : Nat} (e : Env) (a : Act) (K : ByteArray → S_ref01_Parse_L1 → Prop) (hr : Rep N a e) (h0 : dec_ref01_Parse_L1 e K) : ∃ f s, K f s ∧ Rep N a (lit_ref01_Parse_L1 f s) := by
  unfold dec_ref01_Parse_L1 at h0
  obtain ⟨u1, g0, h1⟩ := onV_elim h0
  obtain ⟨sx_1, rfl, h2⟩ := asT_elim h1
  obtain ⟨u2, g4, h3⟩ := onV_elim h2
  obtain ⟨tag, rfl, h4⟩ := asI_elim h3
  exact ⟨_, _, h4, rep_less hr (by simp [lit_ref01_Parse_L1, g0, g4])⟩

def spec_ref01_Parse_L1 (Q : Post) (e : Env) (w : World) : Prop :=
  dec_ref01_Parse_L1 e fun f s => F_ref01_Parse_L1 f s w (fun w1 => Q (.exit 0) [] w1) (fun t2 t3 w1 => Q .ret [⟨2, .int .u64 t2, none⟩, ⟨3, .bool t3, none⟩] w1)

def G_ref01_Parse : Gen where
  loop := lookL [([false, true, false, true, true], spec_ref01_Parse_L1)]
  plan := fun _ => none

def dx_ref01_Parse_L1_0 (e : Env) (K : ByteArray → Prop) : Prop :=
  onV (getV e 0) fun u1 =>
  asT u1 fun sx_1 =>
    K (sx_1)

def dx_ref01_Parse_L1_ret (e : Env) (K : ByteArray → Int → Bool → Prop) : Prop :=
  onV (getV e 0) fun u1 =>
  asT u1 fun sx_1 =>
  onV (getV e 2) fun u2 =>
  asI .u64 u2 fun t2 =>
  onV (getV e 3) fun u3 =>
  asB u3 fun t3 =>
    K (sx_1) t2 t3

theorem body_ref01_Parse_L1 (f : ByteArray) (s : S_ref01_Parse_L1) (w : World) (Kn : ByteArray → S_ref01_Parse_L1 → World → Prop) (Kx0 : ByteArray → World → Prop) (Kr : ByteArray → Int → Bool → World → Prop) :
    B_ref01_Parse_L1 f s w (fun s1 w1 => Kn f s1 w1) (fun w1 => Kx0 f w1) (fun t2 t3 w1 => Kr f t2 t3 w1) =
    den Tryd.prog Tryd.f22.ntmps G_ref01_Parse (sub (codeOf Tryd.f22) [false, false, true, false, true, true]) [false, false, true, false, true, true] (roundQ (fun e w => dec_ref01_Parse_L1 e fun f s => Kn f s w) (fun e w => dx_ref01_Parse_L1_ret e fun f t2 t3 => Kr f t2 t3 w) (fun id e w => match Nat.beq id 0 with | true => dx_ref01_Parse_L1_0 e fun f => Kx0 f w | false => False)) (lit_ref01_Parse_L1 f s) w := by kernel_rfl

theorem ok_ref01_Parse_L1 : OneOk Tryd.prog Tryd.f22.ntmps G_ref01_Parse (codeOf Tryd.f22) [false, true, false, true, true] spec_ref01_Parse_L1 := by
  intro c hc ih Q e w a hr h
  have hcc : sub (codeOf Tryd.f22) [false, false, true, false, true, true] = c := sub_of_codeAt hc
  obtain ⟨f, s, h, hrep⟩ := dec_ref01_Parse_L1_ok e a _ hr h
  obtain ⟨J, μ, hj, hround⟩ := h
  refine loop_rule_deep seat_ok seat_mixed ih lit_ref01_Parse_L1 dec_ref01_Parse_L1 dec_ref01_Parse_L1_ok hc f J μ (Kr := fun e w => dx_ref01_Parse_L1_ret e fun f1 t2 t3 => f1 = f ∧ Q .ret [⟨2, .int .u64 t2, none⟩, ⟨3, .bool t3, none⟩] w) (Kx := fun id e w => match Nat.beq id 0 with | true => (dx_ref01_Parse_L1_0 e fun f1 => f1 = f ∧ Q (.exit 0) [] w) | false => False) ?_ ?_ ?_ s w a hj hrep
  · intro e a w hr h0
    unfold dx_ref01_Parse_L1_ret at h0
    obtain ⟨u1, g0, h1⟩ := onV_elim h0
    obtain ⟨sx_1, rfl, h2⟩ := asT_elim h1
    obtain ⟨u2, g2, h3⟩ := onV_elim h2
    obtain ⟨t2, rfl, h4⟩ := asI_elim h3
    obtain ⟨u3, g3, h5⟩ := onV_elim h4
    obtain ⟨t3, rfl, h6⟩ := asB_elim h5
    obtain ⟨hf, hq⟩ := h6
    subst hf
    exact ⟨_, rep_less hr (by simp [g2, g3]), hq⟩
  · intro id e a w hr h0
    (try dsimp only at h0)
    split at h0
    · rename_i hid
      obtain rfl := Nat.eq_of_beq_eq_true hid
      unfold dx_ref01_Parse_L1_0 at h0
      obtain ⟨u1, g0, h1⟩ := onV_elim h0
      obtain ⟨sx_1, rfl, h2⟩ := asT_elim h1
      obtain ⟨hf, hq⟩ := h2
      subst hf
      exact ⟨_, rep_less hr (by simp), hq⟩
    · exact h0.elim
  · intro s w hj
    have hb := hround s w hj
    rw [← hcc]
    have e1 := body_ref01_Parse_L1 f s w (fun f1 s1 w1 => f1 = f ∧ J s1 w1 ∧ μ s1 w1 < μ s w) (fun f1 w1 => f1 = f ∧ Q (.exit 0) [] w1) (fun f1 t2 t3 w1 => f1 = f ∧ Q .ret [⟨2, .int .u64 t2, none⟩, ⟨3, .bool t3, none⟩] w1)
    simp only [true_and] at e1
    exact cast e1 hb

theorem loops_ref01_Parse : LoopOk Tryd.prog Tryd.f22.ntmps G_ref01_Parse (codeOf Tryd.f22) := loopOk_list rfl ⟨ok_ref01_Parse_L1, trivial⟩

theorem den_ref01_Parse (sx : ByteArray) (w : World) (R : Value → World → Prop) :
    F_ref01_Parse sx w (fun r0 r1 w1 => R (.tuple #[.int .u64 r0, .bool r1]) w1) = den Tryd.prog Tryd.f22.ntmps G_ref01_Parse (codeOf Tryd.f22) [] (postD Tryd.prog Tryd.f22.results.toList R) (entry [.string sx] 0) w := by kernel_rfl

theorem C_ref01_Parse.of {sx : ByteArray} {w : World} {R : Int → Bool → World → Prop} (h : F_ref01_Parse sx w R) : C_ref01_Parse sx w R := by
  refine (calls_of_den (c := codeOf Tryd.f22) seat_ok seat_mixed Tryd.func22 (by kernel_rfl) loops_ref01_Parse (args := [.string sx]) rfl (R := fun v w1 => ∃ (r0 : Int) (r1 : Bool), v = (.tuple #[.int .u64 r0, .bool r1] : Value) ∧ R r0 r1 w1) ?_).mono ?_
  · rw [← den_ref01_Parse]
    have e : (fun r0 r1 w1 => ∃ (r0' : Int) (r1' : Bool), (.tuple #[.int .u64 r0, .bool r1] : Value) = (.tuple #[.int .u64 r0', .bool r1'] : Value) ∧ R r0' r1' w1) = R := by
      funext r0 r1 w1
      exact propext ⟨fun ⟨r0', r1', he, h⟩ => by simp at he; simp_all, fun h => ⟨_, _, rfl, h⟩⟩
    simpa only [e] using h
  · rintro en w1 ⟨v, he, r0, r1, rfl, h⟩
    exact ⟨_, _, he, h⟩

structure S_ref01_Digits_L1 where
  out : ByteArray
  u_1 : Int

/-- One round. -/
def B_ref01_Digits_L1 (n_1 : Int) (s : S_ref01_Digits_L1) (w : World) (Kn : S_ref01_Digits_L1 → World → Prop) (Kx0 : ByteArray → World → Prop) : Prop :=
  (10 : Int) ≠ 0 ∧
  (10 : Int) ≠ 0 ∧
  0 ≤ ((s.u_1 : Int).tmod (10 : Int)) ∧ ((s.u_1 : Int).tmod (10 : Int)) ≤ (IntKind.u64.wrap (((s.u_1 : Int).tmod (10 : Int)) + (1 : Int))) ∧ (IntKind.u64.wrap (((s.u_1 : Int).tmod (10 : Int)) + (1 : Int))) ≤ ((⟨#[48, 49, 50, 51, 52, 53, 54, 55, 56, 57]⟩ : ByteArray).size : Int) ∧
  ((((⟨#[48, 49, 50, 51, 52, 53, 54, 55, 56, 57]⟩ : ByteArray).extract ((s.u_1 : Int).tmod (10 : Int)).toNat (IntKind.u64.wrap (((s.u_1 : Int).tmod (10 : Int)) + (1 : Int))).toNat).size + s.out.size : Nat) : Int) ≤ IntKind.i64.max ∧
  (10 : Int) ≠ 0 ∧
  If ((IntKind.u64.wrap ((s.u_1 : Int).tdiv (10 : Int))) == (0 : Int))
  (Kx0 (((⟨#[48, 49, 50, 51, 52, 53, 54, 55, 56, 57]⟩ : ByteArray).extract ((s.u_1 : Int).tmod (10 : Int)).toNat (IntKind.u64.wrap (((s.u_1 : Int).tmod (10 : Int)) + (1 : Int))).toNat) ++ s.out) w)
  (Kn ⟨(((⟨#[48, 49, 50, 51, 52, 53, 54, 55, 56, 57]⟩ : ByteArray).extract ((s.u_1 : Int).tmod (10 : Int)).toNat (IntKind.u64.wrap (((s.u_1 : Int).tmod (10 : Int)) + (1 : Int))).toNat) ++ s.out), (IntKind.u64.wrap ((s.u_1 : Int).tdiv (10 : Int)))⟩ w)

def F_ref01_Digits_L1 (n_1 : Int) (s : S_ref01_Digits_L1) (w : World) (Kx0 : ByteArray → World → Prop) : Prop :=
  LoopS (fun s w Kn => B_ref01_Digits_L1 n_1 s w Kn Kx0) s w

def F_ref01_Digits_k1 (n : Int) (R : ByteArray → World → Prop) (u : Int) (w1 : World) : Prop :=
  F_ref01_Digits_L1 n ⟨⟨#[]⟩, u⟩ w1
  (fun out_2 w1_1 =>
  If (decide (n < (0 : Int)))
  ((((⟨#[45]⟩ : ByteArray).size + out_2.size : Nat) : Int) ≤ IntKind.i64.max ∧
  R ((⟨#[45]⟩ : ByteArray) ++ out_2) w1_1)
  (R out_2 w1_1))

def F_ref01_Digits (n : Int) (w : World) (R : ByteArray → World → Prop) : Prop :=
  If (decide (n < (0 : Int)))
  (F_ref01_Digits_k1 n R (IntKind.u64.wrap (0 - (IntKind.u64.wrap n))) w)
  (F_ref01_Digits_k1 n R (IntKind.u64.wrap n) w)

def lit_ref01_Digits_L1 (f : Int) (s : S_ref01_Digits_L1) : Env := [⟨0, .int .i64 f, none⟩, ⟨3, .string s.out, none⟩, ⟨4, .int .u64 s.u_1, none⟩]

def dec_ref01_Digits_L1 (e : Env) (K : Int → S_ref01_Digits_L1 → Prop) : Prop :=
  onV (getV e 0) fun u1 =>
  asI .i64 u1 fun n_1 =>
  onV (getV e 3) fun u2 =>
  asT u2 fun out =>
  onV (getV e 4) fun u3 =>
  asI .u64 u3 fun u_1 =>
    K (n_1) ⟨out, u_1⟩

theorem dec_ref01_Digits_L1_ok {N : Nat} (e : Env) (a : Act) (K : Int → S_ref01_Digits_L1 → Prop) (hr : Rep N a e) (h0 : dec_ref01_Digits_L1 e K) : ∃ f s, K f s ∧ Rep N a (lit_ref01_Digits_L1 f s) := by
  unfold dec_ref01_Digits_L1 at h0
  obtain ⟨u1, g0, h1⟩ := onV_elim h0
  obtain ⟨n_1, rfl, h2⟩ := asI_elim h1
  obtain ⟨u2, g3, h3⟩ := onV_elim h2
  obtain ⟨out, rfl, h4⟩ := asT_elim h3
  obtain ⟨u3, g4, h5⟩ := onV_elim h4
  obtain ⟨u_1, rfl, h6⟩ := asI_elim h5
  exact ⟨_, _, h6, rep_less hr (by simp [lit_ref01_Digits_L1, g0, g3, g4])⟩

def spec_ref01_Digits_L1 (Q : Post) (e : Env) (w : World) : Prop :=
  dec_ref01_Digits_L1 e fun f s => F_ref01_Digits_L1 f s w (fun out_1 w1 => Q (.exit 0) [⟨0, .int .i64 f, none⟩, ⟨3, .string out_1, none⟩] w1)

def G_ref01_Digits : Gen where
  loop := lookL [([false, false, true, true, true, true], spec_ref01_Digits_L1)]
  plan := fun _ => none

def dx_ref01_Digits_L1_0 (e : Env) (K : Int → ByteArray → Prop) : Prop :=
  onV (getV e 0) fun u1 =>
  asI .i64 u1 fun n_1 =>
  onV (getV e 3) fun u2 =>
  asT u2 fun out_1 =>
    K (n_1) out_1

theorem body_ref01_Digits_L1 (f : Int) (s : S_ref01_Digits_L1) (w : World) (Kn : Int → S_ref01_Digits_L1 → World → Prop) (Kx0 : Int → ByteArray → World → Prop) :
    B_ref01_Digits_L1 f s w (fun s1 w1 => Kn f s1 w1) (fun out_1 w1 => Kx0 f out_1 w1) =
    den Tryd.prog Tryd.f24.ntmps G_ref01_Digits (sub (codeOf Tryd.f24) [false, false, false, true, true, true, true]) [false, false, false, true, true, true, true] (roundQ (fun e w => dec_ref01_Digits_L1 e fun f s => Kn f s w) (fun e w => False) (fun id e w => match Nat.beq id 0 with | true => dx_ref01_Digits_L1_0 e fun f out_1 => Kx0 f out_1 w | false => False)) (lit_ref01_Digits_L1 f s) w := by kernel_rfl

theorem ok_ref01_Digits_L1 : OneOk Tryd.prog Tryd.f24.ntmps G_ref01_Digits (codeOf Tryd.f24) [false, false, true, true, true, true] spec_ref01_Digits_L1 := by
  intro c hc ih Q e w a hr h
  have hcc : sub (codeOf Tryd.f24) [false, false, false, true, true, true, true] = c := sub_of_codeAt hc
  obtain ⟨f, s, h, hrep⟩ := dec_ref01_Digits_L1_ok e a _ hr h
  obtain ⟨J, μ, hj, hround⟩ := h
  refine loop_rule_deep seat_ok seat_mixed ih lit_ref01_Digits_L1 dec_ref01_Digits_L1 dec_ref01_Digits_L1_ok hc f J μ (Kr := fun e w => False) (Kx := fun id e w => match Nat.beq id 0 with | true => (dx_ref01_Digits_L1_0 e fun f1 out_1 => f1 = f ∧ Q (.exit 0) [⟨0, .int .i64 f, none⟩, ⟨3, .string out_1, none⟩] w) | false => False) ?_ ?_ ?_ s w a hj hrep
  · intro e a w hr h
    exact h.elim
  · intro id e a w hr h0
    (try dsimp only at h0)
    split at h0
    · rename_i hid
      obtain rfl := Nat.eq_of_beq_eq_true hid
      unfold dx_ref01_Digits_L1_0 at h0
      obtain ⟨u1, g0, h1⟩ := onV_elim h0
      obtain ⟨n_1, rfl, h2⟩ := asI_elim h1
      obtain ⟨u2, g3, h3⟩ := onV_elim h2
      obtain ⟨out_1, rfl, h4⟩ := asT_elim h3
      obtain ⟨hf, hq⟩ := h4
      subst hf
      exact ⟨_, rep_less hr (by simp [g0, g3]), hq⟩
    · exact h0.elim
  · intro s w hj
    have hb := hround s w hj
    rw [← hcc]
    have e1 := body_ref01_Digits_L1 f s w (fun f1 s1 w1 => f1 = f ∧ J s1 w1 ∧ μ s1 w1 < μ s w) (fun f1 out_1 w1 => f1 = f ∧ Q (.exit 0) [⟨0, .int .i64 f, none⟩, ⟨3, .string out_1, none⟩] w1)
    simp only [true_and] at e1
    exact cast e1 hb

theorem loops_ref01_Digits : LoopOk Tryd.prog Tryd.f24.ntmps G_ref01_Digits (codeOf Tryd.f24) := loopOk_list rfl ⟨ok_ref01_Digits_L1, trivial⟩

theorem den_ref01_Digits (n : Int) (w : World) (R : Value → World → Prop) :
    F_ref01_Digits n w (fun r w1 => R (.string r) w1) = den Tryd.prog Tryd.f24.ntmps G_ref01_Digits (codeOf Tryd.f24) [] (postD Tryd.prog Tryd.f24.results.toList R) (entry [.int .i64 n] 0) w := by kernel_rfl

theorem C_ref01_Digits.of {n : Int} {w : World} {R : ByteArray → World → Prop} (h : F_ref01_Digits n w R) : C_ref01_Digits n w R := by
  refine (calls_of_den (c := codeOf Tryd.f24) seat_ok seat_mixed Tryd.func24 (by kernel_rfl) loops_ref01_Digits (args := [.int .i64 n]) rfl (R := fun v w1 => ∃ (r : ByteArray), v = (.string r : Value) ∧ R r w1) ?_).mono ?_
  · rw [← den_ref01_Digits]
    have e : (fun r w1 => ∃ (r' : ByteArray), (.string r : Value) = (.string r' : Value) ∧ R r' w1) = R := by
      funext r w1
      exact propext ⟨fun ⟨r', he, h⟩ => by simp at he; simp_all, fun h => ⟨_, rfl, h⟩⟩
    simpa only [e] using h
  · rintro en w1 ⟨v, he, r, rfl, h⟩
    exact ⟨_, he, h⟩

def F_strings_Cut (sx : ByteArray) (sep : ByteArray) (w : World) (R : ByteArray → ByteArray → Bool → World → Prop) : Prop :=
  C_internal_stringslite_Cut sx sep w fun t90 t91 t92 w1 =>
  R t90 t91 t92 w1

def G_strings_Cut : Gen where
  loop := lookL []
  plan := fun _ => none

theorem loops_strings_Cut : LoopOk Tryd.prog Tryd.f25.ntmps G_strings_Cut (codeOf Tryd.f25) := loopOk_none fun _ => rfl

theorem den_strings_Cut (sx : ByteArray) (sep : ByteArray) (w : World) (R : Value → World → Prop) :
    F_strings_Cut sx sep w (fun r0 r1 r2 w1 => R (.tuple #[.string r0, .string r1, .bool r2]) w1) = den Tryd.prog Tryd.f25.ntmps G_strings_Cut (codeOf Tryd.f25) [] (postD Tryd.prog Tryd.f25.results.toList R) (entry [.string sx, .string sep] 0) w := by kernel_rfl

theorem C_strings_Cut.of {sx : ByteArray} {sep : ByteArray} {w : World} {R : ByteArray → ByteArray → Bool → World → Prop} (h : F_strings_Cut sx sep w R) : C_strings_Cut sx sep w R := by
  refine (calls_of_den (c := codeOf Tryd.f25) seat_ok seat_mixed Tryd.func25 (by kernel_rfl) loops_strings_Cut (args := [.string sx, .string sep]) rfl (R := fun v w1 => ∃ (r0 : ByteArray) (r1 : ByteArray) (r2 : Bool), v = (.tuple #[.string r0, .string r1, .bool r2] : Value) ∧ R r0 r1 r2 w1) ?_).mono ?_
  · rw [← den_strings_Cut]
    have e : (fun r0 r1 r2 w1 => ∃ (r0' : ByteArray) (r1' : ByteArray) (r2' : Bool), (.tuple #[.string r0, .string r1, .bool r2] : Value) = (.tuple #[.string r0', .string r1', .bool r2'] : Value) ∧ R r0' r1' r2' w1) = R := by
      funext r0 r1 r2 w1
      exact propext ⟨fun ⟨r0', r1', r2', he, h⟩ => by simp at he; simp_all, fun h => ⟨_, _, _, rfl, h⟩⟩
    simpa only [e] using h
  · rintro en w1 ⟨v, he, r0, r1, r2, rfl, h⟩
    exact ⟨_, _, _, he, h⟩

structure S_cell_tagOf_L1 where
  t6 : Int

/-- One round. -/
def B_cell_tagOf_L1 (namex_1 : ByteArray) (t50_1 : ByteArray) (t51_1 : ByteArray) (t52_1 : ByteArray) (t53_1 : ByteArray) (t54_1 : ByteArray) (t55_1 : ByteArray) (t56_1 : ByteArray) (t57_1 : ByteArray) (s : S_cell_tagOf_L1) (w : World) (Kn : S_cell_tagOf_L1 → World → Prop) (Kx0 : World → Prop) (Kr : Int → World → Prop) : Prop :=
  If (decide ((s.t6 : Int) < (8 : Int)))
  (0 ≤ (s.t6 : Int) ∧ (s.t6 : Int) < ((8 : Nat) : Int) ∧
  ∃ el : ByteArray, (#[.string t50_1, .string t51_1, .string t52_1, .string t53_1, .string t54_1, .string t55_1, .string t56_1, .string t57_1] : Array Value)[(s.t6 : Int).toNat * 1]? = some (.string el) ∧
  If (el.toList == namex_1.toList)
  (Kr (s.t6 : Int) w)
  (Kn ⟨(IntKind.i64.wrap ((s.t6 : Int) + (1 : Int)))⟩ w))
  (Kx0 w)

def F_cell_tagOf_L1 (namex_1 : ByteArray) (t50_1 : ByteArray) (t51_1 : ByteArray) (t52_1 : ByteArray) (t53_1 : ByteArray) (t54_1 : ByteArray) (t55_1 : ByteArray) (t56_1 : ByteArray) (t57_1 : ByteArray) (s : S_cell_tagOf_L1) (w : World) (Kx0 : World → Prop) (Kr : Int → World → Prop) : Prop :=
  LoopS (fun s w Kn => B_cell_tagOf_L1 namex_1 t50_1 t51_1 t52_1 t53_1 t54_1 t55_1 t56_1 t57_1 s w Kn Kx0 Kr) s w

def F_cell_tagOf (namex : ByteArray) (w : World) (R : Int → World → Prop) : Prop :=
  ∃ t50 : ByteArray, w.cell? ((⟨0, 0, none⟩ : Addr).add 0) = some (.string t50) ∧
  ∃ t51 : ByteArray, w.cell? ((⟨0, 0, none⟩ : Addr).add 1) = some (.string t51) ∧
  ∃ t52 : ByteArray, w.cell? ((⟨0, 0, none⟩ : Addr).add 2) = some (.string t52) ∧
  ∃ t53 : ByteArray, w.cell? ((⟨0, 0, none⟩ : Addr).add 3) = some (.string t53) ∧
  ∃ t54 : ByteArray, w.cell? ((⟨0, 0, none⟩ : Addr).add 4) = some (.string t54) ∧
  ∃ t55 : ByteArray, w.cell? ((⟨0, 0, none⟩ : Addr).add 5) = some (.string t55) ∧
  ∃ t56 : ByteArray, w.cell? ((⟨0, 0, none⟩ : Addr).add 6) = some (.string t56) ∧
  ∃ t57 : ByteArray, w.cell? ((⟨0, 0, none⟩ : Addr).add 7) = some (.string t57) ∧
  F_cell_tagOf_L1 namex t50 t51 t52 t53 t54 t55 t56 t57 ⟨(0 : Int)⟩ w
  (fun w1 =>
  R (0 : Int) w1)
  (fun t2_1 w1_1 =>
  R t2_1 w1_1)

def lit_cell_tagOf_L1 (f : ByteArray × ByteArray × ByteArray × ByteArray × ByteArray × ByteArray × ByteArray × ByteArray × ByteArray) (s : S_cell_tagOf_L1) : Env := [⟨0, .string f.1, none⟩, ⟨5, .agg #[.string f.2.1, .string f.2.2.1, .string f.2.2.2.1, .string f.2.2.2.2.1, .string f.2.2.2.2.2.1, .string f.2.2.2.2.2.2.1, .string f.2.2.2.2.2.2.2.1, .string f.2.2.2.2.2.2.2.2], none⟩, ⟨6, .int .i64 s.t6, none⟩]

def dec_cell_tagOf_L1 (e : Env) (K : (ByteArray × ByteArray × ByteArray × ByteArray × ByteArray × ByteArray × ByteArray × ByteArray × ByteArray) → S_cell_tagOf_L1 → Prop) : Prop :=
  onV (getV e 0) fun u1 =>
  asT u1 fun namex_1 =>
  onV (getV e 5) fun u2 =>
  asL 8 u2 fun u3 =>
  asCons u3 fun u4 u5 =>
  asT u4 fun t50_1 =>
  asCons u5 fun u6 u7 =>
  asT u6 fun t51_1 =>
  asCons u7 fun u8 u9 =>
  asT u8 fun t52_1 =>
  asCons u9 fun u10 u11 =>
  asT u10 fun t53_1 =>
  asCons u11 fun u12 u13 =>
  asT u12 fun t54_1 =>
  asCons u13 fun u14 u15 =>
  asT u14 fun t55_1 =>
  asCons u15 fun u16 u17 =>
  asT u16 fun t56_1 =>
  asCons u17 fun u18 u19 =>
  asT u18 fun t57_1 =>
  asNil u19 <|
  onV (getV e 6) fun u20 =>
  asI .i64 u20 fun t6 =>
    K (namex_1, t50_1, t51_1, t52_1, t53_1, t54_1, t55_1, t56_1, t57_1) ⟨t6⟩

theorem dec_cell_tagOf_L1_ok {N : Nat} (e : Env) (a : Act) (K : (ByteArray × ByteArray × ByteArray × ByteArray × ByteArray × ByteArray × ByteArray × ByteArray × ByteArray) → S_cell_tagOf_L1 → Prop) (hr : Rep N a e) (h0 : dec_cell_tagOf_L1 e K) : ∃ f s, K f s ∧ Rep N a (lit_cell_tagOf_L1 f s) := by
  unfold dec_cell_tagOf_L1 at h0
  obtain ⟨u1, g0, h1⟩ := onV_elim h0
  obtain ⟨namex_1, rfl, h2⟩ := asT_elim h1
  obtain ⟨u2, g5, h3⟩ := onV_elim h2
  obtain ⟨u3, rfl, h4⟩ := asL_elim h3
  obtain ⟨u4, u5, rfl, h5⟩ := asCons_elim h4
  obtain ⟨t50_1, rfl, h6⟩ := asT_elim h5
  obtain ⟨u6, u7, rfl, h7⟩ := asCons_elim h6
  obtain ⟨t51_1, rfl, h8⟩ := asT_elim h7
  obtain ⟨u8, u9, rfl, h9⟩ := asCons_elim h8
  obtain ⟨t52_1, rfl, h10⟩ := asT_elim h9
  obtain ⟨u10, u11, rfl, h11⟩ := asCons_elim h10
  obtain ⟨t53_1, rfl, h12⟩ := asT_elim h11
  obtain ⟨u12, u13, rfl, h13⟩ := asCons_elim h12
  obtain ⟨t54_1, rfl, h14⟩ := asT_elim h13
  obtain ⟨u14, u15, rfl, h15⟩ := asCons_elim h14
  obtain ⟨t55_1, rfl, h16⟩ := asT_elim h15
  obtain ⟨u16, u17, rfl, h17⟩ := asCons_elim h16
  obtain ⟨t56_1, rfl, h18⟩ := asT_elim h17
  obtain ⟨u18, u19, rfl, h19⟩ := asCons_elim h18
  obtain ⟨t57_1, rfl, h20⟩ := asT_elim h19
  obtain ⟨rfl, h21⟩ := asNil_elim h20
  obtain ⟨u20, g6, h22⟩ := onV_elim h21
  obtain ⟨t6, rfl, h23⟩ := asI_elim h22
  exact ⟨_, _, h23, rep_less hr (by simp [lit_cell_tagOf_L1, g0, g5, g6])⟩

def spec_cell_tagOf_L1 (Q : Post) (e : Env) (w : World) : Prop :=
  dec_cell_tagOf_L1 e fun f s => F_cell_tagOf_L1 f.1 f.2.1 f.2.2.1 f.2.2.2.1 f.2.2.2.2.1 f.2.2.2.2.2.1 f.2.2.2.2.2.2.1 f.2.2.2.2.2.2.2.1 f.2.2.2.2.2.2.2.2 s w (fun w1 => Q (.exit 0) [] w1) (fun t2 w1 => Q .ret [⟨2, .int .i64 t2, none⟩] w1)

def G_cell_tagOf : Gen where
  loop := lookL [([false, true, false, true], spec_cell_tagOf_L1)]
  plan := fun _ => none

def dx_cell_tagOf_L1_0 (e : Env) (K : (ByteArray × ByteArray × ByteArray × ByteArray × ByteArray × ByteArray × ByteArray × ByteArray × ByteArray) → Prop) : Prop :=
  onV (getV e 0) fun u1 =>
  asT u1 fun namex_1 =>
  onV (getV e 5) fun u2 =>
  asL 8 u2 fun u3 =>
  asCons u3 fun u4 u5 =>
  asT u4 fun t50_1 =>
  asCons u5 fun u6 u7 =>
  asT u6 fun t51_1 =>
  asCons u7 fun u8 u9 =>
  asT u8 fun t52_1 =>
  asCons u9 fun u10 u11 =>
  asT u10 fun t53_1 =>
  asCons u11 fun u12 u13 =>
  asT u12 fun t54_1 =>
  asCons u13 fun u14 u15 =>
  asT u14 fun t55_1 =>
  asCons u15 fun u16 u17 =>
  asT u16 fun t56_1 =>
  asCons u17 fun u18 u19 =>
  asT u18 fun t57_1 =>
  asNil u19 <|
    K (namex_1, t50_1, t51_1, t52_1, t53_1, t54_1, t55_1, t56_1, t57_1)

def dx_cell_tagOf_L1_ret (e : Env) (K : (ByteArray × ByteArray × ByteArray × ByteArray × ByteArray × ByteArray × ByteArray × ByteArray × ByteArray) → Int → Prop) : Prop :=
  onV (getV e 0) fun u1 =>
  asT u1 fun namex_1 =>
  onV (getV e 5) fun u2 =>
  asL 8 u2 fun u3 =>
  asCons u3 fun u4 u5 =>
  asT u4 fun t50_1 =>
  asCons u5 fun u6 u7 =>
  asT u6 fun t51_1 =>
  asCons u7 fun u8 u9 =>
  asT u8 fun t52_1 =>
  asCons u9 fun u10 u11 =>
  asT u10 fun t53_1 =>
  asCons u11 fun u12 u13 =>
  asT u12 fun t54_1 =>
  asCons u13 fun u14 u15 =>
  asT u14 fun t55_1 =>
  asCons u15 fun u16 u17 =>
  asT u16 fun t56_1 =>
  asCons u17 fun u18 u19 =>
  asT u18 fun t57_1 =>
  asNil u19 <|
  onV (getV e 2) fun u20 =>
  asI .i64 u20 fun t2 =>
    K (namex_1, t50_1, t51_1, t52_1, t53_1, t54_1, t55_1, t56_1, t57_1) t2

theorem body_cell_tagOf_L1 (f : ByteArray × ByteArray × ByteArray × ByteArray × ByteArray × ByteArray × ByteArray × ByteArray × ByteArray) (s : S_cell_tagOf_L1) (w : World) (Kn : (ByteArray × ByteArray × ByteArray × ByteArray × ByteArray × ByteArray × ByteArray × ByteArray × ByteArray) → S_cell_tagOf_L1 → World → Prop) (Kx0 : (ByteArray × ByteArray × ByteArray × ByteArray × ByteArray × ByteArray × ByteArray × ByteArray × ByteArray) → World → Prop) (Kr : (ByteArray × ByteArray × ByteArray × ByteArray × ByteArray × ByteArray × ByteArray × ByteArray × ByteArray) → Int → World → Prop) :
    B_cell_tagOf_L1 f.1 f.2.1 f.2.2.1 f.2.2.2.1 f.2.2.2.2.1 f.2.2.2.2.2.1 f.2.2.2.2.2.2.1 f.2.2.2.2.2.2.2.1 f.2.2.2.2.2.2.2.2 s w (fun s1 w1 => Kn f s1 w1) (fun w1 => Kx0 f w1) (fun t2 w1 => Kr f t2 w1) =
    den Tryd.prog Tryd.f28.ntmps G_cell_tagOf (sub (codeOf Tryd.f28) [false, false, true, false, true]) [false, false, true, false, true] (roundQ (fun e w => dec_cell_tagOf_L1 e fun f s => Kn f s w) (fun e w => dx_cell_tagOf_L1_ret e fun f t2 => Kr f t2 w) (fun id e w => match Nat.beq id 0 with | true => dx_cell_tagOf_L1_0 e fun f => Kx0 f w | false => False)) (lit_cell_tagOf_L1 f s) w := by kernel_rfl

theorem ok_cell_tagOf_L1 : OneOk Tryd.prog Tryd.f28.ntmps G_cell_tagOf (codeOf Tryd.f28) [false, true, false, true] spec_cell_tagOf_L1 := by
  intro c hc ih Q e w a hr h
  have hcc : sub (codeOf Tryd.f28) [false, false, true, false, true] = c := sub_of_codeAt hc
  obtain ⟨f, s, h, hrep⟩ := dec_cell_tagOf_L1_ok e a _ hr h
  obtain ⟨J, μ, hj, hround⟩ := h
  refine loop_rule_deep seat_ok seat_mixed ih lit_cell_tagOf_L1 dec_cell_tagOf_L1 dec_cell_tagOf_L1_ok hc f J μ (Kr := fun e w => dx_cell_tagOf_L1_ret e fun f1 t2 => f1 = f ∧ Q .ret [⟨2, .int .i64 t2, none⟩] w) (Kx := fun id e w => match Nat.beq id 0 with | true => (dx_cell_tagOf_L1_0 e fun f1 => f1 = f ∧ Q (.exit 0) [] w) | false => False) ?_ ?_ ?_ s w a hj hrep
  · intro e a w hr h0
    unfold dx_cell_tagOf_L1_ret at h0
    obtain ⟨u1, g0, h1⟩ := onV_elim h0
    obtain ⟨namex_1, rfl, h2⟩ := asT_elim h1
    obtain ⟨u2, g5, h3⟩ := onV_elim h2
    obtain ⟨u3, rfl, h4⟩ := asL_elim h3
    obtain ⟨u4, u5, rfl, h5⟩ := asCons_elim h4
    obtain ⟨t50_1, rfl, h6⟩ := asT_elim h5
    obtain ⟨u6, u7, rfl, h7⟩ := asCons_elim h6
    obtain ⟨t51_1, rfl, h8⟩ := asT_elim h7
    obtain ⟨u8, u9, rfl, h9⟩ := asCons_elim h8
    obtain ⟨t52_1, rfl, h10⟩ := asT_elim h9
    obtain ⟨u10, u11, rfl, h11⟩ := asCons_elim h10
    obtain ⟨t53_1, rfl, h12⟩ := asT_elim h11
    obtain ⟨u12, u13, rfl, h13⟩ := asCons_elim h12
    obtain ⟨t54_1, rfl, h14⟩ := asT_elim h13
    obtain ⟨u14, u15, rfl, h15⟩ := asCons_elim h14
    obtain ⟨t55_1, rfl, h16⟩ := asT_elim h15
    obtain ⟨u16, u17, rfl, h17⟩ := asCons_elim h16
    obtain ⟨t56_1, rfl, h18⟩ := asT_elim h17
    obtain ⟨u18, u19, rfl, h19⟩ := asCons_elim h18
    obtain ⟨t57_1, rfl, h20⟩ := asT_elim h19
    obtain ⟨rfl, h21⟩ := asNil_elim h20
    obtain ⟨u20, g2, h22⟩ := onV_elim h21
    obtain ⟨t2, rfl, h23⟩ := asI_elim h22
    obtain ⟨hf, hq⟩ := h23
    subst hf
    exact ⟨_, rep_less hr (by simp [g2]), hq⟩
  · intro id e a w hr h0
    (try dsimp only at h0)
    split at h0
    · rename_i hid
      obtain rfl := Nat.eq_of_beq_eq_true hid
      unfold dx_cell_tagOf_L1_0 at h0
      obtain ⟨u1, g0, h1⟩ := onV_elim h0
      obtain ⟨namex_1, rfl, h2⟩ := asT_elim h1
      obtain ⟨u2, g5, h3⟩ := onV_elim h2
      obtain ⟨u3, rfl, h4⟩ := asL_elim h3
      obtain ⟨u4, u5, rfl, h5⟩ := asCons_elim h4
      obtain ⟨t50_1, rfl, h6⟩ := asT_elim h5
      obtain ⟨u6, u7, rfl, h7⟩ := asCons_elim h6
      obtain ⟨t51_1, rfl, h8⟩ := asT_elim h7
      obtain ⟨u8, u9, rfl, h9⟩ := asCons_elim h8
      obtain ⟨t52_1, rfl, h10⟩ := asT_elim h9
      obtain ⟨u10, u11, rfl, h11⟩ := asCons_elim h10
      obtain ⟨t53_1, rfl, h12⟩ := asT_elim h11
      obtain ⟨u12, u13, rfl, h13⟩ := asCons_elim h12
      obtain ⟨t54_1, rfl, h14⟩ := asT_elim h13
      obtain ⟨u14, u15, rfl, h15⟩ := asCons_elim h14
      obtain ⟨t55_1, rfl, h16⟩ := asT_elim h15
      obtain ⟨u16, u17, rfl, h17⟩ := asCons_elim h16
      obtain ⟨t56_1, rfl, h18⟩ := asT_elim h17
      obtain ⟨u18, u19, rfl, h19⟩ := asCons_elim h18
      obtain ⟨t57_1, rfl, h20⟩ := asT_elim h19
      obtain ⟨rfl, h21⟩ := asNil_elim h20
      obtain ⟨hf, hq⟩ := h21
      subst hf
      exact ⟨_, rep_less hr (by simp), hq⟩
    · exact h0.elim
  · intro s w hj
    have hb := hround s w hj
    rw [← hcc]
    have e1 := body_cell_tagOf_L1 f s w (fun f1 s1 w1 => f1 = f ∧ J s1 w1 ∧ μ s1 w1 < μ s w) (fun f1 w1 => f1 = f ∧ Q (.exit 0) [] w1) (fun f1 t2 w1 => f1 = f ∧ Q .ret [⟨2, .int .i64 t2, none⟩] w1)
    simp only [true_and] at e1
    exact cast e1 hb

theorem loops_cell_tagOf : LoopOk Tryd.prog Tryd.f28.ntmps G_cell_tagOf (codeOf Tryd.f28) := loopOk_list rfl ⟨ok_cell_tagOf_L1, trivial⟩

theorem den_cell_tagOf (namex : ByteArray) (w : World) (R : Value → World → Prop) :
    F_cell_tagOf namex w (fun r w1 => R (.int .i64 r) w1) = den Tryd.prog Tryd.f28.ntmps G_cell_tagOf (codeOf Tryd.f28) [] (postD Tryd.prog Tryd.f28.results.toList R) (entry [.string namex] 0) w := by kernel_rfl

theorem C_cell_tagOf.of {namex : ByteArray} {w : World} {R : Int → World → Prop} (h : F_cell_tagOf namex w R) : C_cell_tagOf namex w R := by
  refine (calls_of_den (c := codeOf Tryd.f28) seat_ok seat_mixed Tryd.func28 (by kernel_rfl) loops_cell_tagOf (args := [.string namex]) rfl (R := fun v w1 => ∃ (r : Int), v = (.int .i64 r : Value) ∧ R r w1) ?_).mono ?_
  · rw [← den_cell_tagOf]
    have e : (fun r w1 => ∃ (r' : Int), (.int .i64 r : Value) = (.int .i64 r' : Value) ∧ R r' w1) = R := by
      funext r w1
      exact propext ⟨fun ⟨r', he, h⟩ => by simp at he; simp_all, fun h => ⟨_, rfl, h⟩⟩
    simpa only [e] using h
  · rintro en w1 ⟨v, he, r, rfl, h⟩
    exact ⟨_, he, h⟩

end Go.Proofs.YtchbhocpmhlhjaaDoor
