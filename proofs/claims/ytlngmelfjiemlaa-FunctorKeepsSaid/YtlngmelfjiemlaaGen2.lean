/- The formulas of this seat's functions, held against the loaded program by the kernel. Printed by a program. -/
import Derived.Test.YtlngmelfjiemlaaGenC
set_option maxRecDepth 100000
set_option linter.unusedVariables false
namespace Go.Proofs.Ytlngmelfjiemlaa
open Go Go.D Go.Proofs

def F_functor_Table_Find (t : Option Addr) (namex : ByteArray) (arity : Int) (w : World) (R : Int → Bool → World → Prop) : Prop :=
  C_functor_Table_made t w fun t12 w1 =>
  If (!t12)
  (R (0 : Int) false w1)
  (NN t fun a =>
  ∃ atoms : Option Addr, w1.cell? (a.add 0) = some (.pointer atoms) ∧
  C_atom_Table_Find atoms namex w1 fun t200 t201 w1_1 =>
  If (!t201)
  (R (0 : Int) false w1_1)
  (NN t fun a_1 =>
  ∃ ids : Option Nat, w1_1.cell? (a_1.add 3) = some (.map ids) ∧
  Run Try.prog (Instr.lookup 55 (.map ids) (.agg #[.int .i64 t200, .int .i64 arity]) true) w1_1 fun v w1_2 => ∃ t330 : Int, ∃ t331 : Bool, v = (.tuple #[.int .i64 t330, .bool t331]) ∧
  R t330 t331 w1_2))

def G_functor_Table_Find : Gen where
  loop := lookL []
  plan := fun _ => none

theorem loops_functor_Table_Find : LoopOk Try.prog Try.f8.ntmps G_functor_Table_Find (codeOf Try.f8) := loopOk_none fun _ => rfl

theorem den_functor_Table_Find (t : Option Addr) (namex : ByteArray) (arity : Int) (w : World) (R : Value → World → Prop) :
    F_functor_Table_Find t namex arity w (fun r0 r1 w1 => R (.tuple #[.int .i64 r0, .bool r1]) w1) = den Try.prog Try.f8.ntmps G_functor_Table_Find (codeOf Try.f8) [] (postD Try.prog Try.f8.results.toList R) (entry [.pointer t, .string namex, .int .i64 arity] 0) w := by kernel_rfl

theorem C_functor_Table_Find.of {t : Option Addr} {namex : ByteArray} {arity : Int} {w : World} {R : Int → Bool → World → Prop} (h : F_functor_Table_Find t namex arity w R) : C_functor_Table_Find t namex arity w R := by
  refine (calls_of_den (c := codeOf Try.f8) seat_ok seat_mixed Try.func8 (by kernel_rfl) loops_functor_Table_Find (args := [.pointer t, .string namex, .int .i64 arity]) rfl (R := fun v w1 => ∃ (r0 : Int) (r1 : Bool), v = (.tuple #[.int .i64 r0, .bool r1] : Value) ∧ R r0 r1 w1) ?_).mono ?_
  · rw [← den_functor_Table_Find]
    have e : (fun r0 r1 w1 => ∃ (r0' : Int) (r1' : Bool), (.tuple #[.int .i64 r0, .bool r1] : Value) = (.tuple #[.int .i64 r0', .bool r1'] : Value) ∧ R r0' r1' w1) = R := by
      funext r0 r1 w1
      exact propext ⟨fun ⟨r0', r1', he, h⟩ => by simp at he; simp_all, fun h => ⟨_, _, rfl, h⟩⟩
    simpa only [e] using h
  · rintro en w1 ⟨v, he, r0, r1, rfl, h⟩
    exact ⟨_, _, he, h⟩

def F_functor_Table_Get (t : Option Addr) (idx : Int) (w : World) (R : ByteArray → Int → Int → World → Prop) : Prop :=
  C_functor_Table_may t idx w fun t13 w1 =>
  If (t13 != (0 : Int))
  (R ⟨#[]⟩ (0 : Int) t13 w1)
  (NN t fun a =>
  ∃ lP : Option Addr, ∃ lN : Nat, ∃ lC : Nat, w1.cell? (a.add 2) = some (.slice lP lN lC) ∧
  0 ≤ idx ∧ idx < (lN : Int) ∧ NN lP fun a_1 =>
  ∃ f0 : Int, w1.cell? (((a_1.add (idx.toNat * 4)).add 0).add 0) = some (.int .i64 f0) ∧
  ∃ f1 : Int, w1.cell? (((a_1.add (idx.toNat * 4)).add 0).add 1) = some (.int .i64 f1) ∧
  New w1 (.cells #[.int .i64 0, .int .i64 0] 60) fun r w1_1 =>
  St w1_1 ((⟨r, 0, none⟩ : Addr).add 0) (.int .i64 f0) fun w1_2 =>
  St w1_2 ((⟨r, 0, none⟩ : Addr).add 1) (.int .i64 f1) fun w1_3 =>
  NN t fun a_2 =>
  ∃ atoms : Option Addr, (drw w1_3).cell? (a_2.add 0) = some (.pointer atoms) ∧
  ∃ namex : Int, (drw w1_3).cell? ((⟨r, 0, none⟩ : Addr).add 0) = some (.int .i64 namex) ∧
  C_atom_Table_Name atoms namex (drw w1_3) fun t320 t321 w1_4 =>
  If (t321 != (0 : Int))
  (R ⟨#[]⟩ (0 : Int) t321 w1_4)
  (∃ arity : Int, (drw w1_4).cell? ((⟨r, 0, none⟩ : Addr).add 1) = some (.int .i64 arity) ∧
  (drw w1_4).cell? ((⟨r, 0, none⟩ : Addr).add 1) = (drw w1_4).cell? ((⟨r, 0, none⟩ : Addr).add 1) ∧
  R t320 arity (0 : Int) (drw w1_4)))

def G_functor_Table_Get : Gen where
  loop := lookL []
  plan := fun id =>
    bif Nat.beq id 5 then some ([0, 1, 3, 7, 0, 16, 63, 127, 255, 255, 511, 2047], .take 0 (.take 1 (.take 2 (.take 3 (.take 4 (.take 5 (.take 6 (.take 7 (.take 8 (.take 9 (.take 10 (.take 11 .done)))))))))))) else
    bif Nat.beq id 8 then some ([0, 0, 2, 1, 15, 31], .take 0 (.take 1 (.take 2 (.take 3 (.take 4 (.take 5 .done)))))) else none

theorem loops_functor_Table_Get : LoopOk Try.prog Try.f9.ntmps G_functor_Table_Get (codeOf Try.f9) := loopOk_none fun _ => rfl

theorem den_functor_Table_Get (t : Option Addr) (idx : Int) (w : World) (R : Value → World → Prop) :
    F_functor_Table_Get t idx w (fun r0 r1 r2 w1 => R (.tuple #[.string r0, .int .i64 r1, .int .i64 r2]) w1) = den Try.prog Try.f9.ntmps G_functor_Table_Get (codeOf Try.f9) [] (postD Try.prog Try.f9.results.toList R) (entry [.pointer t, .int .i64 idx] 0) w := by kernel_rfl

theorem C_functor_Table_Get.of {t : Option Addr} {idx : Int} {w : World} {R : ByteArray → Int → Int → World → Prop} (h : F_functor_Table_Get t idx w R) : C_functor_Table_Get t idx w R := by
  refine (calls_of_den (c := codeOf Try.f9) seat_ok seat_mixed Try.func9 (by kernel_rfl) loops_functor_Table_Get (args := [.pointer t, .int .i64 idx]) rfl (R := fun v w1 => ∃ (r0 : ByteArray) (r1 : Int) (r2 : Int), v = (.tuple #[.string r0, .int .i64 r1, .int .i64 r2] : Value) ∧ R r0 r1 r2 w1) ?_).mono ?_
  · rw [← den_functor_Table_Get]
    have e : (fun r0 r1 r2 w1 => ∃ (r0' : ByteArray) (r1' : Int) (r2' : Int), (.tuple #[.string r0, .int .i64 r1, .int .i64 r2] : Value) = (.tuple #[.string r0', .int .i64 r1', .int .i64 r2'] : Value) ∧ R r0' r1' r2' w1) = R := by
      funext r0 r1 r2 w1
      exact propext ⟨fun ⟨r0', r1', r2', he, h⟩ => by simp at he; simp_all, fun h => ⟨_, _, _, rfl, h⟩⟩
    simpa only [e] using h
  · rintro en w1 ⟨v, he, r0, r1, r2, rfl, h⟩
    exact ⟨_, _, _, he, h⟩

def F_law05_lives_k1 (R : Bool → World → Prop) (w1_2 : World) : Prop :=
  R false w1_2

def F_law05_lives_k2 (R : Bool → World → Prop) (w1_14 : World) : Prop :=
  R false w1_14

def F_law05_lives (w : World) (R : Bool → World → Prop) : Prop :=
  C_atom_New (30 : Int) w fun t210 t211 w1 =>
  C_functor_New (5 : Int) t210 w1 fun t260 t261 w1_1 =>
  If (t211 != (0 : Int))
  (F_law05_lives_k1 R w1_1)
  (If (t261 != (0 : Int))
  (F_law05_lives_k1 R w1_1)
  (If t210.isNone
  (F_law05_lives_k1 R w1_1)
  (If t260.isNone
  (R false w1_1)
  (C_functor_Table_Put t260 ⟨#[102]⟩ (2 : Int) w1_1 fun t450 t451 w1_3 =>
  C_functor_Table_Put t260 ⟨#[102]⟩ (3 : Int) w1_3 fun t500 t501 w1_4 =>
  C_functor_Table_Get t260 t500 w1_4 fun t560 t561 t562 w1_5 =>
  C_functor_Table_Find t260 ⟨#[102]⟩ (2 : Int) w1_5 fun t620 t621 w1_6 =>
  C_functor_Table_Put t260 ⟨#[102]⟩ (0 : Int) w1_6 fun t670 t671 w1_7 =>
  C_functor_Table_Mark t260 t500 w1_7 fun t72 w1_8 =>
  C_functor_Table_Sweep t260 w1_8 fun t74 w1_9 =>
  C_functor_New (5 : Int) none w1_9 fun t760 t761 w1_10 =>
  If (t451 == (0 : Int))
  (If (t501 == (0 : Int))
  (If (t450 == (0 : Int))
  (If (t500 == (1 : Int))
  (If (t562 == (0 : Int))
  (If (t560.toList == (⟨#[102]⟩ : ByteArray).toList)
  (If (t561 == (3 : Int))
  (If t621
  (If (t620 == (0 : Int))
  (If (t671 == (1 : Int))
  (If (t72 == (0 : Int))
  (If (t74 == (1 : Int))
  (C_functor_Table_Len t260 w1_10 fun t126 w1_11 =>
  If (t126 == (1 : Int))
  (C_functor_Table_Slots t260 w1_11 fun t131 w1_12 =>
  If (t131 == (2 : Int))
  (C_functor_Table_Atoms t260 w1_12 fun t136 w1_13 =>
  If (t136 == (1 : Int))
  (R (t761 == (1 : Int)) w1_13)
  (F_law05_lives_k2 R w1_13))
  (F_law05_lives_k2 R w1_12))
  (F_law05_lives_k2 R w1_11))
  (F_law05_lives_k2 R w1_10))
  (F_law05_lives_k2 R w1_10))
  (F_law05_lives_k2 R w1_10))
  (F_law05_lives_k2 R w1_10))
  (F_law05_lives_k2 R w1_10))
  (F_law05_lives_k2 R w1_10))
  (F_law05_lives_k2 R w1_10))
  (F_law05_lives_k2 R w1_10))
  (F_law05_lives_k2 R w1_10))
  (F_law05_lives_k2 R w1_10))
  (F_law05_lives_k2 R w1_10))
  (F_law05_lives_k2 R w1_10)))))

def G_law05_lives : Gen where
  loop := lookL []
  plan := fun _ => none

theorem loops_law05_lives : LoopOk Try.prog Try.f10.ntmps G_law05_lives (codeOf Try.f10) := loopOk_none fun _ => rfl

theorem den_law05_lives  (w : World) (R : Value → World → Prop) :
    F_law05_lives w (fun r w1 => R (.bool r) w1) = den Try.prog Try.f10.ntmps G_law05_lives (codeOf Try.f10) [] (postD Try.prog Try.f10.results.toList R) (entry [] 0) w := by kernel_rfl

theorem C_law05_lives.of {w : World} {R : Bool → World → Prop} (h : F_law05_lives w R) : C_law05_lives w R := by
  refine (calls_of_den (c := codeOf Try.f10) seat_ok seat_mixed Try.func10 (by kernel_rfl) loops_law05_lives (args := []) rfl (R := fun v w1 => ∃ (r : Bool), v = (.bool r : Value) ∧ R r w1) ?_).mono ?_
  · rw [← den_law05_lives]
    have e : (fun r w1 => ∃ (r' : Bool), (.bool r : Value) = (.bool r' : Value) ∧ R r' w1) = R := by
      funext r w1
      exact propext ⟨fun ⟨r', he, h⟩ => by simp at he; simp_all, fun h => ⟨_, rfl, h⟩⟩
    simpa only [e] using h
  · rintro en w1 ⟨v, he, r, rfl, h⟩
    exact ⟨_, he, h⟩

def F_functor_Table_Len (t : Option Addr) (w : World) (R : Int → World → Prop) : Prop :=
  C_functor_Table_made t w fun t4 w1 =>
  If (!t4)
  (R (0 : Int) w1)
  (NN t fun a =>
  ∃ ids : Option Nat, w1.cell? (a.add 3) = some (.map ids) ∧
  MLen Try.prog #[55] 3 #[.map ids] w1 fun t10 w1_1 =>
  R t10 w1_1)

def G_functor_Table_Len : Gen where
  loop := lookL []
  plan := fun _ => none

theorem loops_functor_Table_Len : LoopOk Try.prog Try.f11.ntmps G_functor_Table_Len (codeOf Try.f11) := loopOk_none fun _ => rfl

theorem den_functor_Table_Len (t : Option Addr) (w : World) (R : Value → World → Prop) :
    F_functor_Table_Len t w (fun r w1 => R (.int .i64 r) w1) = den Try.prog Try.f11.ntmps G_functor_Table_Len (codeOf Try.f11) [] (postD Try.prog Try.f11.results.toList R) (entry [.pointer t] 0) w := by kernel_rfl

theorem C_functor_Table_Len.of {t : Option Addr} {w : World} {R : Int → World → Prop} (h : F_functor_Table_Len t w R) : C_functor_Table_Len t w R := by
  refine (calls_of_den (c := codeOf Try.f11) seat_ok seat_mixed Try.func11 (by kernel_rfl) loops_functor_Table_Len (args := [.pointer t]) rfl (R := fun v w1 => ∃ (r : Int), v = (.int .i64 r : Value) ∧ R r w1) ?_).mono ?_
  · rw [← den_functor_Table_Len]
    have e : (fun r w1 => ∃ (r' : Int), (.int .i64 r : Value) = (.int .i64 r' : Value) ∧ R r' w1) = R := by
      funext r w1
      exact propext ⟨fun ⟨r', he, h⟩ => by simp at he; simp_all, fun h => ⟨_, rfl, h⟩⟩
    simpa only [e] using h
  · rintro en w1 ⟨v, he, r, rfl, h⟩
    exact ⟨_, he, h⟩

def F_functor_Table_Slots (t : Option Addr) (w : World) (R : Int → World → Prop) : Prop :=
  C_functor_Table_made t w fun t4 w1 =>
  If (!t4)
  (R (0 : Int) w1)
  (NN t fun a =>
  ∃ lP : Option Addr, ∃ lN : Nat, ∃ lC : Nat, w1.cell? (a.add 2) = some (.slice lP lN lC) ∧
  R (lN : Int) w1)

def G_functor_Table_Slots : Gen where
  loop := lookL []
  plan := fun _ => none

theorem loops_functor_Table_Slots : LoopOk Try.prog Try.f12.ntmps G_functor_Table_Slots (codeOf Try.f12) := loopOk_none fun _ => rfl

theorem den_functor_Table_Slots (t : Option Addr) (w : World) (R : Value → World → Prop) :
    F_functor_Table_Slots t w (fun r w1 => R (.int .i64 r) w1) = den Try.prog Try.f12.ntmps G_functor_Table_Slots (codeOf Try.f12) [] (postD Try.prog Try.f12.results.toList R) (entry [.pointer t] 0) w := by kernel_rfl

theorem C_functor_Table_Slots.of {t : Option Addr} {w : World} {R : Int → World → Prop} (h : F_functor_Table_Slots t w R) : C_functor_Table_Slots t w R := by
  refine (calls_of_den (c := codeOf Try.f12) seat_ok seat_mixed Try.func12 (by kernel_rfl) loops_functor_Table_Slots (args := [.pointer t]) rfl (R := fun v w1 => ∃ (r : Int), v = (.int .i64 r : Value) ∧ R r w1) ?_).mono ?_
  · rw [← den_functor_Table_Slots]
    have e : (fun r w1 => ∃ (r' : Int), (.int .i64 r : Value) = (.int .i64 r' : Value) ∧ R r' w1) = R := by
      funext r w1
      exact propext ⟨fun ⟨r', he, h⟩ => by simp at he; simp_all, fun h => ⟨_, rfl, h⟩⟩
    simpa only [e] using h
  · rintro en w1 ⟨v, he, r, rfl, h⟩
    exact ⟨_, he, h⟩

def F_functor_Table_Mark (t : Option Addr) (idx : Int) (w : World) (R : Int → World → Prop) : Prop :=
  C_functor_Table_may t idx w fun t8 w1 =>
  If (t8 != (0 : Int))
  (R t8 w1)
  (NN t fun a =>
  ∃ lP : Option Addr, ∃ lN : Nat, ∃ lC : Nat, w1.cell? (a.add 2) = some (.slice lP lN lC) ∧
  0 ≤ idx ∧ idx < (lN : Int) ∧ NN lP fun a_1 =>
  St w1 (((a_1.add (idx.toNat * 4)).add 3).add 0) (.bool true) fun w1_1 =>
  R (0 : Int) w1_1)

def G_functor_Table_Mark : Gen where
  loop := lookL []
  plan := fun _ => none

theorem loops_functor_Table_Mark : LoopOk Try.prog Try.f13.ntmps G_functor_Table_Mark (codeOf Try.f13) := loopOk_none fun _ => rfl

theorem den_functor_Table_Mark (t : Option Addr) (idx : Int) (w : World) (R : Value → World → Prop) :
    F_functor_Table_Mark t idx w (fun r w1 => R (.int .i64 r) w1) = den Try.prog Try.f13.ntmps G_functor_Table_Mark (codeOf Try.f13) [] (postD Try.prog Try.f13.results.toList R) (entry [.pointer t, .int .i64 idx] 0) w := by kernel_rfl

theorem C_functor_Table_Mark.of {t : Option Addr} {idx : Int} {w : World} {R : Int → World → Prop} (h : F_functor_Table_Mark t idx w R) : C_functor_Table_Mark t idx w R := by
  refine (calls_of_den (c := codeOf Try.f13) seat_ok seat_mixed Try.func13 (by kernel_rfl) loops_functor_Table_Mark (args := [.pointer t, .int .i64 idx]) rfl (R := fun v w1 => ∃ (r : Int), v = (.int .i64 r : Value) ∧ R r w1) ?_).mono ?_
  · rw [← den_functor_Table_Mark]
    have e : (fun r w1 => ∃ (r' : Int), (.int .i64 r : Value) = (.int .i64 r' : Value) ∧ R r' w1) = R := by
      funext r w1
      exact propext ⟨fun ⟨r', he, h⟩ => by simp at he; simp_all, fun h => ⟨_, rfl, h⟩⟩
    simpa only [e] using h
  · rintro en w1 ⟨v, he, r, rfl, h⟩
    exact ⟨_, he, h⟩

structure S_functor_Table_Sweep_L1 where
  n : Int
  t14 : Int

def F_functor_Table_Sweep_k1 (s : S_functor_Table_Sweep_L1) (Kn : S_functor_Table_Sweep_L1 → World → Prop) (a_2 : Addr) (n_2 : Int) (w1_9 : World) : Prop :=
  NN (some (a_2.add ((s.t14 : Int).toNat * 4))) fun a_10 =>
  St w1_9 ((a_10.add 3).add 0) (.bool false) fun w1_10 =>
  Kn ⟨n_2, (IntKind.i64.wrap ((s.t14 : Int) + (1 : Int)))⟩ w1_10

/-- One round. -/
def B_functor_Table_Sweep_L1 (t_1 : Option Addr) (t13 : Int) (s : S_functor_Table_Sweep_L1) (w : World) (Kn : S_functor_Table_Sweep_L1 → World → Prop) (Kx0 : Int → World → Prop) : Prop :=
  If (decide ((s.t14 : Int) < t13))
  (NN t_1 fun a_1 =>
  ∃ lP_1 : Option Addr, ∃ lN_1 : Nat, ∃ lC_1 : Nat, w.cell? (a_1.add 2) = some (.slice lP_1 lN_1 lC_1) ∧
  0 ≤ (s.t14 : Int) ∧ (s.t14 : Int) < (lN_1 : Int) ∧ NN lP_1 fun a_2 =>
  NN (some (a_2.add ((s.t14 : Int).toNat * 4))) fun a_3 =>
  ∃ isx : Bool, w.cell? (a_3.add 2) = some (.bool isx) ∧
  If isx
  (NN (some (a_2.add ((s.t14 : Int).toNat * 4))) fun a_4 =>
  ∃ mark : Bool, w.cell? (a_4.add 3) = some (.bool mark) ∧
  If (!mark)
  (NN t_1 fun a_5 =>
  ∃ ids : Option Nat, (drw w).cell? (a_5.add 3) = some (.map ids) ∧
  NN (some (a_2.add ((s.t14 : Int).toNat * 4))) fun a_6 =>
  ∃ f0 : Int, (drw w).cell? ((a_6.add 0).add 0) = some (.int .i64 f0) ∧
  ∃ f1 : Int, (drw w).cell? ((a_6.add 0).add 1) = some (.int .i64 f1) ∧
  Del Try.prog #[55, 60] 0 #[.map ids, .agg #[.int .i64 f0, .int .i64 f1]] (drw w) fun v w1_1 =>
  NN (some (a_2.add ((s.t14 : Int).toNat * 4))) fun a_7 =>
  St w1_1 (a_7.add 0) (.int .i64 0) fun w1_2 =>
  St w1_2 (a_7.add 1) (.int .i64 0) fun w1_3 =>
  St w1_3 (a_7.add 2) (.bool false) fun w1_4 =>
  St w1_4 (a_7.add 3) (.bool false) fun w1_5 =>
  NN t_1 fun a_8 =>
  ∃ freeP : Option Addr, ∃ freeN : Nat, ∃ freeC : Nat, w1_5.cell? (a_8.add 4) = some (.slice freeP freeN freeC) ∧
  BSl Try.prog 43 1 [(0, .int .i64 s.t14)] w1_5 fun t51P t51N t51C w1_6 =>
  App Try.prog #[43, 43] 43 #[.slice freeP freeN freeC, .slice t51P t51N t51C] w1_6 fun t52P t52N t52C w1_7 =>
  NN t_1 fun a_9 =>
  St w1_7 ((a_9.add 4).add 0) (.slice t52P t52N t52C) fun w1_8 =>
  F_functor_Table_Sweep_k1 s Kn a_2 (IntKind.i64.wrap ((s.n : Int) + (1 : Int))) w1_8)
  (F_functor_Table_Sweep_k1 s Kn a_2 (s.n : Int) w))
  (F_functor_Table_Sweep_k1 s Kn a_2 (s.n : Int) w))
  (Kx0 (s.n : Int) w)

def F_functor_Table_Sweep_L1 (t_1 : Option Addr) (t13 : Int) (s : S_functor_Table_Sweep_L1) (w : World) (Kx0 : Int → World → Prop) : Prop :=
  LoopS (fun s w Kn => B_functor_Table_Sweep_L1 t_1 t13 s w Kn Kx0) s w

def F_functor_Table_Sweep (t : Option Addr) (w : World) (R : Int → World → Prop) : Prop :=
  C_functor_Table_made t w fun t7 w1 =>
  If (!t7)
  (R (0 : Int) w1)
  (NN t fun a =>
  ∃ lP : Option Addr, ∃ lN : Nat, ∃ lC : Nat, w1.cell? (a.add 2) = some (.slice lP lN lC) ∧
  F_functor_Table_Sweep_L1 t (lN : Int) ⟨(0 : Int), (0 : Int)⟩ w1
  (fun n_3 w1_11 =>
  NN t fun a_11 =>
  ∃ freeP_1 : Option Addr, ∃ freeN_1 : Nat, ∃ freeC_1 : Nat, w1_11.cell? (a_11.add 4) = some (.slice freeP_1 freeN_1 freeC_1) ∧
  C_slices_Sort freeP_1 freeN_1 freeC_1 w1_11 fun w1_12 =>
  R n_3 w1_12))

def lit_functor_Table_Sweep_L1 (f : (Option Addr) × Int) (s : S_functor_Table_Sweep_L1) : Env := [⟨0, .pointer f.1, none⟩, ⟨13, .int .i64 f.2, none⟩, ⟨3, .int .i64 s.n, none⟩, ⟨14, .int .i64 s.t14, none⟩]

def dec_functor_Table_Sweep_L1 (e : Env) (K : ((Option Addr) × Int) → S_functor_Table_Sweep_L1 → Prop) : Prop :=
  onV (getV e 0) fun u1 =>
  asP u1 fun t_1 =>
  onV (getV e 13) fun u2 =>
  asI .i64 u2 fun t13 =>
  onV (getV e 3) fun u3 =>
  asI .i64 u3 fun n =>
  onV (getV e 14) fun u4 =>
  asI .i64 u4 fun t14 =>
    K (t_1, t13) ⟨n, t14⟩

theorem dec_functor_Table_Sweep_L1_ok {N : Nat} (e : Env) (a : Act) (K : ((Option Addr) × Int) → S_functor_Table_Sweep_L1 → Prop) (hr : Rep N a e) (h0 : dec_functor_Table_Sweep_L1 e K) : ∃ f s, K f s ∧ Rep N a (lit_functor_Table_Sweep_L1 f s) := by
  unfold dec_functor_Table_Sweep_L1 at h0
  obtain ⟨u1, g0, h1⟩ := onV_elim h0
  obtain ⟨t_1, rfl, h2⟩ := asP_elim h1
  obtain ⟨u2, g13, h3⟩ := onV_elim h2
  obtain ⟨t13, rfl, h4⟩ := asI_elim h3
  obtain ⟨u3, g3, h5⟩ := onV_elim h4
  obtain ⟨n, rfl, h6⟩ := asI_elim h5
  obtain ⟨u4, g14, h7⟩ := onV_elim h6
  obtain ⟨t14, rfl, h8⟩ := asI_elim h7
  exact ⟨_, _, h8, rep_less hr (by simp [lit_functor_Table_Sweep_L1, g0, g13, g3, g14])⟩

def spec_functor_Table_Sweep_L1 (Q : Post) (e : Env) (w : World) : Prop :=
  dec_functor_Table_Sweep_L1 e fun f s => F_functor_Table_Sweep_L1 f.1 f.2 s w (fun n_1 w1 => Q (.exit 0) [⟨0, .pointer f.1, none⟩, ⟨3, .int .i64 n_1, none⟩] w1)

def G_functor_Table_Sweep : Gen where
  loop := lookL [([false, true, false, true, true, true], spec_functor_Table_Sweep_L1)]
  plan := fun id =>
    bif Nat.beq id 9 then some ([0, 1, 3, 7, 0, 16, 48, 112, 255], .take 0 (.take 1 (.take 2 (.take 3 (.take 4 (.take 5 (.take 6 (.take 7 (.take 8 .done))))))))) else none

def dx_functor_Table_Sweep_L1_0 (e : Env) (K : ((Option Addr) × Int) → Int → Prop) : Prop :=
  onV (getV e 0) fun u1 =>
  asP u1 fun t_1 =>
  onV (getV e 13) fun u2 =>
  asI .i64 u2 fun t13 =>
  onV (getV e 3) fun u3 =>
  asI .i64 u3 fun n_1 =>
    K (t_1, t13) n_1

theorem body_functor_Table_Sweep_L1 (f : (Option Addr) × Int) (s : S_functor_Table_Sweep_L1) (w : World) (Kn : ((Option Addr) × Int) → S_functor_Table_Sweep_L1 → World → Prop) (Kx0 : ((Option Addr) × Int) → Int → World → Prop) :
    B_functor_Table_Sweep_L1 f.1 f.2 s w (fun s1 w1 => Kn f s1 w1) (fun n_1 w1 => Kx0 f n_1 w1) =
    den Try.prog Try.f14.ntmps G_functor_Table_Sweep (sub (codeOf Try.f14) [false, false, true, false, true, true, true]) [false, false, true, false, true, true, true] (roundQ (fun e w => dec_functor_Table_Sweep_L1 e fun f s => Kn f s w) (fun e w => False) (fun id e w => match Nat.beq id 0 with | true => dx_functor_Table_Sweep_L1_0 e fun f n_1 => Kx0 f n_1 w | false => False)) (lit_functor_Table_Sweep_L1 f s) w := by kernel_rfl

theorem ok_functor_Table_Sweep_L1 : OneOk Try.prog Try.f14.ntmps G_functor_Table_Sweep (codeOf Try.f14) [false, true, false, true, true, true] spec_functor_Table_Sweep_L1 := by
  intro c hc ih Q e w a hr h
  have hcc : sub (codeOf Try.f14) [false, false, true, false, true, true, true] = c := sub_of_codeAt hc
  obtain ⟨f, s, h, hrep⟩ := dec_functor_Table_Sweep_L1_ok e a _ hr h
  obtain ⟨J, μ, hj, hround⟩ := h
  refine loop_rule_deep seat_ok seat_mixed ih lit_functor_Table_Sweep_L1 dec_functor_Table_Sweep_L1 dec_functor_Table_Sweep_L1_ok hc f J μ (Kr := fun e w => False) (Kx := fun id e w => match Nat.beq id 0 with | true => (dx_functor_Table_Sweep_L1_0 e fun f1 n_1 => f1 = f ∧ Q (.exit 0) [⟨0, .pointer f.1, none⟩, ⟨3, .int .i64 n_1, none⟩] w) | false => False) ?_ ?_ ?_ s w a hj hrep
  · intro e a w hr h
    exact h.elim
  · intro id e a w hr h0
    (try dsimp only at h0)
    split at h0
    · rename_i hid
      obtain rfl := Nat.eq_of_beq_eq_true hid
      unfold dx_functor_Table_Sweep_L1_0 at h0
      obtain ⟨u1, g0, h1⟩ := onV_elim h0
      obtain ⟨t_1, rfl, h2⟩ := asP_elim h1
      obtain ⟨u2, g13, h3⟩ := onV_elim h2
      obtain ⟨t13, rfl, h4⟩ := asI_elim h3
      obtain ⟨u3, g3, h5⟩ := onV_elim h4
      obtain ⟨n_1, rfl, h6⟩ := asI_elim h5
      obtain ⟨hf, hq⟩ := h6
      subst hf
      exact ⟨_, rep_less hr (by simp [g0, g3]), hq⟩
    · exact h0.elim
  · intro s w hj
    have hb := hround s w hj
    rw [← hcc]
    have e1 := body_functor_Table_Sweep_L1 f s w (fun f1 s1 w1 => f1 = f ∧ J s1 w1 ∧ μ s1 w1 < μ s w) (fun f1 n_1 w1 => f1 = f ∧ Q (.exit 0) [⟨0, .pointer f.1, none⟩, ⟨3, .int .i64 n_1, none⟩] w1)
    simp only [true_and] at e1
    exact cast e1 hb

theorem loops_functor_Table_Sweep : LoopOk Try.prog Try.f14.ntmps G_functor_Table_Sweep (codeOf Try.f14) := loopOk_list rfl ⟨ok_functor_Table_Sweep_L1, trivial⟩

theorem den_functor_Table_Sweep (t : Option Addr) (w : World) (R : Value → World → Prop) :
    F_functor_Table_Sweep t w (fun r w1 => R (.int .i64 r) w1) = den Try.prog Try.f14.ntmps G_functor_Table_Sweep (codeOf Try.f14) [] (postD Try.prog Try.f14.results.toList R) (entry [.pointer t] 0) w := by kernel_rfl

theorem C_functor_Table_Sweep.of {t : Option Addr} {w : World} {R : Int → World → Prop} (h : F_functor_Table_Sweep t w R) : C_functor_Table_Sweep t w R := by
  refine (calls_of_den (c := codeOf Try.f14) seat_ok seat_mixed Try.func14 (by kernel_rfl) loops_functor_Table_Sweep (args := [.pointer t]) rfl (R := fun v w1 => ∃ (r : Int), v = (.int .i64 r : Value) ∧ R r w1) ?_).mono ?_
  · rw [← den_functor_Table_Sweep]
    have e : (fun r w1 => ∃ (r' : Int), (.int .i64 r : Value) = (.int .i64 r' : Value) ∧ R r' w1) = R := by
      funext r w1
      exact propext ⟨fun ⟨r', he, h⟩ => by simp at he; simp_all, fun h => ⟨_, rfl, h⟩⟩
    simpa only [e] using h
  · rintro en w1 ⟨v, he, r, rfl, h⟩
    exact ⟨_, he, h⟩

structure S_functor_Table_Atoms_L1 where
  mk ::

def F_functor_Table_Atoms_k1 (t_1 : Option Addr) (t11_1 : Option Addr) (Kn : S_functor_Table_Atoms_L1 → World → Prop) (Kx0 : World → Prop) (t13 : Bool) (w1_3 : World) : Prop :=
  If t13
  (Run Try.prog (Instr.entry (.pointer t11_1)) w1_3 fun v_1 w1_4 => ∃ t14k0 : Int, ∃ t14k1 : Int, ∃ t14v : Value, v_1 = (.tuple #[.agg #[.int .i64 t14k0, .int .i64 t14k1], t14v]) ∧
  New w1_4 (.cells #[.int .i64 0, .int .i64 0] 60) fun r w1_5 =>
  St w1_5 ((⟨r, 0, none⟩ : Addr).add 0) (.int .i64 t14k0) fun w1_6 =>
  St w1_6 ((⟨r, 0, none⟩ : Addr).add 1) (.int .i64 t14k1) fun w1_7 =>
  NN t_1 fun a_1 =>
  ∃ atoms : Option Addr, (drw w1_7).cell? (a_1.add 0) = some (.pointer atoms) ∧
  ∃ namex : Int, (drw w1_7).cell? ((⟨r, 0, none⟩ : Addr).add 0) = some (.int .i64 namex) ∧
  C_atom_Table_Mark atoms namex (drw w1_7) fun t22 w1_8 =>
  Kn ⟨⟩ w1_8)
  (Kx0 w1_3)

/-- One round. -/
def B_functor_Table_Atoms_L1 (t_1 : Option Addr) (t11_1 : Option Addr) (s : S_functor_Table_Atoms_L1) (w : World) (Kn : S_functor_Table_Atoms_L1 → World → Prop) (Kx0 : World → Prop) : Prop :=
  Run Try.prog (Instr.next (.pointer t11_1) false 0) w fun v w1_2 =>
  (v = .tuple #[.bool false] ∧
  (F_functor_Table_Atoms_k1 t_1 t11_1 Kn Kx0 false w1_2)) ∨
  (∃ kx vx : Value, v = (.tuple #[.bool true, kx, vx]) ∧
  (F_functor_Table_Atoms_k1 t_1 t11_1 Kn Kx0 true w1_2))

def F_functor_Table_Atoms_L1 (t_1 : Option Addr) (t11_1 : Option Addr) (s : S_functor_Table_Atoms_L1) (w : World) (Kx0 : World → Prop) : Prop :=
  LoopS (fun s w Kn => B_functor_Table_Atoms_L1 t_1 t11_1 s w Kn Kx0) s w

def F_functor_Table_Atoms (t : Option Addr) (w : World) (R : Int → World → Prop) : Prop :=
  C_functor_Table_made t w fun t5 w1 =>
  If (!t5)
  (R (0 : Int) w1)
  (NN t fun a =>
  ∃ ids : Option Nat, w1.cell? (a.add 3) = some (.map ids) ∧
  Rng Try.prog 55 (.map ids) w1 fun t11 w1_1 =>
  F_functor_Table_Atoms_L1 t t11 ⟨⟩ w1_1
  (fun w1_9 =>
  NN t fun a_2 =>
  ∃ ids_1 : Option Nat, w1_9.cell? (a_2.add 3) = some (.map ids_1) ∧
  MLen Try.prog #[55] 3 #[.map ids_1] w1_9 fun t27 w1_10 =>
  R t27 w1_10))

def lit_functor_Table_Atoms_L1 (f : (Option Addr) × (Option Addr)) (s : S_functor_Table_Atoms_L1) : Env := [⟨0, .pointer f.1, none⟩, ⟨11, .pointer f.2, none⟩]

def dec_functor_Table_Atoms_L1 (e : Env) (K : ((Option Addr) × (Option Addr)) → S_functor_Table_Atoms_L1 → Prop) : Prop :=
  onV (getV e 0) fun u1 =>
  asP u1 fun t_1 =>
  onV (getV e 11) fun u2 =>
  asP u2 fun t11_1 =>
    K (t_1, t11_1) ⟨⟩

theorem dec_functor_Table_Atoms_L1_ok {N : Nat} (e : Env) (a : Act) (K : ((Option Addr) × (Option Addr)) → S_functor_Table_Atoms_L1 → Prop) (hr : Rep N a e) (h0 : dec_functor_Table_Atoms_L1 e K) : ∃ f s, K f s ∧ Rep N a (lit_functor_Table_Atoms_L1 f s) := by
  unfold dec_functor_Table_Atoms_L1 at h0
  obtain ⟨u1, g0, h1⟩ := onV_elim h0
  obtain ⟨t_1, rfl, h2⟩ := asP_elim h1
  obtain ⟨u2, g11, h3⟩ := onV_elim h2
  obtain ⟨t11_1, rfl, h4⟩ := asP_elim h3
  exact ⟨_, _, h4, rep_less hr (by simp [lit_functor_Table_Atoms_L1, g0, g11])⟩

def spec_functor_Table_Atoms_L1 (Q : Post) (e : Env) (w : World) : Prop :=
  dec_functor_Table_Atoms_L1 e fun f s => F_functor_Table_Atoms_L1 f.1 f.2 s w (fun w1 => Q (.exit 0) [⟨0, .pointer f.1, none⟩] w1)

def G_functor_Table_Atoms : Gen where
  loop := lookL [([false, true, false, true, true], spec_functor_Table_Atoms_L1)]
  plan := fun id =>
    bif Nat.beq id 6 then some ([0, 1, 3, 7, 0, 16, 63], .take 0 (.take 1 (.take 2 (.take 3 (.take 4 (.take 5 (.take 6 .done))))))) else none

def dx_functor_Table_Atoms_L1_0 (e : Env) (K : ((Option Addr) × (Option Addr)) → Prop) : Prop :=
  onV (getV e 0) fun u1 =>
  asP u1 fun t_1 =>
  onV (getV e 11) fun u2 =>
  asP u2 fun t11_1 =>
    K (t_1, t11_1)

theorem body_functor_Table_Atoms_L1 (f : (Option Addr) × (Option Addr)) (s : S_functor_Table_Atoms_L1) (w : World) (Kn : ((Option Addr) × (Option Addr)) → S_functor_Table_Atoms_L1 → World → Prop) (Kx0 : ((Option Addr) × (Option Addr)) → World → Prop) :
    B_functor_Table_Atoms_L1 f.1 f.2 s w (fun s1 w1 => Kn f s1 w1) (fun w1 => Kx0 f w1) =
    den Try.prog Try.f15.ntmps G_functor_Table_Atoms (sub (codeOf Try.f15) [false, false, true, false, true, true]) [false, false, true, false, true, true] (roundQ (fun e w => dec_functor_Table_Atoms_L1 e fun f s => Kn f s w) (fun e w => False) (fun id e w => match Nat.beq id 0 with | true => dx_functor_Table_Atoms_L1_0 e fun f => Kx0 f w | false => False)) (lit_functor_Table_Atoms_L1 f s) w := by kernel_rfl

theorem ok_functor_Table_Atoms_L1 : OneOk Try.prog Try.f15.ntmps G_functor_Table_Atoms (codeOf Try.f15) [false, true, false, true, true] spec_functor_Table_Atoms_L1 := by
  intro c hc ih Q e w a hr h
  have hcc : sub (codeOf Try.f15) [false, false, true, false, true, true] = c := sub_of_codeAt hc
  obtain ⟨f, s, h, hrep⟩ := dec_functor_Table_Atoms_L1_ok e a _ hr h
  obtain ⟨J, μ, hj, hround⟩ := h
  refine loop_rule_deep seat_ok seat_mixed ih lit_functor_Table_Atoms_L1 dec_functor_Table_Atoms_L1 dec_functor_Table_Atoms_L1_ok hc f J μ (Kr := fun e w => False) (Kx := fun id e w => match Nat.beq id 0 with | true => (dx_functor_Table_Atoms_L1_0 e fun f1 => f1 = f ∧ Q (.exit 0) [⟨0, .pointer f.1, none⟩] w) | false => False) ?_ ?_ ?_ s w a hj hrep
  · intro e a w hr h
    exact h.elim
  · intro id e a w hr h0
    (try dsimp only at h0)
    split at h0
    · rename_i hid
      obtain rfl := Nat.eq_of_beq_eq_true hid
      unfold dx_functor_Table_Atoms_L1_0 at h0
      obtain ⟨u1, g0, h1⟩ := onV_elim h0
      obtain ⟨t_1, rfl, h2⟩ := asP_elim h1
      obtain ⟨u2, g11, h3⟩ := onV_elim h2
      obtain ⟨t11_1, rfl, h4⟩ := asP_elim h3
      obtain ⟨hf, hq⟩ := h4
      subst hf
      exact ⟨_, rep_less hr (by simp [g0]), hq⟩
    · exact h0.elim
  · intro s w hj
    have hb := hround s w hj
    rw [← hcc]
    have e1 := body_functor_Table_Atoms_L1 f s w (fun f1 s1 w1 => f1 = f ∧ J s1 w1 ∧ μ s1 w1 < μ s w) (fun f1 w1 => f1 = f ∧ Q (.exit 0) [⟨0, .pointer f.1, none⟩] w1)
    simp only [true_and] at e1
    exact cast e1 hb

theorem loops_functor_Table_Atoms : LoopOk Try.prog Try.f15.ntmps G_functor_Table_Atoms (codeOf Try.f15) := loopOk_list rfl ⟨ok_functor_Table_Atoms_L1, trivial⟩

theorem den_functor_Table_Atoms (t : Option Addr) (w : World) (R : Value → World → Prop) :
    F_functor_Table_Atoms t w (fun r w1 => R (.int .i64 r) w1) = den Try.prog Try.f15.ntmps G_functor_Table_Atoms (codeOf Try.f15) [] (postD Try.prog Try.f15.results.toList R) (entry [.pointer t] 0) w := by kernel_rfl

theorem C_functor_Table_Atoms.of {t : Option Addr} {w : World} {R : Int → World → Prop} (h : F_functor_Table_Atoms t w R) : C_functor_Table_Atoms t w R := by
  refine (calls_of_den (c := codeOf Try.f15) seat_ok seat_mixed Try.func15 (by kernel_rfl) loops_functor_Table_Atoms (args := [.pointer t]) rfl (R := fun v w1 => ∃ (r : Int), v = (.int .i64 r : Value) ∧ R r w1) ?_).mono ?_
  · rw [← den_functor_Table_Atoms]
    have e : (fun r w1 => ∃ (r' : Int), (.int .i64 r : Value) = (.int .i64 r' : Value) ∧ R r' w1) = R := by
      funext r w1
      exact propext ⟨fun ⟨r', he, h⟩ => by simp at he; simp_all, fun h => ⟨_, rfl, h⟩⟩
    simpa only [e] using h
  · rintro en w1 ⟨v, he, r, rfl, h⟩
    exact ⟨_, he, h⟩

def F_atom_New (limitx : Int) (w : World) (R : Option Addr → Int → World → Prop) : Prop :=
  C_atom_Reserved  w fun t5P t5N t5C w1 =>
  If (decide (limitx < (t5N : Int)))
  (R none (1 : Int) w1)
  (If (decide (limitx > (16384 : Int)))
  (R none (1 : Int) w1)
  (New w1 (.cells #[.int .u32 0, .int .i32 0, .int .u32 0, .int .i64 0, .int .i64 limitx, .slice none 0 0, .map none, .slice none 0 0] 89) fun r w1_1 =>
  R (some ⟨r, 0, none⟩) (0 : Int) w1_1))

def G_atom_New : Gen where
  loop := lookL []
  plan := fun _ => none

theorem loops_atom_New : LoopOk Try.prog Try.f16.ntmps G_atom_New (codeOf Try.f16) := loopOk_none fun _ => rfl

theorem den_atom_New (limitx : Int) (w : World) (R : Value → World → Prop) :
    F_atom_New limitx w (fun r0 r1 w1 => R (.tuple #[.pointer r0, .int .i64 r1]) w1) = den Try.prog Try.f16.ntmps G_atom_New (codeOf Try.f16) [] (postD Try.prog Try.f16.results.toList R) (entry [.int .i64 limitx] 0) w := by kernel_rfl

theorem C_atom_New.of {limitx : Int} {w : World} {R : Option Addr → Int → World → Prop} (h : F_atom_New limitx w R) : C_atom_New limitx w R := by
  refine (calls_of_den (c := codeOf Try.f16) seat_ok seat_mixed Try.func16 (by kernel_rfl) loops_atom_New (args := [.int .i64 limitx]) rfl (R := fun v w1 => ∃ (r0 : Option Addr) (r1 : Int), v = (.tuple #[.pointer r0, .int .i64 r1] : Value) ∧ R r0 r1 w1) ?_).mono ?_
  · rw [← den_atom_New]
    have e : (fun r0 r1 w1 => ∃ (r0' : Option Addr) (r1' : Int), (.tuple #[.pointer r0, .int .i64 r1] : Value) = (.tuple #[.pointer r0', .int .i64 r1'] : Value) ∧ R r0' r1' w1) = R := by
      funext r0 r1 w1
      exact propext ⟨fun ⟨r0', r1', he, h⟩ => by simp at he; simp_all, fun h => ⟨_, _, rfl, h⟩⟩
    simpa only [e] using h
  · rintro en w1 ⟨v, he, r0, r1, rfl, h⟩
    exact ⟨_, _, he, h⟩

def F_functor_New_k1 (R : Option Addr → Int → World → Prop) (w1 : World) : Prop :=
  R none (1 : Int) w1

def F_functor_New (limitx : Int) (atoms : Option Addr) (w : World) (R : Option Addr → Int → World → Prop) : Prop :=
  If (decide (limitx < (1 : Int)))
  (F_functor_New_k1 R w)
  (If (decide (limitx > (16384 : Int)))
  (F_functor_New_k1 R w)
  (If atoms.isNone
  (R none (1 : Int) w)
  (New w (.map #[] 0) fun r w1_1 =>
  New w1_1 (.cells #[.pointer atoms, .int .i64 limitx, .slice none 0 0, .map (some r), .slice none 0 0] 57) fun r_1 w1_2 =>
  R (some ⟨r_1, 0, none⟩) (0 : Int) w1_2)))

def G_functor_New : Gen where
  loop := lookL []
  plan := fun _ => none

theorem loops_functor_New : LoopOk Try.prog Try.f17.ntmps G_functor_New (codeOf Try.f17) := loopOk_none fun _ => rfl

theorem den_functor_New (limitx : Int) (atoms : Option Addr) (w : World) (R : Value → World → Prop) :
    F_functor_New limitx atoms w (fun r0 r1 w1 => R (.tuple #[.pointer r0, .int .i64 r1]) w1) = den Try.prog Try.f17.ntmps G_functor_New (codeOf Try.f17) [] (postD Try.prog Try.f17.results.toList R) (entry [.int .i64 limitx, .pointer atoms] 0) w := by kernel_rfl

theorem C_functor_New.of {limitx : Int} {atoms : Option Addr} {w : World} {R : Option Addr → Int → World → Prop} (h : F_functor_New limitx atoms w R) : C_functor_New limitx atoms w R := by
  refine (calls_of_den (c := codeOf Try.f17) seat_ok seat_mixed Try.func17 (by kernel_rfl) loops_functor_New (args := [.int .i64 limitx, .pointer atoms]) rfl (R := fun v w1 => ∃ (r0 : Option Addr) (r1 : Int), v = (.tuple #[.pointer r0, .int .i64 r1] : Value) ∧ R r0 r1 w1) ?_).mono ?_
  · rw [← den_functor_New]
    have e : (fun r0 r1 w1 => ∃ (r0' : Option Addr) (r1' : Int), (.tuple #[.pointer r0, .int .i64 r1] : Value) = (.tuple #[.pointer r0', .int .i64 r1'] : Value) ∧ R r0' r1' w1) = R := by
      funext r0 r1 w1
      exact propext ⟨fun ⟨r0', r1', he, h⟩ => by simp at he; simp_all, fun h => ⟨_, _, rfl, h⟩⟩
    simpa only [e] using h
  · rintro en w1 ⟨v, he, r0, r1, rfl, h⟩
    exact ⟨_, _, he, h⟩

structure S_atom_Table_Sweep_L1 where
  n : Int
  t14 : Int

def F_atom_Table_Sweep_k2 (s : S_atom_Table_Sweep_L1) (Kn : S_atom_Table_Sweep_L1 → World → Prop) (a_2 : Addr) (n_2 : Int) (w1_10 : World) : Prop :=
  NN (some (a_2.add ((s.t14 : Int).toNat * 3))) fun a_10 =>
  St w1_10 ((a_10.add 2).add 0) (.bool false) fun w1_11 =>
  Kn ⟨n_2, (IntKind.i64.wrap ((s.t14 : Int) + (1 : Int)))⟩ w1_11

def F_atom_Table_Sweep_k1 (s : S_atom_Table_Sweep_L1) (Kn : S_atom_Table_Sweep_L1 → World → Prop) (a_2 : Addr) (w1_9 : World) : Prop :=
  F_atom_Table_Sweep_k2 s Kn a_2 (s.n : Int) w1_9

/-- One round. -/
def B_atom_Table_Sweep_L1 (t_1 : Option Addr) (t13 : Int) (s : S_atom_Table_Sweep_L1) (w : World) (Kn : S_atom_Table_Sweep_L1 → World → Prop) (Kx0 : Int → World → Prop) : Prop :=
  If (decide ((s.t14 : Int) < t13))
  (NN t_1 fun a_1 =>
  ∃ lP_1 : Option Addr, ∃ lN_1 : Nat, ∃ lC_1 : Nat, w.cell? (a_1.add 5) = some (.slice lP_1 lN_1 lC_1) ∧
  0 ≤ (s.t14 : Int) ∧ (s.t14 : Int) < (lN_1 : Int) ∧ NN lP_1 fun a_2 =>
  NN (some (a_2.add ((s.t14 : Int).toNat * 3))) fun a_3 =>
  ∃ isx : Bool, w.cell? (a_3.add 1) = some (.bool isx) ∧
  If isx
  (NN (some (a_2.add ((s.t14 : Int).toNat * 3))) fun a_4 =>
  ∃ mark : Bool, w.cell? (a_4.add 2) = some (.bool mark) ∧
  If (!mark)
  (C_atom_Reserved  w fun t36P t36N t36C w1_1 =>
  If (decide ((s.t14 : Int) ≥ (t36N : Int)))
  (NN t_1 fun a_5 =>
  ∃ ids : Option Nat, (drw w1_1).cell? (a_5.add 6) = some (.map ids) ∧
  NN (some (a_2.add ((s.t14 : Int).toNat * 3))) fun a_6 =>
  ∃ namex : ByteArray, (drw w1_1).cell? (a_6.add 0) = some (.string namex) ∧
  Del Try.prog #[87, 9] 0 #[.map ids, .string namex] (drw w1_1) fun v w1_2 =>
  NN (some (a_2.add ((s.t14 : Int).toNat * 3))) fun a_7 =>
  St w1_2 (a_7.add 0) (.string ⟨#[]⟩) fun w1_3 =>
  St w1_3 (a_7.add 1) (.bool false) fun w1_4 =>
  St w1_4 (a_7.add 2) (.bool false) fun w1_5 =>
  NN t_1 fun a_8 =>
  ∃ freeP : Option Addr, ∃ freeN : Nat, ∃ freeC : Nat, w1_5.cell? (a_8.add 7) = some (.slice freeP freeN freeC) ∧
  BSl Try.prog 43 1 [(0, .int .i64 s.t14)] w1_5 fun t57P t57N t57C w1_6 =>
  App Try.prog #[43, 43] 43 #[.slice freeP freeN freeC, .slice t57P t57N t57C] w1_6 fun t58P t58N t58C w1_7 =>
  NN t_1 fun a_9 =>
  St w1_7 ((a_9.add 7).add 0) (.slice t58P t58N t58C) fun w1_8 =>
  F_atom_Table_Sweep_k2 s Kn a_2 (IntKind.i64.wrap ((s.n : Int) + (1 : Int))) w1_8)
  (F_atom_Table_Sweep_k2 s Kn a_2 (s.n : Int) w1_1))
  (F_atom_Table_Sweep_k1 s Kn a_2 w))
  (F_atom_Table_Sweep_k1 s Kn a_2 w))
  (Kx0 (s.n : Int) w)

def F_atom_Table_Sweep_L1 (t_1 : Option Addr) (t13 : Int) (s : S_atom_Table_Sweep_L1) (w : World) (Kx0 : Int → World → Prop) : Prop :=
  LoopS (fun s w Kn => B_atom_Table_Sweep_L1 t_1 t13 s w Kn Kx0) s w

def F_atom_Table_Sweep (t : Option Addr) (w : World) (R : Int → World → Prop) : Prop :=
  C_atom_Table_ready t w fun t7 w1 =>
  If (!t7)
  (R (0 : Int) w1)
  (NN t fun a =>
  ∃ lP : Option Addr, ∃ lN : Nat, ∃ lC : Nat, w1.cell? (a.add 5) = some (.slice lP lN lC) ∧
  F_atom_Table_Sweep_L1 t (lN : Int) ⟨(0 : Int), (0 : Int)⟩ w1
  (fun n_3 w1_12 =>
  NN t fun a_11 =>
  ∃ freeP_1 : Option Addr, ∃ freeN_1 : Nat, ∃ freeC_1 : Nat, w1_12.cell? (a_11.add 7) = some (.slice freeP_1 freeN_1 freeC_1) ∧
  C_slices_Sort freeP_1 freeN_1 freeC_1 w1_12 fun w1_13 =>
  R n_3 w1_13))

def lit_atom_Table_Sweep_L1 (f : (Option Addr) × Int) (s : S_atom_Table_Sweep_L1) : Env := [⟨0, .pointer f.1, none⟩, ⟨13, .int .i64 f.2, none⟩, ⟨3, .int .i64 s.n, none⟩, ⟨14, .int .i64 s.t14, none⟩]

def dec_atom_Table_Sweep_L1 (e : Env) (K : ((Option Addr) × Int) → S_atom_Table_Sweep_L1 → Prop) : Prop :=
  onV (getV e 0) fun u1 =>
  asP u1 fun t_1 =>
  onV (getV e 13) fun u2 =>
  asI .i64 u2 fun t13 =>
  onV (getV e 3) fun u3 =>
  asI .i64 u3 fun n =>
  onV (getV e 14) fun u4 =>
  asI .i64 u4 fun t14 =>
    K (t_1, t13) ⟨n, t14⟩

theorem dec_atom_Table_Sweep_L1_ok {N : Nat} (e : Env) (a : Act) (K : ((Option Addr) × Int) → S_atom_Table_Sweep_L1 → Prop) (hr : Rep N a e) (h0 : dec_atom_Table_Sweep_L1 e K) : ∃ f s, K f s ∧ Rep N a (lit_atom_Table_Sweep_L1 f s) := by
  unfold dec_atom_Table_Sweep_L1 at h0
  obtain ⟨u1, g0, h1⟩ := onV_elim h0
  obtain ⟨t_1, rfl, h2⟩ := asP_elim h1
  obtain ⟨u2, g13, h3⟩ := onV_elim h2
  obtain ⟨t13, rfl, h4⟩ := asI_elim h3
  obtain ⟨u3, g3, h5⟩ := onV_elim h4
  obtain ⟨n, rfl, h6⟩ := asI_elim h5
  obtain ⟨u4, g14, h7⟩ := onV_elim h6
  obtain ⟨t14, rfl, h8⟩ := asI_elim h7
  exact ⟨_, _, h8, rep_less hr (by simp [lit_atom_Table_Sweep_L1, g0, g13, g3, g14])⟩

def spec_atom_Table_Sweep_L1 (Q : Post) (e : Env) (w : World) : Prop :=
  dec_atom_Table_Sweep_L1 e fun f s => F_atom_Table_Sweep_L1 f.1 f.2 s w (fun n_1 w1 => Q (.exit 0) [⟨0, .pointer f.1, none⟩, ⟨3, .int .i64 n_1, none⟩] w1)

def G_atom_Table_Sweep : Gen where
  loop := lookL [([false, true, false, true, true, true], spec_atom_Table_Sweep_L1)]
  plan := fun id =>
    bif Nat.beq id 9 then some ([0, 1, 3, 7, 0, 16, 48, 112, 255], .take 0 (.take 1 (.take 2 (.take 3 (.take 4 (.take 5 (.take 6 (.take 7 (.take 8 .done))))))))) else none

def dx_atom_Table_Sweep_L1_0 (e : Env) (K : ((Option Addr) × Int) → Int → Prop) : Prop :=
  onV (getV e 0) fun u1 =>
  asP u1 fun t_1 =>
  onV (getV e 13) fun u2 =>
  asI .i64 u2 fun t13 =>
  onV (getV e 3) fun u3 =>
  asI .i64 u3 fun n_1 =>
    K (t_1, t13) n_1

theorem body_atom_Table_Sweep_L1 (f : (Option Addr) × Int) (s : S_atom_Table_Sweep_L1) (w : World) (Kn : ((Option Addr) × Int) → S_atom_Table_Sweep_L1 → World → Prop) (Kx0 : ((Option Addr) × Int) → Int → World → Prop) :
    B_atom_Table_Sweep_L1 f.1 f.2 s w (fun s1 w1 => Kn f s1 w1) (fun n_1 w1 => Kx0 f n_1 w1) =
    den Try.prog Try.f18.ntmps G_atom_Table_Sweep (sub (codeOf Try.f18) [false, false, true, false, true, true, true]) [false, false, true, false, true, true, true] (roundQ (fun e w => dec_atom_Table_Sweep_L1 e fun f s => Kn f s w) (fun e w => False) (fun id e w => match Nat.beq id 0 with | true => dx_atom_Table_Sweep_L1_0 e fun f n_1 => Kx0 f n_1 w | false => False)) (lit_atom_Table_Sweep_L1 f s) w := by kernel_rfl

theorem ok_atom_Table_Sweep_L1 : OneOk Try.prog Try.f18.ntmps G_atom_Table_Sweep (codeOf Try.f18) [false, true, false, true, true, true] spec_atom_Table_Sweep_L1 := by
  intro c hc ih Q e w a hr h
  have hcc : sub (codeOf Try.f18) [false, false, true, false, true, true, true] = c := sub_of_codeAt hc
  obtain ⟨f, s, h, hrep⟩ := dec_atom_Table_Sweep_L1_ok e a _ hr h
  obtain ⟨J, μ, hj, hround⟩ := h
  refine loop_rule_deep seat_ok seat_mixed ih lit_atom_Table_Sweep_L1 dec_atom_Table_Sweep_L1 dec_atom_Table_Sweep_L1_ok hc f J μ (Kr := fun e w => False) (Kx := fun id e w => match Nat.beq id 0 with | true => (dx_atom_Table_Sweep_L1_0 e fun f1 n_1 => f1 = f ∧ Q (.exit 0) [⟨0, .pointer f.1, none⟩, ⟨3, .int .i64 n_1, none⟩] w) | false => False) ?_ ?_ ?_ s w a hj hrep
  · intro e a w hr h
    exact h.elim
  · intro id e a w hr h0
    (try dsimp only at h0)
    split at h0
    · rename_i hid
      obtain rfl := Nat.eq_of_beq_eq_true hid
      unfold dx_atom_Table_Sweep_L1_0 at h0
      obtain ⟨u1, g0, h1⟩ := onV_elim h0
      obtain ⟨t_1, rfl, h2⟩ := asP_elim h1
      obtain ⟨u2, g13, h3⟩ := onV_elim h2
      obtain ⟨t13, rfl, h4⟩ := asI_elim h3
      obtain ⟨u3, g3, h5⟩ := onV_elim h4
      obtain ⟨n_1, rfl, h6⟩ := asI_elim h5
      obtain ⟨hf, hq⟩ := h6
      subst hf
      exact ⟨_, rep_less hr (by simp [g0, g3]), hq⟩
    · exact h0.elim
  · intro s w hj
    have hb := hround s w hj
    rw [← hcc]
    have e1 := body_atom_Table_Sweep_L1 f s w (fun f1 s1 w1 => f1 = f ∧ J s1 w1 ∧ μ s1 w1 < μ s w) (fun f1 n_1 w1 => f1 = f ∧ Q (.exit 0) [⟨0, .pointer f.1, none⟩, ⟨3, .int .i64 n_1, none⟩] w1)
    simp only [true_and] at e1
    exact cast e1 hb

theorem loops_atom_Table_Sweep : LoopOk Try.prog Try.f18.ntmps G_atom_Table_Sweep (codeOf Try.f18) := loopOk_list rfl ⟨ok_atom_Table_Sweep_L1, trivial⟩

theorem den_atom_Table_Sweep (t : Option Addr) (w : World) (R : Value → World → Prop) :
    F_atom_Table_Sweep t w (fun r w1 => R (.int .i64 r) w1) = den Try.prog Try.f18.ntmps G_atom_Table_Sweep (codeOf Try.f18) [] (postD Try.prog Try.f18.results.toList R) (entry [.pointer t] 0) w := by kernel_rfl

theorem C_atom_Table_Sweep.of {t : Option Addr} {w : World} {R : Int → World → Prop} (h : F_atom_Table_Sweep t w R) : C_atom_Table_Sweep t w R := by
  refine (calls_of_den (c := codeOf Try.f18) seat_ok seat_mixed Try.func18 (by kernel_rfl) loops_atom_Table_Sweep (args := [.pointer t]) rfl (R := fun v w1 => ∃ (r : Int), v = (.int .i64 r : Value) ∧ R r w1) ?_).mono ?_
  · rw [← den_atom_Table_Sweep]
    have e : (fun r w1 => ∃ (r' : Int), (.int .i64 r : Value) = (.int .i64 r' : Value) ∧ R r' w1) = R := by
      funext r w1
      exact propext ⟨fun ⟨r', he, h⟩ => by simp at he; simp_all, fun h => ⟨_, rfl, h⟩⟩
    simpa only [e] using h
  · rintro en w1 ⟨v, he, r, rfl, h⟩
    exact ⟨_, he, h⟩

structure S_ref04_New_L1 where
  i : Int

/-- One round. -/
def B_ref04_New_L1 (lP : Option Addr) (lN : Nat) (lC : Nat) (t : Addr) (s : S_ref04_New_L1) (w : World) (Kn : S_ref04_New_L1 → World → Prop) (Kx0 : World → Prop) : Prop :=
  If (decide ((s.i : Int) < (lN : Int)))
  (NN (some t) fun a =>
  ∃ LP : Option Addr, ∃ LN : Nat, ∃ LC : Nat, (drw w).cell? (a.add 0) = some (.slice LP LN LC) ∧
  0 ≤ (s.i : Int) ∧ (s.i : Int) < (lN : Int) ∧ NN lP fun a_1 =>
  ∃ t32 : ByteArray, (drw w).cell? (a_1.add ((s.i : Int).toNat * 1)) = some (.string t32) ∧
  BSl Try.prog 93 1 [(0, .agg #[.string t32, .bool true, .bool false])] (drw w) fun t34P t34N t34C w1_2 =>
  w1_2.cell? (a.add 0) = (drw w).cell? (a.add 0) ∧
  App Try.prog #[93, 93] 93 #[.slice LP LN LC, .slice t34P t34N t34C] w1_2 fun t35P t35N t35C w1_3 =>
  NN (some t) fun a_2 =>
  St w1_3 ((a_2.add 0).add 0) (.slice t35P t35N t35C) fun w1_4 =>
  Kn ⟨(IntKind.i64.wrap ((s.i : Int) + (1 : Int)))⟩ w1_4)
  (Kx0 w)

def F_ref04_New_L1 (lP : Option Addr) (lN : Nat) (lC : Nat) (t : Addr) (s : S_ref04_New_L1) (w : World) (Kx0 : World → Prop) : Prop :=
  LoopS (fun s w Kn => B_ref04_New_L1 lP lN lC t s w Kn Kx0) s w

def F_ref04_New (limitx : Int) (w : World) (R : Option Addr → World → Prop) : Prop :=
  C_ref04_Reserved  w fun t6P t6N t6C w1 =>
  If (decide (limitx < (t6N : Int)))
  (R none w1)
  (If (decide (limitx > (16384 : Int)))
  (R none w1)
  (New w1 (.cells #[.slice none 0 0, .int .i64 limitx, .int .i64 0] 95) fun r w1_1 =>
  F_ref04_New_L1 t6P t6N t6C ⟨r, 0, none⟩ ⟨(0 : Int)⟩ w1_1
  (fun w1_5 =>
  R (some ⟨r, 0, none⟩) w1_5)))

def lit_ref04_New_L1 (f : (Option Addr) × Nat × Nat × Addr) (s : S_ref04_New_L1) : Env := [⟨3, .slice f.1 f.2.1 f.2.2.1, none⟩, ⟨4, .pointer (some f.2.2.2), none⟩, ⟨5, .int .i64 s.i, none⟩]

def dec_ref04_New_L1 (e : Env) (K : ((Option Addr) × Nat × Nat × Addr) → S_ref04_New_L1 → Prop) : Prop :=
  onV (getV e 3) fun u1 =>
  asS u1 fun lP lN lC =>
  onV (getV e 4) fun u2 =>
  asA u2 fun t =>
  onV (getV e 5) fun u3 =>
  asI .i64 u3 fun i =>
    K (lP, lN, lC, t) ⟨i⟩

theorem dec_ref04_New_L1_ok {N : Nat} (e : Env) (a : Act) (K : ((Option Addr) × Nat × Nat × Addr) → S_ref04_New_L1 → Prop) (hr : Rep N a e) (h0 : dec_ref04_New_L1 e K) : ∃ f s, K f s ∧ Rep N a (lit_ref04_New_L1 f s) := by
  unfold dec_ref04_New_L1 at h0
  obtain ⟨u1, g3, h1⟩ := onV_elim h0
  obtain ⟨lP, lN, lC, rfl, h2⟩ := asS_elim h1
  obtain ⟨u2, g4, h3⟩ := onV_elim h2
  obtain ⟨t, rfl, h4⟩ := asA_elim h3
  obtain ⟨u3, g5, h5⟩ := onV_elim h4
  obtain ⟨i, rfl, h6⟩ := asI_elim h5
  exact ⟨_, _, h6, rep_less hr (by simp [lit_ref04_New_L1, g3, g4, g5])⟩

def spec_ref04_New_L1 (Q : Post) (e : Env) (w : World) : Prop :=
  dec_ref04_New_L1 e fun f s => F_ref04_New_L1 f.1 f.2.1 f.2.2.1 f.2.2.2 s w (fun w1 => Q (.exit 0) [⟨4, .pointer (some f.2.2.2), none⟩] w1)

def G_ref04_New : Gen where
  loop := lookL [([false, true, false, true, true, true, true], spec_ref04_New_L1)]
  plan := fun id =>
    bif Nat.beq id 8 then some ([0, 0, 2, 6, 14, 0, 0, 96, 224, 480, 992, 2046, 4095, 8191, 16383], .take 0 (.take 1 (.take 2 (.take 3 (.take 4 (.take 5 (.take 6 (.take 7 (.take 8 (.take 9 (.take 10 (.take 11 (.take 12 (.take 13 (.take 14 .done))))))))))))))) else none

def dx_ref04_New_L1_0 (e : Env) (K : ((Option Addr) × Nat × Nat × Addr) → Prop) : Prop :=
  onV (getV e 3) fun u1 =>
  asS u1 fun lP lN lC =>
  onV (getV e 4) fun u2 =>
  asA u2 fun t =>
    K (lP, lN, lC, t)

theorem body_ref04_New_L1 (f : (Option Addr) × Nat × Nat × Addr) (s : S_ref04_New_L1) (w : World) (Kn : ((Option Addr) × Nat × Nat × Addr) → S_ref04_New_L1 → World → Prop) (Kx0 : ((Option Addr) × Nat × Nat × Addr) → World → Prop) :
    B_ref04_New_L1 f.1 f.2.1 f.2.2.1 f.2.2.2 s w (fun s1 w1 => Kn f s1 w1) (fun w1 => Kx0 f w1) =
    den Try.prog Try.f19.ntmps G_ref04_New (sub (codeOf Try.f19) [false, false, true, false, true, true, true, true]) [false, false, true, false, true, true, true, true] (roundQ (fun e w => dec_ref04_New_L1 e fun f s => Kn f s w) (fun e w => False) (fun id e w => match Nat.beq id 0 with | true => dx_ref04_New_L1_0 e fun f => Kx0 f w | false => False)) (lit_ref04_New_L1 f s) w := by kernel_rfl

theorem ok_ref04_New_L1 : OneOk Try.prog Try.f19.ntmps G_ref04_New (codeOf Try.f19) [false, true, false, true, true, true, true] spec_ref04_New_L1 := by
  intro c hc ih Q e w a hr h
  have hcc : sub (codeOf Try.f19) [false, false, true, false, true, true, true, true] = c := sub_of_codeAt hc
  obtain ⟨f, s, h, hrep⟩ := dec_ref04_New_L1_ok e a _ hr h
  obtain ⟨J, μ, hj, hround⟩ := h
  refine loop_rule_deep seat_ok seat_mixed ih lit_ref04_New_L1 dec_ref04_New_L1 dec_ref04_New_L1_ok hc f J μ (Kr := fun e w => False) (Kx := fun id e w => match Nat.beq id 0 with | true => (dx_ref04_New_L1_0 e fun f1 => f1 = f ∧ Q (.exit 0) [⟨4, .pointer (some f.2.2.2), none⟩] w) | false => False) ?_ ?_ ?_ s w a hj hrep
  · intro e a w hr h
    exact h.elim
  · intro id e a w hr h0
    (try dsimp only at h0)
    split at h0
    · rename_i hid
      obtain rfl := Nat.eq_of_beq_eq_true hid
      unfold dx_ref04_New_L1_0 at h0
      obtain ⟨u1, g3, h1⟩ := onV_elim h0
      obtain ⟨lP, lN, lC, rfl, h2⟩ := asS_elim h1
      obtain ⟨u2, g4, h3⟩ := onV_elim h2
      obtain ⟨t, rfl, h4⟩ := asA_elim h3
      obtain ⟨hf, hq⟩ := h4
      subst hf
      exact ⟨_, rep_less hr (by simp [g4]), hq⟩
    · exact h0.elim
  · intro s w hj
    have hb := hround s w hj
    rw [← hcc]
    have e1 := body_ref04_New_L1 f s w (fun f1 s1 w1 => f1 = f ∧ J s1 w1 ∧ μ s1 w1 < μ s w) (fun f1 w1 => f1 = f ∧ Q (.exit 0) [⟨4, .pointer (some f.2.2.2), none⟩] w1)
    simp only [true_and] at e1
    exact cast e1 hb

theorem loops_ref04_New : LoopOk Try.prog Try.f19.ntmps G_ref04_New (codeOf Try.f19) := loopOk_list rfl ⟨ok_ref04_New_L1, trivial⟩

theorem den_ref04_New (limitx : Int) (w : World) (R : Value → World → Prop) :
    F_ref04_New limitx w (fun r w1 => R (.pointer r) w1) = den Try.prog Try.f19.ntmps G_ref04_New (codeOf Try.f19) [] (postD Try.prog Try.f19.results.toList R) (entry [.int .i64 limitx] 0) w := by kernel_rfl

theorem C_ref04_New.of {limitx : Int} {w : World} {R : Option Addr → World → Prop} (h : F_ref04_New limitx w R) : C_ref04_New limitx w R := by
  refine (calls_of_den (c := codeOf Try.f19) seat_ok seat_mixed Try.func19 (by kernel_rfl) loops_ref04_New (args := [.int .i64 limitx]) rfl (R := fun v w1 => ∃ (r : Option Addr), v = (.pointer r : Value) ∧ R r w1) ?_).mono ?_
  · rw [← den_ref04_New]
    have e : (fun r w1 => ∃ (r' : Option Addr), (.pointer r : Value) = (.pointer r' : Value) ∧ R r' w1) = R := by
      funext r w1
      exact propext ⟨fun ⟨r', he, h⟩ => by simp at he; simp_all, fun h => ⟨_, rfl, h⟩⟩
    simpa only [e] using h
  · rintro en w1 ⟨v, he, r, rfl, h⟩
    exact ⟨_, he, h⟩

def F_ref05_New_k1 (R : Option Addr → World → Prop) (w1 : World) : Prop :=
  R none w1

def F_ref05_New (limitx : Int) (a : Option Addr) (w : World) (R : Option Addr → World → Prop) : Prop :=
  If (decide (limitx < (1 : Int)))
  (F_ref05_New_k1 R w)
  (If (decide (limitx > (16384 : Int)))
  (F_ref05_New_k1 R w)
  (If a.isNone
  (R none w)
  (New w (.cells #[.slice none 0 0, .int .i64 limitx, .pointer a] 52) fun r w1_1 =>
  R (some ⟨r, 0, none⟩) w1_1)))

def G_ref05_New : Gen where
  loop := lookL []
  plan := fun _ => none

theorem loops_ref05_New : LoopOk Try.prog Try.f20.ntmps G_ref05_New (codeOf Try.f20) := loopOk_none fun _ => rfl

theorem den_ref05_New (limitx : Int) (a : Option Addr) (w : World) (R : Value → World → Prop) :
    F_ref05_New limitx a w (fun r w1 => R (.pointer r) w1) = den Try.prog Try.f20.ntmps G_ref05_New (codeOf Try.f20) [] (postD Try.prog Try.f20.results.toList R) (entry [.int .i64 limitx, .pointer a] 0) w := by kernel_rfl

theorem C_ref05_New.of {limitx : Int} {a : Option Addr} {w : World} {R : Option Addr → World → Prop} (h : F_ref05_New limitx a w R) : C_ref05_New limitx a w R := by
  refine (calls_of_den (c := codeOf Try.f20) seat_ok seat_mixed Try.func20 (by kernel_rfl) loops_ref05_New (args := [.int .i64 limitx, .pointer a]) rfl (R := fun v w1 => ∃ (r : Option Addr), v = (.pointer r : Value) ∧ R r w1) ?_).mono ?_
  · rw [← den_ref05_New]
    have e : (fun r w1 => ∃ (r' : Option Addr), (.pointer r : Value) = (.pointer r' : Value) ∧ R r' w1) = R := by
      funext r w1
      exact propext ⟨fun ⟨r', he, h⟩ => by simp at he; simp_all, fun h => ⟨_, rfl, h⟩⟩
    simpa only [e] using h
  · rintro en w1 ⟨v, he, r, rfl, h⟩
    exact ⟨_, he, h⟩

def F_law05_do_k1 (R : Bool → World → Prop) (w1_5 : World) : Prop :=
  R true w1_5

def F_law05_do_k2 (R : Bool → World → Prop) (t650 : Int) (w1_6 : World) : Prop :=
  R (t650 == (0 : Int)) w1_6

def F_law05_do_k3 (R : Bool → World → Prop) (w1_7 : World) : Prop :=
  R false w1_7

def F_law05_do_k4 (R : Bool → World → Prop) (w1_10 : World) : Prop :=
  R false w1_10

def F_law05_do (t : Option Addr) (a : Option Addr) (x : Option Addr) (o0 : Int) (o1 : ByteArray) (o2 : Int) (w : World) (R : Bool → World → Prop) : Prop :=
  New w (.cells #[.int .i64 o0, .string o1, .int .i64 o2] 23) fun r w1 =>
  ∃ Kind : Int, w1.cell? ((⟨r, 0, none⟩ : Addr).add 0) = some (.int .i64 Kind) ∧
  If (Kind == (1 : Int))
  (∃ Name : ByteArray, w1.cell? ((⟨r, 0, none⟩ : Addr).add 1) = some (.string Name) ∧
  ∃ N : Int, w1.cell? ((⟨r, 0, none⟩ : Addr).add 2) = some (.int .i64 N) ∧
  C_functor_Table_Put t Name N w1 fun t370 t371 w1_1 =>
  ∃ Name_1 : ByteArray, w1_1.cell? ((⟨r, 0, none⟩ : Addr).add 1) = some (.string Name_1) ∧
  ∃ N_1 : Int, w1_1.cell? ((⟨r, 0, none⟩ : Addr).add 2) = some (.int .i64 N_1) ∧
  C_ref05_Table_Put x Name_1 N_1 w1_1 fun t460 t461 w1_2 =>
  If (t370 == t460)
  (R (t371 == t461) w1_2)
  (R false w1_2))
  (If (Kind == (2 : Int))
  (∃ Name_2 : ByteArray, w1.cell? ((⟨r, 0, none⟩ : Addr).add 1) = some (.string Name_2) ∧
  ∃ N_2 : Int, w1.cell? ((⟨r, 0, none⟩ : Addr).add 2) = some (.int .i64 N_2) ∧
  C_functor_Table_Find t Name_2 N_2 w1 fun t650 t651 w1_3 =>
  ∃ Name_3 : ByteArray, w1_3.cell? ((⟨r, 0, none⟩ : Addr).add 1) = some (.string Name_3) ∧
  ∃ N_3 : Int, w1_3.cell? ((⟨r, 0, none⟩ : Addr).add 2) = some (.int .i64 N_3) ∧
  C_ref05_Table_Find x Name_3 N_3 w1_3 fun t73 w1_4 =>
  If (t651 == (decide (t73 ≥ (0 : Int))))
  (If (!t651)
  (If t651
  (F_law05_do_k1 R w1_4)
  (F_law05_do_k2 R t650 w1_4))
  (If (t650 == t73)
  (If t651
  (F_law05_do_k1 R w1_4)
  (F_law05_do_k2 R t650 w1_4))
  (F_law05_do_k3 R w1_4)))
  (F_law05_do_k3 R w1_4))
  (If (Kind == (3 : Int))
  (∃ N_4 : Int, w1.cell? ((⟨r, 0, none⟩ : Addr).add 2) = some (.int .i64 N_4) ∧
  C_functor_Table_Get t N_4 w1 fun t1000 t1001 t1002 w1_8 =>
  ∃ N_5 : Int, w1_8.cell? ((⟨r, 0, none⟩ : Addr).add 2) = some (.int .i64 N_5) ∧
  C_ref05_Table_Get x N_5 w1_8 fun t1080 t1081 t1082 w1_9 =>
  If (t1000.toList == t1080.toList)
  (If (t1001 == t1081)
  (R (t1002 == t1082) w1_9)
  (F_law05_do_k4 R w1_9))
  (F_law05_do_k4 R w1_9))
  (If (Kind == (4 : Int))
  (∃ N_6 : Int, w1.cell? ((⟨r, 0, none⟩ : Addr).add 2) = some (.int .i64 N_6) ∧
  C_functor_Table_Mark t N_6 w1 fun t130 w1_11 =>
  ∃ N_7 : Int, w1_11.cell? ((⟨r, 0, none⟩ : Addr).add 2) = some (.int .i64 N_7) ∧
  C_ref05_Table_Is x N_7 w1_11 fun t134 w1_12 =>
  If (!t134)
  (R (t130 == (4 : Int)) w1_12)
  (NN x fun a_1 =>
  ∃ LP : Option Addr, ∃ LN : Nat, ∃ LC : Nat, (drw w1_12).cell? (a_1.add 0) = some (.slice LP LN LC) ∧
  ∃ N_8 : Int, (drw w1_12).cell? ((⟨r, 0, none⟩ : Addr).add 2) = some (.int .i64 N_8) ∧
  0 ≤ N_8 ∧ N_8 < (LN : Int) ∧ NN LP fun a_2 =>
  St (drw w1_12) (((a_2.add (N_8.toNat * 4)).add 3).add 0) (.bool true) fun w1_13 =>
  R (t130 == (0 : Int)) w1_13))
  (If (Kind == (5 : Int))
  (C_functor_Table_Sweep t w1 fun t151 w1_14 =>
  C_ref05_Table_Sweep x w1_14 fun t153 w1_15 =>
  R (t151 == t153) w1_15)
  (If (Kind == (6 : Int))
  (C_functor_Table_Atoms t w1 fun t158 w1_16 =>
  C_ref05_Table_Atoms x w1_16 fun t160 w1_17 =>
  R (t158 == t160) w1_17)
  (If (Kind == (7 : Int))
  (NN x fun a_3 =>
  ∃ A : Option Addr, (drw w1).cell? (a_3.add 2) = some (.pointer A) ∧
  C_atom_Table_Sweep a (drw w1) fun t165 w1_18 =>
  w1_18.cell? (a_3.add 2) = (drw w1).cell? (a_3.add 2) ∧
  C_ref04_Table_Sweep A w1_18 fun t170 w1_19 =>
  R (t165 == t170) w1_19)
  (If (Kind == (8 : Int))
  (∃ Name_4 : ByteArray, w1.cell? ((⟨r, 0, none⟩ : Addr).add 1) = some (.string Name_4) ∧
  C_atom_Table_Intern a Name_4 w1 fun t1780 t1781 w1_20 =>
  NN x fun a_4 =>
  ∃ A_1 : Option Addr, (drw w1_20).cell? (a_4.add 2) = some (.pointer A_1) ∧
  ∃ Name_5 : ByteArray, (drw w1_20).cell? ((⟨r, 0, none⟩ : Addr).add 1) = some (.string Name_5) ∧
  C_ref04_Table_Intern A_1 Name_5 (drw w1_20) fun t1880 t1881 w1_21 =>
  If (t1780 == t1880)
  (R (t1781 == t1881) w1_21)
  (R false w1_21))
  (R true w1))))))))

def G_law05_do : Gen where
  loop := lookL []
  plan := fun id =>
    bif Nat.beq id 18 then some ([0, 1, 3, 7, 0, 16, 63, 127, 255], .take 0 (.take 1 (.take 2 (.take 3 (.take 4 (.take 5 (.take 6 (.take 7 (.take 8 .done))))))))) else
    bif Nat.beq id 25 then some ([0, 1, 0, 4, 12, 28, 63, 127, 255], .take 0 (.take 2 (.take 3 (.take 4 (.take 5 (.take 1 (.take 6 (.take 7 (.take 8 .done))))))))) else
    bif Nat.beq id 28 then some ([0, 1, 3, 7, 0, 16, 63, 127, 255, 255, 511, 2047], .take 0 (.take 1 (.take 2 (.take 3 (.take 4 (.take 5 (.take 6 (.take 7 (.take 8 (.take 9 (.take 10 (.take 11 .done)))))))))))) else none

theorem loops_law05_do : LoopOk Try.prog Try.f21.ntmps G_law05_do (codeOf Try.f21) := loopOk_none fun _ => rfl

theorem den_law05_do (t : Option Addr) (a : Option Addr) (x : Option Addr) (o0 : Int) (o1 : ByteArray) (o2 : Int) (w : World) (R : Value → World → Prop) :
    F_law05_do t a x o0 o1 o2 w (fun r w1 => R (.bool r) w1) = den Try.prog Try.f21.ntmps G_law05_do (codeOf Try.f21) [] (postD Try.prog Try.f21.results.toList R) (entry [.pointer t, .pointer a, .pointer x, .agg #[.int .i64 o0, .string o1, .int .i64 o2]] 0) w := by kernel_rfl

theorem C_law05_do.of {t : Option Addr} {a : Option Addr} {x : Option Addr} {o0 : Int} {o1 : ByteArray} {o2 : Int} {w : World} {R : Bool → World → Prop} (h : F_law05_do t a x o0 o1 o2 w R) : C_law05_do t a x o0 o1 o2 w R := by
  refine (calls_of_den (c := codeOf Try.f21) seat_ok seat_mixed Try.func21 (by kernel_rfl) loops_law05_do (args := [.pointer t, .pointer a, .pointer x, .agg #[.int .i64 o0, .string o1, .int .i64 o2]]) rfl (R := fun v w1 => ∃ (r : Bool), v = (.bool r : Value) ∧ R r w1) ?_).mono ?_
  · rw [← den_law05_do]
    have e : (fun r w1 => ∃ (r' : Bool), (.bool r : Value) = (.bool r' : Value) ∧ R r' w1) = R := by
      funext r w1
      exact propext ⟨fun ⟨r', he, h⟩ => by simp at he; simp_all, fun h => ⟨_, rfl, h⟩⟩
    simpa only [e] using h
  · rintro en w1 ⟨v, he, r, rfl, h⟩
    exact ⟨_, he, h⟩

structure S_ref05_Table_Len_L1 where
  n : Int
  i : Int

def F_ref05_Table_Len_k1 (s : S_ref05_Table_Len_L1) (Kn : S_ref05_Table_Len_L1 → World → Prop) (n_2 : Int) (w1 : World) : Prop :=
  Kn ⟨n_2, (IntKind.i64.wrap ((s.i : Int) + (1 : Int)))⟩ w1

/-- One round. -/
def B_ref05_Table_Len_L1 (t_1 : Option Addr) (s : S_ref05_Table_Len_L1) (w : World) (Kn : S_ref05_Table_Len_L1 → World → Prop) (Kx0 : Int → World → Prop) : Prop :=
  NN t_1 fun a =>
  ∃ LP : Option Addr, ∃ LN : Nat, ∃ LC : Nat, w.cell? (a.add 0) = some (.slice LP LN LC) ∧
  If (decide ((s.i : Int) < (LN : Int)))
  (NN t_1 fun a_1 =>
  ∃ LP_1 : Option Addr, ∃ LN_1 : Nat, ∃ LC_1 : Nat, w.cell? (a_1.add 0) = some (.slice LP_1 LN_1 LC_1) ∧
  0 ≤ (s.i : Int) ∧ (s.i : Int) < (LN_1 : Int) ∧ NN LP_1 fun a_2 =>
  ∃ Is : Bool, w.cell? ((a_2.add ((s.i : Int).toNat * 4)).add 2) = some (.bool Is) ∧
  If Is
  (F_ref05_Table_Len_k1 s Kn (IntKind.i64.wrap ((s.n : Int) + (1 : Int))) w)
  (F_ref05_Table_Len_k1 s Kn (s.n : Int) w))
  (Kx0 (s.n : Int) w)

def F_ref05_Table_Len_L1 (t_1 : Option Addr) (s : S_ref05_Table_Len_L1) (w : World) (Kx0 : Int → World → Prop) : Prop :=
  LoopS (fun s w Kn => B_ref05_Table_Len_L1 t_1 s w Kn Kx0) s w

def F_ref05_Table_Len (t : Option Addr) (w : World) (R : Int → World → Prop) : Prop :=
  F_ref05_Table_Len_L1 t ⟨(0 : Int), (0 : Int)⟩ w
  (fun n_3 w1_1 =>
  R n_3 w1_1)

def lit_ref05_Table_Len_L1 (f : (Option Addr)) (s : S_ref05_Table_Len_L1) : Env := [⟨0, .pointer f, none⟩, ⟨3, .int .i64 s.n, none⟩, ⟨4, .int .i64 s.i, none⟩]

def dec_ref05_Table_Len_L1 (e : Env) (K : (Option Addr) → S_ref05_Table_Len_L1 → Prop) : Prop :=
  onV (getV e 0) fun u1 =>
  asP u1 fun t_1 =>
  onV (getV e 3) fun u2 =>
  asI .i64 u2 fun n =>
  onV (getV e 4) fun u3 =>
  asI .i64 u3 fun i =>
    K (t_1) ⟨n, i⟩

theorem dec_ref05_Table_Len_L1_ok {N : Nat} (e : Env) (a : Act) (K : (Option Addr) → S_ref05_Table_Len_L1 → Prop) (hr : Rep N a e) (h0 : dec_ref05_Table_Len_L1 e K) : ∃ f s, K f s ∧ Rep N a (lit_ref05_Table_Len_L1 f s) := by
  unfold dec_ref05_Table_Len_L1 at h0
  obtain ⟨u1, g0, h1⟩ := onV_elim h0
  obtain ⟨t_1, rfl, h2⟩ := asP_elim h1
  obtain ⟨u2, g3, h3⟩ := onV_elim h2
  obtain ⟨n, rfl, h4⟩ := asI_elim h3
  obtain ⟨u3, g4, h5⟩ := onV_elim h4
  obtain ⟨i, rfl, h6⟩ := asI_elim h5
  exact ⟨_, _, h6, rep_less hr (by simp [lit_ref05_Table_Len_L1, g0, g3, g4])⟩

def spec_ref05_Table_Len_L1 (Q : Post) (e : Env) (w : World) : Prop :=
  dec_ref05_Table_Len_L1 e fun f s => F_ref05_Table_Len_L1 f s w (fun n_1 w1 => Q (.exit 0) [⟨3, .int .i64 n_1, none⟩] w1)

def G_ref05_Table_Len : Gen where
  loop := lookL [([false, true, false, true, true], spec_ref05_Table_Len_L1)]
  plan := fun _ => none

def dx_ref05_Table_Len_L1_0 (e : Env) (K : (Option Addr) → Int → Prop) : Prop :=
  onV (getV e 0) fun u1 =>
  asP u1 fun t_1 =>
  onV (getV e 3) fun u2 =>
  asI .i64 u2 fun n_1 =>
    K (t_1) n_1

theorem body_ref05_Table_Len_L1 (f : (Option Addr)) (s : S_ref05_Table_Len_L1) (w : World) (Kn : (Option Addr) → S_ref05_Table_Len_L1 → World → Prop) (Kx0 : (Option Addr) → Int → World → Prop) :
    B_ref05_Table_Len_L1 f s w (fun s1 w1 => Kn f s1 w1) (fun n_1 w1 => Kx0 f n_1 w1) =
    den Try.prog Try.f22.ntmps G_ref05_Table_Len (sub (codeOf Try.f22) [false, false, true, false, true, true]) [false, false, true, false, true, true] (roundQ (fun e w => dec_ref05_Table_Len_L1 e fun f s => Kn f s w) (fun e w => False) (fun id e w => match Nat.beq id 0 with | true => dx_ref05_Table_Len_L1_0 e fun f n_1 => Kx0 f n_1 w | false => False)) (lit_ref05_Table_Len_L1 f s) w := by kernel_rfl

theorem ok_ref05_Table_Len_L1 : OneOk Try.prog Try.f22.ntmps G_ref05_Table_Len (codeOf Try.f22) [false, true, false, true, true] spec_ref05_Table_Len_L1 := by
  intro c hc ih Q e w a hr h
  have hcc : sub (codeOf Try.f22) [false, false, true, false, true, true] = c := sub_of_codeAt hc
  obtain ⟨f, s, h, hrep⟩ := dec_ref05_Table_Len_L1_ok e a _ hr h
  obtain ⟨J, μ, hj, hround⟩ := h
  refine loop_rule_deep seat_ok seat_mixed ih lit_ref05_Table_Len_L1 dec_ref05_Table_Len_L1 dec_ref05_Table_Len_L1_ok hc f J μ (Kr := fun e w => False) (Kx := fun id e w => match Nat.beq id 0 with | true => (dx_ref05_Table_Len_L1_0 e fun f1 n_1 => f1 = f ∧ Q (.exit 0) [⟨3, .int .i64 n_1, none⟩] w) | false => False) ?_ ?_ ?_ s w a hj hrep
  · intro e a w hr h
    exact h.elim
  · intro id e a w hr h0
    (try dsimp only at h0)
    split at h0
    · rename_i hid
      obtain rfl := Nat.eq_of_beq_eq_true hid
      unfold dx_ref05_Table_Len_L1_0 at h0
      obtain ⟨u1, g0, h1⟩ := onV_elim h0
      obtain ⟨t_1, rfl, h2⟩ := asP_elim h1
      obtain ⟨u2, g3, h3⟩ := onV_elim h2
      obtain ⟨n_1, rfl, h4⟩ := asI_elim h3
      obtain ⟨hf, hq⟩ := h4
      subst hf
      exact ⟨_, rep_less hr (by simp [g3]), hq⟩
    · exact h0.elim
  · intro s w hj
    have hb := hround s w hj
    rw [← hcc]
    have e1 := body_ref05_Table_Len_L1 f s w (fun f1 s1 w1 => f1 = f ∧ J s1 w1 ∧ μ s1 w1 < μ s w) (fun f1 n_1 w1 => f1 = f ∧ Q (.exit 0) [⟨3, .int .i64 n_1, none⟩] w1)
    simp only [true_and] at e1
    exact cast e1 hb

theorem loops_ref05_Table_Len : LoopOk Try.prog Try.f22.ntmps G_ref05_Table_Len (codeOf Try.f22) := loopOk_list rfl ⟨ok_ref05_Table_Len_L1, trivial⟩

theorem den_ref05_Table_Len (t : Option Addr) (w : World) (R : Value → World → Prop) :
    F_ref05_Table_Len t w (fun r w1 => R (.int .i64 r) w1) = den Try.prog Try.f22.ntmps G_ref05_Table_Len (codeOf Try.f22) [] (postD Try.prog Try.f22.results.toList R) (entry [.pointer t] 0) w := by kernel_rfl

theorem C_ref05_Table_Len.of {t : Option Addr} {w : World} {R : Int → World → Prop} (h : F_ref05_Table_Len t w R) : C_ref05_Table_Len t w R := by
  refine (calls_of_den (c := codeOf Try.f22) seat_ok seat_mixed Try.func22 (by kernel_rfl) loops_ref05_Table_Len (args := [.pointer t]) rfl (R := fun v w1 => ∃ (r : Int), v = (.int .i64 r : Value) ∧ R r w1) ?_).mono ?_
  · rw [← den_ref05_Table_Len]
    have e : (fun r w1 => ∃ (r' : Int), (.int .i64 r : Value) = (.int .i64 r' : Value) ∧ R r' w1) = R := by
      funext r w1
      exact propext ⟨fun ⟨r', he, h⟩ => by simp at he; simp_all, fun h => ⟨_, rfl, h⟩⟩
    simpa only [e] using h
  · rintro en w1 ⟨v, he, r, rfl, h⟩
    exact ⟨_, he, h⟩

end Go.Proofs.Ytlngmelfjiemlaa
