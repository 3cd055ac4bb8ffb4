/- The formulas of this seat's functions, held against the loaded program by the kernel. Printed by a program. -/
import Derived.Test.YtdaenijbokialaaGreatGenC
set_option maxRecDepth 100000
set_option linter.unusedVariables false
namespace Go.Proofs.YtdaenijbokialaaGreat
open Go Go.D Go.Proofs

def F_ref06_Comp (sx : ByteArray) (lP : Option Addr) (lN : Nat) (lC : Nat) (w : World) (R : Int → Int → ByteArray → Option Addr → Nat → Nat → World → Prop) : Prop :=
  New w (.cells #[.int .i64 0, .int .i64 0, .string ⟨#[]⟩, .slice none 0 0] 31) fun r w1 =>
  If ((lN : Int) == (0 : Int))
  (C_ref06_Atom sx w1 fun t90 t91 t92 t93P t93N t93C w1_1 =>
  St w1_1 ((⟨r, 0, none⟩ : Addr).add 0) (.int .i64 t90) fun w1_2 =>
  St w1_2 ((⟨r, 0, none⟩ : Addr).add 1) (.int .i64 t91) fun w1_3 =>
  St w1_3 ((⟨r, 0, none⟩ : Addr).add 2) (.string t92) fun w1_4 =>
  St w1_4 ((⟨r, 0, none⟩ : Addr).add 3) (.slice t93P t93N t93C) fun w1_5 =>
  ∃ r_1 : Int, w1_5.cell? ((⟨r, 0, none⟩ : Addr).add 0) = some (.int .i64 r_1) ∧
  ∃ r_2 : Int, w1_5.cell? ((⟨r, 0, none⟩ : Addr).add 1) = some (.int .i64 r_2) ∧
  ∃ r_3 : ByteArray, w1_5.cell? ((⟨r, 0, none⟩ : Addr).add 2) = some (.string r_3) ∧
  ∃ rP : Option Addr, ∃ rN : Nat, ∃ rC : Nat, w1_5.cell? ((⟨r, 0, none⟩ : Addr).add 3) = some (.slice rP rN rC) ∧
  R r_1 r_2 r_3 rP rN rC w1_5)
  (BSl Tryz.prog 22 0 [] w1 fun t11P t11N t11C w1_6 =>
  App Tryz.prog #[22, 22] 22 #[.slice t11P t11N t11C, .slice lP lN lC] w1_6 fun t13P t13N t13C w1_7 =>
  St w1_7 ((⟨r, 0, none⟩ : Addr).add 0) (.int .i64 4) fun w1_8 =>
  St w1_8 ((⟨r, 0, none⟩ : Addr).add 1) (.int .i64 0) fun w1_9 =>
  St w1_9 ((⟨r, 0, none⟩ : Addr).add 2) (.string sx) fun w1_10 =>
  St w1_10 ((⟨r, 0, none⟩ : Addr).add 3) (.slice t13P t13N t13C) fun w1_11 =>
  ∃ r_4 : Int, w1_11.cell? ((⟨r, 0, none⟩ : Addr).add 0) = some (.int .i64 r_4) ∧
  ∃ r_5 : Int, w1_11.cell? ((⟨r, 0, none⟩ : Addr).add 1) = some (.int .i64 r_5) ∧
  ∃ r_6 : ByteArray, w1_11.cell? ((⟨r, 0, none⟩ : Addr).add 2) = some (.string r_6) ∧
  ∃ rP_1 : Option Addr, ∃ rN_1 : Nat, ∃ rC_1 : Nat, w1_11.cell? ((⟨r, 0, none⟩ : Addr).add 3) = some (.slice rP_1 rN_1 rC_1) ∧
  R r_4 r_5 r_6 rP_1 rN_1 rC_1 w1_11)

def G_ref06_Comp : Gen where
  loop := lookL []
  plan := fun _ => none

theorem loops_ref06_Comp : LoopOk Tryz.prog Tryz.f26.ntmps G_ref06_Comp (codeOf Tryz.f26) := loopOk_none fun _ => rfl

theorem den_ref06_Comp (sx : ByteArray) (lP : Option Addr) (lN : Nat) (lC : Nat) (w : World) (R : Value → World → Prop) :
    F_ref06_Comp sx lP lN lC w (fun r0 r1 r2 r3P r3N r3C w1 => R (.agg #[.int .i64 r0, .int .i64 r1, .string r2, .slice r3P r3N r3C]) w1) = den Tryz.prog Tryz.f26.ntmps G_ref06_Comp (codeOf Tryz.f26) [] (postD Tryz.prog Tryz.f26.results.toList R) (entry [.string sx, .slice lP lN lC] 0) w := by kernel_rfl

theorem C_ref06_Comp.of {sx : ByteArray} {lP : Option Addr} {lN : Nat} {lC : Nat} {w : World} {R : Int → Int → ByteArray → Option Addr → Nat → Nat → World → Prop} (h : F_ref06_Comp sx lP lN lC w R) : C_ref06_Comp sx lP lN lC w R := by
  refine (calls_of_den (c := codeOf Tryz.f26) seat_ok seat_mixed Tryz.func26 (by kernel_rfl) loops_ref06_Comp (args := [.string sx, .slice lP lN lC]) rfl (R := fun v w1 => ∃ (r0 : Int) (r1 : Int) (r2 : ByteArray) (r3P : Option Addr) (r3N : Nat) (r3C : Nat), v = (.agg #[.int .i64 r0, .int .i64 r1, .string r2, .slice r3P r3N r3C] : Value) ∧ R r0 r1 r2 r3P r3N r3C w1) ?_).mono ?_
  · rw [← den_ref06_Comp]
    have e : (fun r0 r1 r2 r3P r3N r3C w1 => ∃ (r0' : Int) (r1' : Int) (r2' : ByteArray) (r3P' : Option Addr) (r3N' : Nat) (r3C' : Nat), (.agg #[.int .i64 r0, .int .i64 r1, .string r2, .slice r3P r3N r3C] : Value) = (.agg #[.int .i64 r0', .int .i64 r1', .string r2', .slice r3P' r3N' r3C'] : Value) ∧ R r0' r1' r2' r3P' r3N' r3C' w1) = R := by
      funext r0 r1 r2 r3P r3N r3C w1
      exact propext ⟨fun ⟨r0', r1', r2', r3P', r3N', r3C', he, h⟩ => by first | (simp at he; simp_all) | (cases he; exact h), fun h => ⟨_, _, _, _, _, _, rfl, h⟩⟩
    simpa only [e] using h
  · rintro en w1 ⟨v, he, r0, r1, r2, r3P, r3N, r3C, rfl, h⟩
    exact ⟨_, _, _, _, _, _, he, h⟩

def F_heap_Heap_Struct (hx : Option Addr) (namex : ByteArray) (arity : Int) (w : World) (R : Int → Int → World → Prop) : Prop :=
  C_heap_Heap_made hx w fun t12 w1 =>
  If (!t12)
  (R (0 : Int) (6 : Int) w1)
  (NN hx fun a =>
  ∃ funs : Option Addr, w1.cell? (a.add 3) = some (.pointer funs) ∧
  C_functor_Table_Put funs namex arity w1 fun t210 t211 w1_1 =>
  If (t211 != (0 : Int))
  (R (0 : Int) t211 w1_1)
  (C_heap_Heap_take hx (IntKind.i64.wrap (arity + (1 : Int))) w1_1 fun t310 t311 w1_2 =>
  If (t311 != (0 : Int))
  (R (0 : Int) t311 w1_2)
  (NN hx fun a_1 =>
  ∃ cellsP : Option Addr, ∃ cellsN : Nat, ∃ cellsC : Nat, (drw w1_2).cell? (a_1.add 4) = some (.slice cellsP cellsN cellsC) ∧
  C_heap_word (5 : Int) t210 (drw w1_2) fun t43 w1_3 =>
  w1_3.cell? (a_1.add 4) = (drw w1_2).cell? (a_1.add 4) ∧
  0 ≤ t310 ∧ t310 < (cellsN : Int) ∧ NN cellsP fun a_2 =>
  St w1_3 ((a_2.add (t310.toNat * 1)).add 0) (.int .u64 t43) fun w1_4 =>
  C_heap_word (2 : Int) t310 w1_4 fun t46 w1_5 =>
  R t46 (0 : Int) w1_5)))

def G_heap_Heap_Struct : Gen where
  loop := lookL []
  plan := fun id =>
    bif Nat.beq id 9 then some ([0, 1, 3, 7, 0, 0, 32, 127, 255], .take 0 (.take 1 (.take 2 (.take 3 (.take 4 (.take 5 (.take 6 (.take 7 (.take 8 .done))))))))) else none

theorem loops_heap_Heap_Struct : LoopOk Tryz.prog Tryz.f27.ntmps G_heap_Heap_Struct (codeOf Tryz.f27) := loopOk_none fun _ => rfl

theorem den_heap_Heap_Struct (hx : Option Addr) (namex : ByteArray) (arity : Int) (w : World) (R : Value → World → Prop) :
    F_heap_Heap_Struct hx namex arity w (fun r0 r1 w1 => R (.tuple #[.int .u64 r0, .int .i64 r1]) w1) = den Tryz.prog Tryz.f27.ntmps G_heap_Heap_Struct (codeOf Tryz.f27) [] (postD Tryz.prog Tryz.f27.results.toList R) (entry [.pointer hx, .string namex, .int .i64 arity] 0) w := by kernel_rfl

theorem C_heap_Heap_Struct.of {hx : Option Addr} {namex : ByteArray} {arity : Int} {w : World} {R : Int → Int → World → Prop} (h : F_heap_Heap_Struct hx namex arity w R) : C_heap_Heap_Struct hx namex arity w R := by
  refine (calls_of_den (c := codeOf Tryz.f27) seat_ok seat_mixed Tryz.func27 (by kernel_rfl) loops_heap_Heap_Struct (args := [.pointer hx, .string namex, .int .i64 arity]) rfl (R := fun v w1 => ∃ (r0 : Int) (r1 : Int), v = (.tuple #[.int .u64 r0, .int .i64 r1] : Value) ∧ R r0 r1 w1) ?_).mono ?_
  · rw [← den_heap_Heap_Struct]
    have e : (fun r0 r1 w1 => ∃ (r0' : Int) (r1' : Int), (.tuple #[.int .u64 r0, .int .i64 r1] : Value) = (.tuple #[.int .u64 r0', .int .i64 r1'] : Value) ∧ R r0' r1' w1) = R := by
      funext r0 r1 w1
      exact propext ⟨fun ⟨r0', r1', he, h⟩ => by first | (simp at he; simp_all) | (cases he; exact h), fun h => ⟨_, _, rfl, h⟩⟩
    simpa only [e] using h
  · rintro en w1 ⟨v, he, r0, r1, rfl, h⟩
    exact ⟨_, _, he, h⟩

def F_heap_Heap_Arg (hx : Option Addr) (wx : Int) (i : Int) (w : World) (R : Int → Int → World → Prop) : Prop :=
  C_heap_Heap_made hx w fun t10 w1 =>
  If (!t10)
  (R (0 : Int) (6 : Int) w1)
  (C_heap_Heap_compound hx wx i w1 fun t160 t161 w1_1 =>
  If (!t161)
  (R (0 : Int) (1 : Int) w1_1)
  (C_heap_arg t160 i w1_1 fun t23 w1_2 =>
  C_heap_ref t23 w1_2 fun t24 w1_3 =>
  R t24 (0 : Int) w1_3))

def G_heap_Heap_Arg : Gen where
  loop := lookL []
  plan := fun _ => none

theorem loops_heap_Heap_Arg : LoopOk Tryz.prog Tryz.f28.ntmps G_heap_Heap_Arg (codeOf Tryz.f28) := loopOk_none fun _ => rfl

theorem den_heap_Heap_Arg (hx : Option Addr) (wx : Int) (i : Int) (w : World) (R : Value → World → Prop) :
    F_heap_Heap_Arg hx wx i w (fun r0 r1 w1 => R (.tuple #[.int .u64 r0, .int .i64 r1]) w1) = den Tryz.prog Tryz.f28.ntmps G_heap_Heap_Arg (codeOf Tryz.f28) [] (postD Tryz.prog Tryz.f28.results.toList R) (entry [.pointer hx, .int .u64 wx, .int .i64 i] 0) w := by kernel_rfl

theorem C_heap_Heap_Arg.of {hx : Option Addr} {wx : Int} {i : Int} {w : World} {R : Int → Int → World → Prop} (h : F_heap_Heap_Arg hx wx i w R) : C_heap_Heap_Arg hx wx i w R := by
  refine (calls_of_den (c := codeOf Tryz.f28) seat_ok seat_mixed Tryz.func28 (by kernel_rfl) loops_heap_Heap_Arg (args := [.pointer hx, .int .u64 wx, .int .i64 i]) rfl (R := fun v w1 => ∃ (r0 : Int) (r1 : Int), v = (.tuple #[.int .u64 r0, .int .i64 r1] : Value) ∧ R r0 r1 w1) ?_).mono ?_
  · rw [← den_heap_Heap_Arg]
    have e : (fun r0 r1 w1 => ∃ (r0' : Int) (r1' : Int), (.tuple #[.int .u64 r0, .int .i64 r1] : Value) = (.tuple #[.int .u64 r0', .int .i64 r1'] : Value) ∧ R r0' r1' w1) = R := by
      funext r0 r1 w1
      exact propext ⟨fun ⟨r0', r1', he, h⟩ => by first | (simp at he; simp_all) | (cases he; exact h), fun h => ⟨_, _, rfl, h⟩⟩
    simpa only [e] using h
  · rintro en w1 ⟨v, he, r0, r1, rfl, h⟩
    exact ⟨_, _, he, h⟩

def F_ref06_Large (t0 : Int) (t1 : Int) (t2 : ByteArray) (t3P : Option Addr) (t3N : Nat) (t3C : Nat) (w : World) (R : Bool → World → Prop) : Prop :=
  New w (.cells #[.int .i64 t0, .int .i64 t1, .string t2, .slice t3P t3N t3C] 31) fun r w1 =>
  New w1 (.cells #[.int .i64 0] 3) fun r_1 w1_1 =>
  St w1_1 ((⟨r_1, 0, none⟩ : Addr).add 0) (.int .i64 0) fun w1_2 =>
  ∃ t40 : Int, w1_2.cell? ((⟨r, 0, none⟩ : Addr).add 0) = some (.int .i64 t40) ∧
  ∃ t41 : Int, w1_2.cell? ((⟨r, 0, none⟩ : Addr).add 1) = some (.int .i64 t41) ∧
  ∃ t42 : ByteArray, w1_2.cell? ((⟨r, 0, none⟩ : Addr).add 2) = some (.string t42) ∧
  ∃ t43P : Option Addr, ∃ t43N : Nat, ∃ t43C : Nat, w1_2.cell? ((⟨r, 0, none⟩ : Addr).add 3) = some (.slice t43P t43N t43C) ∧
  C_ref06_large t40 t41 t42 t43P t43N t43C (0 : Int) (some ⟨r_1, 0, none⟩) w1_2 fun t5 w1_3 =>
  R t5 w1_3

def G_ref06_Large : Gen where
  loop := lookL []
  plan := fun _ => none

theorem loops_ref06_Large : LoopOk Tryz.prog Tryz.f30.ntmps G_ref06_Large (codeOf Tryz.f30) := loopOk_none fun _ => rfl

theorem den_ref06_Large (t0 : Int) (t1 : Int) (t2 : ByteArray) (t3P : Option Addr) (t3N : Nat) (t3C : Nat) (w : World) (R : Value → World → Prop) :
    F_ref06_Large t0 t1 t2 t3P t3N t3C w (fun r w1 => R (.bool r) w1) = den Tryz.prog Tryz.f30.ntmps G_ref06_Large (codeOf Tryz.f30) [] (postD Tryz.prog Tryz.f30.results.toList R) (entry [.agg #[.int .i64 t0, .int .i64 t1, .string t2, .slice t3P t3N t3C]] 0) w := by kernel_rfl

theorem C_ref06_Large.of {t0 : Int} {t1 : Int} {t2 : ByteArray} {t3P : Option Addr} {t3N : Nat} {t3C : Nat} {w : World} {R : Bool → World → Prop} (h : F_ref06_Large t0 t1 t2 t3P t3N t3C w R) : C_ref06_Large t0 t1 t2 t3P t3N t3C w R := by
  refine (calls_of_den (c := codeOf Tryz.f30) seat_ok seat_mixed Tryz.func30 (by kernel_rfl) loops_ref06_Large (args := [.agg #[.int .i64 t0, .int .i64 t1, .string t2, .slice t3P t3N t3C]]) rfl (R := fun v w1 => ∃ (r : Bool), v = (.bool r : Value) ∧ R r w1) ?_).mono ?_
  · rw [← den_ref06_Large]
    have e : (fun r w1 => ∃ (r' : Bool), (.bool r : Value) = (.bool r' : Value) ∧ R r' w1) = R := by
      funext r w1
      exact propext ⟨fun ⟨r', he, h⟩ => by first | (simp at he; simp_all) | (cases he; exact h), fun h => ⟨_, rfl, h⟩⟩
    simpa only [e] using h
  · rintro en w1 ⟨v, he, r, rfl, h⟩
    exact ⟨_, he, h⟩

def F_ref06_Var (n : Int) (w : World) (R : Int → Int → ByteArray → Option Addr → Nat → Nat → World → Prop) : Prop :=
  New w (.cells #[.int .i64 0, .int .i64 0, .string ⟨#[]⟩, .slice none 0 0] 31) fun r w1 =>
  St w1 ((⟨r, 0, none⟩ : Addr).add 0) (.int .i64 1) fun w1_1 =>
  St w1_1 ((⟨r, 0, none⟩ : Addr).add 1) (.int .i64 n) fun w1_2 =>
  St w1_2 ((⟨r, 0, none⟩ : Addr).add 2) (.string ⟨#[]⟩) fun w1_3 =>
  St w1_3 ((⟨r, 0, none⟩ : Addr).add 3) (.slice none 0 0) fun w1_4 =>
  ∃ r_1 : Int, w1_4.cell? ((⟨r, 0, none⟩ : Addr).add 0) = some (.int .i64 r_1) ∧
  ∃ r_2 : Int, w1_4.cell? ((⟨r, 0, none⟩ : Addr).add 1) = some (.int .i64 r_2) ∧
  ∃ r_3 : ByteArray, w1_4.cell? ((⟨r, 0, none⟩ : Addr).add 2) = some (.string r_3) ∧
  ∃ rP : Option Addr, ∃ rN : Nat, ∃ rC : Nat, w1_4.cell? ((⟨r, 0, none⟩ : Addr).add 3) = some (.slice rP rN rC) ∧
  R r_1 r_2 r_3 rP rN rC w1_4

def G_ref06_Var : Gen where
  loop := lookL []
  plan := fun _ => none

theorem loops_ref06_Var : LoopOk Tryz.prog Tryz.f31.ntmps G_ref06_Var (codeOf Tryz.f31) := loopOk_none fun _ => rfl

theorem den_ref06_Var (n : Int) (w : World) (R : Value → World → Prop) :
    F_ref06_Var n w (fun r0 r1 r2 r3P r3N r3C w1 => R (.agg #[.int .i64 r0, .int .i64 r1, .string r2, .slice r3P r3N r3C]) w1) = den Tryz.prog Tryz.f31.ntmps G_ref06_Var (codeOf Tryz.f31) [] (postD Tryz.prog Tryz.f31.results.toList R) (entry [.int .i64 n] 0) w := by kernel_rfl

theorem C_ref06_Var.of {n : Int} {w : World} {R : Int → Int → ByteArray → Option Addr → Nat → Nat → World → Prop} (h : F_ref06_Var n w R) : C_ref06_Var n w R := by
  refine (calls_of_den (c := codeOf Tryz.f31) seat_ok seat_mixed Tryz.func31 (by kernel_rfl) loops_ref06_Var (args := [.int .i64 n]) rfl (R := fun v w1 => ∃ (r0 : Int) (r1 : Int) (r2 : ByteArray) (r3P : Option Addr) (r3N : Nat) (r3C : Nat), v = (.agg #[.int .i64 r0, .int .i64 r1, .string r2, .slice r3P r3N r3C] : Value) ∧ R r0 r1 r2 r3P r3N r3C w1) ?_).mono ?_
  · rw [← den_ref06_Var]
    have e : (fun r0 r1 r2 r3P r3N r3C w1 => ∃ (r0' : Int) (r1' : Int) (r2' : ByteArray) (r3P' : Option Addr) (r3N' : Nat) (r3C' : Nat), (.agg #[.int .i64 r0, .int .i64 r1, .string r2, .slice r3P r3N r3C] : Value) = (.agg #[.int .i64 r0', .int .i64 r1', .string r2', .slice r3P' r3N' r3C'] : Value) ∧ R r0' r1' r2' r3P' r3N' r3C' w1) = R := by
      funext r0 r1 r2 r3P r3N r3C w1
      exact propext ⟨fun ⟨r0', r1', r2', r3P', r3N', r3C', he, h⟩ => by first | (simp at he; simp_all) | (cases he; exact h), fun h => ⟨_, _, _, _, _, _, rfl, h⟩⟩
    simpa only [e] using h
  · rintro en w1 ⟨v, he, r0, r1, r2, r3P, r3N, r3C, rfl, h⟩
    exact ⟨_, _, _, _, _, _, he, h⟩

def F_heap_Heap_Unify (hx : Option Addr) (a : Int) (b : Int) (w : World) (R : Bool → Int → World → Prop) : Prop :=
  C_heap_Heap_made hx w fun t12 w1 =>
  If (!t12)
  (R false (6 : Int) w1)
  (C_heap_Heap_right hx a w1 fun t17 w1_1 =>
  If (!t17)
  (R false (1 : Int) w1_1)
  (C_heap_Heap_right hx b w1_1 fun t22 w1_2 =>
  If (!t22)
  (R false (1 : Int) w1_2)
  (New w1_2 (.map #[] 0) fun r w1_3 =>
  New w1_3 (.cells #[.pointer hx, .map (some r), .int .i64 0] 143) fun r_1 w1_4 =>
  C_heap_matcher_unify (some ⟨r_1, 0, none⟩) a b w1_4 fun t32 w1_5 =>
  NN (some ⟨r_1, 0, none⟩) fun a_1 =>
  ∃ ex : Int, (drw w1_5).cell? (a_1.add 2) = some (.int .i64 ex) ∧
  (drw w1_5).cell? (a_1.add 2) = (drw w1_5).cell? (a_1.add 2) ∧
  R t32 ex (drw w1_5))))

def G_heap_Heap_Unify : Gen where
  loop := lookL []
  plan := fun id =>
    bif Nat.beq id 7 then some ([0, 0, 2, 6, 14, 1, 63], .take 0 (.take 1 (.take 2 (.take 3 (.take 4 (.take 5 (.take 6 .done))))))) else none

theorem loops_heap_Heap_Unify : LoopOk Tryz.prog Tryz.f35.ntmps G_heap_Heap_Unify (codeOf Tryz.f35) := loopOk_none fun _ => rfl

theorem den_heap_Heap_Unify (hx : Option Addr) (a : Int) (b : Int) (w : World) (R : Value → World → Prop) :
    F_heap_Heap_Unify hx a b w (fun r0 r1 w1 => R (.tuple #[.bool r0, .int .i64 r1]) w1) = den Tryz.prog Tryz.f35.ntmps G_heap_Heap_Unify (codeOf Tryz.f35) [] (postD Tryz.prog Tryz.f35.results.toList R) (entry [.pointer hx, .int .u64 a, .int .u64 b] 0) w := by kernel_rfl

theorem C_heap_Heap_Unify.of {hx : Option Addr} {a : Int} {b : Int} {w : World} {R : Bool → Int → World → Prop} (h : F_heap_Heap_Unify hx a b w R) : C_heap_Heap_Unify hx a b w R := by
  refine (calls_of_den (c := codeOf Tryz.f35) seat_ok seat_mixed Tryz.func35 (by kernel_rfl) loops_heap_Heap_Unify (args := [.pointer hx, .int .u64 a, .int .u64 b]) rfl (R := fun v w1 => ∃ (r0 : Bool) (r1 : Int), v = (.tuple #[.bool r0, .int .i64 r1] : Value) ∧ R r0 r1 w1) ?_).mono ?_
  · rw [← den_heap_Heap_Unify]
    have e : (fun r0 r1 w1 => ∃ (r0' : Bool) (r1' : Int), (.tuple #[.bool r0, .int .i64 r1] : Value) = (.tuple #[.bool r0', .int .i64 r1'] : Value) ∧ R r0' r1' w1) = R := by
      funext r0 r1 w1
      exact propext ⟨fun ⟨r0', r1', he, h⟩ => by first | (simp at he; simp_all) | (cases he; exact h), fun h => ⟨_, _, rfl, h⟩⟩
    simpa only [e] using h
  · rintro en w1 ⟨v, he, r0, r1, rfl, h⟩
    exact ⟨_, _, he, h⟩

def F_heap_Heap_Cell (hx : Option Addr) (atx : Int) (w : World) (R : Int → World → Prop) : Prop :=
  C_heap_Heap_made hx w fun t6 w1 =>
  If (!t6)
  (R (0 : Int) w1)
  (C_heap_Heap_taken hx atx w1 fun t11 w1_1 =>
  If (!t11)
  (R (0 : Int) w1_1)
  (NN hx fun a =>
  ∃ cellsP : Option Addr, ∃ cellsN : Nat, ∃ cellsC : Nat, w1_1.cell? (a.add 4) = some (.slice cellsP cellsN cellsC) ∧
  0 ≤ atx ∧ atx < (cellsN : Int) ∧ NN cellsP fun a_1 =>
  ∃ t20 : Int, w1_1.cell? (a_1.add (atx.toNat * 1)) = some (.int .u64 t20) ∧
  R t20 w1_1))

def G_heap_Heap_Cell : Gen where
  loop := lookL []
  plan := fun _ => none

theorem loops_heap_Heap_Cell : LoopOk Tryz.prog Tryz.f36.ntmps G_heap_Heap_Cell (codeOf Tryz.f36) := loopOk_none fun _ => rfl

theorem den_heap_Heap_Cell (hx : Option Addr) (atx : Int) (w : World) (R : Value → World → Prop) :
    F_heap_Heap_Cell hx atx w (fun r w1 => R (.int .u64 r) w1) = den Tryz.prog Tryz.f36.ntmps G_heap_Heap_Cell (codeOf Tryz.f36) [] (postD Tryz.prog Tryz.f36.results.toList R) (entry [.pointer hx, .int .i64 atx] 0) w := by kernel_rfl

theorem C_heap_Heap_Cell.of {hx : Option Addr} {atx : Int} {w : World} {R : Int → World → Prop} (h : F_heap_Heap_Cell hx atx w R) : C_heap_Heap_Cell hx atx w R := by
  refine (calls_of_den (c := codeOf Tryz.f36) seat_ok seat_mixed Tryz.func36 (by kernel_rfl) loops_heap_Heap_Cell (args := [.pointer hx, .int .i64 atx]) rfl (R := fun v w1 => ∃ (r : Int), v = (.int .u64 r : Value) ∧ R r w1) ?_).mono ?_
  · rw [← den_heap_Heap_Cell]
    have e : (fun r w1 => ∃ (r' : Int), (.int .u64 r : Value) = (.int .u64 r' : Value) ∧ R r' w1) = R := by
      funext r w1
      exact propext ⟨fun ⟨r', he, h⟩ => by first | (simp at he; simp_all) | (cases he; exact h), fun h => ⟨_, rfl, h⟩⟩
    simpa only [e] using h
  · rintro en w1 ⟨v, he, r, rfl, h⟩
    exact ⟨_, he, h⟩

def F_heap_Heap_Open (hx : Option Addr) (w : World) (R : Int → Int → World → Prop) : Prop :=
  C_heap_Heap_made hx w fun t6 w1 =>
  If (!t6)
  (R (0 : Int) (6 : Int) w1)
  (NN hx fun a =>
  ∃ pool : Option Addr, w1.cell? (a.add 0) = some (.pointer pool) ∧
  C_pool_Pool_Open pool w1 fun t12 w1_1 =>
  If (t12 != (0 : Int))
  (R (0 : Int) t12 w1_1)
  (NN hx fun a_1 =>
  ∃ startsP : Option Addr, ∃ startsN : Nat, ∃ startsC : Nat, (drw w1_1).cell? (a_1.add 5) = some (.slice startsP startsN startsC) ∧
  NN hx fun a_2 =>
  ∃ pool_1 : Option Addr, (drw w1_1).cell? (a_2.add 0) = some (.pointer pool_1) ∧
  C_pool_Pool_Top pool_1 (drw w1_1) fun t25 w1_2 =>
  w1_2.cell? (a_1.add 5) = (drw w1_1).cell? (a_1.add 5) ∧
  BSl Tryz.prog 55 1 [(0, .int .i64 t25)] w1_2 fun t26P t26N t26C w1_3 =>
  w1_3.cell? (a_1.add 5) = (drw w1_1).cell? (a_1.add 5) ∧
  App Tryz.prog #[55, 55] 55 #[.slice startsP startsN startsC, .slice t26P t26N t26C] w1_3 fun t27P t27N t27C w1_4 =>
  NN hx fun a_3 =>
  St w1_4 ((a_3.add 5).add 0) (.slice t27P t27N t27C) fun w1_5 =>
  NN hx fun a_4 =>
  ∃ marksP : Option Addr, ∃ marksN : Nat, ∃ marksC : Nat, (drw w1_5).cell? (a_4.add 6) = some (.slice marksP marksN marksC) ∧
  NN hx fun a_5 =>
  ∃ trail : Option Addr, (drw w1_5).cell? (a_5.add 1) = some (.pointer trail) ∧
  C_room_Room_Len trail (drw w1_5) fun t39 w1_6 =>
  w1_6.cell? (a_4.add 6) = (drw w1_5).cell? (a_4.add 6) ∧
  BSl Tryz.prog 55 1 [(0, .int .i64 t39)] w1_6 fun t40P t40N t40C w1_7 =>
  w1_7.cell? (a_4.add 6) = (drw w1_5).cell? (a_4.add 6) ∧
  App Tryz.prog #[55, 55] 55 #[.slice marksP marksN marksC, .slice t40P t40N t40C] w1_7 fun t41P t41N t41C w1_8 =>
  NN hx fun a_6 =>
  St w1_8 ((a_6.add 6).add 0) (.slice t41P t41N t41C) fun w1_9 =>
  NN hx fun a_7 =>
  ∃ trail_1 : Option Addr, w1_9.cell? (a_7.add 1) = some (.pointer trail_1) ∧
  C_room_Room_Len trail_1 w1_9 fun t48 w1_10 =>
  R t48 (0 : Int) w1_10))

def G_heap_Heap_Open : Gen where
  loop := lookL []
  plan := fun id =>
    bif Nat.beq id 6 then some ([0, 0, 2, 6, 14, 0, 32, 96, 224, 480, 992, 2046, 4095, 8191, 16383], .take 0 (.take 1 (.take 2 (.take 3 (.take 4 (.take 5 (.take 6 (.take 7 (.take 8 (.take 9 (.take 10 (.take 11 (.take 12 (.take 13 (.take 14 .done))))))))))))))) else
    bif Nat.beq id 7 then some ([0, 0, 2, 6, 14, 0, 32, 96, 224, 480, 992, 2046, 4095, 8191, 16383], .take 0 (.take 1 (.take 2 (.take 3 (.take 4 (.take 5 (.take 6 (.take 7 (.take 8 (.take 9 (.take 10 (.take 11 (.take 12 (.take 13 (.take 14 .done))))))))))))))) else none

theorem loops_heap_Heap_Open : LoopOk Tryz.prog Tryz.f37.ntmps G_heap_Heap_Open (codeOf Tryz.f37) := loopOk_none fun _ => rfl

theorem den_heap_Heap_Open (hx : Option Addr) (w : World) (R : Value → World → Prop) :
    F_heap_Heap_Open hx w (fun r0 r1 w1 => R (.tuple #[.int .i64 r0, .int .i64 r1]) w1) = den Tryz.prog Tryz.f37.ntmps G_heap_Heap_Open (codeOf Tryz.f37) [] (postD Tryz.prog Tryz.f37.results.toList R) (entry [.pointer hx] 0) w := by kernel_rfl

theorem C_heap_Heap_Open.of {hx : Option Addr} {w : World} {R : Int → Int → World → Prop} (h : F_heap_Heap_Open hx w R) : C_heap_Heap_Open hx w R := by
  refine (calls_of_den (c := codeOf Tryz.f37) seat_ok seat_mixed Tryz.func37 (by kernel_rfl) loops_heap_Heap_Open (args := [.pointer hx]) rfl (R := fun v w1 => ∃ (r0 : Int) (r1 : Int), v = (.tuple #[.int .i64 r0, .int .i64 r1] : Value) ∧ R r0 r1 w1) ?_).mono ?_
  · rw [← den_heap_Heap_Open]
    have e : (fun r0 r1 w1 => ∃ (r0' : Int) (r1' : Int), (.tuple #[.int .i64 r0, .int .i64 r1] : Value) = (.tuple #[.int .i64 r0', .int .i64 r1'] : Value) ∧ R r0' r1' w1) = R := by
      funext r0 r1 w1
      exact propext ⟨fun ⟨r0', r1', he, h⟩ => by first | (simp at he; simp_all) | (cases he; exact h), fun h => ⟨_, _, rfl, h⟩⟩
    simpa only [e] using h
  · rintro en w1 ⟨v, he, r0, r1, rfl, h⟩
    exact ⟨_, _, he, h⟩

def F_heap_Heap_Back (hx : Option Addr) (w : World) (R : Int → World → Prop) : Prop :=
  C_heap_Heap_made hx w fun t4 w1 =>
  If (!t4)
  (R (6 : Int) w1)
  (NN hx fun a =>
  ∃ marksP : Option Addr, ∃ marksN : Nat, ∃ marksC : Nat, (drw w1).cell? (a.add 6) = some (.slice marksP marksN marksC) ∧
  NN hx fun a_1 =>
  ∃ marksP_1 : Option Addr, ∃ marksN_1 : Nat, ∃ marksC_1 : Nat, (drw w1).cell? (a_1.add 6) = some (.slice marksP_1 marksN_1 marksC_1) ∧
  0 ≤ (IntKind.i64.wrap ((marksN_1 : Int) - (1 : Int))) ∧ (IntKind.i64.wrap ((marksN_1 : Int) - (1 : Int))) < (marksN : Int) ∧ NN marksP fun a_2 =>
  ∃ t18 : Int, (drw w1).cell? (a_2.add ((IntKind.i64.wrap ((marksN_1 : Int) - (1 : Int))).toNat * 1)) = some (.int .i64 t18) ∧
  NN hx fun a_3 =>
  ∃ trail : Option Addr, (drw w1).cell? (a_3.add 1) = some (.pointer trail) ∧
  C_room_Room_Len trail (drw w1) fun t23 w1_1 =>
  w1_1.cell? (a_2.add ((IntKind.i64.wrap ((marksN_1 : Int) - (1 : Int))).toNat * 1)) = (drw w1).cell? (a_2.add ((IntKind.i64.wrap ((marksN_1 : Int) - (1 : Int))).toNat * 1)) ∧
  w1_1.cell? (a_1.add 6) = (drw w1).cell? (a_1.add 6) ∧
  w1_1.cell? (a.add 6) = (drw w1).cell? (a.add 6) ∧
  C_heap_Heap_Undo hx (minI t18 t23) w1_1 fun t25 w1_2 =>
  NN hx fun a_4 =>
  ∃ pool : Option Addr, w1_2.cell? (a_4.add 0) = some (.pointer pool) ∧
  C_pool_Pool_Back pool w1_2 fun t30 w1_3 =>
  NN hx fun a_5 =>
  ∃ cellsP : Option Addr, ∃ cellsN : Nat, ∃ cellsC : Nat, (drw w1_3).cell? (a_5.add 4) = some (.slice cellsP cellsN cellsC) ∧
  NN hx fun a_6 =>
  ∃ pool_1 : Option Addr, (drw w1_3).cell? (a_6.add 0) = some (.pointer pool_1) ∧
  C_pool_Pool_Top pool_1 (drw w1_3) fun t40 w1_4 =>
  w1_4.cell? (a_5.add 4) = (drw w1_3).cell? (a_5.add 4) ∧
  0 ≤ t40 ∧ t40 ≤ (cellsC : Int) ∧
  NN hx fun a_7 =>
  St w1_4 ((a_7.add 4).add 0) (.slice cellsP t40.toNat cellsC) fun w1_5 =>
  R (0 : Int) w1_5)

def G_heap_Heap_Back : Gen where
  loop := lookL []
  plan := fun id =>
    bif Nat.beq id 3 then some ([0, 0, 2, 6, 14, 0, 32, 96, 224, 480, 992, 2046, 4094, 0, 8192, 24576, 57344, 122880, 262142, 524287], .take 0 (.take 1 (.take 2 (.take 3 (.take 4 (.take 5 (.take 6 (.take 7 (.take 8 (.take 9 (.take 10 (.take 11 (.take 12 (.take 13 (.take 14 (.take 15 (.take 16 (.take 17 (.take 18 (.take 19 .done)))))))))))))))))))) else
    bif Nat.beq id 5 then some ([0, 0, 2, 6, 14, 0, 32, 96, 224, 480, 1022, 2047, 4095, 8191], .take 0 (.take 1 (.take 2 (.take 3 (.take 4 (.take 5 (.take 6 (.take 7 (.take 8 (.take 9 (.take 10 (.take 11 (.take 12 (.take 13 .done)))))))))))))) else none

theorem loops_heap_Heap_Back : LoopOk Tryz.prog Tryz.f39.ntmps G_heap_Heap_Back (codeOf Tryz.f39) := loopOk_none fun _ => rfl

theorem den_heap_Heap_Back (hx : Option Addr) (w : World) (R : Value → World → Prop) :
    F_heap_Heap_Back hx w (fun r w1 => R (.int .i64 r) w1) = den Tryz.prog Tryz.f39.ntmps G_heap_Heap_Back (codeOf Tryz.f39) [] (postD Tryz.prog Tryz.f39.results.toList R) (entry [.pointer hx] 0) w := by kernel_rfl

theorem C_heap_Heap_Back.of {hx : Option Addr} {w : World} {R : Int → World → Prop} (h : F_heap_Heap_Back hx w R) : C_heap_Heap_Back hx w R := by
  refine (calls_of_den (c := codeOf Tryz.f39) seat_ok seat_mixed Tryz.func39 (by kernel_rfl) loops_heap_Heap_Back (args := [.pointer hx]) rfl (R := fun v w1 => ∃ (r : Int), v = (.int .i64 r : Value) ∧ R r w1) ?_).mono ?_
  · rw [← den_heap_Heap_Back]
    have e : (fun r w1 => ∃ (r' : Int), (.int .i64 r : Value) = (.int .i64 r' : Value) ∧ R r' w1) = R := by
      funext r w1
      exact propext ⟨fun ⟨r', he, h⟩ => by first | (simp at he; simp_all) | (cases he; exact h), fun h => ⟨_, rfl, h⟩⟩
    simpa only [e] using h
  · rintro en w1 ⟨v, he, r, rfl, h⟩
    exact ⟨_, he, h⟩

def F_heap_Heap_Pool (hx : Option Addr) (w : World) (R : Option Addr → World → Prop) : Prop :=
  C_heap_Heap_made hx w fun t4 w1 =>
  If (!t4)
  (R none w1)
  (NN hx fun a =>
  ∃ pool : Option Addr, w1.cell? (a.add 0) = some (.pointer pool) ∧
  R pool w1)

def G_heap_Heap_Pool : Gen where
  loop := lookL []
  plan := fun _ => none

theorem loops_heap_Heap_Pool : LoopOk Tryz.prog Tryz.f40.ntmps G_heap_Heap_Pool (codeOf Tryz.f40) := loopOk_none fun _ => rfl

theorem den_heap_Heap_Pool (hx : Option Addr) (w : World) (R : Value → World → Prop) :
    F_heap_Heap_Pool hx w (fun r w1 => R (.pointer r) w1) = den Tryz.prog Tryz.f40.ntmps G_heap_Heap_Pool (codeOf Tryz.f40) [] (postD Tryz.prog Tryz.f40.results.toList R) (entry [.pointer hx] 0) w := by kernel_rfl

theorem C_heap_Heap_Pool.of {hx : Option Addr} {w : World} {R : Option Addr → World → Prop} (h : F_heap_Heap_Pool hx w R) : C_heap_Heap_Pool hx w R := by
  refine (calls_of_den (c := codeOf Tryz.f40) seat_ok seat_mixed Tryz.func40 (by kernel_rfl) loops_heap_Heap_Pool (args := [.pointer hx]) rfl (R := fun v w1 => ∃ (r : Option Addr), v = (.pointer r : Value) ∧ R r w1) ?_).mono ?_
  · rw [← den_heap_Heap_Pool]
    have e : (fun r w1 => ∃ (r' : Option Addr), (.pointer r : Value) = (.pointer r' : Value) ∧ R r' w1) = R := by
      funext r w1
      exact propext ⟨fun ⟨r', he, h⟩ => by first | (simp at he; simp_all) | (cases he; exact h), fun h => ⟨_, rfl, h⟩⟩
    simpa only [e] using h
  · rintro en w1 ⟨v, he, r, rfl, h⟩
    exact ⟨_, he, h⟩

def F_pool_Pool_Top (p : Option Addr) (w : World) (R : Int → World → Prop) : Prop :=
  C_pool_Pool_made p w fun t4 w1 =>
  If (!t4)
  (R (0 : Int) w1)
  (NN p fun a =>
  ∃ topx : Int, w1.cell? (a.add 1) = some (.int .i64 topx) ∧
  R topx w1)

def G_pool_Pool_Top : Gen where
  loop := lookL []
  plan := fun _ => none

theorem loops_pool_Pool_Top : LoopOk Tryz.prog Tryz.f41.ntmps G_pool_Pool_Top (codeOf Tryz.f41) := loopOk_none fun _ => rfl

theorem den_pool_Pool_Top (p : Option Addr) (w : World) (R : Value → World → Prop) :
    F_pool_Pool_Top p w (fun r w1 => R (.int .i64 r) w1) = den Tryz.prog Tryz.f41.ntmps G_pool_Pool_Top (codeOf Tryz.f41) [] (postD Tryz.prog Tryz.f41.results.toList R) (entry [.pointer p] 0) w := by kernel_rfl

theorem C_pool_Pool_Top.of {p : Option Addr} {w : World} {R : Int → World → Prop} (h : F_pool_Pool_Top p w R) : C_pool_Pool_Top p w R := by
  refine (calls_of_den (c := codeOf Tryz.f41) seat_ok seat_mixed Tryz.func41 (by kernel_rfl) loops_pool_Pool_Top (args := [.pointer p]) rfl (R := fun v w1 => ∃ (r : Int), v = (.int .i64 r : Value) ∧ R r w1) ?_).mono ?_
  · rw [← den_pool_Pool_Top]
    have e : (fun r w1 => ∃ (r' : Int), (.int .i64 r : Value) = (.int .i64 r' : Value) ∧ R r' w1) = R := by
      funext r w1
      exact propext ⟨fun ⟨r', he, h⟩ => by first | (simp at he; simp_all) | (cases he; exact h), fun h => ⟨_, rfl, h⟩⟩
    simpa only [e] using h
  · rintro en w1 ⟨v, he, r, rfl, h⟩
    exact ⟨_, he, h⟩

def F_heap_Heap_Var (hx : Option Addr) (w : World) (R : Int → Int → World → Prop) : Prop :=
  C_heap_Heap_made hx w fun t7 w1 =>
  If (!t7)
  (R (0 : Int) (6 : Int) w1)
  (C_heap_Heap_take hx (1 : Int) w1 fun t110 t111 w1_1 =>
  If (t111 != (0 : Int))
  (R (0 : Int) t111 w1_1)
  (C_heap_ref t110 w1_1 fun t18 w1_2 =>
  R t18 (0 : Int) w1_2))

def G_heap_Heap_Var : Gen where
  loop := lookL []
  plan := fun _ => none

theorem loops_heap_Heap_Var : LoopOk Tryz.prog Tryz.f42.ntmps G_heap_Heap_Var (codeOf Tryz.f42) := loopOk_none fun _ => rfl

theorem den_heap_Heap_Var (hx : Option Addr) (w : World) (R : Value → World → Prop) :
    F_heap_Heap_Var hx w (fun r0 r1 w1 => R (.tuple #[.int .u64 r0, .int .i64 r1]) w1) = den Tryz.prog Tryz.f42.ntmps G_heap_Heap_Var (codeOf Tryz.f42) [] (postD Tryz.prog Tryz.f42.results.toList R) (entry [.pointer hx] 0) w := by kernel_rfl

theorem C_heap_Heap_Var.of {hx : Option Addr} {w : World} {R : Int → Int → World → Prop} (h : F_heap_Heap_Var hx w R) : C_heap_Heap_Var hx w R := by
  refine (calls_of_den (c := codeOf Tryz.f42) seat_ok seat_mixed Tryz.func42 (by kernel_rfl) loops_heap_Heap_Var (args := [.pointer hx]) rfl (R := fun v w1 => ∃ (r0 : Int) (r1 : Int), v = (.tuple #[.int .u64 r0, .int .i64 r1] : Value) ∧ R r0 r1 w1) ?_).mono ?_
  · rw [← den_heap_Heap_Var]
    have e : (fun r0 r1 w1 => ∃ (r0' : Int) (r1' : Int), (.tuple #[.int .u64 r0, .int .i64 r1] : Value) = (.tuple #[.int .u64 r0', .int .i64 r1'] : Value) ∧ R r0' r1' w1) = R := by
      funext r0 r1 w1
      exact propext ⟨fun ⟨r0', r1', he, h⟩ => by first | (simp at he; simp_all) | (cases he; exact h), fun h => ⟨_, _, rfl, h⟩⟩
    simpa only [e] using h
  · rintro en w1 ⟨v, he, r0, r1, rfl, h⟩
    exact ⟨_, _, he, h⟩

end Go.Proofs.YtdaenijbokialaaGreat
