/- The formulas of this seat's functions, held against the loaded program by the kernel. Printed by a program. -/
import Derived.Test.YtdaenijbokialaaGreatGenC
set_option maxRecDepth 100000
set_option linter.unusedVariables false
namespace Go.Proofs.YtdaenijbokialaaGreat
open Go Go.D Go.Proofs

def F_heap_Heap_Key (hx : Option Addr) (wx : Int) (w : World) (R : Int → ByteArray → Int → World → Prop) : Prop :=
  New w (.cells #[.int .i64 0, .string ⟨#[]⟩, .int .i64 0] 43) fun r w1 =>
  C_heap_Heap_Deref hx wx w1 fun t11 w1_1 =>
  C_cell_Tag t11 w1_1 fun t13 w1_2 =>
  If (t13 == (4 : Int))
  (C_cell_Number t11 w1_2 fun t17 w1_3 =>
  St w1_3 ((⟨r, 0, none⟩ : Addr).add 0) (.int .i64 1) fun w1_4 =>
  St w1_4 ((⟨r, 0, none⟩ : Addr).add 1) (.string ⟨#[]⟩) fun w1_5 =>
  St w1_5 ((⟨r, 0, none⟩ : Addr).add 2) (.int .i64 t17) fun w1_6 =>
  ∃ r_1 : Int, w1_6.cell? ((⟨r, 0, none⟩ : Addr).add 0) = some (.int .i64 r_1) ∧
  ∃ r_2 : ByteArray, w1_6.cell? ((⟨r, 0, none⟩ : Addr).add 1) = some (.string r_2) ∧
  ∃ r_3 : Int, w1_6.cell? ((⟨r, 0, none⟩ : Addr).add 2) = some (.int .i64 r_3) ∧
  R r_1 r_2 r_3 w1_6)
  (If (t13 == (3 : Int))
  (NN hx fun a =>
  ∃ atoms : Option Addr, (drw w1_2).cell? (a.add 2) = some (.pointer atoms) ∧
  C_cell_Number t11 (drw w1_2) fun t27 w1_7 =>
  w1_7.cell? (a.add 2) = (drw w1_2).cell? (a.add 2) ∧
  C_atom_Table_Name atoms t27 w1_7 fun t280 t281 w1_8 =>
  St w1_8 ((⟨r, 0, none⟩ : Addr).add 0) (.int .i64 2) fun w1_9 =>
  St w1_9 ((⟨r, 0, none⟩ : Addr).add 1) (.string t280) fun w1_10 =>
  St w1_10 ((⟨r, 0, none⟩ : Addr).add 2) (.int .i64 0) fun w1_11 =>
  ∃ r_4 : Int, w1_11.cell? ((⟨r, 0, none⟩ : Addr).add 0) = some (.int .i64 r_4) ∧
  ∃ r_5 : ByteArray, w1_11.cell? ((⟨r, 0, none⟩ : Addr).add 1) = some (.string r_5) ∧
  ∃ r_6 : Int, w1_11.cell? ((⟨r, 0, none⟩ : Addr).add 2) = some (.int .i64 r_6) ∧
  R r_4 r_5 r_6 w1_11)
  (If (t13 == (2 : Int))
  (C_heap_Heap_fun hx t11 w1_2 fun t380 t381 w1_12 =>
  St w1_12 ((⟨r, 0, none⟩ : Addr).add 0) (.int .i64 3) fun w1_13 =>
  St w1_13 ((⟨r, 0, none⟩ : Addr).add 1) (.string t380) fun w1_14 =>
  St w1_14 ((⟨r, 0, none⟩ : Addr).add 2) (.int .i64 t381) fun w1_15 =>
  ∃ r_7 : Int, w1_15.cell? ((⟨r, 0, none⟩ : Addr).add 0) = some (.int .i64 r_7) ∧
  ∃ r_8 : ByteArray, w1_15.cell? ((⟨r, 0, none⟩ : Addr).add 1) = some (.string r_8) ∧
  ∃ r_9 : Int, w1_15.cell? ((⟨r, 0, none⟩ : Addr).add 2) = some (.int .i64 r_9) ∧
  R r_7 r_8 r_9 w1_15)
  (St w1_2 ((⟨r, 0, none⟩ : Addr).add 0) (.int .i64 0) fun w1_16 =>
  St w1_16 ((⟨r, 0, none⟩ : Addr).add 1) (.string ⟨#[]⟩) fun w1_17 =>
  St w1_17 ((⟨r, 0, none⟩ : Addr).add 2) (.int .i64 0) fun w1_18 =>
  ∃ r_10 : Int, w1_18.cell? ((⟨r, 0, none⟩ : Addr).add 0) = some (.int .i64 r_10) ∧
  ∃ r_11 : ByteArray, w1_18.cell? ((⟨r, 0, none⟩ : Addr).add 1) = some (.string r_11) ∧
  ∃ r_12 : Int, w1_18.cell? ((⟨r, 0, none⟩ : Addr).add 2) = some (.int .i64 r_12) ∧
  R r_10 r_11 r_12 w1_18)))

def G_heap_Heap_Key : Gen where
  loop := lookL []
  plan := fun id =>
    bif Nat.beq id 6 then some ([0, 1, 3, 7, 0, 16, 63, 127, 255, 255, 511, 2047], .take 0 (.take 1 (.take 2 (.take 3 (.take 4 (.take 5 (.take 6 (.take 7 (.take 8 (.take 9 (.take 10 (.take 11 .done)))))))))))) else none

theorem loops_heap_Heap_Key : LoopOk Tryz.prog Tryz.f21.ntmps G_heap_Heap_Key (codeOf Tryz.f21) := loopOk_none fun _ => rfl

theorem C_heap_Heap_Key.of {hx : Option Addr} {wx : Int} {w : World} {R : Int → ByteArray → Int → World → Prop} (h : F_heap_Heap_Key hx wx w R) : C_heap_Heap_Key hx wx w R := ofS8 (Fm := F_heap_Heap_Key hx wx w) Tryz.func21 (by kernel_rfl) loops_heap_Heap_Key rfl (fun _ => by kernel_rfl) h

def F_heap_Heap_Is (hx : Option Addr) (wx : Int) (namex : ByteArray) (arity : Int) (w : World) (R : Bool → World → Prop) : Prop :=
  C_heap_Heap_Deref hx wx w fun t15 w1 =>
  C_cell_Tag t15 w1 fun t17 w1_1 =>
  If (t17 == (3 : Int))
  (NN hx fun a =>
  ∃ atoms : Option Addr, (drw w1_1).cell? (a.add 2) = some (.pointer atoms) ∧
  C_cell_Number t15 (drw w1_1) fun t26 w1_2 =>
  w1_2.cell? (a.add 2) = (drw w1_1).cell? (a.add 2) ∧
  C_atom_Table_Name atoms t26 w1_2 fun t270 t271 w1_3 =>
  If (t270.toList == namex.toList)
  (R (arity == (0 : Int)) w1_3)
  (R false w1_3))
  (If (t17 == (2 : Int))
  (C_heap_Heap_fun hx t15 w1_1 fun t420 t421 w1_4 =>
  If (t420.toList == namex.toList)
  (R (t421 == arity) w1_4)
  (R false w1_4))
  (R false w1_1))

def G_heap_Heap_Is : Gen where
  loop := lookL []
  plan := fun id =>
    bif Nat.beq id 4 then some ([0, 1, 3, 7, 0, 16, 63, 127, 255, 255, 511, 2047], .take 0 (.take 1 (.take 2 (.take 3 (.take 4 (.take 5 (.take 6 (.take 7 (.take 8 (.take 9 (.take 10 (.take 11 .done)))))))))))) else none

theorem loops_heap_Heap_Is : LoopOk Tryz.prog Tryz.f23.ntmps G_heap_Heap_Is (codeOf Tryz.f23) := loopOk_none fun _ => rfl

theorem C_heap_Heap_Is.of {hx : Option Addr} {wx : Int} {namex : ByteArray} {arity : Int} {w : World} {R : Bool → World → Prop} (h : F_heap_Heap_Is hx wx namex arity w R) : C_heap_Heap_Is hx wx namex arity w R := ofS2 (Fm := F_heap_Heap_Is hx wx namex arity w) Tryz.func23 (by kernel_rfl) loops_heap_Heap_Is rfl (fun _ => by kernel_rfl) h

def F_heap_Heap_Deref (hx : Option Addr) (wx : Int) (w : World) (R : Int → World → Prop) : Prop :=
  C_heap_Heap_right hx wx w fun t7 w1 =>
  If (!t7)
  (R (0 : Int) w1)
  (C_heap_Heap_deref hx wx w1 fun t11 w1_1 =>
  R t11 w1_1)

def G_heap_Heap_Deref : Gen where
  loop := lookL []
  plan := fun _ => none

theorem loops_heap_Heap_Deref : LoopOk Tryz.prog Tryz.f24.ntmps G_heap_Heap_Deref (codeOf Tryz.f24) := loopOk_none fun _ => rfl

theorem C_heap_Heap_Deref.of {hx : Option Addr} {wx : Int} {w : World} {R : Int → World → Prop} (h : F_heap_Heap_Deref hx wx w R) : C_heap_Heap_Deref hx wx w R := ofS9 (Fm := F_heap_Heap_Deref hx wx w) Tryz.func24 (by kernel_rfl) loops_heap_Heap_Deref rfl (fun _ => by kernel_rfl) h

def F_ref06_Comp (sx : ByteArray) (lP : Option Addr) (lN : Nat) (lC : Nat) (w : World) (R : Int → Int → ByteArray → Option Addr → Nat → Nat → World → Prop) : Prop :=
  New w (.cells #[.int .i64 0, .int .i64 0, .string ⟨#[]⟩, .slice none 0 0] 31) fun r w1 =>
  If ((lN : Int) == (0 : Int))
  (C_ref06_Atom sx w1 fun t90 t91 t92 t93P t93N t93C w1_1 =>
  St w1_1 ((⟨r, 0, none⟩ : Addr).add 0) (.int .i64 t90) fun w1_2 =>
  St w1_2 ((⟨r, 0, none⟩ : Addr).add 1) (.int .i64 t91) fun w1_3 =>
  St w1_3 ((⟨r, 0, none⟩ : Addr).add 2) (.string t92) fun w1_4 =>
  St w1_4 ((⟨r, 0, none⟩ : Addr).add 3) (.slice t93P t93N t93C) fun w1_5 =>
  ∃ r_1 : Int, w1_5.cell? ((⟨r, 0, none⟩ : Addr).add 0) = some (.int .i64 r_1) ∧
  ∃ r_2 : Int, w1_5.cell? ((⟨r, 0, none⟩ : Addr).add 1) = some (.int .i64 r_2) ∧
  ∃ r_3 : ByteArray, w1_5.cell? ((⟨r, 0, none⟩ : Addr).add 2) = some (.string r_3) ∧
  ∃ rP : Option Addr, ∃ rN : Nat, ∃ rC : Nat, w1_5.cell? ((⟨r, 0, none⟩ : Addr).add 3) = some (.slice rP rN rC) ∧
  R r_1 r_2 r_3 rP rN rC w1_5)
  (BSl Tryz.prog 22 0 [] w1 fun t11P t11N t11C w1_6 =>
  App Tryz.prog #[22, 22] 22 #[.slice t11P t11N t11C, .slice lP lN lC] w1_6 fun t13P t13N t13C w1_7 =>
  St w1_7 ((⟨r, 0, none⟩ : Addr).add 0) (.int .i64 4) fun w1_8 =>
  St w1_8 ((⟨r, 0, none⟩ : Addr).add 1) (.int .i64 0) fun w1_9 =>
  St w1_9 ((⟨r, 0, none⟩ : Addr).add 2) (.string sx) fun w1_10 =>
  St w1_10 ((⟨r, 0, none⟩ : Addr).add 3) (.slice t13P t13N t13C) fun w1_11 =>
  ∃ r_4 : Int, w1_11.cell? ((⟨r, 0, none⟩ : Addr).add 0) = some (.int .i64 r_4) ∧
  ∃ r_5 : Int, w1_11.cell? ((⟨r, 0, none⟩ : Addr).add 1) = some (.int .i64 r_5) ∧
  ∃ r_6 : ByteArray, w1_11.cell? ((⟨r, 0, none⟩ : Addr).add 2) = some (.string r_6) ∧
  ∃ rP_1 : Option Addr, ∃ rN_1 : Nat, ∃ rC_1 : Nat, w1_11.cell? ((⟨r, 0, none⟩ : Addr).add 3) = some (.slice rP_1 rN_1 rC_1) ∧
  R r_4 r_5 r_6 rP_1 rN_1 rC_1 w1_11)

def G_ref06_Comp : Gen where
  loop := lookL []
  plan := fun _ => none

theorem loops_ref06_Comp : LoopOk Tryz.prog Tryz.f26.ntmps G_ref06_Comp (codeOf Tryz.f26) := loopOk_none fun _ => rfl

theorem C_ref06_Comp.of {sx : ByteArray} {lP : Option Addr} {lN : Nat} {lC : Nat} {w : World} {R : Int → Int → ByteArray → Option Addr → Nat → Nat → World → Prop} (h : F_ref06_Comp sx lP lN lC w R) : C_ref06_Comp sx lP lN lC w R := ofS10 (Fm := F_ref06_Comp sx lP lN lC w) Tryz.func26 (by kernel_rfl) loops_ref06_Comp rfl (fun _ => by kernel_rfl) h

def F_heap_Heap_Struct (hx : Option Addr) (namex : ByteArray) (arity : Int) (w : World) (R : Int → Int → World → Prop) : Prop :=
  C_heap_Heap_made hx w fun t12 w1 =>
  If (!t12)
  (R (0 : Int) (6 : Int) w1)
  (NN hx fun a =>
  ∃ funs : Option Addr, w1.cell? (a.add 3) = some (.pointer funs) ∧
  C_functor_Table_Put funs namex arity w1 fun t210 t211 w1_1 =>
  If (t211 != (0 : Int))
  (R (0 : Int) t211 w1_1)
  (C_heap_Heap_take hx (IntKind.i64.wrap (arity + (1 : Int))) w1_1 fun t310 t311 w1_2 =>
  If (t311 != (0 : Int))
  (R (0 : Int) t311 w1_2)
  (NN hx fun a_1 =>
  ∃ cellsP : Option Addr, ∃ cellsN : Nat, ∃ cellsC : Nat, (drw w1_2).cell? (a_1.add 4) = some (.slice cellsP cellsN cellsC) ∧
  C_heap_word (5 : Int) t210 (drw w1_2) fun t43 w1_3 =>
  w1_3.cell? (a_1.add 4) = (drw w1_2).cell? (a_1.add 4) ∧
  0 ≤ t310 ∧ t310 < (cellsN : Int) ∧ NN cellsP fun a_2 =>
  St w1_3 ((a_2.add (t310.toNat * 1)).add 0) (.int .u64 t43) fun w1_4 =>
  C_heap_word (2 : Int) t310 w1_4 fun t46 w1_5 =>
  R t46 (0 : Int) w1_5)))

def G_heap_Heap_Struct : Gen where
  loop := lookL []
  plan := fun id =>
    bif Nat.beq id 9 then some ([0, 1, 3, 7, 0, 0, 32, 127, 255], .take 0 (.take 1 (.take 2 (.take 3 (.take 4 (.take 5 (.take 6 (.take 7 (.take 8 .done))))))))) else none

theorem loops_heap_Heap_Struct : LoopOk Tryz.prog Tryz.f27.ntmps G_heap_Heap_Struct (codeOf Tryz.f27) := loopOk_none fun _ => rfl

theorem C_heap_Heap_Struct.of {hx : Option Addr} {namex : ByteArray} {arity : Int} {w : World} {R : Int → Int → World → Prop} (h : F_heap_Heap_Struct hx namex arity w R) : C_heap_Heap_Struct hx namex arity w R := ofS5 (Fm := F_heap_Heap_Struct hx namex arity w) Tryz.func27 (by kernel_rfl) loops_heap_Heap_Struct rfl (fun _ => by kernel_rfl) h

def F_heap_Heap_Arg (hx : Option Addr) (wx : Int) (i : Int) (w : World) (R : Int → Int → World → Prop) : Prop :=
  C_heap_Heap_made hx w fun t10 w1 =>
  If (!t10)
  (R (0 : Int) (6 : Int) w1)
  (C_heap_Heap_compound hx wx i w1 fun t160 t161 w1_1 =>
  If (!t161)
  (R (0 : Int) (1 : Int) w1_1)
  (C_heap_arg t160 i w1_1 fun t23 w1_2 =>
  C_heap_ref t23 w1_2 fun t24 w1_3 =>
  R t24 (0 : Int) w1_3))

def G_heap_Heap_Arg : Gen where
  loop := lookL []
  plan := fun _ => none

theorem loops_heap_Heap_Arg : LoopOk Tryz.prog Tryz.f28.ntmps G_heap_Heap_Arg (codeOf Tryz.f28) := loopOk_none fun _ => rfl

theorem C_heap_Heap_Arg.of {hx : Option Addr} {wx : Int} {i : Int} {w : World} {R : Int → Int → World → Prop} (h : F_heap_Heap_Arg hx wx i w R) : C_heap_Heap_Arg hx wx i w R := ofS5 (Fm := F_heap_Heap_Arg hx wx i w) Tryz.func28 (by kernel_rfl) loops_heap_Heap_Arg rfl (fun _ => by kernel_rfl) h

def F_heap_Heap_Put (hx : Option Addr) (wx : Int) (i : Int) (x : Int) (w : World) (R : Int → World → Prop) : Prop :=
  C_heap_Heap_made hx w fun t12 w1 =>
  If (!t12)
  (R (6 : Int) w1)
  (C_heap_Heap_compound hx wx i w1 fun t180 t181 w1_1 =>
  If (!t181)
  (R (1 : Int) w1_1)
  (C_heap_Heap_right hx x w1_1 fun t26 w1_2 =>
  If (!t26)
  (R (1 : Int) w1_2)
  (C_heap_arg t180 i w1_2 fun t31 w1_3 =>
  NN hx fun a =>
  ∃ cellsP : Option Addr, ∃ cellsN : Nat, ∃ cellsC : Nat, (drw w1_3).cell? (a.add 4) = some (.slice cellsP cellsN cellsC) ∧
  0 ≤ t31 ∧ t31 < (cellsN : Int) ∧ NN cellsP fun a_1 =>
  ∃ t38 : Int, (drw w1_3).cell? (a_1.add (t31.toNat * 1)) = some (.int .u64 t38) ∧
  C_heap_ref t31 (drw w1_3) fun t40 w1_4 =>
  w1_4.cell? (a_1.add (t31.toNat * 1)) = (drw w1_3).cell? (a_1.add (t31.toNat * 1)) ∧
  w1_4.cell? (a.add 4) = (drw w1_3).cell? (a.add 4) ∧
  If (t38 != t40)
  (R (1 : Int) w1_4)
  (NN hx fun a_2 =>
  ∃ startsP : Option Addr, ∃ startsN : Nat, ∃ startsC : Nat, w1_4.cell? (a_2.add 5) = some (.slice startsP startsN startsC) ∧
  NN hx fun a_3 =>
  ∃ startsP_1 : Option Addr, ∃ startsN_1 : Nat, ∃ startsC_1 : Nat, w1_4.cell? (a_3.add 5) = some (.slice startsP_1 startsN_1 startsC_1) ∧
  0 ≤ (IntKind.i64.wrap ((startsN_1 : Int) - (1 : Int))) ∧ (IntKind.i64.wrap ((startsN_1 : Int) - (1 : Int))) < (startsN : Int) ∧ NN startsP fun a_4 =>
  ∃ t55 : Int, w1_4.cell? (a_4.add ((IntKind.i64.wrap ((startsN_1 : Int) - (1 : Int))).toNat * 1)) = some (.int .i64 t55) ∧
  If (decide (t31 < t55))
  (R (1 : Int) w1_4)
  (NN hx fun a_5 =>
  ∃ cellsP_1 : Option Addr, ∃ cellsN_1 : Nat, ∃ cellsC_1 : Nat, (drw w1_4).cell? (a_5.add 4) = some (.slice cellsP_1 cellsN_1 cellsC_1) ∧
  C_heap_Heap_deref hx x (drw w1_4) fun t65 w1_5 =>
  w1_5.cell? (a_5.add 4) = (drw w1_4).cell? (a_5.add 4) ∧
  0 ≤ t31 ∧ t31 < (cellsN_1 : Int) ∧ NN cellsP_1 fun a_6 =>
  St w1_5 ((a_6.add (t31.toNat * 1)).add 0) (.int .u64 t65) fun w1_6 =>
  R (0 : Int) w1_6)))))

def G_heap_Heap_Put : Gen where
  loop := lookL []
  plan := fun id =>
    bif Nat.beq id 7 then some ([0, 1, 3, 7, 0, 31, 63, 0, 128, 511, 1023, 2047, 2047, 6143, 14335, 30719, 2047, 67583, 198655, 460799, 985087, 2033663, 4192255, 8386559, 16777215, 33554431], .take 0 (.take 1 (.take 2 (.take 3 (.take 4 (.take 5 (.take 6 (.take 7 (.take 8 (.take 9 (.take 10 (.take 11 (.take 12 (.take 13 (.take 14 (.take 15 (.take 16 (.take 17 (.take 18 (.take 19 (.take 20 (.take 21 (.take 22 (.take 23 (.take 24 (.take 25 .done)))))))))))))))))))))))))) else
    bif Nat.beq id 9 then some ([0, 1, 3, 7, 0, 0, 0, 96, 255, 511], .take 0 (.take 1 (.take 2 (.take 3 (.take 4 (.take 5 (.take 6 (.take 7 (.take 8 (.take 9 .done)))))))))) else none

theorem loops_heap_Heap_Put : LoopOk Tryz.prog Tryz.f29.ntmps G_heap_Heap_Put (codeOf Tryz.f29) := loopOk_none fun _ => rfl

theorem C_heap_Heap_Put.of {hx : Option Addr} {wx : Int} {i : Int} {x : Int} {w : World} {R : Int → World → Prop} (h : F_heap_Heap_Put hx wx i x w R) : C_heap_Heap_Put hx wx i x w R := ofS4 (Fm := F_heap_Heap_Put hx wx i x w) Tryz.func29 (by kernel_rfl) loops_heap_Heap_Put rfl (fun _ => by kernel_rfl) h

def F_ref06_Large (t0 : Int) (t1 : Int) (t2 : ByteArray) (t3P : Option Addr) (t3N : Nat) (t3C : Nat) (w : World) (R : Bool → World → Prop) : Prop :=
  New w (.cells #[.int .i64 t0, .int .i64 t1, .string t2, .slice t3P t3N t3C] 31) fun r w1 =>
  New w1 (.cells #[.int .i64 0] 3) fun r_1 w1_1 =>
  St w1_1 ((⟨r_1, 0, none⟩ : Addr).add 0) (.int .i64 0) fun w1_2 =>
  ∃ t40 : Int, w1_2.cell? ((⟨r, 0, none⟩ : Addr).add 0) = some (.int .i64 t40) ∧
  ∃ t41 : Int, w1_2.cell? ((⟨r, 0, none⟩ : Addr).add 1) = some (.int .i64 t41) ∧
  ∃ t42 : ByteArray, w1_2.cell? ((⟨r, 0, none⟩ : Addr).add 2) = some (.string t42) ∧
  ∃ t43P : Option Addr, ∃ t43N : Nat, ∃ t43C : Nat, w1_2.cell? ((⟨r, 0, none⟩ : Addr).add 3) = some (.slice t43P t43N t43C) ∧
  C_ref06_large t40 t41 t42 t43P t43N t43C (0 : Int) (some ⟨r_1, 0, none⟩) w1_2 fun t5 w1_3 =>
  R t5 w1_3

def G_ref06_Large : Gen where
  loop := lookL []
  plan := fun _ => none

theorem loops_ref06_Large : LoopOk Tryz.prog Tryz.f30.ntmps G_ref06_Large (codeOf Tryz.f30) := loopOk_none fun _ => rfl

theorem C_ref06_Large.of {t0 : Int} {t1 : Int} {t2 : ByteArray} {t3P : Option Addr} {t3N : Nat} {t3C : Nat} {w : World} {R : Bool → World → Prop} (h : F_ref06_Large t0 t1 t2 t3P t3N t3C w R) : C_ref06_Large t0 t1 t2 t3P t3N t3C w R := ofS2 (Fm := F_ref06_Large t0 t1 t2 t3P t3N t3C w) Tryz.func30 (by kernel_rfl) loops_ref06_Large rfl (fun _ => by kernel_rfl) h

def F_ref06_Var (n : Int) (w : World) (R : Int → Int → ByteArray → Option Addr → Nat → Nat → World → Prop) : Prop :=
  New w (.cells #[.int .i64 0, .int .i64 0, .string ⟨#[]⟩, .slice none 0 0] 31) fun r w1 =>
  St w1 ((⟨r, 0, none⟩ : Addr).add 0) (.int .i64 1) fun w1_1 =>
  St w1_1 ((⟨r, 0, none⟩ : Addr).add 1) (.int .i64 n) fun w1_2 =>
  St w1_2 ((⟨r, 0, none⟩ : Addr).add 2) (.string ⟨#[]⟩) fun w1_3 =>
  St w1_3 ((⟨r, 0, none⟩ : Addr).add 3) (.slice none 0 0) fun w1_4 =>
  ∃ r_1 : Int, w1_4.cell? ((⟨r, 0, none⟩ : Addr).add 0) = some (.int .i64 r_1) ∧
  ∃ r_2 : Int, w1_4.cell? ((⟨r, 0, none⟩ : Addr).add 1) = some (.int .i64 r_2) ∧
  ∃ r_3 : ByteArray, w1_4.cell? ((⟨r, 0, none⟩ : Addr).add 2) = some (.string r_3) ∧
  ∃ rP : Option Addr, ∃ rN : Nat, ∃ rC : Nat, w1_4.cell? ((⟨r, 0, none⟩ : Addr).add 3) = some (.slice rP rN rC) ∧
  R r_1 r_2 r_3 rP rN rC w1_4

def G_ref06_Var : Gen where
  loop := lookL []
  plan := fun _ => none

theorem loops_ref06_Var : LoopOk Tryz.prog Tryz.f31.ntmps G_ref06_Var (codeOf Tryz.f31) := loopOk_none fun _ => rfl

theorem C_ref06_Var.of {n : Int} {w : World} {R : Int → Int → ByteArray → Option Addr → Nat → Nat → World → Prop} (h : F_ref06_Var n w R) : C_ref06_Var n w R := ofS10 (Fm := F_ref06_Var n w) Tryz.func31 (by kernel_rfl) loops_ref06_Var rfl (fun _ => by kernel_rfl) h

def F_heap_Heap_Reaches_k1 (hx : Option Addr) (x : Int) (R : Bool → World → Prop) (t9 : Int) (w1_4 : World) : Prop :=
  New w1_4 (.map #[] 0) fun r w1_5 =>
  C_heap_Heap_reach hx t9 x (some r) w1_5 fun t28 w1_6 =>
  R t28 w1_6

def F_heap_Heap_Reaches (hx : Option Addr) (wx : Int) (x : Int) (w : World) (R : Bool → World → Prop) : Prop :=
  C_heap_Heap_Deref hx wx w fun t9 w1 =>
  C_heap_Heap_right hx x w1 fun t12 w1_1 =>
  If (!t12)
  (R false w1_1)
  (C_cell_Is t9 (1 : Int) w1_1 fun t16 w1_2 =>
  If (!t16)
  (C_cell_Is t9 (2 : Int) w1_2 fun t20 w1_3 =>
  If (!t20)
  (R false w1_3)
  (F_heap_Heap_Reaches_k1 hx x R t9 w1_3))
  (F_heap_Heap_Reaches_k1 hx x R t9 w1_2))

def G_heap_Heap_Reaches : Gen where
  loop := lookL []
  plan := fun _ => none

theorem loops_heap_Heap_Reaches : LoopOk Tryz.prog Tryz.f33.ntmps G_heap_Heap_Reaches (codeOf Tryz.f33) := loopOk_none fun _ => rfl

theorem C_heap_Heap_Reaches.of {hx : Option Addr} {wx : Int} {x : Int} {w : World} {R : Bool → World → Prop} (h : F_heap_Heap_Reaches hx wx x w R) : C_heap_Heap_Reaches hx wx x w R := ofS2 (Fm := F_heap_Heap_Reaches hx wx x w) Tryz.func33 (by kernel_rfl) loops_heap_Heap_Reaches rfl (fun _ => by kernel_rfl) h

def F_heap_Heap_Bind_k1 (R : Bool → Int → World → Prop) (w1_5 : World) : Prop :=
  R false (1 : Int) w1_5

def F_heap_Heap_Bind (hx : Option Addr) (wx : Int) (x : Int) (w : World) (R : Bool → Int → World → Prop) : Prop :=
  C_heap_Heap_made hx w fun t10 w1 =>
  If (!t10)
  (R false (6 : Int) w1)
  (C_heap_Heap_right hx wx w1 fun t15 w1_1 =>
  If (!t15)
  (F_heap_Heap_Bind_k1 R w1_1)
  (C_heap_Heap_right hx x w1_1 fun t20 w1_2 =>
  If (!t20)
  (F_heap_Heap_Bind_k1 R w1_2)
  (C_heap_Heap_deref hx wx w1_2 fun t26 w1_3 =>
  C_heap_unbound t26 w1_3 fun t27 w1_4 =>
  If (!t27)
  (R false (1 : Int) w1_4)
  (C_heap_Heap_deref hx wx w1_4 fun t33 w1_6 =>
  C_heap_Heap_deref hx x w1_6 fun t36 w1_7 =>
  C_heap_Heap_bind hx t33 t36 w1_7 fun t370 t371 w1_8 =>
  R t370 t371 w1_8))))

def G_heap_Heap_Bind : Gen where
  loop := lookL []
  plan := fun _ => none

theorem loops_heap_Heap_Bind : LoopOk Tryz.prog Tryz.f34.ntmps G_heap_Heap_Bind (codeOf Tryz.f34) := loopOk_none fun _ => rfl

theorem C_heap_Heap_Bind.of {hx : Option Addr} {wx : Int} {x : Int} {w : World} {R : Bool → Int → World → Prop} (h : F_heap_Heap_Bind hx wx x w R) : C_heap_Heap_Bind hx wx x w R := ofS11 (Fm := F_heap_Heap_Bind hx wx x w) Tryz.func34 (by kernel_rfl) loops_heap_Heap_Bind rfl (fun _ => by kernel_rfl) h

def F_heap_Heap_Unify (hx : Option Addr) (a : Int) (b : Int) (w : World) (R : Bool → Int → World → Prop) : Prop :=
  C_heap_Heap_made hx w fun t12 w1 =>
  If (!t12)
  (R false (6 : Int) w1)
  (C_heap_Heap_right hx a w1 fun t17 w1_1 =>
  If (!t17)
  (R false (1 : Int) w1_1)
  (C_heap_Heap_right hx b w1_1 fun t22 w1_2 =>
  If (!t22)
  (R false (1 : Int) w1_2)
  (New w1_2 (.map #[] 0) fun r w1_3 =>
  New w1_3 (.cells #[.pointer hx, .map (some r), .int .i64 0] 143) fun r_1 w1_4 =>
  C_heap_matcher_unify (some ⟨r_1, 0, none⟩) a b w1_4 fun t32 w1_5 =>
  NN (some ⟨r_1, 0, none⟩) fun a_1 =>
  ∃ ex : Int, (drw w1_5).cell? (a_1.add 2) = some (.int .i64 ex) ∧
  (drw w1_5).cell? (a_1.add 2) = (drw w1_5).cell? (a_1.add 2) ∧
  R t32 ex (drw w1_5))))

def G_heap_Heap_Unify : Gen where
  loop := lookL []
  plan := fun id =>
    bif Nat.beq id 7 then some ([0, 0, 2, 6, 14, 1, 63], .take 0 (.take 1 (.take 2 (.take 3 (.take 4 (.take 5 (.take 6 .done))))))) else none

theorem loops_heap_Heap_Unify : LoopOk Tryz.prog Tryz.f35.ntmps G_heap_Heap_Unify (codeOf Tryz.f35) := loopOk_none fun _ => rfl

theorem C_heap_Heap_Unify.of {hx : Option Addr} {a : Int} {b : Int} {w : World} {R : Bool → Int → World → Prop} (h : F_heap_Heap_Unify hx a b w R) : C_heap_Heap_Unify hx a b w R := ofS11 (Fm := F_heap_Heap_Unify hx a b w) Tryz.func35 (by kernel_rfl) loops_heap_Heap_Unify rfl (fun _ => by kernel_rfl) h

def F_heap_Heap_Cell (hx : Option Addr) (atx : Int) (w : World) (R : Int → World → Prop) : Prop :=
  C_heap_Heap_made hx w fun t6 w1 =>
  If (!t6)
  (R (0 : Int) w1)
  (C_heap_Heap_taken hx atx w1 fun t11 w1_1 =>
  If (!t11)
  (R (0 : Int) w1_1)
  (NN hx fun a =>
  ∃ cellsP : Option Addr, ∃ cellsN : Nat, ∃ cellsC : Nat, w1_1.cell? (a.add 4) = some (.slice cellsP cellsN cellsC) ∧
  0 ≤ atx ∧ atx < (cellsN : Int) ∧ NN cellsP fun a_1 =>
  ∃ t20 : Int, w1_1.cell? (a_1.add (atx.toNat * 1)) = some (.int .u64 t20) ∧
  R t20 w1_1))

def G_heap_Heap_Cell : Gen where
  loop := lookL []
  plan := fun _ => none

theorem loops_heap_Heap_Cell : LoopOk Tryz.prog Tryz.f36.ntmps G_heap_Heap_Cell (codeOf Tryz.f36) := loopOk_none fun _ => rfl

theorem C_heap_Heap_Cell.of {hx : Option Addr} {atx : Int} {w : World} {R : Int → World → Prop} (h : F_heap_Heap_Cell hx atx w R) : C_heap_Heap_Cell hx atx w R := ofS9 (Fm := F_heap_Heap_Cell hx atx w) Tryz.func36 (by kernel_rfl) loops_heap_Heap_Cell rfl (fun _ => by kernel_rfl) h

def F_heap_Heap_Pool (hx : Option Addr) (w : World) (R : Option Addr → World → Prop) : Prop :=
  C_heap_Heap_made hx w fun t4 w1 =>
  If (!t4)
  (R none w1)
  (NN hx fun a =>
  ∃ pool : Option Addr, w1.cell? (a.add 0) = some (.pointer pool) ∧
  R pool w1)

def G_heap_Heap_Pool : Gen where
  loop := lookL []
  plan := fun _ => none

theorem loops_heap_Heap_Pool : LoopOk Tryz.prog Tryz.f40.ntmps G_heap_Heap_Pool (codeOf Tryz.f40) := loopOk_none fun _ => rfl

theorem C_heap_Heap_Pool.of {hx : Option Addr} {w : World} {R : Option Addr → World → Prop} (h : F_heap_Heap_Pool hx w R) : C_heap_Heap_Pool hx w R := ofS13 (Fm := F_heap_Heap_Pool hx w) Tryz.func40 (by kernel_rfl) loops_heap_Heap_Pool rfl (fun _ => by kernel_rfl) h

def F_pool_Pool_Top (p : Option Addr) (w : World) (R : Int → World → Prop) : Prop :=
  C_pool_Pool_made p w fun t4 w1 =>
  If (!t4)
  (R (0 : Int) w1)
  (NN p fun a =>
  ∃ topx : Int, w1.cell? (a.add 1) = some (.int .i64 topx) ∧
  R topx w1)

def G_pool_Pool_Top : Gen where
  loop := lookL []
  plan := fun _ => none

theorem loops_pool_Pool_Top : LoopOk Tryz.prog Tryz.f41.ntmps G_pool_Pool_Top (codeOf Tryz.f41) := loopOk_none fun _ => rfl

theorem C_pool_Pool_Top.of {p : Option Addr} {w : World} {R : Int → World → Prop} (h : F_pool_Pool_Top p w R) : C_pool_Pool_Top p w R := ofS4 (Fm := F_pool_Pool_Top p w) Tryz.func41 (by kernel_rfl) loops_pool_Pool_Top rfl (fun _ => by kernel_rfl) h

def F_heap_Heap_Var (hx : Option Addr) (w : World) (R : Int → Int → World → Prop) : Prop :=
  C_heap_Heap_made hx w fun t7 w1 =>
  If (!t7)
  (R (0 : Int) (6 : Int) w1)
  (C_heap_Heap_take hx (1 : Int) w1 fun t110 t111 w1_1 =>
  If (t111 != (0 : Int))
  (R (0 : Int) t111 w1_1)
  (C_heap_ref t110 w1_1 fun t18 w1_2 =>
  R t18 (0 : Int) w1_2))

def G_heap_Heap_Var : Gen where
  loop := lookL []
  plan := fun _ => none

theorem loops_heap_Heap_Var : LoopOk Tryz.prog Tryz.f42.ntmps G_heap_Heap_Var (codeOf Tryz.f42) := loopOk_none fun _ => rfl

theorem C_heap_Heap_Var.of {hx : Option Addr} {w : World} {R : Int → Int → World → Prop} (h : F_heap_Heap_Var hx w R) : C_heap_Heap_Var hx w R := ofS5 (Fm := F_heap_Heap_Var hx w) Tryz.func42 (by kernel_rfl) loops_heap_Heap_Var rfl (fun _ => by kernel_rfl) h

end Go.Proofs.YtdaenijbokialaaGreat
