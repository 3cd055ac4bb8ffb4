/- The formulas of this seat's functions, held against the loaded program by the kernel. Printed by a program. -/
import Derived.Test.YtlndgaijekihiaaGreatGenC
set_option maxRecDepth 100000
set_option linter.unusedVariables false
namespace Go.Proofs.YtlndgaijekihiaaGreat
open Go Go.D Go.Proofs

def F_gosem_cut_init (w : World) (R : World → Prop) : Prop :=
  CallX Tryz.prog 1 [] w fun v w1 => v = (.tuple #[]) ∧
  R w1

def G_gosem_cut_init : Gen where
  loop := lookL []
  plan := fun _ => none

theorem loops_gosem_cut_init : LoopOk Tryz.prog Tryz.f2.ntmps G_gosem_cut_init (codeOf Tryz.f2) := loopOk_none fun _ => rfl

theorem C_gosem_cut_init.of {w : World} {R : World → Prop} (h : F_gosem_cut_init w R) : C_gosem_cut_init w R := ofS1 (Fm := F_gosem_cut_init w) Tryz.func2 (by kernel_rfl) loops_gosem_cut_init rfl (fun _ => by kernel_rfl) h

def F_law19_BaseNobody_k1 (R : Bool → World → Prop) (w1_29 : World) : Prop :=
  R false w1_29

def F_law19_BaseNobody (o0 : Int) (o1 : Int) (o2 : Int) (o3 : ByteArray) (o4P : Option Addr) (o4N : Nat) (o4C : Nat) (o5P : Option Addr) (o5N : Nat) (o5C : Nat) (o6 : Int) (o7P : Option Addr) (o7N : Nat) (o7C : Nat) (o8 : Bool) (o9 : Int) (o10 : Int) (o11 : ByteArray) (o12 : Int) (o13 : Int) (w : World) (R : Bool → World → Prop) : Prop :=
  New w (.cells #[.int .i64 o0, .int .i64 o1, .int .i64 o2, .string o3, .slice o4P o4N o4C, .slice o5P o5N o5C, .int .i64 o6, .slice o7P o7N o7C, .bool o8, .int .i64 o9, .int .i64 o10, .string o11, .int .i64 o12, .int .i64 o13] 32) fun r w1 =>
  ∃ C0 : Int, w1.cell? (((⟨r, 0, none⟩ : Addr).add 1).add 0) = some (.int .i64 C0) ∧
  ∃ C1 : Int, w1.cell? (((⟨r, 0, none⟩ : Addr).add 1).add 1) = some (.int .i64 C1) ∧
  ∃ C2 : ByteArray, w1.cell? (((⟨r, 0, none⟩ : Addr).add 1).add 2) = some (.string C2) ∧
  ∃ C3P : Option Addr, ∃ C3N : Nat, ∃ C3C : Nat, w1.cell? (((⟨r, 0, none⟩ : Addr).add 1).add 3) = some (.slice C3P C3N C3C) ∧
  ∃ C4P : Option Addr, ∃ C4N : Nat, ∃ C4C : Nat, w1.cell? (((⟨r, 0, none⟩ : Addr).add 1).add 4) = some (.slice C4P C4N C4C) ∧
  ∃ C5 : Int, w1.cell? (((⟨r, 0, none⟩ : Addr).add 1).add 5) = some (.int .i64 C5) ∧
  ∃ CodeP : Option Addr, ∃ CodeN : Nat, ∃ CodeC : Nat, w1.cell? ((⟨r, 0, none⟩ : Addr).add 7) = some (.slice CodeP CodeN CodeC) ∧
  ∃ Flag : Bool, w1.cell? ((⟨r, 0, none⟩ : Addr).add 8) = some (.bool Flag) ∧
  C_base_Base_Add none C0 C1 C2 C3P C3N C3C C4P C4N C4C C5 CodeP CodeN CodeC Flag w1 fun t240 t241 w1_1 =>
  ∃ N : Int, w1_1.cell? ((⟨r, 0, none⟩ : Addr).add 9) = some (.int .i64 N) ∧
  ∃ Key0 : Int, w1_1.cell? (((⟨r, 0, none⟩ : Addr).add 10).add 0) = some (.int .i64 Key0) ∧
  ∃ Key1 : ByteArray, w1_1.cell? (((⟨r, 0, none⟩ : Addr).add 10).add 1) = some (.string Key1) ∧
  ∃ Key2 : Int, w1_1.cell? (((⟨r, 0, none⟩ : Addr).add 10).add 2) = some (.int .i64 Key2) ∧
  ∃ Gen : Int, w1_1.cell? ((⟨r, 0, none⟩ : Addr).add 13) = some (.int .i64 Gen) ∧
  C_base_Base_Head none ⟨#[112]⟩ N Key0 Key1 Key2 Gen w1_1 fun t350 t351 w1_2 =>
  ∃ N_1 : Int, w1_2.cell? ((⟨r, 0, none⟩ : Addr).add 9) = some (.int .i64 N_1) ∧
  ∃ Key0_1 : Int, w1_2.cell? (((⟨r, 0, none⟩ : Addr).add 10).add 0) = some (.int .i64 Key0_1) ∧
  ∃ Key1_1 : ByteArray, w1_2.cell? (((⟨r, 0, none⟩ : Addr).add 10).add 1) = some (.string Key1_1) ∧
  ∃ Key2_1 : Int, w1_2.cell? (((⟨r, 0, none⟩ : Addr).add 10).add 2) = some (.int .i64 Key2_1) ∧
  ∃ Gen_1 : Int, w1_2.cell? ((⟨r, 0, none⟩ : Addr).add 13) = some (.int .i64 Gen_1) ∧
  C_base_Base_Next none N_1 Key0_1 Key1_1 Key2_1 Gen_1 w1_2 fun t460 t461 w1_3 =>
  ∃ N_2 : Int, w1_3.cell? ((⟨r, 0, none⟩ : Addr).add 9) = some (.int .i64 N_2) ∧
  C_base_Base_Clause none N_2 w1_3 fun t5300 t5301 t5302 t5303P t5303N t5303C t5304P t5304N t5304C t5305 t531 w1_4 =>
  New w1_4 (.cells #[.int .i64 0, .int .i64 0, .string ⟨#[]⟩, .slice none 0 0, .slice none 0 0, .int .i64 0] 27) fun r_1 w1_5 =>
  St w1_5 ((⟨r_1, 0, none⟩ : Addr).add 0) (.int .i64 t5300) fun w1_6 =>
  St w1_6 ((⟨r_1, 0, none⟩ : Addr).add 1) (.int .i64 t5301) fun w1_7 =>
  St w1_7 ((⟨r_1, 0, none⟩ : Addr).add 2) (.string t5302) fun w1_8 =>
  St w1_8 ((⟨r_1, 0, none⟩ : Addr).add 3) (.slice t5303P t5303N t5303C) fun w1_9 =>
  St w1_9 ((⟨r_1, 0, none⟩ : Addr).add 4) (.slice t5304P t5304N t5304C) fun w1_10 =>
  St w1_10 ((⟨r_1, 0, none⟩ : Addr).add 5) (.int .i64 t5305) fun w1_11 =>
  ∃ N_3 : Int, w1_11.cell? ((⟨r, 0, none⟩ : Addr).add 9) = some (.int .i64 N_3) ∧
  C_base_Base_Code none N_3 w1_11 fun t600P t600N t600C t601 w1_12 =>
  ∃ N_4 : Int, w1_12.cell? ((⟨r, 0, none⟩ : Addr).add 9) = some (.int .i64 N_4) ∧
  ∃ Gen_2 : Int, w1_12.cell? ((⟨r, 0, none⟩ : Addr).add 13) = some (.int .i64 Gen_2) ∧
  C_base_Base_At none N_4 Gen_2 w1_12 fun t6900 t6901 t6902 t6903 t6904 t691 w1_13 =>
  New w1_13 (.cells #[.int .i64 0, .string ⟨#[]⟩, .int .i64 0, .int .i64 0, .int .i64 0] 45) fun r_2 w1_14 =>
  St w1_14 ((⟨r_2, 0, none⟩ : Addr).add 0) (.int .i64 t6900) fun w1_15 =>
  St w1_15 ((⟨r_2, 0, none⟩ : Addr).add 1) (.string t6901) fun w1_16 =>
  St w1_16 ((⟨r_2, 0, none⟩ : Addr).add 2) (.int .i64 t6902) fun w1_17 =>
  St w1_17 ((⟨r_2, 0, none⟩ : Addr).add 3) (.int .i64 t6903) fun w1_18 =>
  St w1_18 ((⟨r_2, 0, none⟩ : Addr).add 4) (.int .i64 t6904) fun w1_19 =>
  C_law19_lives  w1_19 fun t72 w1_20 =>
  If t72
  (If (t240 == (0 : Int))
  (If (t241 == (6 : Int))
  (∃ N_5 : Int, w1_20.cell? ((⟨r, 0, none⟩ : Addr).add 9) = some (.int .i64 N_5) ∧
  C_base_Base_Kill none N_5 w1_20 fun t85 w1_21 =>
  If (t85 == (6 : Int))
  (C_base_Base_Generation none w1_21 fun t90 w1_22 =>
  If (t90 == (0 : Int))
  (∃ N_6 : Int, w1_22.cell? ((⟨r, 0, none⟩ : Addr).add 9) = some (.int .i64 N_6) ∧
  ∃ Gen_3 : Int, w1_22.cell? ((⟨r, 0, none⟩ : Addr).add 13) = some (.int .i64 Gen_3) ∧
  C_base_Base_Lives none N_6 Gen_3 w1_22 fun t99 w1_23 =>
  If (!t99)
  (If (!t351)
  (If (!t461)
  (∃ N_7 : Int, w1_23.cell? ((⟨r, 0, none⟩ : Addr).add 9) = some (.int .i64 N_7) ∧
  C_base_Base_Known none ⟨#[112]⟩ N_7 w1_23 fun t114 w1_24 =>
  If (!t114)
  (If (t531 == (6 : Int))
  (If (t601 == (6 : Int))
  (∃ N_8 : Int, w1_24.cell? ((⟨r, 0, none⟩ : Addr).add 9) = some (.int .i64 N_8) ∧
  C_base_Base_Size none N_8 w1_24 fun t129 w1_25 =>
  If (t129 == (0 : Int))
  (If (!t691)
  (C_base_Base_Preds none w1_25 fun t138P t138N t138C w1_26 =>
  If ((t138N : Int) == (0 : Int))
  (C_base_Base_Slots none w1_26 fun t144 w1_27 =>
  If (t144 == (0 : Int))
  (C_base_Base_Reclaim none (.func (.func 19) #[] #[]) w1_27 fun t149 w1_28 =>
  R (t149 == (0 : Int)) w1_28)
  (F_law19_BaseNobody_k1 R w1_27))
  (F_law19_BaseNobody_k1 R w1_26))
  (F_law19_BaseNobody_k1 R w1_25))
  (F_law19_BaseNobody_k1 R w1_25))
  (F_law19_BaseNobody_k1 R w1_24))
  (F_law19_BaseNobody_k1 R w1_24))
  (F_law19_BaseNobody_k1 R w1_24))
  (F_law19_BaseNobody_k1 R w1_23))
  (F_law19_BaseNobody_k1 R w1_23))
  (F_law19_BaseNobody_k1 R w1_23))
  (F_law19_BaseNobody_k1 R w1_22))
  (F_law19_BaseNobody_k1 R w1_21))
  (F_law19_BaseNobody_k1 R w1_20))
  (F_law19_BaseNobody_k1 R w1_20))
  (F_law19_BaseNobody_k1 R w1_20)

def G_law19_BaseNobody : Gen where
  loop := lookL []
  plan := fun _ => none

theorem loops_law19_BaseNobody : LoopOk Tryz.prog Tryz.f3.ntmps G_law19_BaseNobody (codeOf Tryz.f3) := loopOk_none fun _ => rfl

theorem C_law19_BaseNobody.of {o0 : Int} {o1 : Int} {o2 : Int} {o3 : ByteArray} {o4P : Option Addr} {o4N : Nat} {o4C : Nat} {o5P : Option Addr} {o5N : Nat} {o5C : Nat} {o6 : Int} {o7P : Option Addr} {o7N : Nat} {o7C : Nat} {o8 : Bool} {o9 : Int} {o10 : Int} {o11 : ByteArray} {o12 : Int} {o13 : Int} {w : World} {R : Bool → World → Prop} (h : F_law19_BaseNobody o0 o1 o2 o3 o4P o4N o4C o5P o5N o5C o6 o7P o7N o7C o8 o9 o10 o11 o12 o13 w R) : C_law19_BaseNobody o0 o1 o2 o3 o4P o4N o4C o5P o5N o5C o6 o7P o7N o7C o8 o9 o10 o11 o12 o13 w R := ofS2 (Fm := F_law19_BaseNobody o0 o1 o2 o3 o4P o4N o4C o5P o5N o5C o6 o7P o7N o7C o8 o9 o10 o11 o12 o13 w) Tryz.func3 (by kernel_rfl) loops_law19_BaseNobody rfl (fun _ => by kernel_rfl) h

def F_base_Base_Add_k1 (b : Option Addr) (codeP : Option Addr) (codeN : Nat) (codeC : Nat) (front : Bool) (R : Int → Int → World → Prop) (r : Nat) (t310 : Int) (t : Option Addr) (w1_12 : World) : Prop :=
  ∃ Head0_1 : Int, w1_12.cell? (((⟨r, 0, none⟩ : Addr).add 0).add 0) = some (.int .i64 Head0_1) ∧
  ∃ Head1_1 : Int, w1_12.cell? (((⟨r, 0, none⟩ : Addr).add 0).add 1) = some (.int .i64 Head1_1) ∧
  ∃ Head2_1 : ByteArray, w1_12.cell? (((⟨r, 0, none⟩ : Addr).add 0).add 2) = some (.string Head2_1) ∧
  ∃ Head3P_1 : Option Addr, ∃ Head3N_1 : Nat, ∃ Head3C_1 : Nat, w1_12.cell? (((⟨r, 0, none⟩ : Addr).add 0).add 3) = some (.slice Head3P_1 Head3N_1 Head3C_1) ∧
  C_index_First Head0_1 Head1_1 Head2_1 Head3P_1 Head3N_1 Head3C_1 w1_12 fun t630 t631 t632 w1_13 =>
  C_index_Table_Add t t310 t630 t631 t632 front w1_13 fun t65 w1_14 =>
  NN b fun a_2 =>
  ∃ generation : Int, w1_14.cell? (a_2.add 1) = some (.int .i64 generation) ∧
  NN b fun a_3 =>
  St w1_14 ((a_3.add 1).add 0) (.int .i64 (IntKind.i64.wrap (generation + (1 : Int)))) fun w1_15 =>
  ∃ t750 : Int, (drw w1_15).cell? ((⟨r, 0, none⟩ : Addr).add 0) = some (.int .i64 t750) ∧
  ∃ t751 : Int, (drw w1_15).cell? ((⟨r, 0, none⟩ : Addr).add 1) = some (.int .i64 t751) ∧
  ∃ t752 : ByteArray, (drw w1_15).cell? ((⟨r, 0, none⟩ : Addr).add 2) = some (.string t752) ∧
  ∃ t753P : Option Addr, ∃ t753N : Nat, ∃ t753C : Nat, (drw w1_15).cell? ((⟨r, 0, none⟩ : Addr).add 3) = some (.slice t753P t753N t753C) ∧
  ∃ t754P : Option Addr, ∃ t754N : Nat, ∃ t754C : Nat, (drw w1_15).cell? ((⟨r, 0, none⟩ : Addr).add 4) = some (.slice t754P t754N t754C) ∧
  ∃ t755 : Int, (drw w1_15).cell? ((⟨r, 0, none⟩ : Addr).add 5) = some (.int .i64 t755) ∧
  NN b fun a_4 =>
  ∃ generation_1 : Int, (drw w1_15).cell? (a_4.add 1) = some (.int .i64 generation_1) ∧
  C_base_copyOf t750 t751 t752 t753P t753N t753C t754P t754N t754C t755 (drw w1_15) fun t760 t761 t762 t763P t763N t763C t764P t764N t764C t765 w1_16 =>
  w1_16.cell? (a_4.add 1) = (drw w1_15).cell? (a_4.add 1) ∧
  C_slices_Clone codeP codeN codeC w1_16 fun t78P t78N t78C w1_17 =>
  w1_17.cell? (a_4.add 1) = (drw w1_15).cell? (a_4.add 1) ∧
  C_base_Base_take b t310 t760 t761 t762 t763P t763N t763C t764P t764N t764C t765 t78P t78N t78C generation_1 (0 : Int) true w1_17 fun w1_18 =>
  R t310 (0 : Int) w1_18

def F_base_Base_Add_k2 (b : Option Addr) (codeP : Option Addr) (codeN : Nat) (codeC : Nat) (front : Bool) (R : Int → Int → World → Prop) (r : Nat) (w1_2 : World) : Prop :=
  C_base_Base_room b w1_2 fun t310 t311 w1_3 =>
  ∃ Head0 : Int, w1_3.cell? (((⟨r, 0, none⟩ : Addr).add 0).add 0) = some (.int .i64 Head0) ∧
  ∃ Head1 : Int, w1_3.cell? (((⟨r, 0, none⟩ : Addr).add 0).add 1) = some (.int .i64 Head1) ∧
  ∃ Head2 : ByteArray, w1_3.cell? (((⟨r, 0, none⟩ : Addr).add 0).add 2) = some (.string Head2) ∧
  ∃ Head3P : Option Addr, ∃ Head3N : Nat, ∃ Head3C : Nat, w1_3.cell? (((⟨r, 0, none⟩ : Addr).add 0).add 3) = some (.slice Head3P Head3N Head3C) ∧
  C_base_of Head0 Head1 Head2 Head3P Head3N Head3C w1_3 fun t360 t361 w1_4 =>
  New w1_4 (.cells #[.string ⟨#[]⟩, .int .i64 0] 61) fun r_1 w1_5 =>
  St w1_5 ((⟨r_1, 0, none⟩ : Addr).add 0) (.string t360) fun w1_6 =>
  St w1_6 ((⟨r_1, 0, none⟩ : Addr).add 1) (.int .i64 t361) fun w1_7 =>
  NN b fun a =>
  ∃ preds : Option Nat, (drw w1_7).cell? (a.add 4) = some (.map preds) ∧
  ∃ t410 : ByteArray, (drw w1_7).cell? ((⟨r_1, 0, none⟩ : Addr).add 0) = some (.string t410) ∧
  ∃ t411 : Int, (drw w1_7).cell? ((⟨r_1, 0, none⟩ : Addr).add 1) = some (.int .i64 t411) ∧
  Run Tryz.prog (Instr.lookup 66 (.map preds) (.agg #[.string t410, .int .i64 t411]) false) (drw w1_7) fun v w1_8 => ∃ t42 : Option Addr, v = (.pointer t42) ∧
  If (!t311)
  (R (0 : Int) (2 : Int) w1_8)
  (C_index_Table_Len t42 w1_8 fun t47 w1_9 =>
  If (decide (t47 ≥ (4096 : Int)))
  (R (0 : Int) (2 : Int) w1_9)
  (If t42.isNone
  (C_index_New  w1_9 fun t52 w1_10 =>
  NN b fun a_1 =>
  ∃ preds_1 : Option Nat, (drw w1_10).cell? (a_1.add 4) = some (.map preds_1) ∧
  ∃ t570 : ByteArray, (drw w1_10).cell? ((⟨r_1, 0, none⟩ : Addr).add 0) = some (.string t570) ∧
  ∃ t571 : Int, (drw w1_10).cell? ((⟨r_1, 0, none⟩ : Addr).add 1) = some (.int .i64 t571) ∧
  MUp Tryz.prog 66 (.map preds_1) (.agg #[.string t570, .int .i64 t571]) (.pointer t52) (drw w1_10) fun w1_11 =>
  F_base_Base_Add_k1 b codeP codeN codeC front R r t310 t52 w1_11)
  (F_base_Base_Add_k1 b codeP codeN codeC front R r t310 t42 w1_9)))

def F_base_Base_Add (b : Option Addr) (c0 : Int) (c1 : Int) (c2 : ByteArray) (c3P : Option Addr) (c3N : Nat) (c3C : Nat) (c4P : Option Addr) (c4N : Nat) (c4C : Nat) (c5 : Int) (codeP : Option Addr) (codeN : Nat) (codeC : Nat) (front : Bool) (w : World) (R : Int → Int → World → Prop) : Prop :=
  New w (.cells #[.int .i64 c0, .int .i64 c1, .string c2, .slice c3P c3N c3C, .slice c4P c4N c4C, .int .i64 c5] 27) fun r w1 =>
  C_base_Base_made b w1 fun t16 w1_1 =>
  If (!t16)
  (R (0 : Int) (6 : Int) w1_1)
  (∃ Kind : Int, w1_1.cell? (((⟨r, 0, none⟩ : Addr).add 0).add 0) = some (.int .i64 Kind) ∧
  If (Kind != (3 : Int))
  (∃ Kind_1 : Int, w1_1.cell? (((⟨r, 0, none⟩ : Addr).add 0).add 0) = some (.int .i64 Kind_1) ∧
  If (Kind_1 != (4 : Int))
  (R (0 : Int) (1 : Int) w1_1)
  (F_base_Base_Add_k2 b codeP codeN codeC front R r w1_1))
  (F_base_Base_Add_k2 b codeP codeN codeC front R r w1_1))

def G_base_Base_Add : Gen where
  loop := lookL []
  plan := fun id =>
    bif Nat.beq id 7 then some ([0, 1, 3, 7, 0, 31, 63], .take 0 (.take 1 (.take 2 (.take 3 (.take 4 (.take 5 (.take 6 .done))))))) else
    bif Nat.beq id 12 then some ([0, 1, 3, 7, 0, 0, 63], .take 0 (.take 1 (.take 2 (.take 3 (.take 4 (.take 5 (.take 6 .done))))))) else
    bif Nat.beq id 15 then some ([0, 0, 0, 4, 0, 28, 0, 64, 192, 448, 1020, 2047], .take 0 (.take 1 (.take 2 (.take 4 (.take 6 (.take 7 (.take 8 (.take 9 (.take 3 (.take 5 (.take 10 (.take 11 .done)))))))))))) else none

theorem loops_base_Base_Add : LoopOk Tryz.prog Tryz.f4.ntmps G_base_Base_Add (codeOf Tryz.f4) := loopOk_none fun _ => rfl

theorem C_base_Base_Add.of {b : Option Addr} {c0 : Int} {c1 : Int} {c2 : ByteArray} {c3P : Option Addr} {c3N : Nat} {c3C : Nat} {c4P : Option Addr} {c4N : Nat} {c4C : Nat} {c5 : Int} {codeP : Option Addr} {codeN : Nat} {codeC : Nat} {front : Bool} {w : World} {R : Int → Int → World → Prop} (h : F_base_Base_Add b c0 c1 c2 c3P c3N c3C c4P c4N c4C c5 codeP codeN codeC front w R) : C_base_Base_Add b c0 c1 c2 c3P c3N c3C c4P c4N c4C c5 codeP codeN codeC front w R := ofS3 (Fm := F_base_Base_Add b c0 c1 c2 c3P c3N c3C c4P c4N c4C c5 codeP codeN codeC front w) Tryz.func4 (by kernel_rfl) loops_base_Base_Add rfl (fun _ => by kernel_rfl) h

def F_base_Base_Head (b : Option Addr) (namex : ByteArray) (arity : Int) (k0x : Int) (k1x : ByteArray) (k2x : Int) (generation : Int) (w : World) (R : Int → Bool → World → Prop) : Prop :=
  New w (.cells #[.int .i64 k0x, .string k1x, .int .i64 k2x] 30) fun r w1 =>
  C_base_Base_made b w1 fun t16 w1_1 =>
  If (!t16)
  (R (0 : Int) false w1_1)
  (NN b fun a =>
  ∃ preds : Option Nat, w1_1.cell? (a.add 4) = some (.map preds) ∧
  Run Tryz.prog (Instr.lookup 66 (.map preds) (.agg #[.string namex, .int .i64 arity]) false) w1_1 fun v w1_2 => ∃ t25 : Option Addr, v = (.pointer t25) ∧
  ∃ t280 : Int, w1_2.cell? ((⟨r, 0, none⟩ : Addr).add 0) = some (.int .i64 t280) ∧
  ∃ t281 : ByteArray, w1_2.cell? ((⟨r, 0, none⟩ : Addr).add 1) = some (.string t281) ∧
  ∃ t282 : Int, w1_2.cell? ((⟨r, 0, none⟩ : Addr).add 2) = some (.int .i64 t282) ∧
  C_index_Table_Head t25 t280 t281 t282 w1_2 fun t290 t291 w1_3 =>
  ∃ t360 : Int, w1_3.cell? ((⟨r, 0, none⟩ : Addr).add 0) = some (.int .i64 t360) ∧
  ∃ t361 : ByteArray, w1_3.cell? ((⟨r, 0, none⟩ : Addr).add 1) = some (.string t361) ∧
  ∃ t362 : Int, w1_3.cell? ((⟨r, 0, none⟩ : Addr).add 2) = some (.int .i64 t362) ∧
  C_base_Base_first b t25 t290 t291 t360 t361 t362 generation w1_3 fun t380 t381 w1_4 =>
  R t380 t381 w1_4)

def G_base_Base_Head : Gen where
  loop := lookL []
  plan := fun _ => none

theorem loops_base_Base_Head : LoopOk Tryz.prog Tryz.f5.ntmps G_base_Base_Head (codeOf Tryz.f5) := loopOk_none fun _ => rfl

theorem C_base_Base_Head.of {b : Option Addr} {namex : ByteArray} {arity : Int} {k0x : Int} {k1x : ByteArray} {k2x : Int} {generation : Int} {w : World} {R : Int → Bool → World → Prop} (h : F_base_Base_Head b namex arity k0x k1x k2x generation w R) : C_base_Base_Head b namex arity k0x k1x k2x generation w R := ofS4 (Fm := F_base_Base_Head b namex arity k0x k1x k2x generation w) Tryz.func5 (by kernel_rfl) loops_base_Base_Head rfl (fun _ => by kernel_rfl) h

def F_base_Base_Next (b : Option Addr) (idx : Int) (k0x : Int) (k1x : ByteArray) (k2x : Int) (generation : Int) (w : World) (R : Int → Bool → World → Prop) : Prop :=
  New w (.cells #[.int .i64 k0x, .string k1x, .int .i64 k2x] 30) fun r w1 =>
  C_base_Base_has b idx w1 fun t15 w1_1 =>
  If (!t15)
  (R (0 : Int) false w1_1)
  (NN b fun a =>
  ∃ preds : Option Nat, (drw w1_1).cell? (a.add 4) = some (.map preds) ∧
  NN b fun a_1 =>
  ∃ lP : Option Addr, ∃ lN : Nat, ∃ lC : Nat, (drw w1_1).cell? (a_1.add 2) = some (.slice lP lN lC) ∧
  0 ≤ idx ∧ idx < (lN : Int) ∧ NN lP fun a_2 =>
  ∃ Head0 : Int, (drw w1_1).cell? ((((a_2.add (idx.toNat * 10)).add 0).add 0).add 0) = some (.int .i64 Head0) ∧
  ∃ Head1 : Int, (drw w1_1).cell? ((((a_2.add (idx.toNat * 10)).add 0).add 0).add 1) = some (.int .i64 Head1) ∧
  ∃ Head2 : ByteArray, (drw w1_1).cell? ((((a_2.add (idx.toNat * 10)).add 0).add 0).add 2) = some (.string Head2) ∧
  ∃ Head3P : Option Addr, ∃ Head3N : Nat, ∃ Head3C : Nat, (drw w1_1).cell? ((((a_2.add (idx.toNat * 10)).add 0).add 0).add 3) = some (.slice Head3P Head3N Head3C) ∧
  C_base_of Head0 Head1 Head2 Head3P Head3N Head3C (drw w1_1) fun t300 t301 w1_2 =>
  w1_2.cell? (a.add 4) = (drw w1_1).cell? (a.add 4) ∧
  Run Tryz.prog (Instr.lookup 66 (.map preds) (.agg #[.string t300, .int .i64 t301]) false) w1_2 fun v w1_3 => ∃ t31 : Option Addr, v = (.pointer t31) ∧
  ∃ t350 : Int, w1_3.cell? ((⟨r, 0, none⟩ : Addr).add 0) = some (.int .i64 t350) ∧
  ∃ t351 : ByteArray, w1_3.cell? ((⟨r, 0, none⟩ : Addr).add 1) = some (.string t351) ∧
  ∃ t352 : Int, w1_3.cell? ((⟨r, 0, none⟩ : Addr).add 2) = some (.int .i64 t352) ∧
  C_index_Table_Next t31 idx t350 t351 t352 w1_3 fun t360 t361 w1_4 =>
  ∃ t430 : Int, w1_4.cell? ((⟨r, 0, none⟩ : Addr).add 0) = some (.int .i64 t430) ∧
  ∃ t431 : ByteArray, w1_4.cell? ((⟨r, 0, none⟩ : Addr).add 1) = some (.string t431) ∧
  ∃ t432 : Int, w1_4.cell? ((⟨r, 0, none⟩ : Addr).add 2) = some (.int .i64 t432) ∧
  C_base_Base_first b t31 t360 t361 t430 t431 t432 generation w1_4 fun t450 t451 w1_5 =>
  R t450 t451 w1_5)

def G_base_Base_Next : Gen where
  loop := lookL []
  plan := fun id =>
    bif Nat.beq id 3 then some ([0, 1, 3, 7, 0, 16, 48, 112, 0, 496, 1008, 2032, 4080, 8176, 16383, 32767], .take 0 (.take 1 (.take 2 (.take 3 (.take 4 (.take 5 (.take 6 (.take 7 (.take 8 (.take 9 (.take 10 (.take 11 (.take 12 (.take 13 (.take 14 (.take 15 .done)))))))))))))))) else none

theorem loops_base_Base_Next : LoopOk Tryz.prog Tryz.f6.ntmps G_base_Base_Next (codeOf Tryz.f6) := loopOk_none fun _ => rfl

theorem C_base_Base_Next.of {b : Option Addr} {idx : Int} {k0x : Int} {k1x : ByteArray} {k2x : Int} {generation : Int} {w : World} {R : Int → Bool → World → Prop} (h : F_base_Base_Next b idx k0x k1x k2x generation w R) : C_base_Base_Next b idx k0x k1x k2x generation w R := ofS4 (Fm := F_base_Base_Next b idx k0x k1x k2x generation w) Tryz.func6 (by kernel_rfl) loops_base_Base_Next rfl (fun _ => by kernel_rfl) h

def F_base_Base_Clause (b : Option Addr) (idx : Int) (w : World) (R : Int → Int → ByteArray → Option Addr → Nat → Nat → Option Addr → Nat → Nat → Int → Int → World → Prop) : Prop :=
  New w (.cells #[.int .i64 0, .int .i64 0, .string ⟨#[]⟩, .slice none 0 0, .slice none 0 0, .int .i64 0] 27) fun r w1 =>
  C_base_Base_may b idx w1 fun t9 w1_1 =>
  If (t9 != (0 : Int))
  (St w1_1 ((⟨r, 0, none⟩ : Addr).add 0) (.int .i64 0) fun w1_2 =>
  St w1_2 ((⟨r, 0, none⟩ : Addr).add 1) (.int .i64 0) fun w1_3 =>
  St w1_3 ((⟨r, 0, none⟩ : Addr).add 2) (.string ⟨#[]⟩) fun w1_4 =>
  St w1_4 ((⟨r, 0, none⟩ : Addr).add 3) (.slice none 0 0) fun w1_5 =>
  St w1_5 ((⟨r, 0, none⟩ : Addr).add 4) (.slice none 0 0) fun w1_6 =>
  St w1_6 ((⟨r, 0, none⟩ : Addr).add 5) (.int .i64 0) fun w1_7 =>
  ∃ r_1 : Int, w1_7.cell? ((⟨r, 0, none⟩ : Addr).add 0) = some (.int .i64 r_1) ∧
  ∃ r_2 : Int, w1_7.cell? ((⟨r, 0, none⟩ : Addr).add 1) = some (.int .i64 r_2) ∧
  ∃ r_3 : ByteArray, w1_7.cell? ((⟨r, 0, none⟩ : Addr).add 2) = some (.string r_3) ∧
  ∃ rP : Option Addr, ∃ rN : Nat, ∃ rC : Nat, w1_7.cell? ((⟨r, 0, none⟩ : Addr).add 3) = some (.slice rP rN rC) ∧
  ∃ rP_1 : Option Addr, ∃ rN_1 : Nat, ∃ rC_1 : Nat, w1_7.cell? ((⟨r, 0, none⟩ : Addr).add 4) = some (.slice rP_1 rN_1 rC_1) ∧
  ∃ r_4 : Int, w1_7.cell? ((⟨r, 0, none⟩ : Addr).add 5) = some (.int .i64 r_4) ∧
  R r_1 r_2 r_3 rP rN rC rP_1 rN_1 rC_1 r_4 t9 w1_7)
  (NN b fun a =>
  ∃ lP : Option Addr, ∃ lN : Nat, ∃ lC : Nat, w1_1.cell? (a.add 2) = some (.slice lP lN lC) ∧
  0 ≤ idx ∧ idx < (lN : Int) ∧ NN lP fun a_1 =>
  ∃ c0 : Int, w1_1.cell? (((a_1.add (idx.toNat * 10)).add 0).add 0) = some (.int .i64 c0) ∧
  ∃ c1 : Int, w1_1.cell? (((a_1.add (idx.toNat * 10)).add 0).add 1) = some (.int .i64 c1) ∧
  ∃ c2 : ByteArray, w1_1.cell? (((a_1.add (idx.toNat * 10)).add 0).add 2) = some (.string c2) ∧
  ∃ c3P : Option Addr, ∃ c3N : Nat, ∃ c3C : Nat, w1_1.cell? (((a_1.add (idx.toNat * 10)).add 0).add 3) = some (.slice c3P c3N c3C) ∧
  ∃ c4P : Option Addr, ∃ c4N : Nat, ∃ c4C : Nat, w1_1.cell? (((a_1.add (idx.toNat * 10)).add 0).add 4) = some (.slice c4P c4N c4C) ∧
  ∃ c5 : Int, w1_1.cell? (((a_1.add (idx.toNat * 10)).add 0).add 5) = some (.int .i64 c5) ∧
  C_base_copyOf c0 c1 c2 c3P c3N c3C c4P c4N c4C c5 w1_1 fun t220 t221 t222 t223P t223N t223C t224P t224N t224C t225 w1_8 =>
  St w1_8 ((⟨r, 0, none⟩ : Addr).add 0) (.int .i64 t220) fun w1_9 =>
  St w1_9 ((⟨r, 0, none⟩ : Addr).add 1) (.int .i64 t221) fun w1_10 =>
  St w1_10 ((⟨r, 0, none⟩ : Addr).add 2) (.string t222) fun w1_11 =>
  St w1_11 ((⟨r, 0, none⟩ : Addr).add 3) (.slice t223P t223N t223C) fun w1_12 =>
  St w1_12 ((⟨r, 0, none⟩ : Addr).add 4) (.slice t224P t224N t224C) fun w1_13 =>
  St w1_13 ((⟨r, 0, none⟩ : Addr).add 5) (.int .i64 t225) fun w1_14 =>
  ∃ r_5 : Int, w1_14.cell? ((⟨r, 0, none⟩ : Addr).add 0) = some (.int .i64 r_5) ∧
  ∃ r_6 : Int, w1_14.cell? ((⟨r, 0, none⟩ : Addr).add 1) = some (.int .i64 r_6) ∧
  ∃ r_7 : ByteArray, w1_14.cell? ((⟨r, 0, none⟩ : Addr).add 2) = some (.string r_7) ∧
  ∃ rP_2 : Option Addr, ∃ rN_2 : Nat, ∃ rC_2 : Nat, w1_14.cell? ((⟨r, 0, none⟩ : Addr).add 3) = some (.slice rP_2 rN_2 rC_2) ∧
  ∃ rP_3 : Option Addr, ∃ rN_3 : Nat, ∃ rC_3 : Nat, w1_14.cell? ((⟨r, 0, none⟩ : Addr).add 4) = some (.slice rP_3 rN_3 rC_3) ∧
  ∃ r_8 : Int, w1_14.cell? ((⟨r, 0, none⟩ : Addr).add 5) = some (.int .i64 r_8) ∧
  R r_5 r_6 r_7 rP_2 rN_2 rC_2 rP_3 rN_3 rC_3 r_8 (0 : Int) w1_14)

def G_base_Base_Clause : Gen where
  loop := lookL []
  plan := fun _ => none

theorem loops_base_Base_Clause : LoopOk Tryz.prog Tryz.f7.ntmps G_base_Base_Clause (codeOf Tryz.f7) := loopOk_none fun _ => rfl

theorem C_base_Base_Clause.of {b : Option Addr} {idx : Int} {w : World} {R : Int → Int → ByteArray → Option Addr → Nat → Nat → Option Addr → Nat → Nat → Int → Int → World → Prop} (h : F_base_Base_Clause b idx w R) : C_base_Base_Clause b idx w R := ofS5 (Fm := F_base_Base_Clause b idx w) Tryz.func7 (by kernel_rfl) loops_base_Base_Clause rfl (fun _ => by kernel_rfl) h

def F_base_Base_Code (b : Option Addr) (idx : Int) (w : World) (R : Option Addr → Nat → Nat → Int → World → Prop) : Prop :=
  C_base_Base_may b idx w fun t9 w1 =>
  If (t9 != (0 : Int))
  (R none 0 0 t9 w1)
  (NN b fun a =>
  ∃ lP : Option Addr, ∃ lN : Nat, ∃ lC : Nat, w1.cell? (a.add 2) = some (.slice lP lN lC) ∧
  0 ≤ idx ∧ idx < (lN : Int) ∧ NN lP fun a_1 =>
  ∃ codeP : Option Addr, ∃ codeN : Nat, ∃ codeC : Nat, w1.cell? ((a_1.add (idx.toNat * 10)).add 6) = some (.slice codeP codeN codeC) ∧
  C_slices_Clone codeP codeN codeC w1 fun t21P t21N t21C w1_1 =>
  R t21P t21N t21C (0 : Int) w1_1)

def G_base_Base_Code : Gen where
  loop := lookL []
  plan := fun _ => none

theorem loops_base_Base_Code : LoopOk Tryz.prog Tryz.f8.ntmps G_base_Base_Code (codeOf Tryz.f8) := loopOk_none fun _ => rfl

theorem C_base_Base_Code.of {b : Option Addr} {idx : Int} {w : World} {R : Option Addr → Nat → Nat → Int → World → Prop} (h : F_base_Base_Code b idx w R) : C_base_Base_Code b idx w R := ofS6 (Fm := F_base_Base_Code b idx w) Tryz.func8 (by kernel_rfl) loops_base_Base_Code rfl (fun _ => by kernel_rfl) h

def F_base_Base_At_k1 (R : Int → ByteArray → Int → Int → Int → Bool → World → Prop) (r : Nat) (w1_2 : World) : Prop :=
  St w1_2 ((⟨r, 0, none⟩ : Addr).add 0) (.int .i64 0) fun w1_3 =>
  St w1_3 ((⟨r, 0, none⟩ : Addr).add 1) (.string ⟨#[]⟩) fun w1_4 =>
  St w1_4 ((⟨r, 0, none⟩ : Addr).add 2) (.int .i64 0) fun w1_5 =>
  St w1_5 ((⟨r, 0, none⟩ : Addr).add 3) (.int .i64 0) fun w1_6 =>
  St w1_6 ((⟨r, 0, none⟩ : Addr).add 4) (.int .i64 0) fun w1_7 =>
  ∃ r_1 : Int, w1_7.cell? ((⟨r, 0, none⟩ : Addr).add 0) = some (.int .i64 r_1) ∧
  ∃ r_2 : ByteArray, w1_7.cell? ((⟨r, 0, none⟩ : Addr).add 1) = some (.string r_2) ∧
  ∃ r_3 : Int, w1_7.cell? ((⟨r, 0, none⟩ : Addr).add 2) = some (.int .i64 r_3) ∧
  ∃ r_4 : Int, w1_7.cell? ((⟨r, 0, none⟩ : Addr).add 3) = some (.int .i64 r_4) ∧
  ∃ r_5 : Int, w1_7.cell? ((⟨r, 0, none⟩ : Addr).add 4) = some (.int .i64 r_5) ∧
  R r_1 r_2 r_3 r_4 r_5 false w1_7

def F_base_Base_At (b : Option Addr) (idx : Int) (i : Int) (w : World) (R : Int → ByteArray → Int → Int → Int → Bool → World → Prop) : Prop :=
  New w (.cells #[.int .i64 0, .string ⟨#[]⟩, .int .i64 0, .int .i64 0, .int .i64 0] 45) fun r w1 =>
  C_base_Base_has b idx w1 fun t10 w1_1 =>
  If (!t10)
  (F_base_Base_At_k1 R r w1_1)
  (If (decide (i < (0 : Int)))
  (F_base_Base_At_k1 R r w1_1)
  (NN b fun a =>
  ∃ lP : Option Addr, ∃ lN : Nat, ∃ lC : Nat, w1_1.cell? (a.add 2) = some (.slice lP lN lC) ∧
  0 ≤ idx ∧ idx < (lN : Int) ∧ NN lP fun a_1 =>
  ∃ codeP : Option Addr, ∃ codeN : Nat, ∃ codeC : Nat, w1_1.cell? ((a_1.add (idx.toNat * 10)).add 6) = some (.slice codeP codeN codeC) ∧
  If (decide (i ≥ (codeN : Int)))
  (St w1_1 ((⟨r, 0, none⟩ : Addr).add 0) (.int .i64 0) fun w1_8 =>
  St w1_8 ((⟨r, 0, none⟩ : Addr).add 1) (.string ⟨#[]⟩) fun w1_9 =>
  St w1_9 ((⟨r, 0, none⟩ : Addr).add 2) (.int .i64 0) fun w1_10 =>
  St w1_10 ((⟨r, 0, none⟩ : Addr).add 3) (.int .i64 0) fun w1_11 =>
  St w1_11 ((⟨r, 0, none⟩ : Addr).add 4) (.int .i64 0) fun w1_12 =>
  ∃ r_6 : Int, w1_12.cell? ((⟨r, 0, none⟩ : Addr).add 0) = some (.int .i64 r_6) ∧
  ∃ r_7 : ByteArray, w1_12.cell? ((⟨r, 0, none⟩ : Addr).add 1) = some (.string r_7) ∧
  ∃ r_8 : Int, w1_12.cell? ((⟨r, 0, none⟩ : Addr).add 2) = some (.int .i64 r_8) ∧
  ∃ r_9 : Int, w1_12.cell? ((⟨r, 0, none⟩ : Addr).add 3) = some (.int .i64 r_9) ∧
  ∃ r_10 : Int, w1_12.cell? ((⟨r, 0, none⟩ : Addr).add 4) = some (.int .i64 r_10) ∧
  R r_6 r_7 r_8 r_9 r_10 false w1_12)
  (NN b fun a_2 =>
  ∃ lP_1 : Option Addr, ∃ lN_1 : Nat, ∃ lC_1 : Nat, w1_1.cell? (a_2.add 2) = some (.slice lP_1 lN_1 lC_1) ∧
  0 ≤ idx ∧ idx < (lN_1 : Int) ∧ NN lP_1 fun a_3 =>
  ∃ codeP_1 : Option Addr, ∃ codeN_1 : Nat, ∃ codeC_1 : Nat, w1_1.cell? ((a_3.add (idx.toNat * 10)).add 6) = some (.slice codeP_1 codeN_1 codeC_1) ∧
  0 ≤ i ∧ i < (codeN_1 : Int) ∧ NN codeP_1 fun a_4 =>
  ∃ t400 : Int, w1_1.cell? ((a_4.add (i.toNat * 5)).add 0) = some (.int .i64 t400) ∧
  ∃ t401 : ByteArray, w1_1.cell? ((a_4.add (i.toNat * 5)).add 1) = some (.string t401) ∧
  ∃ t402 : Int, w1_1.cell? ((a_4.add (i.toNat * 5)).add 2) = some (.int .i64 t402) ∧
  ∃ t403 : Int, w1_1.cell? ((a_4.add (i.toNat * 5)).add 3) = some (.int .i64 t403) ∧
  ∃ t404 : Int, w1_1.cell? ((a_4.add (i.toNat * 5)).add 4) = some (.int .i64 t404) ∧
  St w1_1 ((⟨r, 0, none⟩ : Addr).add 0) (.int .i64 t400) fun w1_13 =>
  St w1_13 ((⟨r, 0, none⟩ : Addr).add 1) (.string t401) fun w1_14 =>
  St w1_14 ((⟨r, 0, none⟩ : Addr).add 2) (.int .i64 t402) fun w1_15 =>
  St w1_15 ((⟨r, 0, none⟩ : Addr).add 3) (.int .i64 t403) fun w1_16 =>
  St w1_16 ((⟨r, 0, none⟩ : Addr).add 4) (.int .i64 t404) fun w1_17 =>
  ∃ r_11 : Int, w1_17.cell? ((⟨r, 0, none⟩ : Addr).add 0) = some (.int .i64 r_11) ∧
  ∃ r_12 : ByteArray, w1_17.cell? ((⟨r, 0, none⟩ : Addr).add 1) = some (.string r_12) ∧
  ∃ r_13 : Int, w1_17.cell? ((⟨r, 0, none⟩ : Addr).add 2) = some (.int .i64 r_13) ∧
  ∃ r_14 : Int, w1_17.cell? ((⟨r, 0, none⟩ : Addr).add 3) = some (.int .i64 r_14) ∧
  ∃ r_15 : Int, w1_17.cell? ((⟨r, 0, none⟩ : Addr).add 4) = some (.int .i64 r_15) ∧
  R r_11 r_12 r_13 r_14 r_15 true w1_17)))

def G_base_Base_At : Gen where
  loop := lookL []
  plan := fun _ => none

theorem loops_base_Base_At : LoopOk Tryz.prog Tryz.f9.ntmps G_base_Base_At (codeOf Tryz.f9) := loopOk_none fun _ => rfl

theorem C_base_Base_At.of {b : Option Addr} {idx : Int} {i : Int} {w : World} {R : Int → ByteArray → Int → Int → Int → Bool → World → Prop} (h : F_base_Base_At b idx i w R) : C_base_Base_At b idx i w R := ofS7 (Fm := F_base_Base_At b idx i w) Tryz.func9 (by kernel_rfl) loops_base_Base_At rfl (fun _ => by kernel_rfl) h

def F_law19_lives_k1 (R : Bool → World → Prop) (w1_36 : World) : Prop :=
  R false w1_36

def F_law19_lives (w : World) (R : Bool → World → Prop) : Prop :=
  C_base_New (3 : Int) w fun t210 t211 w1 =>
  If (t211 != (0 : Int))
  (R false w1)
  (If t210.isNone
  (R false w1)
  (C_law19_fact (1 : Int) w1 fun t320 t321 t322 t323P t323N t323C t324P t324N t324C t325 w1_1 =>
  BSl Tryz.prog 28 1 [(0, .agg #[.int .i64 25, .string ⟨#[]⟩, .int .i64 0, .int .i64 0, .int .i64 0])] w1_1 fun t34P t34N t34C w1_2 =>
  C_base_Base_Add t210 t320 t321 t322 t323P t323N t323C t324P t324N t324C t325 t34P t34N t34C false w1_2 fun t350 t351 w1_3 =>
  C_law19_fact (2 : Int) w1_3 fun t400 t401 t402 t403P t403N t403C t404P t404N t404C t405 w1_4 =>
  C_base_Base_Add t210 t400 t401 t402 t403P t403N t403C t404P t404N t404C t405 none 0 0 true w1_4 fun t410 t411 w1_5 =>
  C_base_Base_Kill t210 t350 w1_5 fun t46 w1_6 =>
  C_base_Base_Head t210 ⟨#[112]⟩ (1 : Int) (0 : Int) ⟨#[]⟩ (0 : Int) (2 : Int) w1_6 fun t500 t501 w1_7 =>
  C_base_Base_Next t210 t500 (0 : Int) ⟨#[]⟩ (0 : Int) (2 : Int) w1_7 fun t570 t571 w1_8 =>
  C_base_Base_Next t210 t500 (0 : Int) ⟨#[]⟩ (0 : Int) (3 : Int) w1_8 fun t640 t641 w1_9 =>
  C_base_Base_Clause t210 t410 w1_9 fun t7000 t7001 t7002 t7003P t7003N t7003C t7004P t7004N t7004C t7005 t701 w1_10 =>
  New w1_10 (.cells #[.int .i64 0, .int .i64 0, .string ⟨#[]⟩, .slice none 0 0, .slice none 0 0, .int .i64 0] 27) fun r w1_11 =>
  St w1_11 ((⟨r, 0, none⟩ : Addr).add 0) (.int .i64 t7000) fun w1_12 =>
  St w1_12 ((⟨r, 0, none⟩ : Addr).add 1) (.int .i64 t7001) fun w1_13 =>
  St w1_13 ((⟨r, 0, none⟩ : Addr).add 2) (.string t7002) fun w1_14 =>
  St w1_14 ((⟨r, 0, none⟩ : Addr).add 3) (.slice t7003P t7003N t7003C) fun w1_15 =>
  St w1_15 ((⟨r, 0, none⟩ : Addr).add 4) (.slice t7004P t7004N t7004C) fun w1_16 =>
  St w1_16 ((⟨r, 0, none⟩ : Addr).add 5) (.int .i64 t7005) fun w1_17 =>
  C_base_Base_At t210 t350 (0 : Int) w1_17 fun t7600 t7601 t7602 t7603 t7604 t761 w1_18 =>
  New w1_18 (.cells #[.int .i64 0, .string ⟨#[]⟩, .int .i64 0, .int .i64 0, .int .i64 0] 45) fun r_1 w1_19 =>
  St w1_19 ((⟨r_1, 0, none⟩ : Addr).add 0) (.int .i64 t7600) fun w1_20 =>
  St w1_20 ((⟨r_1, 0, none⟩ : Addr).add 1) (.string t7601) fun w1_21 =>
  St w1_21 ((⟨r_1, 0, none⟩ : Addr).add 2) (.int .i64 t7602) fun w1_22 =>
  St w1_22 ((⟨r_1, 0, none⟩ : Addr).add 3) (.int .i64 t7603) fun w1_23 =>
  St w1_23 ((⟨r_1, 0, none⟩ : Addr).add 4) (.int .i64 t7604) fun w1_24 =>
  C_base_New (0 : Int) w1_24 fun t800 t801 w1_25 =>
  If (t350 == (0 : Int))
  (If (t351 == (0 : Int))
  (If (t410 == (1 : Int))
  (If (t411 == (0 : Int))
  (If (t46 == (0 : Int))
  (C_base_Base_Generation t210 (drw w1_25) fun t103 w1_26 =>
  If (t103 == (3 : Int))
  (If t501
  (If (t500 == t410)
  (If t571
  (If (t570 == t350)
  (If (!t641)
  (C_base_Base_Lives t210 t350 (2 : Int) w1_26 fun t129 w1_27 =>
  If t129
  (C_base_Base_Lives t210 t350 (3 : Int) w1_27 fun t134 w1_28 =>
  If (!t134)
  (C_base_Base_Known t210 ⟨#[112]⟩ (1 : Int) w1_28 fun t139 w1_29 =>
  If t139
  (C_base_Base_Known t210 ⟨#[112]⟩ (2 : Int) w1_29 fun t143 w1_30 =>
  If (!t143)
  (If (t701 == (0 : Int))
  (∃ Head0 : Int, w1_30.cell? (((⟨r, 0, none⟩ : Addr).add 0).add 0) = some (.int .i64 Head0) ∧
  ∃ Head1 : Int, w1_30.cell? (((⟨r, 0, none⟩ : Addr).add 0).add 1) = some (.int .i64 Head1) ∧
  ∃ Head2 : ByteArray, w1_30.cell? (((⟨r, 0, none⟩ : Addr).add 0).add 2) = some (.string Head2) ∧
  ∃ Head3P : Option Addr, ∃ Head3N : Nat, ∃ Head3C : Nat, w1_30.cell? (((⟨r, 0, none⟩ : Addr).add 0).add 3) = some (.slice Head3P Head3N Head3C) ∧
  C_law19_fact (2 : Int) w1_30 fun t1530 t1531 t1532 t1533P t1533N t1533C t1534P t1534N t1534C t1535 w1_31 =>
  (∀ i_, i_ < 4 → w1_31.cell? (((⟨r, 0, none⟩ : Addr).add 0).add i_) = w1_30.cell? (((⟨r, 0, none⟩ : Addr).add 0).add i_)) ∧
  C_ref06_Exact Head0 Head1 Head2 Head3P Head3N Head3C t1530 t1531 t1532 t1533P t1533N t1533C w1_31 fun t155 w1_32 =>
  If t155
  (If t761
  (∃ Op : Int, w1_32.cell? ((⟨r_1, 0, none⟩ : Addr).add 0) = some (.int .i64 Op) ∧
  If (Op == (25 : Int))
  (C_base_Base_Size t210 t350 w1_32 fun t168 w1_33 =>
  If (t168 == (1 : Int))
  (C_base_Base_Preds t210 w1_33 fun t173P t173N t173C w1_34 =>
  If ((t173N : Int) == (1 : Int))
  (C_base_Base_Slots t210 w1_34 fun t179 w1_35 =>
  If (t179 == (2 : Int))
  (R (t801 == (1 : Int)) w1_35)
  (F_law19_lives_k1 R w1_35))
  (F_law19_lives_k1 R w1_34))
  (F_law19_lives_k1 R w1_33))
  (F_law19_lives_k1 R w1_32))
  (F_law19_lives_k1 R w1_32))
  (F_law19_lives_k1 R w1_32))
  (F_law19_lives_k1 R w1_30))
  (F_law19_lives_k1 R w1_30))
  (F_law19_lives_k1 R w1_29))
  (F_law19_lives_k1 R w1_28))
  (F_law19_lives_k1 R w1_27))
  (F_law19_lives_k1 R w1_26))
  (F_law19_lives_k1 R w1_26))
  (F_law19_lives_k1 R w1_26))
  (F_law19_lives_k1 R w1_26))
  (F_law19_lives_k1 R w1_26))
  (F_law19_lives_k1 R w1_26))
  (F_law19_lives_k1 R (drw w1_25)))
  (F_law19_lives_k1 R (drw w1_25)))
  (F_law19_lives_k1 R (drw w1_25)))
  (F_law19_lives_k1 R (drw w1_25)))
  (F_law19_lives_k1 R (drw w1_25))))

def G_law19_lives : Gen where
  loop := lookL []
  plan := fun id =>
    bif Nat.beq id 13 then some ([0, 1, 3, 7, 15, 31, 63, 127, 255, 511, 1023, 2047, 4095, 8191, 16383, 32767, 65535, 131071, 262143, 524287, 1048575, 2097151, 4194303, 8388607, 16777215, 33554431, 67108863, 134217727, 134217727, 536870911, 1073741823, 2147483647, 4294967295, 8589934591, 17179869183, 34359738367, 34359738367, 137438953471, 274877906943, 549755813887, 1099511627775, 2199023255551, 4398046511103, 8796093022207, 17592186044415, 17592186044415, 70368744177663, 140737488355327, 281474976710655, 562949953421311, 562949953421311, 2251799813685247, 4503599627370495, 9007199254740991, 18014398509481983, 36028797018963967, 72057594037927935, 144115188075855871, 288230376151711743, 576460752303423487, 1152921504606846975, 2305843009213693951, 4611686018427387903, 9223372036854775807, 18446744073709551615, 36893488147419103231, 73786976294838206463, 147573952589676412927, 295147905179352825855, 590295810358705651711, 295147905179352825855, 1475739525896764129279, 4722366482869645213695, 9444732965739290427391, 18889465931478580854783, 37778931862957161709567, 75557863725914323419135, 151115727451828646838271, 302231454903657293676543, 604462909807314587353087, 1208925819614629174706175, 2417851639229258349412351, 4835703278458516698824703, 9671406556917033397649407, 9671406556917033397649407, 38685626227668133590597631, 77371252455336267181195263, 154742504910672534362390527, 309485009821345068724781055, 618970019642690137449562111, 1237940039285380274899124223, 2475880078570760549798248447, 4951760157141521099596496895, 9903520314283042199192993791, 19807040628566084398385987583, 39614081257132168796771975167, 79228162514264337593543950335, 158456325028528675187087900671, 316912650057057350374175801343, 633825300114114700748351602687, 1267650600228229401496703205375, 2535301200456458802993406410751, 5070602400912917605986812821503, 10141204801825835211973625643007], .take 0 (.take 1 (.take 2 (.take 3 (.take 4 (.take 5 (.take 6 (.take 7 (.take 8 (.take 9 (.take 10 (.take 11 (.take 12 (.take 13 (.take 14 (.take 15 (.take 16 (.take 17 (.take 18 (.take 19 (.take 20 (.take 21 (.take 22 (.take 23 (.take 24 (.take 25 (.take 26 (.take 27 (.take 28 (.take 29 (.take 30 (.take 31 (.take 32 (.take 33 (.take 34 (.take 35 (.take 36 (.take 37 (.take 38 (.take 39 (.take 40 (.take 41 (.take 42 (.take 43 (.take 44 (.take 45 (.take 46 (.take 47 (.take 48 (.take 49 (.take 50 (.take 51 (.take 52 (.take 53 (.take 54 (.take 55 (.take 56 (.take 57 (.take 58 (.take 59 (.take 60 (.take 61 (.take 62 (.take 63 (.take 64 (.take 65 (.take 66 (.take 67 (.take 68 (.take 69 (.take 70 (.take 71 (.take 72 (.take 73 (.take 74 (.take 75 (.take 76 (.take 77 (.take 78 (.take 79 (.take 80 (.take 81 (.take 82 (.take 83 (.take 84 (.take 85 (.take 86 (.take 87 (.take 88 (.take 89 (.take 90 (.take 91 (.take 92 (.take 93 (.take 94 (.take 95 (.take 96 (.take 97 (.take 98 (.take 99 (.take 100 (.take 101 (.take 102 (.take 103 .done)))))))))))))))))))))))))))))))))))))))))))))))))))))))))))))))))))))))))))))))))))))))))))))))))))))))) else none

theorem loops_law19_lives : LoopOk Tryz.prog Tryz.f10.ntmps G_law19_lives (codeOf Tryz.f10) := loopOk_none fun _ => rfl

theorem C_law19_lives.of {w : World} {R : Bool → World → Prop} (h : F_law19_lives w R) : C_law19_lives w R := ofS2 (Fm := F_law19_lives w) Tryz.func10 (by kernel_rfl) loops_law19_lives rfl (fun _ => by kernel_rfl) h

def F_base_Base_Kill (b : Option Addr) (idx : Int) (w : World) (R : Int → World → Prop) : Prop :=
  C_base_Base_may b idx w fun t8 w1 =>
  If (t8 != (0 : Int))
  (R t8 w1)
  (NN b fun a =>
  ∃ lP : Option Addr, ∃ lN : Nat, ∃ lC : Nat, w1.cell? (a.add 2) = some (.slice lP lN lC) ∧
  0 ≤ idx ∧ idx < (lN : Int) ∧ NN lP fun a_1 =>
  ∃ dead : Int, w1.cell? ((a_1.add (idx.toNat * 10)).add 8) = some (.int .i64 dead) ∧
  If (decide (dead > (0 : Int)))
  (R (4 : Int) w1)
  (NN b fun a_2 =>
  ∃ generation : Int, w1.cell? (a_2.add 1) = some (.int .i64 generation) ∧
  NN b fun a_3 =>
  St w1 ((a_3.add 1).add 0) (.int .i64 (IntKind.i64.wrap (generation + (1 : Int)))) fun w1_1 =>
  NN b fun a_4 =>
  ∃ lP_1 : Option Addr, ∃ lN_1 : Nat, ∃ lC_1 : Nat, (drw w1_1).cell? (a_4.add 2) = some (.slice lP_1 lN_1 lC_1) ∧
  NN b fun a_5 =>
  ∃ generation_1 : Int, (drw w1_1).cell? (a_5.add 1) = some (.int .i64 generation_1) ∧
  0 ≤ idx ∧ idx < (lN_1 : Int) ∧ NN lP_1 fun a_6 =>
  St (drw w1_1) (((a_6.add (idx.toNat * 10)).add 8).add 0) (.int .i64 generation_1) fun w1_2 =>
  R (0 : Int) w1_2))

def G_base_Base_Kill : Gen where
  loop := lookL []
  plan := fun id =>
    bif Nat.beq id 7 then some ([0, 1, 3, 7, 0, 0, 32, 96, 224, 511, 1023, 2047], .take 0 (.take 1 (.take 2 (.take 3 (.take 4 (.take 5 (.take 6 (.take 7 (.take 8 (.take 9 (.take 10 (.take 11 .done)))))))))))) else none

theorem loops_base_Base_Kill : LoopOk Tryz.prog Tryz.f11.ntmps G_base_Base_Kill (codeOf Tryz.f11) := loopOk_none fun _ => rfl

theorem C_base_Base_Kill.of {b : Option Addr} {idx : Int} {w : World} {R : Int → World → Prop} (h : F_base_Base_Kill b idx w R) : C_base_Base_Kill b idx w R := ofS8 (Fm := F_base_Base_Kill b idx w) Tryz.func11 (by kernel_rfl) loops_base_Base_Kill rfl (fun _ => by kernel_rfl) h

def F_base_Base_Generation (b : Option Addr) (w : World) (R : Int → World → Prop) : Prop :=
  C_base_Base_made b w fun t4 w1 =>
  If (!t4)
  (R (0 : Int) w1)
  (NN b fun a =>
  ∃ generation : Int, w1.cell? (a.add 1) = some (.int .i64 generation) ∧
  R generation w1)

def G_base_Base_Generation : Gen where
  loop := lookL []
  plan := fun _ => none

theorem loops_base_Base_Generation : LoopOk Tryz.prog Tryz.f12.ntmps G_base_Base_Generation (codeOf Tryz.f12) := loopOk_none fun _ => rfl

theorem C_base_Base_Generation.of {b : Option Addr} {w : World} {R : Int → World → Prop} (h : F_base_Base_Generation b w R) : C_base_Base_Generation b w R := ofS8 (Fm := F_base_Base_Generation b w) Tryz.func12 (by kernel_rfl) loops_base_Base_Generation rfl (fun _ => by kernel_rfl) h

def F_base_Base_Lives (b : Option Addr) (idx : Int) (generation : Int) (w : World) (R : Bool → World → Prop) : Prop :=
  C_base_Base_has b idx w fun t10 w1 =>
  If (!t10)
  (R false w1)
  (NN b fun a =>
  ∃ lP : Option Addr, ∃ lN : Nat, ∃ lC : Nat, w1.cell? (a.add 2) = some (.slice lP lN lC) ∧
  0 ≤ idx ∧ idx < (lN : Int) ∧ NN lP fun a_1 =>
  ∃ t180 : Int, w1.cell? ((a_1.add (idx.toNat * 10)).add 0) = some (.int .i64 t180) ∧
  ∃ t181 : Int, w1.cell? ((a_1.add (idx.toNat * 10)).add 1) = some (.int .i64 t181) ∧
  ∃ t182 : ByteArray, w1.cell? ((a_1.add (idx.toNat * 10)).add 2) = some (.string t182) ∧
  ∃ t183P : Option Addr, ∃ t183N : Nat, ∃ t183C : Nat, w1.cell? ((a_1.add (idx.toNat * 10)).add 3) = some (.slice t183P t183N t183C) ∧
  ∃ t184P : Option Addr, ∃ t184N : Nat, ∃ t184C : Nat, w1.cell? ((a_1.add (idx.toNat * 10)).add 4) = some (.slice t184P t184N t184C) ∧
  ∃ t185 : Int, w1.cell? ((a_1.add (idx.toNat * 10)).add 5) = some (.int .i64 t185) ∧
  ∃ t186P : Option Addr, ∃ t186N : Nat, ∃ t186C : Nat, w1.cell? ((a_1.add (idx.toNat * 10)).add 6) = some (.slice t186P t186N t186C) ∧
  ∃ t187 : Int, w1.cell? ((a_1.add (idx.toNat * 10)).add 7) = some (.int .i64 t187) ∧
  ∃ t188 : Int, w1.cell? ((a_1.add (idx.toNat * 10)).add 8) = some (.int .i64 t188) ∧
  ∃ t189 : Bool, w1.cell? ((a_1.add (idx.toNat * 10)).add 9) = some (.bool t189) ∧
  New w1 (.cells #[.int .i64 0, .int .i64 0, .string ⟨#[]⟩, .slice none 0 0, .slice none 0 0, .int .i64 0, .slice none 0 0, .int .i64 0, .int .i64 0, .bool false] 76) fun r w1_1 =>
  St w1_1 ((⟨r, 0, none⟩ : Addr).add 0) (.int .i64 t180) fun w1_2 =>
  St w1_2 ((⟨r, 0, none⟩ : Addr).add 1) (.int .i64 t181) fun w1_3 =>
  St w1_3 ((⟨r, 0, none⟩ : Addr).add 2) (.string t182) fun w1_4 =>
  St w1_4 ((⟨r, 0, none⟩ : Addr).add 3) (.slice t183P t183N t183C) fun w1_5 =>
  St w1_5 ((⟨r, 0, none⟩ : Addr).add 4) (.slice t184P t184N t184C) fun w1_6 =>
  St w1_6 ((⟨r, 0, none⟩ : Addr).add 5) (.int .i64 t185) fun w1_7 =>
  St w1_7 ((⟨r, 0, none⟩ : Addr).add 6) (.slice t186P t186N t186C) fun w1_8 =>
  St w1_8 ((⟨r, 0, none⟩ : Addr).add 7) (.int .i64 t187) fun w1_9 =>
  St w1_9 ((⟨r, 0, none⟩ : Addr).add 8) (.int .i64 t188) fun w1_10 =>
  St w1_10 ((⟨r, 0, none⟩ : Addr).add 9) (.bool t189) fun w1_11 =>
  ∃ born : Int, w1_11.cell? ((⟨r, 0, none⟩ : Addr).add 7) = some (.int .i64 born) ∧
  If (decide (born ≤ generation))
  (∃ dead : Int, w1_11.cell? ((⟨r, 0, none⟩ : Addr).add 8) = some (.int .i64 dead) ∧
  If (dead == (0 : Int))
  (R true w1_11)
  (∃ dead_1 : Int, w1_11.cell? ((⟨r, 0, none⟩ : Addr).add 8) = some (.int .i64 dead_1) ∧
  R (decide (dead_1 > generation)) w1_11))
  (R false w1_11))

def G_base_Base_Lives : Gen where
  loop := lookL []
  plan := fun _ => none

theorem loops_base_Base_Lives : LoopOk Tryz.prog Tryz.f13.ntmps G_base_Base_Lives (codeOf Tryz.f13) := loopOk_none fun _ => rfl

theorem C_base_Base_Lives.of {b : Option Addr} {idx : Int} {generation : Int} {w : World} {R : Bool → World → Prop} (h : F_base_Base_Lives b idx generation w R) : C_base_Base_Lives b idx generation w R := ofS2 (Fm := F_base_Base_Lives b idx generation w) Tryz.func13 (by kernel_rfl) loops_base_Base_Lives rfl (fun _ => by kernel_rfl) h

def F_base_Base_Known (b : Option Addr) (namex : ByteArray) (arity : Int) (w : World) (R : Bool → World → Prop) : Prop :=
  C_base_Base_made b w fun t8 w1 =>
  If t8
  (NN b fun a =>
  ∃ preds : Option Nat, w1.cell? (a.add 4) = some (.map preds) ∧
  Run Tryz.prog (Instr.lookup 66 (.map preds) (.agg #[.string namex, .int .i64 arity]) false) w1 fun v w1_1 => ∃ t17 : Option Addr, v = (.pointer t17) ∧
  R (!t17.isNone) w1_1)
  (R false w1)

def G_base_Base_Known : Gen where
  loop := lookL []
  plan := fun _ => none

theorem loops_base_Base_Known : LoopOk Tryz.prog Tryz.f14.ntmps G_base_Base_Known (codeOf Tryz.f14) := loopOk_none fun _ => rfl

theorem C_base_Base_Known.of {b : Option Addr} {namex : ByteArray} {arity : Int} {w : World} {R : Bool → World → Prop} (h : F_base_Base_Known b namex arity w R) : C_base_Base_Known b namex arity w R := ofS2 (Fm := F_base_Base_Known b namex arity w) Tryz.func14 (by kernel_rfl) loops_base_Base_Known rfl (fun _ => by kernel_rfl) h

def F_base_Base_Size (b : Option Addr) (idx : Int) (w : World) (R : Int → World → Prop) : Prop :=
  C_base_Base_has b idx w fun t7 w1 =>
  If (!t7)
  (R (0 : Int) w1)
  (NN b fun a =>
  ∃ lP : Option Addr, ∃ lN : Nat, ∃ lC : Nat, w1.cell? (a.add 2) = some (.slice lP lN lC) ∧
  0 ≤ idx ∧ idx < (lN : Int) ∧ NN lP fun a_1 =>
  ∃ codeP : Option Addr, ∃ codeN : Nat, ∃ codeC : Nat, w1.cell? ((a_1.add (idx.toNat * 10)).add 6) = some (.slice codeP codeN codeC) ∧
  R (codeN : Int) w1)

def G_base_Base_Size : Gen where
  loop := lookL []
  plan := fun _ => none

theorem loops_base_Base_Size : LoopOk Tryz.prog Tryz.f15.ntmps G_base_Base_Size (codeOf Tryz.f15) := loopOk_none fun _ => rfl

theorem C_base_Base_Size.of {b : Option Addr} {idx : Int} {w : World} {R : Int → World → Prop} (h : F_base_Base_Size b idx w R) : C_base_Base_Size b idx w R := ofS8 (Fm := F_base_Base_Size b idx w) Tryz.func15 (by kernel_rfl) loops_base_Base_Size rfl (fun _ => by kernel_rfl) h

structure S_base_Base_Preds_L1 where
  outP : Option Addr
  outN : Nat
  outC : Nat

def F_base_Base_Preds_k1 (b_1 : Option Addr) (t13_1 : Option Addr) (s : S_base_Base_Preds_L1) (Kn : S_base_Base_Preds_L1 → World → Prop) (Kx0 : Option Addr → Nat → Nat → World → Prop) (t15 : Bool) (w1_3 : World) : Prop :=
  If t15
  (Run Tryz.prog (Instr.entry (.pointer t13_1)) w1_3 fun v_1 w1_4 => ∃ t16k0 : ByteArray, ∃ t16k1 : Int, ∃ t16v : Option Addr, v_1 = (.tuple #[.agg #[.string t16k0, .int .i64 t16k1], .pointer t16v]) ∧
  New w1_4 (.cells #[.string ⟨#[]⟩, .int .i64 0] 61) fun r w1_5 =>
  St w1_5 ((⟨r, 0, none⟩ : Addr).add 0) (.string t16k0) fun w1_6 =>
  St w1_6 ((⟨r, 0, none⟩ : Addr).add 1) (.int .i64 t16k1) fun w1_7 =>
  ∃ namex : ByteArray, (drw w1_7).cell? ((⟨r, 0, none⟩ : Addr).add 0) = some (.string namex) ∧
  ∃ arity : Int, (drw w1_7).cell? ((⟨r, 0, none⟩ : Addr).add 1) = some (.int .i64 arity) ∧
  C_base_Base_live b_1 t16v (drw w1_7) fun t26 w1_8 =>
  w1_8.cell? ((⟨r, 0, none⟩ : Addr).add 1) = (drw w1_7).cell? ((⟨r, 0, none⟩ : Addr).add 1) ∧
  w1_8.cell? ((⟨r, 0, none⟩ : Addr).add 0) = (drw w1_7).cell? ((⟨r, 0, none⟩ : Addr).add 0) ∧
  BSl Tryz.prog 54 1 [(0, .agg #[.string namex, .int .i64 arity, .int .i64 t26])] w1_8 fun t28P t28N t28C w1_9 =>
  App Tryz.prog #[54, 54] 54 #[.slice s.outP s.outN s.outC, .slice t28P t28N t28C] w1_9 fun t29P t29N t29C w1_10 =>
  Kn ⟨t29P, t29N, t29C⟩ w1_10)
  (Kx0 s.outP s.outN s.outC w1_3)

/-- One round. -/
def B_base_Base_Preds_L1 (b_1 : Option Addr) (t13_1 : Option Addr) (s : S_base_Base_Preds_L1) (w : World) (Kn : S_base_Base_Preds_L1 → World → Prop) (Kx0 : Option Addr → Nat → Nat → World → Prop) : Prop :=
  Run Tryz.prog (Instr.next (.pointer t13_1) false 0) w fun v w1_2 =>
  (v = .tuple #[.bool false] ∧
  (F_base_Base_Preds_k1 b_1 t13_1 s Kn Kx0 false w1_2)) ∨
  (∃ kx : Value, ∃ vx : Value, v = (.tuple #[.bool true, kx, vx]) ∧
  (F_base_Base_Preds_k1 b_1 t13_1 s Kn Kx0 true w1_2))

def F_base_Base_Preds_L1 (b_1 : Option Addr) (t13_1 : Option Addr) (s : S_base_Base_Preds_L1) (w : World) (Kx0 : Option Addr → Nat → Nat → World → Prop) : Prop :=
  LoopS (fun s w Kn => B_base_Base_Preds_L1 b_1 t13_1 s w Kn Kx0) s w

def F_base_Base_Preds (b : Option Addr) (w : World) (R : Option Addr → Nat → Nat → World → Prop) : Prop :=
  C_base_Base_made b w fun t7 w1 =>
  If (!t7)
  (R none 0 0 w1)
  (NN b fun a =>
  ∃ preds : Option Nat, w1.cell? (a.add 4) = some (.map preds) ∧
  Rng Tryz.prog 66 (.map preds) w1 fun t13 w1_1 =>
  F_base_Base_Preds_L1 b t13 ⟨none, 0, 0⟩ w1_1
  (fun outP_2 outN_2 outC_2 w1_11 =>
  C_slices_SortFunc outP_2 outN_2 outC_2 (.func (.func 40) #[] #[]) w1_11 fun w1_12 =>
  R outP_2 outN_2 outC_2 w1_12))

def lit_base_Base_Preds_L1 (f : (Option Addr) × (Option Addr)) (s : S_base_Base_Preds_L1) : Env := [⟨0, .pointer f.1, none⟩, ⟨13, .pointer f.2, none⟩, ⟨3, .slice s.outP s.outN s.outC, none⟩]

def dec_base_Base_Preds_L1 (e : Env) (K : ((Option Addr) × (Option Addr)) → S_base_Base_Preds_L1 → Prop) : Prop :=
  oP e 0 fun b_1 =>
  oP e 13 fun t13_1 =>
  oS e 3 fun outP outN outC =>
    K (b_1, t13_1) ⟨outP, outN, outC⟩

theorem dec_base_Base_Preds_L1_ok {N : Nat} (e : Env) (a : Act) (K : ((Option Addr) × (Option Addr)) → S_base_Base_Preds_L1 → Prop) (hr : Rep N a e) (h0 : dec_base_Base_Preds_L1 e K) : ∃ f s, K f s ∧ Rep N a (lit_base_Base_Preds_L1 f s) := by
  unfold dec_base_Base_Preds_L1 at h0
  obtain ⟨b_1, g0, h1⟩ := oP_elim h0
  obtain ⟨t13_1, g13, h2⟩ := oP_elim h1
  obtain ⟨outP, outN, outC, g3, h3⟩ := oS_elim h2
  exact ⟨_, _, h3, rep_less hr (by simp [lit_base_Base_Preds_L1, g0, g13, g3])⟩

def spec_base_Base_Preds_L1 (Q : Post) (e : Env) (w : World) : Prop :=
  dec_base_Base_Preds_L1 e fun f s => F_base_Base_Preds_L1 f.1 f.2 s w (fun outP_1 outN_1 outC_1 w1 => Q (.exit 0) [⟨3, .slice outP_1 outN_1 outC_1, none⟩] w1)

def G_base_Base_Preds : Gen where
  loop := lookL [([false, true, false, true, true, true], spec_base_Base_Preds_L1)]
  plan := fun id =>
    bif Nat.beq id 7 then some ([0, 0, 2, 0, 8, 0, 0, 96, 254, 510, 1023, 2047], .take 0 (.take 1 (.take 2 (.take 3 (.take 4 (.take 5 (.take 6 (.take 7 (.take 8 (.take 9 (.take 10 (.take 11 .done)))))))))))) else none

def dx_base_Base_Preds_L1_0 (e : Env) (K : ((Option Addr) × (Option Addr)) → Option Addr → Nat → Nat → Prop) : Prop :=
  oP e 0 fun b_1 =>
  oP e 13 fun t13_1 =>
  oS e 3 fun outP_1 outN_1 outC_1 =>
    K (b_1, t13_1) outP_1 outN_1 outC_1

theorem body_base_Base_Preds_L1 (f : (Option Addr) × (Option Addr)) (s : S_base_Base_Preds_L1) (w : World) (Kn : ((Option Addr) × (Option Addr)) → S_base_Base_Preds_L1 → World → Prop) (Kx0 : ((Option Addr) × (Option Addr)) → Option Addr → Nat → Nat → World → Prop) :
    B_base_Base_Preds_L1 f.1 f.2 s w (fun s1 w1 => Kn f s1 w1) (fun outP_1 outN_1 outC_1 w1 => Kx0 f outP_1 outN_1 outC_1 w1) =
    den Tryz.prog Tryz.f16.ntmps G_base_Base_Preds (sub (codeOf Tryz.f16) [false, false, true, false, true, true, true]) [false, false, true, false, true, true, true] (roundQ (fun e w => dec_base_Base_Preds_L1 e fun f s => Kn f s w) (fun e w => False) (fun id e w => match Nat.beq id 0 with | true => dx_base_Base_Preds_L1_0 e fun f outP_1 outN_1 outC_1 => Kx0 f outP_1 outN_1 outC_1 w | false => False)) (lit_base_Base_Preds_L1 f s) w := by kernel_rfl

theorem ok_base_Base_Preds_L1 : OneOk Tryz.prog Tryz.f16.ntmps G_base_Base_Preds (codeOf Tryz.f16) [false, true, false, true, true, true] spec_base_Base_Preds_L1 := by
  intro c hc ih Q e w a hr h
  have hcc : sub (codeOf Tryz.f16) [false, false, true, false, true, true, true] = c := sub_of_codeAt hc
  obtain ⟨f, s, h, hrep⟩ := dec_base_Base_Preds_L1_ok e a _ hr h
  obtain ⟨J, μ, hj, hround⟩ := h
  refine loop_rule_deep seat_ok seat_mixed ih lit_base_Base_Preds_L1 dec_base_Base_Preds_L1 dec_base_Base_Preds_L1_ok hc f J μ (Kr := fun e w => False) (Kx := fun id e w => match Nat.beq id 0 with | true => (dx_base_Base_Preds_L1_0 e fun f1 outP_1 outN_1 outC_1 => f1 = f ∧ Q (.exit 0) [⟨3, .slice outP_1 outN_1 outC_1, none⟩] w) | false => False) ?_ ?_ ?_ s w a hj hrep
  · intro e a w hr h
    exact h.elim
  · intro id e a w hr h0
    (try dsimp only at h0)
    split at h0
    · rename_i hid
      obtain rfl := Nat.eq_of_beq_eq_true hid
      unfold dx_base_Base_Preds_L1_0 at h0
      obtain ⟨b_1, g0, h1⟩ := oP_elim h0
      obtain ⟨t13_1, g13, h2⟩ := oP_elim h1
      obtain ⟨outP_1, outN_1, outC_1, g3, h3⟩ := oS_elim h2
      obtain ⟨hf, hq⟩ := h3
      subst hf
      exact ⟨_, rep_less hr (by simp [g3]), hq⟩
    · exact h0.elim
  · intro s w hj
    have hb := hround s w hj
    rw [← hcc]
    have e1 := body_base_Base_Preds_L1 f s w (fun f1 s1 w1 => f1 = f ∧ J s1 w1 ∧ μ s1 w1 < μ s w) (fun f1 outP_1 outN_1 outC_1 w1 => f1 = f ∧ Q (.exit 0) [⟨3, .slice outP_1 outN_1 outC_1, none⟩] w1)
    simp only [true_and] at e1
    exact cast e1 hb

theorem loops_base_Base_Preds : LoopOk Tryz.prog Tryz.f16.ntmps G_base_Base_Preds (codeOf Tryz.f16) := loopOk_list rfl ⟨ok_base_Base_Preds_L1, trivial⟩

theorem C_base_Base_Preds.of {b : Option Addr} {w : World} {R : Option Addr → Nat → Nat → World → Prop} (h : F_base_Base_Preds b w R) : C_base_Base_Preds b w R := ofS9 (Fm := F_base_Base_Preds b w) Tryz.func16 (by kernel_rfl) loops_base_Base_Preds rfl (fun _ => by kernel_rfl) h

def F_base_Base_Slots (b : Option Addr) (w : World) (R : Int → World → Prop) : Prop :=
  C_base_Base_made b w fun t4 w1 =>
  If (!t4)
  (R (0 : Int) w1)
  (NN b fun a =>
  ∃ lP : Option Addr, ∃ lN : Nat, ∃ lC : Nat, (drw w1).cell? (a.add 2) = some (.slice lP lN lC) ∧
  NN b fun a_1 =>
  ∃ freeP : Option Addr, ∃ freeN : Nat, ∃ freeC : Nat, (drw w1).cell? (a_1.add 3) = some (.slice freeP freeN freeC) ∧
  R (IntKind.i64.wrap ((lN : Int) - (freeN : Int))) (drw w1))

def G_base_Base_Slots : Gen where
  loop := lookL []
  plan := fun id =>
    bif Nat.beq id 3 then some ([0, 1, 3, 7, 15, 0, 32, 96, 224, 480, 1023, 2047], .take 0 (.take 1 (.take 2 (.take 3 (.take 4 (.take 5 (.take 6 (.take 7 (.take 8 (.take 9 (.take 10 (.take 11 .done)))))))))))) else none

theorem loops_base_Base_Slots : LoopOk Tryz.prog Tryz.f17.ntmps G_base_Base_Slots (codeOf Tryz.f17) := loopOk_none fun _ => rfl

theorem C_base_Base_Slots.of {b : Option Addr} {w : World} {R : Int → World → Prop} (h : F_base_Base_Slots b w R) : C_base_Base_Slots b w R := ofS8 (Fm := F_base_Base_Slots b w) Tryz.func17 (by kernel_rfl) loops_base_Base_Slots rfl (fun _ => by kernel_rfl) h

structure S_base_Base_Reclaim_L1 where
  n : Int
  t16 : Int

def F_base_Base_Reclaim_k2 (s : S_base_Base_Reclaim_L1) (Kn : S_base_Base_Reclaim_L1 → World → Prop) (n_2 : Int) (w1_19 : World) : Prop :=
  Kn ⟨n_2, (IntKind.i64.wrap ((s.t16 : Int) + (1 : Int)))⟩ w1_19

def F_base_Base_Reclaim_k1 (s : S_base_Base_Reclaim_L1) (Kn : S_base_Base_Reclaim_L1 → World → Prop) (w1_2 : World) : Prop :=
  F_base_Base_Reclaim_k2 s Kn (s.n : Int) w1_2

/-- One round. -/
def B_base_Base_Reclaim_L1 (b_1 : Option Addr) (used_1 : Value) (t15 : Int) (s : S_base_Base_Reclaim_L1) (w : World) (Kn : S_base_Base_Reclaim_L1 → World → Prop) (Kx0 : Int → World → Prop) : Prop :=
  If (decide ((s.t16 : Int) < t15))
  (NN b_1 fun a_1 =>
  ∃ lP_1 : Option Addr, ∃ lN_1 : Nat, ∃ lC_1 : Nat, w.cell? (a_1.add 2) = some (.slice lP_1 lN_1 lC_1) ∧
  0 ≤ (s.t16 : Int) ∧ (s.t16 : Int) < (lN_1 : Int) ∧ NN lP_1 fun a_2 =>
  NN (some (a_2.add ((s.t16 : Int).toNat * 10))) fun a_3 =>
  ∃ isx : Bool, w.cell? (a_3.add 9) = some (.bool isx) ∧
  If (!isx)
  (F_base_Base_Reclaim_k1 s Kn w)
  (NN (some (a_2.add ((s.t16 : Int).toNat * 10))) fun a_4 =>
  ∃ dead : Int, w.cell? (a_4.add 8) = some (.int .i64 dead) ∧
  If (dead == (0 : Int))
  (F_base_Base_Reclaim_k1 s Kn w)
  (CallV Tryz.prog used_1 [.int .i64 s.t16] w fun v w1_1 => ∃ t40 : Bool, v = (.bool t40) ∧
  If t40
  (F_base_Base_Reclaim_k2 s Kn (s.n : Int) w1_1)
  (NN b_1 fun a_5 =>
  ∃ preds : Option Nat, (drw w1_1).cell? (a_5.add 4) = some (.map preds) ∧
  NN (some (a_2.add ((s.t16 : Int).toNat * 10))) fun a_6 =>
  ∃ Head0 : Int, (drw w1_1).cell? (((a_6.add 0).add 0).add 0) = some (.int .i64 Head0) ∧
  ∃ Head1 : Int, (drw w1_1).cell? (((a_6.add 0).add 0).add 1) = some (.int .i64 Head1) ∧
  ∃ Head2 : ByteArray, (drw w1_1).cell? (((a_6.add 0).add 0).add 2) = some (.string Head2) ∧
  ∃ Head3P : Option Addr, ∃ Head3N : Nat, ∃ Head3C : Nat, (drw w1_1).cell? (((a_6.add 0).add 0).add 3) = some (.slice Head3P Head3N Head3C) ∧
  C_base_of Head0 Head1 Head2 Head3P Head3N Head3C (drw w1_1) fun t510 t511 w1_3 =>
  w1_3.cell? (a_5.add 4) = (drw w1_1).cell? (a_5.add 4) ∧
  Run Tryz.prog (Instr.lookup 66 (.map preds) (.agg #[.string t510, .int .i64 t511]) false) w1_3 fun v_1 w1_4 => ∃ t52 : Option Addr, v_1 = (.pointer t52) ∧
  C_index_Table_Drop t52 (s.t16 : Int) w1_4 fun t54 w1_5 =>
  NN (some (a_2.add ((s.t16 : Int).toNat * 10))) fun a_7 =>
  St w1_5 (a_7.add 0) (.int .i64 0) fun w1_6 =>
  St w1_6 (a_7.add 1) (.int .i64 0) fun w1_7 =>
  St w1_7 (a_7.add 2) (.string ⟨#[]⟩) fun w1_8 =>
  St w1_8 (a_7.add 3) (.slice none 0 0) fun w1_9 =>
  St w1_9 (a_7.add 4) (.slice none 0 0) fun w1_10 =>
  St w1_10 (a_7.add 5) (.int .i64 0) fun w1_11 =>
  St w1_11 (a_7.add 6) (.slice none 0 0) fun w1_12 =>
  St w1_12 (a_7.add 7) (.int .i64 0) fun w1_13 =>
  St w1_13 (a_7.add 8) (.int .i64 0) fun w1_14 =>
  St w1_14 (a_7.add 9) (.bool false) fun w1_15 =>
  NN b_1 fun a_8 =>
  ∃ freeP : Option Addr, ∃ freeN : Nat, ∃ freeC : Nat, w1_15.cell? (a_8.add 3) = some (.slice freeP freeN freeC) ∧
  BSl Tryz.prog 65 1 [(0, .int .i64 s.t16)] w1_15 fun t64P t64N t64C w1_16 =>
  App Tryz.prog #[65, 65] 65 #[.slice freeP freeN freeC, .slice t64P t64N t64C] w1_16 fun t65P t65N t65C w1_17 =>
  NN b_1 fun a_9 =>
  St w1_17 ((a_9.add 3).add 0) (.slice t65P t65N t65C) fun w1_18 =>
  F_base_Base_Reclaim_k2 s Kn (IntKind.i64.wrap ((s.n : Int) + (1 : Int))) w1_18))))
  (Kx0 (s.n : Int) w)

def F_base_Base_Reclaim_L1 (b_1 : Option Addr) (used_1 : Value) (t15 : Int) (s : S_base_Base_Reclaim_L1) (w : World) (Kx0 : Int → World → Prop) : Prop :=
  LoopS (fun s w Kn => B_base_Base_Reclaim_L1 b_1 used_1 t15 s w Kn Kx0) s w

def F_base_Base_Reclaim (b : Option Addr) (used : Value) (w : World) (R : Int → World → Prop) : Prop :=
  C_base_Base_made b w fun t9 w1 =>
  If (!t9)
  (R (0 : Int) w1)
  (NN b fun a =>
  ∃ lP : Option Addr, ∃ lN : Nat, ∃ lC : Nat, w1.cell? (a.add 2) = some (.slice lP lN lC) ∧
  F_base_Base_Reclaim_L1 b used (lN : Int) ⟨(0 : Int), (0 : Int)⟩ w1
  (fun n_3 w1_20 =>
  NN b fun a_10 =>
  ∃ freeP_1 : Option Addr, ∃ freeN_1 : Nat, ∃ freeC_1 : Nat, w1_20.cell? (a_10.add 3) = some (.slice freeP_1 freeN_1 freeC_1) ∧
  C_slices_Sort freeP_1 freeN_1 freeC_1 w1_20 fun w1_21 =>
  R n_3 w1_21))

def lit_base_Base_Reclaim_L1 (f : (Option Addr) × Value × Int) (s : S_base_Base_Reclaim_L1) : Env := [⟨0, .pointer f.1, none⟩, ⟨1, f.2.1, none⟩, ⟨15, .int .i64 f.2.2, none⟩, ⟨5, .int .i64 s.n, none⟩, ⟨16, .int .i64 s.t16, none⟩]

def dec_base_Base_Reclaim_L1 (e : Env) (K : ((Option Addr) × Value × Int) → S_base_Base_Reclaim_L1 → Prop) : Prop :=
  oP e 0 fun b_1 =>
  oV e 1 fun used_1 =>
  oI e 15 .i64 fun t15 =>
  oI e 5 .i64 fun n =>
  oI e 16 .i64 fun t16 =>
    K (b_1, used_1, t15) ⟨n, t16⟩

theorem dec_base_Base_Reclaim_L1_ok {N : Nat} (e : Env) (a : Act) (K : ((Option Addr) × Value × Int) → S_base_Base_Reclaim_L1 → Prop) (hr : Rep N a e) (h0 : dec_base_Base_Reclaim_L1 e K) : ∃ f s, K f s ∧ Rep N a (lit_base_Base_Reclaim_L1 f s) := by
  unfold dec_base_Base_Reclaim_L1 at h0
  obtain ⟨b_1, g0, h1⟩ := oP_elim h0
  obtain ⟨used_1, g1, h2⟩ := oV_elim h1
  obtain ⟨t15, g15, h3⟩ := oI_elim h2
  obtain ⟨n, g5, h4⟩ := oI_elim h3
  obtain ⟨t16, g16, h5⟩ := oI_elim h4
  exact ⟨_, _, h5, rep_less hr (by simp [lit_base_Base_Reclaim_L1, g0, g1, g15, g5, g16])⟩

def spec_base_Base_Reclaim_L1 (Q : Post) (e : Env) (w : World) : Prop :=
  dec_base_Base_Reclaim_L1 e fun f s => F_base_Base_Reclaim_L1 f.1 f.2.1 f.2.2 s w (fun n_1 w1 => Q (.exit 0) [⟨0, .pointer f.1, none⟩, ⟨5, .int .i64 n_1, none⟩] w1)

def G_base_Base_Reclaim : Gen where
  loop := lookL [([false, true, false, true, true, true], spec_base_Base_Reclaim_L1)]
  plan := fun id =>
    bif Nat.beq id 9 then some ([0, 1, 3, 7, 0, 16, 48, 112, 240, 496, 1023, 0, 4095], .take 0 (.take 1 (.take 2 (.take 3 (.take 4 (.take 5 (.take 6 (.take 7 (.take 8 (.take 11 (.take 9 (.take 10 (.take 12 .done))))))))))))) else none

def dx_base_Base_Reclaim_L1_0 (e : Env) (K : ((Option Addr) × Value × Int) → Int → Prop) : Prop :=
  oP e 0 fun b_1 =>
  oV e 1 fun used_1 =>
  oI e 15 .i64 fun t15 =>
  oI e 5 .i64 fun n_1 =>
    K (b_1, used_1, t15) n_1

theorem body_base_Base_Reclaim_L1 (f : (Option Addr) × Value × Int) (s : S_base_Base_Reclaim_L1) (w : World) (Kn : ((Option Addr) × Value × Int) → S_base_Base_Reclaim_L1 → World → Prop) (Kx0 : ((Option Addr) × Value × Int) → Int → World → Prop) :
    B_base_Base_Reclaim_L1 f.1 f.2.1 f.2.2 s w (fun s1 w1 => Kn f s1 w1) (fun n_1 w1 => Kx0 f n_1 w1) =
    den Tryz.prog Tryz.f18.ntmps G_base_Base_Reclaim (sub (codeOf Tryz.f18) [false, false, true, false, true, true, true]) [false, false, true, false, true, true, true] (roundQ (fun e w => dec_base_Base_Reclaim_L1 e fun f s => Kn f s w) (fun e w => False) (fun id e w => match Nat.beq id 0 with | true => dx_base_Base_Reclaim_L1_0 e fun f n_1 => Kx0 f n_1 w | false => False)) (lit_base_Base_Reclaim_L1 f s) w := by kernel_rfl

theorem ok_base_Base_Reclaim_L1 : OneOk Tryz.prog Tryz.f18.ntmps G_base_Base_Reclaim (codeOf Tryz.f18) [false, true, false, true, true, true] spec_base_Base_Reclaim_L1 := by
  intro c hc ih Q e w a hr h
  have hcc : sub (codeOf Tryz.f18) [false, false, true, false, true, true, true] = c := sub_of_codeAt hc
  obtain ⟨f, s, h, hrep⟩ := dec_base_Base_Reclaim_L1_ok e a _ hr h
  obtain ⟨J, μ, hj, hround⟩ := h
  refine loop_rule_deep seat_ok seat_mixed ih lit_base_Base_Reclaim_L1 dec_base_Base_Reclaim_L1 dec_base_Base_Reclaim_L1_ok hc f J μ (Kr := fun e w => False) (Kx := fun id e w => match Nat.beq id 0 with | true => (dx_base_Base_Reclaim_L1_0 e fun f1 n_1 => f1 = f ∧ Q (.exit 0) [⟨0, .pointer f.1, none⟩, ⟨5, .int .i64 n_1, none⟩] w) | false => False) ?_ ?_ ?_ s w a hj hrep
  · intro e a w hr h
    exact h.elim
  · intro id e a w hr h0
    (try dsimp only at h0)
    split at h0
    · rename_i hid
      obtain rfl := Nat.eq_of_beq_eq_true hid
      unfold dx_base_Base_Reclaim_L1_0 at h0
      obtain ⟨b_1, g0, h1⟩ := oP_elim h0
      obtain ⟨used_1, g1, h2⟩ := oV_elim h1
      obtain ⟨t15, g15, h3⟩ := oI_elim h2
      obtain ⟨n_1, g5, h4⟩ := oI_elim h3
      obtain ⟨hf, hq⟩ := h4
      subst hf
      exact ⟨_, rep_less hr (by simp [g0, g5]), hq⟩
    · exact h0.elim
  · intro s w hj
    have hb := hround s w hj
    rw [← hcc]
    have e1 := body_base_Base_Reclaim_L1 f s w (fun f1 s1 w1 => f1 = f ∧ J s1 w1 ∧ μ s1 w1 < μ s w) (fun f1 n_1 w1 => f1 = f ∧ Q (.exit 0) [⟨0, .pointer f.1, none⟩, ⟨5, .int .i64 n_1, none⟩] w1)
    simp only [true_and] at e1
    exact cast e1 hb

theorem loops_base_Base_Reclaim : LoopOk Tryz.prog Tryz.f18.ntmps G_base_Base_Reclaim (codeOf Tryz.f18) := loopOk_list rfl ⟨ok_base_Base_Reclaim_L1, trivial⟩

theorem C_base_Base_Reclaim.of {b : Option Addr} {used : Value} {w : World} {R : Int → World → Prop} (h : F_base_Base_Reclaim b used w R) : C_base_Base_Reclaim b used w R := ofS8 (Fm := F_base_Base_Reclaim b used w) Tryz.func18 (by kernel_rfl) loops_base_Base_Reclaim rfl (fun _ => by kernel_rfl) h

end Go.Proofs.YtlndgaijekihiaaGreat
