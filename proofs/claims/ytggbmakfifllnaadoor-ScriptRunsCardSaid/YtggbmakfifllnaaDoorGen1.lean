/- The formulas of this seat's functions, held against the loaded program by the kernel. Printed by a program. -/
import Derived.Test.YtggbmakfifllnaaDoorGenC
set_option maxRecDepth 100000
set_option linter.unusedVariables false
namespace Go.Proofs.YtggbmakfifllnaaDoor
open Go Go.D Go.Proofs

def F_gosem_cut_init (w : World) (R : World → Prop) : Prop :=
  CallX Tryd.prog 1 [] w fun v w1 => v = (.tuple #[]) ∧
  R w1

def G_gosem_cut_init : Gen where
  loop := lookL []
  plan := fun _ => none

theorem loops_gosem_cut_init : LoopOk Tryd.prog Tryd.f2.ntmps G_gosem_cut_init (codeOf Tryd.f2) := loopOk_none fun _ => rfl

theorem den_gosem_cut_init  (w : World) (R : Value → World → Prop) :
    F_gosem_cut_init w (fun w1 => R (.tuple #[]) w1) = den Tryd.prog Tryd.f2.ntmps G_gosem_cut_init (codeOf Tryd.f2) [] (postD Tryd.prog Tryd.f2.results.toList R) (entry [] 0) w := by kernel_rfl

theorem C_gosem_cut_init.of {w : World} {R : World → Prop} (h : F_gosem_cut_init w R) : C_gosem_cut_init w R := by
  refine (calls_of_den (c := codeOf Tryd.f2) seat_ok seat_mixed Tryd.func2 (by kernel_rfl) loops_gosem_cut_init (args := []) rfl (R := fun v w1 => v = (.tuple #[] : Value) ∧ R w1) ?_).mono ?_
  · rw [← den_gosem_cut_init]
    simpa using h
  · rintro en w1 ⟨v, he, rfl, h⟩
    exact ⟨he, h⟩

def F_law27_ScriptCodes_k1 (R : Bool → World → Prop) (w1_1 : World) : Prop :=
  C_law27_lives  w1_1 fun t37 w1_2 =>
  R t37 w1_2

def F_law27_ScriptCodes_k3 (R : Bool → World → Prop) (w1_10 : World) : Prop :=
  R false w1_10

def F_law27_ScriptCodes_k2 (R : Bool → World → Prop) (r : Nat) (t36 : Bool) (w1_3 : World) : Prop :=
  If t36
  (C_law27_lives  w1_3 fun t37_1 w1_4 =>
  R t37_1 w1_4)
  (∃ t390 : ByteArray, w1_3.cell? ((⟨r, 0, none⟩ : Addr).add 0) = some (.string t390) ∧
  ∃ t391 : ByteArray, w1_3.cell? ((⟨r, 0, none⟩ : Addr).add 1) = some (.string t391) ∧
  ∃ t392 : Int, w1_3.cell? ((⟨r, 0, none⟩ : Addr).add 2) = some (.int .i64 t392) ∧
  ∃ t393 : Int, w1_3.cell? ((⟨r, 0, none⟩ : Addr).add 3) = some (.int .i64 t393) ∧
  ∃ t394 : Int, w1_3.cell? ((⟨r, 0, none⟩ : Addr).add 4) = some (.int .i64 t394) ∧
  ∃ t395 : Int, w1_3.cell? ((⟨r, 0, none⟩ : Addr).add 5) = some (.int .i64 t395) ∧
  ∃ t396 : Int, w1_3.cell? ((⟨r, 0, none⟩ : Addr).add 6) = some (.int .i64 t396) ∧
  ∃ t397 : Int, w1_3.cell? ((⟨r, 0, none⟩ : Addr).add 7) = some (.int .i64 t397) ∧
  ∃ t398P : Option Addr, ∃ t398N : Nat, ∃ t398C : Nat, w1_3.cell? ((⟨r, 0, none⟩ : Addr).add 8) = some (.slice t398P t398N t398C) ∧
  C_script_Encode t390 t391 t392 t393 t394 t395 t396 t397 t398P t398N t398C w1_3 fun t400P t400N t400C t401 w1_5 =>
  ∃ t440 : ByteArray, w1_5.cell? ((⟨r, 0, none⟩ : Addr).add 0) = some (.string t440) ∧
  ∃ t441 : ByteArray, w1_5.cell? ((⟨r, 0, none⟩ : Addr).add 1) = some (.string t441) ∧
  ∃ t442 : Int, w1_5.cell? ((⟨r, 0, none⟩ : Addr).add 2) = some (.int .i64 t442) ∧
  ∃ t443 : Int, w1_5.cell? ((⟨r, 0, none⟩ : Addr).add 3) = some (.int .i64 t443) ∧
  ∃ t444 : Int, w1_5.cell? ((⟨r, 0, none⟩ : Addr).add 4) = some (.int .i64 t444) ∧
  ∃ t445 : Int, w1_5.cell? ((⟨r, 0, none⟩ : Addr).add 5) = some (.int .i64 t445) ∧
  ∃ t446 : Int, w1_5.cell? ((⟨r, 0, none⟩ : Addr).add 6) = some (.int .i64 t446) ∧
  ∃ t447 : Int, w1_5.cell? ((⟨r, 0, none⟩ : Addr).add 7) = some (.int .i64 t447) ∧
  ∃ t448P : Option Addr, ∃ t448N : Nat, ∃ t448C : Nat, w1_5.cell? ((⟨r, 0, none⟩ : Addr).add 8) = some (.slice t448P t448N t448C) ∧
  C_ref27_Encode t440 t441 t442 t443 t444 t445 t446 t447 t448P t448N t448C w1_5 fun t450P t450N t450C t451 w1_6 =>
  C_law27_lives  w1_6 fun t48 w1_7 =>
  If (!t48)
  (F_law27_ScriptCodes_k3 R w1_7)
  (Run Tryd.prog (convert 28 9 (.slice t400P t400N t400C)) w1_7 fun v w1_8 => ∃ t52 : ByteArray, v = (.string t52) ∧
  Run Tryd.prog (convert 28 9 (.slice t450P t450N t450C)) w1_8 fun v_1 w1_9 => ∃ t54 : ByteArray, v_1 = (.string t54) ∧
  If (!(t52.toList == t54.toList))
  (F_law27_ScriptCodes_k3 R w1_9)
  (If (!((t401 == (0 : Int)) == t451))
  (R false w1_9)
  (If (!t451)
  (R (t401 == (3 : Int)) w1_9)
  (C_script_Decode t400P t400N t400C w1_9 fun t6900 t6901 t6902 t6903 t6904 t6905 t6906 t6907 t6908P t6908N t6908C t691 w1_11 =>
  New w1_11 (.cells #[.string ⟨#[]⟩, .string ⟨#[]⟩, .int .i64 0, .int .i64 0, .int .i64 0, .int .i64 0, .int .i64 0, .int .i64 0, .slice none 0 0] 26) fun r_1 w1_12 =>
  St w1_12 ((⟨r_1, 0, none⟩ : Addr).add 0) (.string t6900) fun w1_13 =>
  St w1_13 ((⟨r_1, 0, none⟩ : Addr).add 1) (.string t6901) fun w1_14 =>
  St w1_14 ((⟨r_1, 0, none⟩ : Addr).add 2) (.int .i64 t6902) fun w1_15 =>
  St w1_15 ((⟨r_1, 0, none⟩ : Addr).add 3) (.int .i64 t6903) fun w1_16 =>
  St w1_16 ((⟨r_1, 0, none⟩ : Addr).add 4) (.int .i64 t6904) fun w1_17 =>
  St w1_17 ((⟨r_1, 0, none⟩ : Addr).add 5) (.int .i64 t6905) fun w1_18 =>
  St w1_18 ((⟨r_1, 0, none⟩ : Addr).add 6) (.int .i64 t6906) fun w1_19 =>
  St w1_19 ((⟨r_1, 0, none⟩ : Addr).add 7) (.int .i64 t6907) fun w1_20 =>
  St w1_20 ((⟨r_1, 0, none⟩ : Addr).add 8) (.slice t6908P t6908N t6908C) fun w1_21 =>
  If (t691 == (0 : Int))
  (∃ t750 : ByteArray, w1_21.cell? ((⟨r_1, 0, none⟩ : Addr).add 0) = some (.string t750) ∧
  ∃ t751 : ByteArray, w1_21.cell? ((⟨r_1, 0, none⟩ : Addr).add 1) = some (.string t751) ∧
  ∃ t752 : Int, w1_21.cell? ((⟨r_1, 0, none⟩ : Addr).add 2) = some (.int .i64 t752) ∧
  ∃ t753 : Int, w1_21.cell? ((⟨r_1, 0, none⟩ : Addr).add 3) = some (.int .i64 t753) ∧
  ∃ t754 : Int, w1_21.cell? ((⟨r_1, 0, none⟩ : Addr).add 4) = some (.int .i64 t754) ∧
  ∃ t755 : Int, w1_21.cell? ((⟨r_1, 0, none⟩ : Addr).add 5) = some (.int .i64 t755) ∧
  ∃ t756 : Int, w1_21.cell? ((⟨r_1, 0, none⟩ : Addr).add 6) = some (.int .i64 t756) ∧
  ∃ t757 : Int, w1_21.cell? ((⟨r_1, 0, none⟩ : Addr).add 7) = some (.int .i64 t757) ∧
  ∃ t758P : Option Addr, ∃ t758N : Nat, ∃ t758C : Nat, w1_21.cell? ((⟨r_1, 0, none⟩ : Addr).add 8) = some (.slice t758P t758N t758C) ∧
  ∃ t760 : ByteArray, w1_21.cell? ((⟨r, 0, none⟩ : Addr).add 0) = some (.string t760) ∧
  ∃ t761 : ByteArray, w1_21.cell? ((⟨r, 0, none⟩ : Addr).add 1) = some (.string t761) ∧
  ∃ t762 : Int, w1_21.cell? ((⟨r, 0, none⟩ : Addr).add 2) = some (.int .i64 t762) ∧
  ∃ t763 : Int, w1_21.cell? ((⟨r, 0, none⟩ : Addr).add 3) = some (.int .i64 t763) ∧
  ∃ t764 : Int, w1_21.cell? ((⟨r, 0, none⟩ : Addr).add 4) = some (.int .i64 t764) ∧
  ∃ t765 : Int, w1_21.cell? ((⟨r, 0, none⟩ : Addr).add 5) = some (.int .i64 t765) ∧
  ∃ t766 : Int, w1_21.cell? ((⟨r, 0, none⟩ : Addr).add 6) = some (.int .i64 t766) ∧
  ∃ t767 : Int, w1_21.cell? ((⟨r, 0, none⟩ : Addr).add 7) = some (.int .i64 t767) ∧
  ∃ t768P : Option Addr, ∃ t768N : Nat, ∃ t768C : Nat, w1_21.cell? ((⟨r, 0, none⟩ : Addr).add 8) = some (.slice t768P t768N t768C) ∧
  C_ref27_Same t750 t751 t752 t753 t754 t755 t756 t757 t758P t758N t758C t760 t761 t762 t763 t764 t765 t766 t767 t768P t768N t768C w1_21 fun t77 w1_22 =>
  R t77 w1_22)
  (R false w1_21))))))

def F_law27_ScriptCodes (s0x : ByteArray) (s1x : ByteArray) (s2x : Int) (s3x : Int) (s4x : Int) (s5x : Int) (s6x : Int) (s7x : Int) (s8P : Option Addr) (s8N : Nat) (s8C : Nat) (w : World) (R : Bool → World → Prop) : Prop :=
  New w (.cells #[.string s0x, .string s1x, .int .i64 s2x, .int .i64 s3x, .int .i64 s4x, .int .i64 s5x, .int .i64 s6x, .int .i64 s7x, .slice s8P s8N s8C] 26) fun r w1 =>
  ∃ Program : ByteArray, w1.cell? ((⟨r, 0, none⟩ : Addr).add 0) = some (.string Program) ∧
  If (decide ((Program.size : Int) > (5000 : Int)))
  (∃ Program_1 : ByteArray, w1.cell? ((⟨r, 0, none⟩ : Addr).add 0) = some (.string Program_1) ∧
  If (decide ((Program_1.size : Int) ≤ (65536 : Int)))
  (F_law27_ScriptCodes_k1 R w1)
  (∃ Query : ByteArray, w1.cell? ((⟨r, 0, none⟩ : Addr).add 1) = some (.string Query) ∧
  If (decide ((Query.size : Int) > (5000 : Int)))
  (∃ Query_1 : ByteArray, w1.cell? ((⟨r, 0, none⟩ : Addr).add 1) = some (.string Query_1) ∧
  If (decide ((Query_1.size : Int) ≤ (65536 : Int)))
  (F_law27_ScriptCodes_k1 R w1)
  (∃ CollectP : Option Addr, ∃ CollectN : Nat, ∃ CollectC : Nat, w1.cell? ((⟨r, 0, none⟩ : Addr).add 8) = some (.slice CollectP CollectN CollectC) ∧
  F_law27_ScriptCodes_k2 R r (decide ((CollectN : Int) > (2000 : Int))) w1))
  (∃ CollectP_1 : Option Addr, ∃ CollectN_1 : Nat, ∃ CollectC_1 : Nat, w1.cell? ((⟨r, 0, none⟩ : Addr).add 8) = some (.slice CollectP_1 CollectN_1 CollectC_1) ∧
  F_law27_ScriptCodes_k2 R r (decide ((CollectN_1 : Int) > (2000 : Int))) w1)))
  (∃ Query_2 : ByteArray, w1.cell? ((⟨r, 0, none⟩ : Addr).add 1) = some (.string Query_2) ∧
  If (decide ((Query_2.size : Int) > (5000 : Int)))
  (∃ Query_3 : ByteArray, w1.cell? ((⟨r, 0, none⟩ : Addr).add 1) = some (.string Query_3) ∧
  If (decide ((Query_3.size : Int) ≤ (65536 : Int)))
  (F_law27_ScriptCodes_k1 R w1)
  (∃ CollectP_2 : Option Addr, ∃ CollectN_2 : Nat, ∃ CollectC_2 : Nat, w1.cell? ((⟨r, 0, none⟩ : Addr).add 8) = some (.slice CollectP_2 CollectN_2 CollectC_2) ∧
  F_law27_ScriptCodes_k2 R r (decide ((CollectN_2 : Int) > (2000 : Int))) w1))
  (∃ CollectP_3 : Option Addr, ∃ CollectN_3 : Nat, ∃ CollectC_3 : Nat, w1.cell? ((⟨r, 0, none⟩ : Addr).add 8) = some (.slice CollectP_3 CollectN_3 CollectC_3) ∧
  F_law27_ScriptCodes_k2 R r (decide ((CollectN_3 : Int) > (2000 : Int))) w1))

def G_law27_ScriptCodes : Gen where
  loop := lookL []
  plan := fun _ => none

theorem loops_law27_ScriptCodes : LoopOk Tryd.prog Tryd.f3.ntmps G_law27_ScriptCodes (codeOf Tryd.f3) := loopOk_none fun _ => rfl

theorem den_law27_ScriptCodes (s0x : ByteArray) (s1x : ByteArray) (s2x : Int) (s3x : Int) (s4x : Int) (s5x : Int) (s6x : Int) (s7x : Int) (s8P : Option Addr) (s8N : Nat) (s8C : Nat) (w : World) (R : Value → World → Prop) :
    F_law27_ScriptCodes s0x s1x s2x s3x s4x s5x s6x s7x s8P s8N s8C w (fun r w1 => R (.bool r) w1) = den Tryd.prog Tryd.f3.ntmps G_law27_ScriptCodes (codeOf Tryd.f3) [] (postD Tryd.prog Tryd.f3.results.toList R) (entry [.agg #[.string s0x, .string s1x, .int .i64 s2x, .int .i64 s3x, .int .i64 s4x, .int .i64 s5x, .int .i64 s6x, .int .i64 s7x, .slice s8P s8N s8C]] 0) w := by kernel_rfl

theorem C_law27_ScriptCodes.of {s0x : ByteArray} {s1x : ByteArray} {s2x : Int} {s3x : Int} {s4x : Int} {s5x : Int} {s6x : Int} {s7x : Int} {s8P : Option Addr} {s8N : Nat} {s8C : Nat} {w : World} {R : Bool → World → Prop} (h : F_law27_ScriptCodes s0x s1x s2x s3x s4x s5x s6x s7x s8P s8N s8C w R) : C_law27_ScriptCodes s0x s1x s2x s3x s4x s5x s6x s7x s8P s8N s8C w R := by
  refine (calls_of_den (c := codeOf Tryd.f3) seat_ok seat_mixed Tryd.func3 (by kernel_rfl) loops_law27_ScriptCodes (args := [.agg #[.string s0x, .string s1x, .int .i64 s2x, .int .i64 s3x, .int .i64 s4x, .int .i64 s5x, .int .i64 s6x, .int .i64 s7x, .slice s8P s8N s8C]]) rfl (R := fun v w1 => ∃ (r : Bool), v = (.bool r : Value) ∧ R r w1) ?_).mono ?_
  · rw [← den_law27_ScriptCodes]
    have e : (fun r w1 => ∃ (r' : Bool), (.bool r : Value) = (.bool r' : Value) ∧ R r' w1) = R := by
      funext r w1
      exact propext ⟨fun ⟨r', he, h⟩ => by first | (simp at he; simp_all) | (cases he; exact h), fun h => ⟨_, rfl, h⟩⟩
    simpa only [e] using h
  · rintro en w1 ⟨v, he, r, rfl, h⟩
    exact ⟨_, he, h⟩

def F_law27_ScriptDecodes_k1 (R : Bool → World → Prop) (w1_31 : World) : Prop :=
  R false w1_31

def F_law27_ScriptDecodes_k2 (bP : Option Addr) (bN : Nat) (bC : Nat) (R : Bool → World → Prop) (r : Nat) (t241 : Bool) (t55 : Bool) (w1_32 : World) : Prop :=
  If t55
  (R false w1_32)
  (If (!t241)
  (R true w1_32)
  (∃ t590 : ByteArray, w1_32.cell? ((⟨r, 0, none⟩ : Addr).add 0) = some (.string t590) ∧
  ∃ t591 : ByteArray, w1_32.cell? ((⟨r, 0, none⟩ : Addr).add 1) = some (.string t591) ∧
  ∃ t592 : Int, w1_32.cell? ((⟨r, 0, none⟩ : Addr).add 2) = some (.int .i64 t592) ∧
  ∃ t593 : Int, w1_32.cell? ((⟨r, 0, none⟩ : Addr).add 3) = some (.int .i64 t593) ∧
  ∃ t594 : Int, w1_32.cell? ((⟨r, 0, none⟩ : Addr).add 4) = some (.int .i64 t594) ∧
  ∃ t595 : Int, w1_32.cell? ((⟨r, 0, none⟩ : Addr).add 5) = some (.int .i64 t595) ∧
  ∃ t596 : Int, w1_32.cell? ((⟨r, 0, none⟩ : Addr).add 6) = some (.int .i64 t596) ∧
  ∃ t597 : Int, w1_32.cell? ((⟨r, 0, none⟩ : Addr).add 7) = some (.int .i64 t597) ∧
  ∃ t598P : Option Addr, ∃ t598N : Nat, ∃ t598C : Nat, w1_32.cell? ((⟨r, 0, none⟩ : Addr).add 8) = some (.slice t598P t598N t598C) ∧
  C_script_Encode t590 t591 t592 t593 t594 t595 t596 t597 t598P t598N t598C w1_32 fun t600P t600N t600C t601 w1_33 =>
  If (t601 == (0 : Int))
  (Run Tryd.prog (convert 28 9 (.slice t600P t600N t600C)) w1_33 fun v_4 w1_34 => ∃ t67 : ByteArray, v_4 = (.string t67) ∧
  Run Tryd.prog (convert 28 9 (.slice bP bN bC)) w1_34 fun v_5 w1_35 => ∃ t69 : ByteArray, v_5 = (.string t69) ∧
  R (t67.toList == t69.toList) w1_35)
  (R false w1_33)))

def F_law27_ScriptDecodes (bP : Option Addr) (bN : Nat) (bC : Nat) (w : World) (R : Bool → World → Prop) : Prop :=
  If (decide ((bN : Int) > (5000 : Int)))
  (C_law27_lives  w fun t13 w1 =>
  R t13 w1)
  (BSl Tryd.prog 28 0 [] w fun t14P t14N t14C w1_1 =>
  App Tryd.prog #[28, 28] 28 #[.slice t14P t14N t14C, .slice bP bN bC] w1_1 fun t16P t16N t16C w1_2 =>
  C_script_Decode t16P t16N t16C w1_2 fun t1900 t1901 t1902 t1903 t1904 t1905 t1906 t1907 t1908P t1908N t1908C t191 w1_3 =>
  New w1_3 (.cells #[.string ⟨#[]⟩, .string ⟨#[]⟩, .int .i64 0, .int .i64 0, .int .i64 0, .int .i64 0, .int .i64 0, .int .i64 0, .slice none 0 0] 26) fun r w1_4 =>
  St w1_4 ((⟨r, 0, none⟩ : Addr).add 0) (.string t1900) fun w1_5 =>
  St w1_5 ((⟨r, 0, none⟩ : Addr).add 1) (.string t1901) fun w1_6 =>
  St w1_6 ((⟨r, 0, none⟩ : Addr).add 2) (.int .i64 t1902) fun w1_7 =>
  St w1_7 ((⟨r, 0, none⟩ : Addr).add 3) (.int .i64 t1903) fun w1_8 =>
  St w1_8 ((⟨r, 0, none⟩ : Addr).add 4) (.int .i64 t1904) fun w1_9 =>
  St w1_9 ((⟨r, 0, none⟩ : Addr).add 5) (.int .i64 t1905) fun w1_10 =>
  St w1_10 ((⟨r, 0, none⟩ : Addr).add 6) (.int .i64 t1906) fun w1_11 =>
  St w1_11 ((⟨r, 0, none⟩ : Addr).add 7) (.int .i64 t1907) fun w1_12 =>
  St w1_12 ((⟨r, 0, none⟩ : Addr).add 8) (.slice t1908P t1908N t1908C) fun w1_13 =>
  C_ref27_Decode bP bN bC w1_13 fun t2400 t2401 t2402 t2403 t2404 t2405 t2406 t2407 t2408P t2408N t2408C t241 w1_14 =>
  New w1_14 (.cells #[.string ⟨#[]⟩, .string ⟨#[]⟩, .int .i64 0, .int .i64 0, .int .i64 0, .int .i64 0, .int .i64 0, .int .i64 0, .slice none 0 0] 26) fun r_1 w1_15 =>
  St w1_15 ((⟨r_1, 0, none⟩ : Addr).add 0) (.string t2400) fun w1_16 =>
  St w1_16 ((⟨r_1, 0, none⟩ : Addr).add 1) (.string t2401) fun w1_17 =>
  St w1_17 ((⟨r_1, 0, none⟩ : Addr).add 2) (.int .i64 t2402) fun w1_18 =>
  St w1_18 ((⟨r_1, 0, none⟩ : Addr).add 3) (.int .i64 t2403) fun w1_19 =>
  St w1_19 ((⟨r_1, 0, none⟩ : Addr).add 4) (.int .i64 t2404) fun w1_20 =>
  St w1_20 ((⟨r_1, 0, none⟩ : Addr).add 5) (.int .i64 t2405) fun w1_21 =>
  St w1_21 ((⟨r_1, 0, none⟩ : Addr).add 6) (.int .i64 t2406) fun w1_22 =>
  St w1_22 ((⟨r_1, 0, none⟩ : Addr).add 7) (.int .i64 t2407) fun w1_23 =>
  St w1_23 ((⟨r_1, 0, none⟩ : Addr).add 8) (.slice t2408P t2408N t2408C) fun w1_24 =>
  C_law27_lives  w1_24 fun t27 w1_25 =>
  If (!t27)
  (F_law27_ScriptDecodes_k1 R w1_25)
  (∃ t300 : ByteArray, w1_25.cell? ((⟨r, 0, none⟩ : Addr).add 0) = some (.string t300) ∧
  ∃ t301 : ByteArray, w1_25.cell? ((⟨r, 0, none⟩ : Addr).add 1) = some (.string t301) ∧
  ∃ t302 : Int, w1_25.cell? ((⟨r, 0, none⟩ : Addr).add 2) = some (.int .i64 t302) ∧
  ∃ t303 : Int, w1_25.cell? ((⟨r, 0, none⟩ : Addr).add 3) = some (.int .i64 t303) ∧
  ∃ t304 : Int, w1_25.cell? ((⟨r, 0, none⟩ : Addr).add 4) = some (.int .i64 t304) ∧
  ∃ t305 : Int, w1_25.cell? ((⟨r, 0, none⟩ : Addr).add 5) = some (.int .i64 t305) ∧
  ∃ t306 : Int, w1_25.cell? ((⟨r, 0, none⟩ : Addr).add 6) = some (.int .i64 t306) ∧
  ∃ t307 : Int, w1_25.cell? ((⟨r, 0, none⟩ : Addr).add 7) = some (.int .i64 t307) ∧
  ∃ t308P : Option Addr, ∃ t308N : Nat, ∃ t308C : Nat, w1_25.cell? ((⟨r, 0, none⟩ : Addr).add 8) = some (.slice t308P t308N t308C) ∧
  ∃ t310 : ByteArray, w1_25.cell? ((⟨r_1, 0, none⟩ : Addr).add 0) = some (.string t310) ∧
  ∃ t311 : ByteArray, w1_25.cell? ((⟨r_1, 0, none⟩ : Addr).add 1) = some (.string t311) ∧
  ∃ t312 : Int, w1_25.cell? ((⟨r_1, 0, none⟩ : Addr).add 2) = some (.int .i64 t312) ∧
  ∃ t313 : Int, w1_25.cell? ((⟨r_1, 0, none⟩ : Addr).add 3) = some (.int .i64 t313) ∧
  ∃ t314 : Int, w1_25.cell? ((⟨r_1, 0, none⟩ : Addr).add 4) = some (.int .i64 t314) ∧
  ∃ t315 : Int, w1_25.cell? ((⟨r_1, 0, none⟩ : Addr).add 5) = some (.int .i64 t315) ∧
  ∃ t316 : Int, w1_25.cell? ((⟨r_1, 0, none⟩ : Addr).add 6) = some (.int .i64 t316) ∧
  ∃ t317 : Int, w1_25.cell? ((⟨r_1, 0, none⟩ : Addr).add 7) = some (.int .i64 t317) ∧
  ∃ t318P : Option Addr, ∃ t318N : Nat, ∃ t318C : Nat, w1_25.cell? ((⟨r_1, 0, none⟩ : Addr).add 8) = some (.slice t318P t318N t318C) ∧
  C_ref27_Same t300 t301 t302 t303 t304 t305 t306 t307 t308P t308N t308C t310 t311 t312 t313 t314 t315 t316 t317 t318P t318N t318C w1_25 fun t32 w1_26 =>
  If (!t32)
  (F_law27_ScriptDecodes_k1 R w1_26)
  (If (!((t191 == (0 : Int)) == t241))
  (F_law27_ScriptDecodes_k1 R w1_26)
  (If (!t241)
  (If (t191 != (270 : Int))
  (F_law27_ScriptDecodes_k1 R w1_26)
  (Run Tryd.prog (convert 28 9 (.slice t16P t16N t16C)) w1_26 fun v w1_27 => ∃ t51 : ByteArray, v = (.string t51) ∧
  Run Tryd.prog (convert 28 9 (.slice bP bN bC)) w1_27 fun v_1 w1_28 => ∃ t53 : ByteArray, v_1 = (.string t53) ∧
  F_law27_ScriptDecodes_k2 bP bN bC R r t241 (!(t51.toList == t53.toList)) w1_28))
  (Run Tryd.prog (convert 28 9 (.slice t16P t16N t16C)) w1_26 fun v_2 w1_29 => ∃ t51_1 : ByteArray, v_2 = (.string t51_1) ∧
  Run Tryd.prog (convert 28 9 (.slice bP bN bC)) w1_29 fun v_3 w1_30 => ∃ t53_1 : ByteArray, v_3 = (.string t53_1) ∧
  F_law27_ScriptDecodes_k2 bP bN bC R r t241 (!(t51_1.toList == t53_1.toList)) w1_30)))))

def G_law27_ScriptDecodes : Gen where
  loop := lookL []
  plan := fun _ => none

theorem loops_law27_ScriptDecodes : LoopOk Tryd.prog Tryd.f4.ntmps G_law27_ScriptDecodes (codeOf Tryd.f4) := loopOk_none fun _ => rfl

theorem den_law27_ScriptDecodes (bP : Option Addr) (bN : Nat) (bC : Nat) (w : World) (R : Value → World → Prop) :
    F_law27_ScriptDecodes bP bN bC w (fun r w1 => R (.bool r) w1) = den Tryd.prog Tryd.f4.ntmps G_law27_ScriptDecodes (codeOf Tryd.f4) [] (postD Tryd.prog Tryd.f4.results.toList R) (entry [.slice bP bN bC] 0) w := by kernel_rfl

theorem C_law27_ScriptDecodes.of {bP : Option Addr} {bN : Nat} {bC : Nat} {w : World} {R : Bool → World → Prop} (h : F_law27_ScriptDecodes bP bN bC w R) : C_law27_ScriptDecodes bP bN bC w R := by
  refine (calls_of_den (c := codeOf Tryd.f4) seat_ok seat_mixed Tryd.func4 (by kernel_rfl) loops_law27_ScriptDecodes (args := [.slice bP bN bC]) rfl (R := fun v w1 => ∃ (r : Bool), v = (.bool r : Value) ∧ R r w1) ?_).mono ?_
  · rw [← den_law27_ScriptDecodes]
    have e : (fun r w1 => ∃ (r' : Bool), (.bool r : Value) = (.bool r' : Value) ∧ R r' w1) = R := by
      funext r w1
      exact propext ⟨fun ⟨r', he, h⟩ => by first | (simp at he; simp_all) | (cases he; exact h), fun h => ⟨_, rfl, h⟩⟩
    simpa only [e] using h
  · rintro en w1 ⟨v, he, r, rfl, h⟩
    exact ⟨_, he, h⟩

structure S_law27_ScriptRuns_L1 where
  n : Int
  i : Int

def F_law27_ScriptRuns_k1 (R : Bool → World → Prop) (w1_16 : World) : Prop :=
  R false w1_16

def F_law27_ScriptRuns_k4 (R : Bool → World → Prop) (r : Nat) (t410P : Option Addr) (t410N : Nat) (t410C : Nat) (t411 : Int) (t461 : Bool) (w1_19 : World) : Prop :=
  If (!t461)
  (R (t411 == (3 : Int)) w1_19)
  (C_script_DecodeRun t410P t410N t410C w1_19 fun t8100 t8101P t8101N t8101C t8102 t8103 t8104 t8105 t811 w1_20 =>
  New w1_20 (.cells #[.int .i64 0, .slice none 0 0, .int .i64 0, .int .i64 0, .int .i64 0, .int .i64 0] 43) fun r_2 w1_21 =>
  St w1_21 ((⟨r_2, 0, none⟩ : Addr).add 0) (.int .i64 t8100) fun w1_22 =>
  St w1_22 ((⟨r_2, 0, none⟩ : Addr).add 1) (.slice t8101P t8101N t8101C) fun w1_23 =>
  St w1_23 ((⟨r_2, 0, none⟩ : Addr).add 2) (.int .i64 t8102) fun w1_24 =>
  St w1_24 ((⟨r_2, 0, none⟩ : Addr).add 3) (.int .i64 t8103) fun w1_25 =>
  St w1_25 ((⟨r_2, 0, none⟩ : Addr).add 4) (.int .i64 t8104) fun w1_26 =>
  St w1_26 ((⟨r_2, 0, none⟩ : Addr).add 5) (.int .i64 t8105) fun w1_27 =>
  If (t811 == (0 : Int))
  (∃ t870 : Int, w1_27.cell? ((⟨r_2, 0, none⟩ : Addr).add 0) = some (.int .i64 t870) ∧
  ∃ t871P : Option Addr, ∃ t871N : Nat, ∃ t871C : Nat, w1_27.cell? ((⟨r_2, 0, none⟩ : Addr).add 1) = some (.slice t871P t871N t871C) ∧
  ∃ t872 : Int, w1_27.cell? ((⟨r_2, 0, none⟩ : Addr).add 2) = some (.int .i64 t872) ∧
  ∃ t873 : Int, w1_27.cell? ((⟨r_2, 0, none⟩ : Addr).add 3) = some (.int .i64 t873) ∧
  ∃ t874 : Int, w1_27.cell? ((⟨r_2, 0, none⟩ : Addr).add 4) = some (.int .i64 t874) ∧
  ∃ t875 : Int, w1_27.cell? ((⟨r_2, 0, none⟩ : Addr).add 5) = some (.int .i64 t875) ∧
  ∃ t880 : Int, w1_27.cell? ((⟨r, 0, none⟩ : Addr).add 0) = some (.int .i64 t880) ∧
  ∃ t881P : Option Addr, ∃ t881N : Nat, ∃ t881C : Nat, w1_27.cell? ((⟨r, 0, none⟩ : Addr).add 1) = some (.slice t881P t881N t881C) ∧
  ∃ t882 : Int, w1_27.cell? ((⟨r, 0, none⟩ : Addr).add 2) = some (.int .i64 t882) ∧
  ∃ t883 : Int, w1_27.cell? ((⟨r, 0, none⟩ : Addr).add 3) = some (.int .i64 t883) ∧
  ∃ t884 : Int, w1_27.cell? ((⟨r, 0, none⟩ : Addr).add 4) = some (.int .i64 t884) ∧
  ∃ t885 : Int, w1_27.cell? ((⟨r, 0, none⟩ : Addr).add 5) = some (.int .i64 t885) ∧
  C_ref26_SameRun t870 t871P t871N t871C t872 t873 t874 t875 t880 t881P t881N t881C t882 t883 t884 t885 w1_27 fun t89 w1_28 =>
  R t89 w1_28)
  (R false w1_27))

def F_law27_ScriptRuns_k2 (R : Bool → World → Prop) (r : Nat) (t410P : Option Addr) (t410N : Nat) (t410C : Nat) (t411 : Int) (t461 : Bool) (t74 : Bool) (w1_17 : World) : Prop :=
  If t74
  (R false w1_17)
  (F_law27_ScriptRuns_k4 R r t410P t410N t410C t411 t461 w1_17)

def F_law27_ScriptRuns_k3 (R : Bool → World → Prop) (r : Nat) (t410P : Option Addr) (t410N : Nat) (t410C : Nat) (t411 : Int) (t461 : Bool) (w1_18 : World) : Prop :=
  F_law27_ScriptRuns_k4 R r t410P t410N t410C t411 t461 w1_18

/-- One round. -/
def B_law27_ScriptRuns_L1 (r_1 : Addr) (s : S_law27_ScriptRuns_L1) (w : World) (Kn : S_law27_ScriptRuns_L1 → World → Prop) (Kx0 : Int → World → Prop) (Kr : Bool → World → Prop) : Prop :=
  ∃ EventsP : Option Addr, ∃ EventsN : Nat, ∃ EventsC : Nat, w.cell? (r_1.add 1) = some (.slice EventsP EventsN EventsC) ∧
  If (decide ((s.i : Int) < (EventsN : Int)))
  (If (decide ((s.i : Int) < (300 : Int)))
  (∃ EventsP_1 : Option Addr, ∃ EventsN_1 : Nat, ∃ EventsC_1 : Nat, w.cell? (r_1.add 1) = some (.slice EventsP_1 EventsN_1 EventsC_1) ∧
  0 ≤ (s.i : Int) ∧ (s.i : Int) < (EventsN_1 : Int) ∧ NN EventsP_1 fun a =>
  ∃ Text : ByteArray, w.cell? ((a.add ((s.i : Int).toNat * 2)).add 1) = some (.string Text) ∧
  If (decide ((IntKind.i64.wrap ((s.n : Int) + (Text.size : Int))) > (200000 : Int)))
  (C_law27_lives  w fun t33 w1_1 =>
  Kr t33 w1_1)
  (Kn ⟨(IntKind.i64.wrap ((s.n : Int) + (Text.size : Int))), (IntKind.i64.wrap ((s.i : Int) + (1 : Int)))⟩ w))
  (Kx0 (s.n : Int) w))
  (Kx0 (s.n : Int) w)

def F_law27_ScriptRuns_L1 (r_1 : Addr) (s : S_law27_ScriptRuns_L1) (w : World) (Kx0 : Int → World → Prop) (Kr : Bool → World → Prop) : Prop :=
  LoopS (fun s w Kn => B_law27_ScriptRuns_L1 r_1 s w Kn Kx0 Kr) s w

def F_law27_ScriptRuns (r0 : Int) (r1P : Option Addr) (r1N : Nat) (r1C : Nat) (r2 : Int) (r3 : Int) (r4 : Int) (r5 : Int) (w : World) (R : Bool → World → Prop) : Prop :=
  New w (.cells #[.int .i64 r0, .slice r1P r1N r1C, .int .i64 r2, .int .i64 r3, .int .i64 r4, .int .i64 r5] 43) fun r w1 =>
  F_law27_ScriptRuns_L1 ⟨r, 0, none⟩ ⟨(0 : Int), (0 : Int)⟩ w1
  (fun n_2 w1_2 =>
  ∃ EventsP_2 : Option Addr, ∃ EventsN_2 : Nat, ∃ EventsC_2 : Nat, w1_2.cell? ((⟨r, 0, none⟩ : Addr).add 1) = some (.slice EventsP_2 EventsN_2 EventsC_2) ∧
  If (decide ((EventsN_2 : Int) > (200 : Int)))
  (C_law27_lives  w1_2 fun t38 w1_4 =>
  R t38 w1_4)
  (∃ t400 : Int, w1_2.cell? ((⟨r, 0, none⟩ : Addr).add 0) = some (.int .i64 t400) ∧
  ∃ t401P : Option Addr, ∃ t401N : Nat, ∃ t401C : Nat, w1_2.cell? ((⟨r, 0, none⟩ : Addr).add 1) = some (.slice t401P t401N t401C) ∧
  ∃ t402 : Int, w1_2.cell? ((⟨r, 0, none⟩ : Addr).add 2) = some (.int .i64 t402) ∧
  ∃ t403 : Int, w1_2.cell? ((⟨r, 0, none⟩ : Addr).add 3) = some (.int .i64 t403) ∧
  ∃ t404 : Int, w1_2.cell? ((⟨r, 0, none⟩ : Addr).add 4) = some (.int .i64 t404) ∧
  ∃ t405 : Int, w1_2.cell? ((⟨r, 0, none⟩ : Addr).add 5) = some (.int .i64 t405) ∧
  C_script_EncodeRun t400 t401P t401N t401C t402 t403 t404 t405 w1_2 fun t410P t410N t410C t411 w1_5 =>
  ∃ t450 : Int, w1_5.cell? ((⟨r, 0, none⟩ : Addr).add 0) = some (.int .i64 t450) ∧
  ∃ t451P : Option Addr, ∃ t451N : Nat, ∃ t451C : Nat, w1_5.cell? ((⟨r, 0, none⟩ : Addr).add 1) = some (.slice t451P t451N t451C) ∧
  ∃ t452 : Int, w1_5.cell? ((⟨r, 0, none⟩ : Addr).add 2) = some (.int .i64 t452) ∧
  ∃ t453 : Int, w1_5.cell? ((⟨r, 0, none⟩ : Addr).add 3) = some (.int .i64 t453) ∧
  ∃ t454 : Int, w1_5.cell? ((⟨r, 0, none⟩ : Addr).add 4) = some (.int .i64 t454) ∧
  ∃ t455 : Int, w1_5.cell? ((⟨r, 0, none⟩ : Addr).add 5) = some (.int .i64 t455) ∧
  C_ref27_EncodeRun t450 t451P t451N t451C t452 t453 t454 t455 w1_5 fun t460P t460N t460C t461 w1_6 =>
  C_law27_lives  (drw w1_6) fun t49 w1_7 =>
  If (!t49)
  ((F_law27_ScriptRuns_k1 R w1_7) ∧
  (F_law27_ScriptRuns_k1 R w1_7))
  ((Run Tryd.prog (convert 28 9 (.slice t410P t410N t410C)) w1_7 fun v w1_8 => ∃ t53 : ByteArray, v = (.string t53) ∧
  Run Tryd.prog (convert 28 9 (.slice t460P t460N t460C)) w1_8 fun v_1 w1_9 => ∃ t55 : ByteArray, v_1 = (.string t55) ∧
  If (!(t53.toList == t55.toList))
  (F_law27_ScriptRuns_k1 R w1_9)
  (If (!((t411 == (0 : Int)) == t461))
  (F_law27_ScriptRuns_k1 R w1_9)
  (If (decide (n_2 < (20000 : Int)))
  (∃ t680 : Int, w1_9.cell? ((⟨r, 0, none⟩ : Addr).add 0) = some (.int .i64 t680) ∧
  ∃ t681P : Option Addr, ∃ t681N : Nat, ∃ t681C : Nat, w1_9.cell? ((⟨r, 0, none⟩ : Addr).add 1) = some (.slice t681P t681N t681C) ∧
  ∃ t682 : Int, w1_9.cell? ((⟨r, 0, none⟩ : Addr).add 2) = some (.int .i64 t682) ∧
  ∃ t683 : Int, w1_9.cell? ((⟨r, 0, none⟩ : Addr).add 3) = some (.int .i64 t683) ∧
  ∃ t684 : Int, w1_9.cell? ((⟨r, 0, none⟩ : Addr).add 4) = some (.int .i64 t684) ∧
  ∃ t685 : Int, w1_9.cell? ((⟨r, 0, none⟩ : Addr).add 5) = some (.int .i64 t685) ∧
  ∃ t700 : Int, w1_9.cell? ((⟨r, 0, none⟩ : Addr).add 0) = some (.int .i64 t700) ∧
  ∃ t701P : Option Addr, ∃ t701N : Nat, ∃ t701C : Nat, w1_9.cell? ((⟨r, 0, none⟩ : Addr).add 1) = some (.slice t701P t701N t701C) ∧
  ∃ t702 : Int, w1_9.cell? ((⟨r, 0, none⟩ : Addr).add 2) = some (.int .i64 t702) ∧
  ∃ t703 : Int, w1_9.cell? ((⟨r, 0, none⟩ : Addr).add 3) = some (.int .i64 t703) ∧
  ∃ t704 : Int, w1_9.cell? ((⟨r, 0, none⟩ : Addr).add 4) = some (.int .i64 t704) ∧
  ∃ t705 : Int, w1_9.cell? ((⟨r, 0, none⟩ : Addr).add 5) = some (.int .i64 t705) ∧
  C_script_Listing t680 t681P t681N t681C t682 t683 t684 t685 w1_9 fun t69 w1_10 =>
  (∀ i, i < 6 → w1_10.cell? ((⟨r, 0, none⟩ : Addr).add i) = w1_9.cell? ((⟨r, 0, none⟩ : Addr).add i)) ∧
  C_ref27_Listing t700 t701P t701N t701C t702 t703 t704 t705 w1_10 fun t71 w1_11 =>
  F_law27_ScriptRuns_k2 R r t410P t410N t410C t411 t461 (!(t69.toList == t71.toList)) w1_11)
  (F_law27_ScriptRuns_k3 R r t410P t410N t410C t411 t461 w1_9)))) ∧
  (Run Tryd.prog (convert 28 9 (.slice t460P t460N t460C)) w1_7 fun v_2 w1_12 => ∃ t55_1 : ByteArray, v_2 = (.string t55_1) ∧
  Run Tryd.prog (convert 28 9 (.slice t410P t410N t410C)) w1_12 fun v_3 w1_13 => ∃ t53_1 : ByteArray, v_3 = (.string t53_1) ∧
  If (!(t53_1.toList == t55_1.toList))
  (F_law27_ScriptRuns_k1 R w1_13)
  (If (!((t411 == (0 : Int)) == t461))
  (F_law27_ScriptRuns_k1 R w1_13)
  (If (decide (n_2 < (20000 : Int)))
  (∃ t680_1 : Int, w1_13.cell? ((⟨r, 0, none⟩ : Addr).add 0) = some (.int .i64 t680_1) ∧
  ∃ t681P_1 : Option Addr, ∃ t681N_1 : Nat, ∃ t681C_1 : Nat, w1_13.cell? ((⟨r, 0, none⟩ : Addr).add 1) = some (.slice t681P_1 t681N_1 t681C_1) ∧
  ∃ t682_1 : Int, w1_13.cell? ((⟨r, 0, none⟩ : Addr).add 2) = some (.int .i64 t682_1) ∧
  ∃ t683_1 : Int, w1_13.cell? ((⟨r, 0, none⟩ : Addr).add 3) = some (.int .i64 t683_1) ∧
  ∃ t684_1 : Int, w1_13.cell? ((⟨r, 0, none⟩ : Addr).add 4) = some (.int .i64 t684_1) ∧
  ∃ t685_1 : Int, w1_13.cell? ((⟨r, 0, none⟩ : Addr).add 5) = some (.int .i64 t685_1) ∧
  ∃ t700_1 : Int, w1_13.cell? ((⟨r, 0, none⟩ : Addr).add 0) = some (.int .i64 t700_1) ∧
  ∃ t701P_1 : Option Addr, ∃ t701N_1 : Nat, ∃ t701C_1 : Nat, w1_13.cell? ((⟨r, 0, none⟩ : Addr).add 1) = some (.slice t701P_1 t701N_1 t701C_1) ∧
  ∃ t702_1 : Int, w1_13.cell? ((⟨r, 0, none⟩ : Addr).add 2) = some (.int .i64 t702_1) ∧
  ∃ t703_1 : Int, w1_13.cell? ((⟨r, 0, none⟩ : Addr).add 3) = some (.int .i64 t703_1) ∧
  ∃ t704_1 : Int, w1_13.cell? ((⟨r, 0, none⟩ : Addr).add 4) = some (.int .i64 t704_1) ∧
  ∃ t705_1 : Int, w1_13.cell? ((⟨r, 0, none⟩ : Addr).add 5) = some (.int .i64 t705_1) ∧
  C_script_Listing t680_1 t681P_1 t681N_1 t681C_1 t682_1 t683_1 t684_1 t685_1 w1_13 fun t69_1 w1_14 =>
  (∀ i, i < 6 → w1_14.cell? ((⟨r, 0, none⟩ : Addr).add i) = w1_13.cell? ((⟨r, 0, none⟩ : Addr).add i)) ∧
  C_ref27_Listing t700_1 t701P_1 t701N_1 t701C_1 t702_1 t703_1 t704_1 t705_1 w1_14 fun t71_1 w1_15 =>
  F_law27_ScriptRuns_k2 R r t410P t410N t410C t411 t461 (!(t69_1.toList == t71_1.toList)) w1_15)
  (F_law27_ScriptRuns_k3 R r t410P t410N t410C t411 t461 w1_13)))))))
  (fun t2_1 w1_3 =>
  R t2_1 w1_3)

def lit_law27_ScriptRuns_L1 (f : Addr) (s : S_law27_ScriptRuns_L1) : Env := [⟨1, .pointer (some f), none⟩, ⟨3, .int .i64 s.n, none⟩, ⟨4, .int .i64 s.i, none⟩]

def dec_law27_ScriptRuns_L1 (e : Env) (K : Addr → S_law27_ScriptRuns_L1 → Prop) : Prop :=
  onV (getV e 1) fun u1 =>
  asA u1 fun r_1 =>
  onV (getV e 3) fun u2 =>
  asI .i64 u2 fun n =>
  onV (getV e 4) fun u3 =>
  asI .i64 u3 fun i =>
    K (r_1) ⟨n, i⟩

theorem dec_law27_ScriptRuns_L1_ok {N : Nat} (e : Env) (a : Act) (K : Addr → S_law27_ScriptRuns_L1 → Prop) (hr : Rep N a e) (h0 : dec_law27_ScriptRuns_L1 e K) : ∃ f s, K f s ∧ Rep N a (lit_law27_ScriptRuns_L1 f s) := by
  unfold dec_law27_ScriptRuns_L1 at h0
  obtain ⟨u1, g1, h1⟩ := onV_elim h0
  obtain ⟨r_1, rfl, h2⟩ := asA_elim h1
  obtain ⟨u2, g3, h3⟩ := onV_elim h2
  obtain ⟨n, rfl, h4⟩ := asI_elim h3
  obtain ⟨u3, g4, h5⟩ := onV_elim h4
  obtain ⟨i, rfl, h6⟩ := asI_elim h5
  exact ⟨_, _, h6, rep_less hr (by simp [lit_law27_ScriptRuns_L1, g1, g3, g4])⟩

def spec_law27_ScriptRuns_L1 (Q : Post) (e : Env) (w : World) : Prop :=
  dec_law27_ScriptRuns_L1 e fun f s => F_law27_ScriptRuns_L1 f s w (fun n_1 w1 => Q (.exit 0) [⟨1, .pointer (some f), none⟩, ⟨3, .int .i64 n_1, none⟩] w1) (fun t2 w1 => Q .ret [⟨2, .bool t2, none⟩] w1)

def G_law27_ScriptRuns : Gen where
  loop := lookL [([false, true, false, true, true], spec_law27_ScriptRuns_L1)]
  plan := fun id =>
    bif Nat.beq id 12 then some ([0, 1, 3, 7, 15, 7, 39, 127, 255, 511, 1023, 2047, 1023, 8191, 16383, 32767, 65535, 131071, 262143, 524287, 1048575, 524287, 4194303, 8388607, 16777215, 33554431], .take 0 (.take 1 (.take 2 (.take 3 (.take 5 (.both 4 (.take 6 (.take 7 (.take 8 (.take 9 (.take 10 (.take 11 (.take 12 (.take 13 (.take 14 (.take 15 (.take 16 (.take 17 (.take 18 (.take 19 (.take 21 (.take 20 (.take 22 (.take 23 (.take 24 (.take 25 .done)))))))))))))))))))) 6 (.take 4 (.take 7 (.take 8 (.take 9 (.take 10 (.take 11 (.take 12 (.take 13 (.take 14 (.take 15 (.take 16 (.take 17 (.take 18 (.take 19 (.take 21 (.take 20 (.take 22 (.take 23 (.take 24 (.take 25 .done)))))))))))))))))))))))))) else none

def dx_law27_ScriptRuns_L1_0 (e : Env) (K : Addr → Int → Prop) : Prop :=
  onV (getV e 1) fun u1 =>
  asA u1 fun r_1 =>
  onV (getV e 3) fun u2 =>
  asI .i64 u2 fun n_1 =>
    K (r_1) n_1

def dx_law27_ScriptRuns_L1_ret (e : Env) (K : Addr → Bool → Prop) : Prop :=
  onV (getV e 1) fun u1 =>
  asA u1 fun r_1 =>
  onV (getV e 2) fun u2 =>
  asB u2 fun t2 =>
    K (r_1) t2

theorem body_law27_ScriptRuns_L1 (f : Addr) (s : S_law27_ScriptRuns_L1) (w : World) (Kn : Addr → S_law27_ScriptRuns_L1 → World → Prop) (Kx0 : Addr → Int → World → Prop) (Kr : Addr → Bool → World → Prop) :
    B_law27_ScriptRuns_L1 f s w (fun s1 w1 => Kn f s1 w1) (fun n_1 w1 => Kx0 f n_1 w1) (fun t2 w1 => Kr f t2 w1) =
    den Tryd.prog Tryd.f5.ntmps G_law27_ScriptRuns (sub (codeOf Tryd.f5) [false, false, true, false, true, true]) [false, false, true, false, true, true] (roundQ (fun e w => dec_law27_ScriptRuns_L1 e fun f s => Kn f s w) (fun e w => dx_law27_ScriptRuns_L1_ret e fun f t2 => Kr f t2 w) (fun id e w => match Nat.beq id 0 with | true => dx_law27_ScriptRuns_L1_0 e fun f n_1 => Kx0 f n_1 w | false => False)) (lit_law27_ScriptRuns_L1 f s) w := by kernel_rfl

theorem ok_law27_ScriptRuns_L1 : OneOk Tryd.prog Tryd.f5.ntmps G_law27_ScriptRuns (codeOf Tryd.f5) [false, true, false, true, true] spec_law27_ScriptRuns_L1 := by
  intro c hc ih Q e w a hr h
  have hcc : sub (codeOf Tryd.f5) [false, false, true, false, true, true] = c := sub_of_codeAt hc
  obtain ⟨f, s, h, hrep⟩ := dec_law27_ScriptRuns_L1_ok e a _ hr h
  obtain ⟨J, μ, hj, hround⟩ := h
  refine loop_rule_deep seat_ok seat_mixed ih lit_law27_ScriptRuns_L1 dec_law27_ScriptRuns_L1 dec_law27_ScriptRuns_L1_ok hc f J μ (Kr := fun e w => dx_law27_ScriptRuns_L1_ret e fun f1 t2 => f1 = f ∧ Q .ret [⟨2, .bool t2, none⟩] w) (Kx := fun id e w => match Nat.beq id 0 with | true => (dx_law27_ScriptRuns_L1_0 e fun f1 n_1 => f1 = f ∧ Q (.exit 0) [⟨1, .pointer (some f), none⟩, ⟨3, .int .i64 n_1, none⟩] w) | false => False) ?_ ?_ ?_ s w a hj hrep
  · intro e a w hr h0
    unfold dx_law27_ScriptRuns_L1_ret at h0
    obtain ⟨u1, g1, h1⟩ := onV_elim h0
    obtain ⟨r_1, rfl, h2⟩ := asA_elim h1
    obtain ⟨u2, g2, h3⟩ := onV_elim h2
    obtain ⟨t2, rfl, h4⟩ := asB_elim h3
    obtain ⟨hf, hq⟩ := h4
    subst hf
    exact ⟨_, rep_less hr (by simp [g2]), hq⟩
  · intro id e a w hr h0
    (try dsimp only at h0)
    split at h0
    · rename_i hid
      obtain rfl := Nat.eq_of_beq_eq_true hid
      unfold dx_law27_ScriptRuns_L1_0 at h0
      obtain ⟨u1, g1, h1⟩ := onV_elim h0
      obtain ⟨r_1, rfl, h2⟩ := asA_elim h1
      obtain ⟨u2, g3, h3⟩ := onV_elim h2
      obtain ⟨n_1, rfl, h4⟩ := asI_elim h3
      obtain ⟨hf, hq⟩ := h4
      subst hf
      exact ⟨_, rep_less hr (by simp [g1, g3]), hq⟩
    · exact h0.elim
  · intro s w hj
    have hb := hround s w hj
    rw [← hcc]
    have e1 := body_law27_ScriptRuns_L1 f s w (fun f1 s1 w1 => f1 = f ∧ J s1 w1 ∧ μ s1 w1 < μ s w) (fun f1 n_1 w1 => f1 = f ∧ Q (.exit 0) [⟨1, .pointer (some f), none⟩, ⟨3, .int .i64 n_1, none⟩] w1) (fun f1 t2 w1 => f1 = f ∧ Q .ret [⟨2, .bool t2, none⟩] w1)
    simp only [true_and] at e1
    exact cast e1 hb

theorem loops_law27_ScriptRuns : LoopOk Tryd.prog Tryd.f5.ntmps G_law27_ScriptRuns (codeOf Tryd.f5) := loopOk_list rfl ⟨ok_law27_ScriptRuns_L1, trivial⟩

theorem den_law27_ScriptRuns (r0 : Int) (r1P : Option Addr) (r1N : Nat) (r1C : Nat) (r2 : Int) (r3 : Int) (r4 : Int) (r5 : Int) (w : World) (R : Value → World → Prop) :
    F_law27_ScriptRuns r0 r1P r1N r1C r2 r3 r4 r5 w (fun r w1 => R (.bool r) w1) = den Tryd.prog Tryd.f5.ntmps G_law27_ScriptRuns (codeOf Tryd.f5) [] (postD Tryd.prog Tryd.f5.results.toList R) (entry [.agg #[.int .i64 r0, .slice r1P r1N r1C, .int .i64 r2, .int .i64 r3, .int .i64 r4, .int .i64 r5]] 0) w := by kernel_rfl

theorem C_law27_ScriptRuns.of {r0 : Int} {r1P : Option Addr} {r1N : Nat} {r1C : Nat} {r2 : Int} {r3 : Int} {r4 : Int} {r5 : Int} {w : World} {R : Bool → World → Prop} (h : F_law27_ScriptRuns r0 r1P r1N r1C r2 r3 r4 r5 w R) : C_law27_ScriptRuns r0 r1P r1N r1C r2 r3 r4 r5 w R := by
  refine (calls_of_den (c := codeOf Tryd.f5) seat_ok seat_mixed Tryd.func5 (by kernel_rfl) loops_law27_ScriptRuns (args := [.agg #[.int .i64 r0, .slice r1P r1N r1C, .int .i64 r2, .int .i64 r3, .int .i64 r4, .int .i64 r5]]) rfl (R := fun v w1 => ∃ (r : Bool), v = (.bool r : Value) ∧ R r w1) ?_).mono ?_
  · rw [← den_law27_ScriptRuns]
    have e : (fun r w1 => ∃ (r' : Bool), (.bool r : Value) = (.bool r' : Value) ∧ R r' w1) = R := by
      funext r w1
      exact propext ⟨fun ⟨r', he, h⟩ => by first | (simp at he; simp_all) | (cases he; exact h), fun h => ⟨_, rfl, h⟩⟩
    simpa only [e] using h
  · rintro en w1 ⟨v, he, r, rfl, h⟩
    exact ⟨_, he, h⟩

def F_law27_ScriptReruns_k1 (R : Bool → World → Prop) (w1_19 : World) : Prop :=
  R false w1_19

def F_law27_ScriptReruns_k2 (bP : Option Addr) (bN : Nat) (bC : Nat) (R : Bool → World → Prop) (r : Nat) (t201 : Bool) (w1_20 : World) : Prop :=
  If (!t201)
  (R true w1_20)
  (∃ t480 : Int, w1_20.cell? ((⟨r, 0, none⟩ : Addr).add 0) = some (.int .i64 t480) ∧
  ∃ t481P : Option Addr, ∃ t481N : Nat, ∃ t481C : Nat, w1_20.cell? ((⟨r, 0, none⟩ : Addr).add 1) = some (.slice t481P t481N t481C) ∧
  ∃ t482 : Int, w1_20.cell? ((⟨r, 0, none⟩ : Addr).add 2) = some (.int .i64 t482) ∧
  ∃ t483 : Int, w1_20.cell? ((⟨r, 0, none⟩ : Addr).add 3) = some (.int .i64 t483) ∧
  ∃ t484 : Int, w1_20.cell? ((⟨r, 0, none⟩ : Addr).add 4) = some (.int .i64 t484) ∧
  ∃ t485 : Int, w1_20.cell? ((⟨r, 0, none⟩ : Addr).add 5) = some (.int .i64 t485) ∧
  C_script_EncodeRun t480 t481P t481N t481C t482 t483 t484 t485 w1_20 fun t490P t490N t490C t491 w1_21 =>
  If (t491 == (0 : Int))
  (Run Tryd.prog (convert 28 9 (.slice t490P t490N t490C)) w1_21 fun v w1_22 => ∃ t56 : ByteArray, v = (.string t56) ∧
  Run Tryd.prog (convert 28 9 (.slice bP bN bC)) w1_22 fun v_1 w1_23 => ∃ t58 : ByteArray, v_1 = (.string t58) ∧
  R (t56.toList == t58.toList) w1_23)
  (R false w1_21))

def F_law27_ScriptReruns (bP : Option Addr) (bN : Nat) (bC : Nat) (w : World) (R : Bool → World → Prop) : Prop :=
  If (decide ((bN : Int) > (5000 : Int)))
  (C_law27_lives  w fun t12 w1 =>
  R t12 w1)
  (C_script_DecodeRun bP bN bC w fun t1500 t1501P t1501N t1501C t1502 t1503 t1504 t1505 t151 w1_1 =>
  New w1_1 (.cells #[.int .i64 0, .slice none 0 0, .int .i64 0, .int .i64 0, .int .i64 0, .int .i64 0] 43) fun r w1_2 =>
  St w1_2 ((⟨r, 0, none⟩ : Addr).add 0) (.int .i64 t1500) fun w1_3 =>
  St w1_3 ((⟨r, 0, none⟩ : Addr).add 1) (.slice t1501P t1501N t1501C) fun w1_4 =>
  St w1_4 ((⟨r, 0, none⟩ : Addr).add 2) (.int .i64 t1502) fun w1_5 =>
  St w1_5 ((⟨r, 0, none⟩ : Addr).add 3) (.int .i64 t1503) fun w1_6 =>
  St w1_6 ((⟨r, 0, none⟩ : Addr).add 4) (.int .i64 t1504) fun w1_7 =>
  St w1_7 ((⟨r, 0, none⟩ : Addr).add 5) (.int .i64 t1505) fun w1_8 =>
  C_ref27_DecodeRun bP bN bC w1_8 fun t2000 t2001P t2001N t2001C t2002 t2003 t2004 t2005 t201 w1_9 =>
  New w1_9 (.cells #[.int .i64 0, .slice none 0 0, .int .i64 0, .int .i64 0, .int .i64 0, .int .i64 0] 43) fun r_1 w1_10 =>
  St w1_10 ((⟨r_1, 0, none⟩ : Addr).add 0) (.int .i64 t2000) fun w1_11 =>
  St w1_11 ((⟨r_1, 0, none⟩ : Addr).add 1) (.slice t2001P t2001N t2001C) fun w1_12 =>
  St w1_12 ((⟨r_1, 0, none⟩ : Addr).add 2) (.int .i64 t2002) fun w1_13 =>
  St w1_13 ((⟨r_1, 0, none⟩ : Addr).add 3) (.int .i64 t2003) fun w1_14 =>
  St w1_14 ((⟨r_1, 0, none⟩ : Addr).add 4) (.int .i64 t2004) fun w1_15 =>
  St w1_15 ((⟨r_1, 0, none⟩ : Addr).add 5) (.int .i64 t2005) fun w1_16 =>
  C_law27_lives  w1_16 fun t23 w1_17 =>
  If (!t23)
  (F_law27_ScriptReruns_k1 R w1_17)
  (∃ t260 : Int, w1_17.cell? ((⟨r, 0, none⟩ : Addr).add 0) = some (.int .i64 t260) ∧
  ∃ t261P : Option Addr, ∃ t261N : Nat, ∃ t261C : Nat, w1_17.cell? ((⟨r, 0, none⟩ : Addr).add 1) = some (.slice t261P t261N t261C) ∧
  ∃ t262 : Int, w1_17.cell? ((⟨r, 0, none⟩ : Addr).add 2) = some (.int .i64 t262) ∧
  ∃ t263 : Int, w1_17.cell? ((⟨r, 0, none⟩ : Addr).add 3) = some (.int .i64 t263) ∧
  ∃ t264 : Int, w1_17.cell? ((⟨r, 0, none⟩ : Addr).add 4) = some (.int .i64 t264) ∧
  ∃ t265 : Int, w1_17.cell? ((⟨r, 0, none⟩ : Addr).add 5) = some (.int .i64 t265) ∧
  ∃ t270 : Int, w1_17.cell? ((⟨r_1, 0, none⟩ : Addr).add 0) = some (.int .i64 t270) ∧
  ∃ t271P : Option Addr, ∃ t271N : Nat, ∃ t271C : Nat, w1_17.cell? ((⟨r_1, 0, none⟩ : Addr).add 1) = some (.slice t271P t271N t271C) ∧
  ∃ t272 : Int, w1_17.cell? ((⟨r_1, 0, none⟩ : Addr).add 2) = some (.int .i64 t272) ∧
  ∃ t273 : Int, w1_17.cell? ((⟨r_1, 0, none⟩ : Addr).add 3) = some (.int .i64 t273) ∧
  ∃ t274 : Int, w1_17.cell? ((⟨r_1, 0, none⟩ : Addr).add 4) = some (.int .i64 t274) ∧
  ∃ t275 : Int, w1_17.cell? ((⟨r_1, 0, none⟩ : Addr).add 5) = some (.int .i64 t275) ∧
  C_ref26_SameRun t260 t261P t261N t261C t262 t263 t264 t265 t270 t271P t271N t271C t272 t273 t274 t275 w1_17 fun t28 w1_18 =>
  If (!t28)
  (F_law27_ScriptReruns_k1 R w1_18)
  (If (!((t151 == (0 : Int)) == t201))
  (F_law27_ScriptReruns_k1 R w1_18)
  (If (!t201)
  (If (t151 != (270 : Int))
  (R false w1_18)
  (F_law27_ScriptReruns_k2 bP bN bC R r t201 w1_18))
  (F_law27_ScriptReruns_k2 bP bN bC R r t201 w1_18)))))

def G_law27_ScriptReruns : Gen where
  loop := lookL []
  plan := fun _ => none

theorem loops_law27_ScriptReruns : LoopOk Tryd.prog Tryd.f6.ntmps G_law27_ScriptReruns (codeOf Tryd.f6) := loopOk_none fun _ => rfl

theorem den_law27_ScriptReruns (bP : Option Addr) (bN : Nat) (bC : Nat) (w : World) (R : Value → World → Prop) :
    F_law27_ScriptReruns bP bN bC w (fun r w1 => R (.bool r) w1) = den Tryd.prog Tryd.f6.ntmps G_law27_ScriptReruns (codeOf Tryd.f6) [] (postD Tryd.prog Tryd.f6.results.toList R) (entry [.slice bP bN bC] 0) w := by kernel_rfl

theorem C_law27_ScriptReruns.of {bP : Option Addr} {bN : Nat} {bC : Nat} {w : World} {R : Bool → World → Prop} (h : F_law27_ScriptReruns bP bN bC w R) : C_law27_ScriptReruns bP bN bC w R := by
  refine (calls_of_den (c := codeOf Tryd.f6) seat_ok seat_mixed Tryd.func6 (by kernel_rfl) loops_law27_ScriptReruns (args := [.slice bP bN bC]) rfl (R := fun v w1 => ∃ (r : Bool), v = (.bool r : Value) ∧ R r w1) ?_).mono ?_
  · rw [← den_law27_ScriptReruns]
    have e : (fun r w1 => ∃ (r' : Bool), (.bool r : Value) = (.bool r' : Value) ∧ R r' w1) = R := by
      funext r w1
      exact propext ⟨fun ⟨r', he, h⟩ => by first | (simp at he; simp_all) | (cases he; exact h), fun h => ⟨_, rfl, h⟩⟩
    simpa only [e] using h
  · rintro en w1 ⟨v, he, r, rfl, h⟩
    exact ⟨_, he, h⟩

def F_law27_ScriptApart_k1 (R : Bool → World → Prop) (w1_2 : World) : Prop :=
  C_law27_lives  w1_2 fun t39 w1_3 =>
  R t39 w1_3

def F_law27_ScriptApart_k2 (R : Bool → World → Prop) (w1_8 : World) : Prop :=
  C_law27_lives  w1_8 fun t60 w1_9 =>
  R t60 w1_9

def F_law27_ScriptApart_k3 (R : Bool → World → Prop) (t4 : Bool) (w1_26 : World) : Prop :=
  R t4 w1_26

def F_law27_ScriptApart (a0 : ByteArray) (a1 : ByteArray) (a2 : Int) (a3 : Int) (a4 : Int) (a5 : Int) (a6 : Int) (a7 : Int) (a8P : Option Addr) (a8N : Nat) (a8C : Nat) (b0 : ByteArray) (b1 : ByteArray) (b2 : Int) (b3 : Int) (b4 : Int) (b5 : Int) (b6 : Int) (b7 : Int) (b8P : Option Addr) (b8N : Nat) (b8C : Nat) (w : World) (R : Bool → World → Prop) : Prop :=
  New w (.cells #[.string a0, .string a1, .int .i64 a2, .int .i64 a3, .int .i64 a4, .int .i64 a5, .int .i64 a6, .int .i64 a7, .slice a8P a8N a8C] 26) fun r w1 =>
  New w1 (.cells #[.string b0, .string b1, .int .i64 b2, .int .i64 b3, .int .i64 b4, .int .i64 b5, .int .i64 b6, .int .i64 b7, .slice b8P b8N b8C] 26) fun r_1 w1_1 =>
  ∃ CollectP : Option Addr, ∃ CollectN : Nat, ∃ CollectC : Nat, w1_1.cell? ((⟨r, 0, none⟩ : Addr).add 8) = some (.slice CollectP CollectN CollectC) ∧
  If (decide ((CollectN : Int) > (2000 : Int)))
  (F_law27_ScriptApart_k1 R w1_1)
  (∃ CollectP_1 : Option Addr, ∃ CollectN_1 : Nat, ∃ CollectC_1 : Nat, w1_1.cell? ((⟨r_1, 0, none⟩ : Addr).add 8) = some (.slice CollectP_1 CollectN_1 CollectC_1) ∧
  If (decide ((CollectN_1 : Int) > (2000 : Int)))
  (F_law27_ScriptApart_k1 R w1_1)
  (∃ Program : ByteArray, w1_1.cell? ((⟨r, 0, none⟩ : Addr).add 0) = some (.string Program) ∧
  ∃ Query : ByteArray, w1_1.cell? ((⟨r, 0, none⟩ : Addr).add 1) = some (.string Query) ∧
  If (decide ((IntKind.i64.wrap ((Program.size : Int) + (Query.size : Int))) > (131072 : Int)))
  (F_law27_ScriptApart_k1 R w1_1)
  (∃ Program_1 : ByteArray, w1_1.cell? ((⟨r_1, 0, none⟩ : Addr).add 0) = some (.string Program_1) ∧
  ∃ Query_1 : ByteArray, w1_1.cell? ((⟨r_1, 0, none⟩ : Addr).add 1) = some (.string Query_1) ∧
  If (decide ((IntKind.i64.wrap ((Program_1.size : Int) + (Query_1.size : Int))) > (131072 : Int)))
  (C_law27_lives  w1_1 fun t39_1 w1_4 =>
  R t39_1 w1_4)
  (∃ t410 : ByteArray, w1_1.cell? ((⟨r, 0, none⟩ : Addr).add 0) = some (.string t410) ∧
  ∃ t411 : ByteArray, w1_1.cell? ((⟨r, 0, none⟩ : Addr).add 1) = some (.string t411) ∧
  ∃ t412 : Int, w1_1.cell? ((⟨r, 0, none⟩ : Addr).add 2) = some (.int .i64 t412) ∧
  ∃ t413 : Int, w1_1.cell? ((⟨r, 0, none⟩ : Addr).add 3) = some (.int .i64 t413) ∧
  ∃ t414 : Int, w1_1.cell? ((⟨r, 0, none⟩ : Addr).add 4) = some (.int .i64 t414) ∧
  ∃ t415 : Int, w1_1.cell? ((⟨r, 0, none⟩ : Addr).add 5) = some (.int .i64 t415) ∧
  ∃ t416 : Int, w1_1.cell? ((⟨r, 0, none⟩ : Addr).add 6) = some (.int .i64 t416) ∧
  ∃ t417 : Int, w1_1.cell? ((⟨r, 0, none⟩ : Addr).add 7) = some (.int .i64 t417) ∧
  ∃ t418P : Option Addr, ∃ t418N : Nat, ∃ t418C : Nat, w1_1.cell? ((⟨r, 0, none⟩ : Addr).add 8) = some (.slice t418P t418N t418C) ∧
  C_script_Encode t410 t411 t412 t413 t414 t415 t416 t417 t418P t418N t418C w1_1 fun t420P t420N t420C t421 w1_5 =>
  ∃ t460 : ByteArray, w1_5.cell? ((⟨r_1, 0, none⟩ : Addr).add 0) = some (.string t460) ∧
  ∃ t461 : ByteArray, w1_5.cell? ((⟨r_1, 0, none⟩ : Addr).add 1) = some (.string t461) ∧
  ∃ t462 : Int, w1_5.cell? ((⟨r_1, 0, none⟩ : Addr).add 2) = some (.int .i64 t462) ∧
  ∃ t463 : Int, w1_5.cell? ((⟨r_1, 0, none⟩ : Addr).add 3) = some (.int .i64 t463) ∧
  ∃ t464 : Int, w1_5.cell? ((⟨r_1, 0, none⟩ : Addr).add 4) = some (.int .i64 t464) ∧
  ∃ t465 : Int, w1_5.cell? ((⟨r_1, 0, none⟩ : Addr).add 5) = some (.int .i64 t465) ∧
  ∃ t466 : Int, w1_5.cell? ((⟨r_1, 0, none⟩ : Addr).add 6) = some (.int .i64 t466) ∧
  ∃ t467 : Int, w1_5.cell? ((⟨r_1, 0, none⟩ : Addr).add 7) = some (.int .i64 t467) ∧
  ∃ t468P : Option Addr, ∃ t468N : Nat, ∃ t468C : Nat, w1_5.cell? ((⟨r_1, 0, none⟩ : Addr).add 8) = some (.slice t468P t468N t468C) ∧
  C_script_Encode t460 t461 t462 t463 t464 t465 t466 t467 t468P t468N t468C w1_5 fun t470P t470N t470C t471 w1_6 =>
  C_law27_lives  w1_6 fun t50 w1_7 =>
  If (!t50)
  (F_law27_ScriptApart_k2 R w1_7)
  (If (t421 != (0 : Int))
  (F_law27_ScriptApart_k2 R w1_7)
  (If (t471 != (0 : Int))
  (C_law27_lives  w1_7 fun t60_1 w1_10 =>
  R t60_1 w1_10)
  (∃ t660 : ByteArray, (drw w1_7).cell? ((⟨r, 0, none⟩ : Addr).add 0) = some (.string t660) ∧
  ∃ t661 : ByteArray, (drw w1_7).cell? ((⟨r, 0, none⟩ : Addr).add 1) = some (.string t661) ∧
  ∃ t662 : Int, (drw w1_7).cell? ((⟨r, 0, none⟩ : Addr).add 2) = some (.int .i64 t662) ∧
  ∃ t663 : Int, (drw w1_7).cell? ((⟨r, 0, none⟩ : Addr).add 3) = some (.int .i64 t663) ∧
  ∃ t664 : Int, (drw w1_7).cell? ((⟨r, 0, none⟩ : Addr).add 4) = some (.int .i64 t664) ∧
  ∃ t665 : Int, (drw w1_7).cell? ((⟨r, 0, none⟩ : Addr).add 5) = some (.int .i64 t665) ∧
  ∃ t666 : Int, (drw w1_7).cell? ((⟨r, 0, none⟩ : Addr).add 6) = some (.int .i64 t666) ∧
  ∃ t667 : Int, (drw w1_7).cell? ((⟨r, 0, none⟩ : Addr).add 7) = some (.int .i64 t667) ∧
  ∃ t668P : Option Addr, ∃ t668N : Nat, ∃ t668C : Nat, (drw w1_7).cell? ((⟨r, 0, none⟩ : Addr).add 8) = some (.slice t668P t668N t668C) ∧
  ∃ t670 : ByteArray, (drw w1_7).cell? ((⟨r_1, 0, none⟩ : Addr).add 0) = some (.string t670) ∧
  ∃ t671 : ByteArray, (drw w1_7).cell? ((⟨r_1, 0, none⟩ : Addr).add 1) = some (.string t671) ∧
  ∃ t672 : Int, (drw w1_7).cell? ((⟨r_1, 0, none⟩ : Addr).add 2) = some (.int .i64 t672) ∧
  ∃ t673 : Int, (drw w1_7).cell? ((⟨r_1, 0, none⟩ : Addr).add 3) = some (.int .i64 t673) ∧
  ∃ t674 : Int, (drw w1_7).cell? ((⟨r_1, 0, none⟩ : Addr).add 4) = some (.int .i64 t674) ∧
  ∃ t675 : Int, (drw w1_7).cell? ((⟨r_1, 0, none⟩ : Addr).add 5) = some (.int .i64 t675) ∧
  ∃ t676 : Int, (drw w1_7).cell? ((⟨r_1, 0, none⟩ : Addr).add 6) = some (.int .i64 t676) ∧
  ∃ t677 : Int, (drw w1_7).cell? ((⟨r_1, 0, none⟩ : Addr).add 7) = some (.int .i64 t677) ∧
  ∃ t678P : Option Addr, ∃ t678N : Nat, ∃ t678C : Nat, (drw w1_7).cell? ((⟨r_1, 0, none⟩ : Addr).add 8) = some (.slice t678P t678N t678C) ∧
  (Run Tryd.prog (convert 28 9 (.slice t420P t420N t420C)) (drw w1_7) fun v w1_11 => ∃ t62 : ByteArray, v = (.string t62) ∧
  (∀ i, i < 9 → w1_11.cell? ((⟨r_1, 0, none⟩ : Addr).add i) = (drw w1_7).cell? ((⟨r_1, 0, none⟩ : Addr).add i)) ∧
  (∀ i, i < 9 → w1_11.cell? ((⟨r, 0, none⟩ : Addr).add i) = (drw w1_7).cell? ((⟨r, 0, none⟩ : Addr).add i)) ∧
  (Run Tryd.prog (convert 28 9 (.slice t470P t470N t470C)) w1_11 fun v_1 w1_12 => ∃ t64 : ByteArray, v_1 = (.string t64) ∧
  (∀ i, i < 9 → w1_12.cell? ((⟨r_1, 0, none⟩ : Addr).add i) = (drw w1_7).cell? ((⟨r_1, 0, none⟩ : Addr).add i)) ∧
  (∀ i, i < 9 → w1_12.cell? ((⟨r, 0, none⟩ : Addr).add i) = (drw w1_7).cell? ((⟨r, 0, none⟩ : Addr).add i)) ∧
  C_ref27_Same t660 t661 t662 t663 t664 t665 t666 t667 t668P t668N t668C t670 t671 t672 t673 t674 t675 t676 t677 t678P t678N t678C w1_12 fun t68 w1_13 =>
  F_law27_ScriptApart_k3 R ((t62.toList == t64.toList) == t68) w1_13) ∧
  (C_ref27_Same t660 t661 t662 t663 t664 t665 t666 t667 t668P t668N t668C t670 t671 t672 t673 t674 t675 t676 t677 t678P t678N t678C w1_11 fun t68_1 w1_14 =>
  Run Tryd.prog (convert 28 9 (.slice t470P t470N t470C)) w1_14 fun v_2 w1_15 => ∃ t64_1 : ByteArray, v_2 = (.string t64_1) ∧
  F_law27_ScriptApart_k3 R ((t62.toList == t64_1.toList) == t68_1) w1_15)) ∧
  (Run Tryd.prog (convert 28 9 (.slice t470P t470N t470C)) (drw w1_7) fun v_3 w1_16 => ∃ t64_2 : ByteArray, v_3 = (.string t64_2) ∧
  (∀ i, i < 9 → w1_16.cell? ((⟨r_1, 0, none⟩ : Addr).add i) = (drw w1_7).cell? ((⟨r_1, 0, none⟩ : Addr).add i)) ∧
  (∀ i, i < 9 → w1_16.cell? ((⟨r, 0, none⟩ : Addr).add i) = (drw w1_7).cell? ((⟨r, 0, none⟩ : Addr).add i)) ∧
  (Run Tryd.prog (convert 28 9 (.slice t420P t420N t420C)) w1_16 fun v_4 w1_17 => ∃ t62_1 : ByteArray, v_4 = (.string t62_1) ∧
  (∀ i, i < 9 → w1_17.cell? ((⟨r_1, 0, none⟩ : Addr).add i) = (drw w1_7).cell? ((⟨r_1, 0, none⟩ : Addr).add i)) ∧
  (∀ i, i < 9 → w1_17.cell? ((⟨r, 0, none⟩ : Addr).add i) = (drw w1_7).cell? ((⟨r, 0, none⟩ : Addr).add i)) ∧
  C_ref27_Same t660 t661 t662 t663 t664 t665 t666 t667 t668P t668N t668C t670 t671 t672 t673 t674 t675 t676 t677 t678P t678N t678C w1_17 fun t68_2 w1_18 =>
  F_law27_ScriptApart_k3 R ((t62_1.toList == t64_2.toList) == t68_2) w1_18) ∧
  (C_ref27_Same t660 t661 t662 t663 t664 t665 t666 t667 t668P t668N t668C t670 t671 t672 t673 t674 t675 t676 t677 t678P t678N t678C w1_16 fun t68_3 w1_19 =>
  Run Tryd.prog (convert 28 9 (.slice t420P t420N t420C)) w1_19 fun v_5 w1_20 => ∃ t62_2 : ByteArray, v_5 = (.string t62_2) ∧
  F_law27_ScriptApart_k3 R ((t62_2.toList == t64_2.toList) == t68_3) w1_20)) ∧
  (C_ref27_Same t660 t661 t662 t663 t664 t665 t666 t667 t668P t668N t668C t670 t671 t672 t673 t674 t675 t676 t677 t678P t678N t678C (drw w1_7) fun t68_4 w1_21 =>
  (Run Tryd.prog (convert 28 9 (.slice t420P t420N t420C)) w1_21 fun v_6 w1_22 => ∃ t62_3 : ByteArray, v_6 = (.string t62_3) ∧
  Run Tryd.prog (convert 28 9 (.slice t470P t470N t470C)) w1_22 fun v_7 w1_23 => ∃ t64_3 : ByteArray, v_7 = (.string t64_3) ∧
  F_law27_ScriptApart_k3 R ((t62_3.toList == t64_3.toList) == t68_4) w1_23) ∧
  (Run Tryd.prog (convert 28 9 (.slice t470P t470N t470C)) w1_21 fun v_8 w1_24 => ∃ t64_4 : ByteArray, v_8 = (.string t64_4) ∧
  Run Tryd.prog (convert 28 9 (.slice t420P t420N t420C)) w1_24 fun v_9 w1_25 => ∃ t62_4 : ByteArray, v_9 = (.string t62_4) ∧
  F_law27_ScriptApart_k3 R ((t62_4.toList == t64_4.toList) == t68_4) w1_25)))))))))

def G_law27_ScriptApart : Gen where
  loop := lookL []
  plan := fun id =>
    bif Nat.beq id 7 then some ([0, 1, 0, 4, 15, 0, 0, 96, 255, 511], .take 0 (.take 2 (.take 5 (.take 6 (.three 1 (.both 3 (.take 4 (.take 7 (.take 8 (.take 9 .done)))) 7 (.take 3 (.take 4 (.take 8 (.take 9 .done))))) 3 (.both 1 (.take 4 (.take 7 (.take 8 (.take 9 .done)))) 7 (.take 1 (.take 4 (.take 8 (.take 9 .done))))) 7 (.both 1 (.take 3 (.take 4 (.take 8 (.take 9 .done)))) 3 (.take 1 (.take 4 (.take 8 (.take 9 .done)))))))))) else none

theorem loops_law27_ScriptApart : LoopOk Tryd.prog Tryd.f7.ntmps G_law27_ScriptApart (codeOf Tryd.f7) := loopOk_none fun _ => rfl

theorem den_law27_ScriptApart (a0 : ByteArray) (a1 : ByteArray) (a2 : Int) (a3 : Int) (a4 : Int) (a5 : Int) (a6 : Int) (a7 : Int) (a8P : Option Addr) (a8N : Nat) (a8C : Nat) (b0 : ByteArray) (b1 : ByteArray) (b2 : Int) (b3 : Int) (b4 : Int) (b5 : Int) (b6 : Int) (b7 : Int) (b8P : Option Addr) (b8N : Nat) (b8C : Nat) (w : World) (R : Value → World → Prop) :
    F_law27_ScriptApart a0 a1 a2 a3 a4 a5 a6 a7 a8P a8N a8C b0 b1 b2 b3 b4 b5 b6 b7 b8P b8N b8C w (fun r w1 => R (.bool r) w1) = den Tryd.prog Tryd.f7.ntmps G_law27_ScriptApart (codeOf Tryd.f7) [] (postD Tryd.prog Tryd.f7.results.toList R) (entry [.agg #[.string a0, .string a1, .int .i64 a2, .int .i64 a3, .int .i64 a4, .int .i64 a5, .int .i64 a6, .int .i64 a7, .slice a8P a8N a8C], .agg #[.string b0, .string b1, .int .i64 b2, .int .i64 b3, .int .i64 b4, .int .i64 b5, .int .i64 b6, .int .i64 b7, .slice b8P b8N b8C]] 0) w := by kernel_rfl

theorem C_law27_ScriptApart.of {a0 : ByteArray} {a1 : ByteArray} {a2 : Int} {a3 : Int} {a4 : Int} {a5 : Int} {a6 : Int} {a7 : Int} {a8P : Option Addr} {a8N : Nat} {a8C : Nat} {b0 : ByteArray} {b1 : ByteArray} {b2 : Int} {b3 : Int} {b4 : Int} {b5 : Int} {b6 : Int} {b7 : Int} {b8P : Option Addr} {b8N : Nat} {b8C : Nat} {w : World} {R : Bool → World → Prop} (h : F_law27_ScriptApart a0 a1 a2 a3 a4 a5 a6 a7 a8P a8N a8C b0 b1 b2 b3 b4 b5 b6 b7 b8P b8N b8C w R) : C_law27_ScriptApart a0 a1 a2 a3 a4 a5 a6 a7 a8P a8N a8C b0 b1 b2 b3 b4 b5 b6 b7 b8P b8N b8C w R := by
  refine (calls_of_den (c := codeOf Tryd.f7) seat_ok seat_mixed Tryd.func7 (by kernel_rfl) loops_law27_ScriptApart (args := [.agg #[.string a0, .string a1, .int .i64 a2, .int .i64 a3, .int .i64 a4, .int .i64 a5, .int .i64 a6, .int .i64 a7, .slice a8P a8N a8C], .agg #[.string b0, .string b1, .int .i64 b2, .int .i64 b3, .int .i64 b4, .int .i64 b5, .int .i64 b6, .int .i64 b7, .slice b8P b8N b8C]]) rfl (R := fun v w1 => ∃ (r : Bool), v = (.bool r : Value) ∧ R r w1) ?_).mono ?_
  · rw [← den_law27_ScriptApart]
    have e : (fun r w1 => ∃ (r' : Bool), (.bool r : Value) = (.bool r' : Value) ∧ R r' w1) = R := by
      funext r w1
      exact propext ⟨fun ⟨r', he, h⟩ => by first | (simp at he; simp_all) | (cases he; exact h), fun h => ⟨_, rfl, h⟩⟩
    simpa only [e] using h
  · rintro en w1 ⟨v, he, r, rfl, h⟩
    exact ⟨_, he, h⟩

def F_law27_lives_k1 (R : Bool → World → Prop) (w1_55 : World) : Prop :=
  R false w1_55

def F_law27_lives (w : World) (R : Bool → World → Prop) : Prop :=
  BSl Tryd.prog 24 1 [(0, .int .i64 64)] w fun t13P t13N t13C w1 =>
  New w1 (.cells #[.string ⟨#[]⟩, .string ⟨#[]⟩, .int .i64 0, .int .i64 0, .int .i64 0, .int .i64 0, .int .i64 0, .int .i64 0, .slice none 0 0] 26) fun r w1_1 =>
  St w1_1 ((⟨r, 0, none⟩ : Addr).add 0) (.string ⟨#[97, 46]⟩) fun w1_2 =>
  St w1_2 ((⟨r, 0, none⟩ : Addr).add 1) (.string ⟨#[98, 46]⟩) fun w1_3 =>
  St w1_3 ((⟨r, 0, none⟩ : Addr).add 2) (.int .i64 0) fun w1_4 =>
  St w1_4 ((⟨r, 0, none⟩ : Addr).add 3) (.int .i64 0) fun w1_5 =>
  St w1_5 ((⟨r, 0, none⟩ : Addr).add 4) (.int .i64 0) fun w1_6 =>
  St w1_6 ((⟨r, 0, none⟩ : Addr).add 5) (.int .i64 0) fun w1_7 =>
  St w1_7 ((⟨r, 0, none⟩ : Addr).add 6) (.int .i64 0) fun w1_8 =>
  St w1_8 ((⟨r, 0, none⟩ : Addr).add 7) (.int .i64 (-1)) fun w1_9 =>
  St w1_9 ((⟨r, 0, none⟩ : Addr).add 8) (.slice t13P t13N t13C) fun w1_10 =>
  ∃ t160 : ByteArray, w1_10.cell? ((⟨r, 0, none⟩ : Addr).add 0) = some (.string t160) ∧
  ∃ t161 : ByteArray, w1_10.cell? ((⟨r, 0, none⟩ : Addr).add 1) = some (.string t161) ∧
  ∃ t162 : Int, w1_10.cell? ((⟨r, 0, none⟩ : Addr).add 2) = some (.int .i64 t162) ∧
  ∃ t163 : Int, w1_10.cell? ((⟨r, 0, none⟩ : Addr).add 3) = some (.int .i64 t163) ∧
  ∃ t164 : Int, w1_10.cell? ((⟨r, 0, none⟩ : Addr).add 4) = some (.int .i64 t164) ∧
  ∃ t165 : Int, w1_10.cell? ((⟨r, 0, none⟩ : Addr).add 5) = some (.int .i64 t165) ∧
  ∃ t166 : Int, w1_10.cell? ((⟨r, 0, none⟩ : Addr).add 6) = some (.int .i64 t166) ∧
  ∃ t167 : Int, w1_10.cell? ((⟨r, 0, none⟩ : Addr).add 7) = some (.int .i64 t167) ∧
  ∃ t168P : Option Addr, ∃ t168N : Nat, ∃ t168C : Nat, w1_10.cell? ((⟨r, 0, none⟩ : Addr).add 8) = some (.slice t168P t168N t168C) ∧
  C_script_Encode t160 t161 t162 t163 t164 t165 t166 t167 t168P t168N t168C w1_10 fun t170P t170N t170C t171 w1_11 =>
  C_script_Decode t170P t170N t170C w1_11 fun t2200 t2201 t2202 t2203 t2204 t2205 t2206 t2207 t2208P t2208N t2208C t221 w1_12 =>
  New w1_12 (.cells #[.string ⟨#[]⟩, .string ⟨#[]⟩, .int .i64 0, .int .i64 0, .int .i64 0, .int .i64 0, .int .i64 0, .int .i64 0, .slice none 0 0] 26) fun r_1 w1_13 =>
  St w1_13 ((⟨r_1, 0, none⟩ : Addr).add 0) (.string t2200) fun w1_14 =>
  St w1_14 ((⟨r_1, 0, none⟩ : Addr).add 1) (.string t2201) fun w1_15 =>
  St w1_15 ((⟨r_1, 0, none⟩ : Addr).add 2) (.int .i64 t2202) fun w1_16 =>
  St w1_16 ((⟨r_1, 0, none⟩ : Addr).add 3) (.int .i64 t2203) fun w1_17 =>
  St w1_17 ((⟨r_1, 0, none⟩ : Addr).add 4) (.int .i64 t2204) fun w1_18 =>
  St w1_18 ((⟨r_1, 0, none⟩ : Addr).add 5) (.int .i64 t2205) fun w1_19 =>
  St w1_19 ((⟨r_1, 0, none⟩ : Addr).add 6) (.int .i64 t2206) fun w1_20 =>
  St w1_20 ((⟨r_1, 0, none⟩ : Addr).add 7) (.int .i64 t2207) fun w1_21 =>
  St w1_21 ((⟨r_1, 0, none⟩ : Addr).add 8) (.slice t2208P t2208N t2208C) fun w1_22 =>
  BSl Tryd.prog 28 1 [(0, .int .u8 1)] w1_22 fun t26P t26N t26C w1_23 =>
  C_script_Decode t26P t26N t26C w1_23 fun t2700 t2701 t2702 t2703 t2704 t2705 t2706 t2707 t2708P t2708N t2708C t271 w1_24 =>
  New w1_24 (.cells #[.string ⟨#[]⟩, .string ⟨#[]⟩, .int .i64 0, .int .i64 0, .int .i64 0, .int .i64 0, .int .i64 0, .int .i64 0, .slice none 0 0] 26) fun r_2 w1_25 =>
  St w1_25 ((⟨r_2, 0, none⟩ : Addr).add 0) (.string t2700) fun w1_26 =>
  St w1_26 ((⟨r_2, 0, none⟩ : Addr).add 1) (.string t2701) fun w1_27 =>
  St w1_27 ((⟨r_2, 0, none⟩ : Addr).add 2) (.int .i64 t2702) fun w1_28 =>
  St w1_28 ((⟨r_2, 0, none⟩ : Addr).add 3) (.int .i64 t2703) fun w1_29 =>
  St w1_29 ((⟨r_2, 0, none⟩ : Addr).add 4) (.int .i64 t2704) fun w1_30 =>
  St w1_30 ((⟨r_2, 0, none⟩ : Addr).add 5) (.int .i64 t2705) fun w1_31 =>
  St w1_31 ((⟨r_2, 0, none⟩ : Addr).add 6) (.int .i64 t2706) fun w1_32 =>
  St w1_32 ((⟨r_2, 0, none⟩ : Addr).add 7) (.int .i64 t2707) fun w1_33 =>
  St w1_33 ((⟨r_2, 0, none⟩ : Addr).add 8) (.slice t2708P t2708N t2708C) fun w1_34 =>
  BSl Tryd.prog 41 2 [(0, .agg #[.int .i64 1, .string ⟨#[88, 32, 61, 32, 49]⟩]), (1, .agg #[.int .i64 4, .string ⟨#[]⟩])] w1_34 fun t32P t32N t32C w1_35 =>
  New w1_35 (.cells #[.int .i64 0, .slice none 0 0, .int .i64 0, .int .i64 0, .int .i64 0, .int .i64 0] 43) fun r_3 w1_36 =>
  St w1_36 ((⟨r_3, 0, none⟩ : Addr).add 0) (.int .i64 4) fun w1_37 =>
  St w1_37 ((⟨r_3, 0, none⟩ : Addr).add 1) (.slice t32P t32N t32C) fun w1_38 =>
  St w1_38 ((⟨r_3, 0, none⟩ : Addr).add 2) (.int .i64 5) fun w1_39 =>
  St w1_39 ((⟨r_3, 0, none⟩ : Addr).add 3) (.int .i64 0) fun w1_40 =>
  St w1_40 ((⟨r_3, 0, none⟩ : Addr).add 4) (.int .i64 0) fun w1_41 =>
  St w1_41 ((⟨r_3, 0, none⟩ : Addr).add 5) (.int .i64 0) fun w1_42 =>
  ∃ t350 : Int, w1_42.cell? ((⟨r_3, 0, none⟩ : Addr).add 0) = some (.int .i64 t350) ∧
  ∃ t351P : Option Addr, ∃ t351N : Nat, ∃ t351C : Nat, w1_42.cell? ((⟨r_3, 0, none⟩ : Addr).add 1) = some (.slice t351P t351N t351C) ∧
  ∃ t352 : Int, w1_42.cell? ((⟨r_3, 0, none⟩ : Addr).add 2) = some (.int .i64 t352) ∧
  ∃ t353 : Int, w1_42.cell? ((⟨r_3, 0, none⟩ : Addr).add 3) = some (.int .i64 t353) ∧
  ∃ t354 : Int, w1_42.cell? ((⟨r_3, 0, none⟩ : Addr).add 4) = some (.int .i64 t354) ∧
  ∃ t355 : Int, w1_42.cell? ((⟨r_3, 0, none⟩ : Addr).add 5) = some (.int .i64 t355) ∧
  C_script_EncodeRun t350 t351P t351N t351C t352 t353 t354 t355 w1_42 fun t360P t360N t360C t361 w1_43 =>
  C_script_DecodeRun t360P t360N t360C w1_43 fun t4100 t4101P t4101N t4101C t4102 t4103 t4104 t4105 t411 w1_44 =>
  New w1_44 (.cells #[.int .i64 0, .slice none 0 0, .int .i64 0, .int .i64 0, .int .i64 0, .int .i64 0] 43) fun r_4 w1_45 =>
  St w1_45 ((⟨r_4, 0, none⟩ : Addr).add 0) (.int .i64 t4100) fun w1_46 =>
  St w1_46 ((⟨r_4, 0, none⟩ : Addr).add 1) (.slice t4101P t4101N t4101C) fun w1_47 =>
  St w1_47 ((⟨r_4, 0, none⟩ : Addr).add 2) (.int .i64 t4102) fun w1_48 =>
  St w1_48 ((⟨r_4, 0, none⟩ : Addr).add 3) (.int .i64 t4103) fun w1_49 =>
  St w1_49 ((⟨r_4, 0, none⟩ : Addr).add 4) (.int .i64 t4104) fun w1_50 =>
  St w1_50 ((⟨r_4, 0, none⟩ : Addr).add 5) (.int .i64 t4105) fun w1_51 =>
  If (t171 == (0 : Int))
  (If ((t170N : Int) == (15 : Int))
  (0 ≤ (0 : Int) ∧ (0 : Int) < (t170N : Int) ∧ NN t170P fun a =>
  ∃ t54 : Int, w1_51.cell? (a.add ((0 : Int).toNat * 1)) = some (.int .u8 t54) ∧
  If (t54 == (4 : Int))
  (0 ≤ (11 : Int) ∧ (11 : Int) < (t170N : Int) ∧ NN t170P fun a_1 =>
  ∃ t60 : Int, w1_51.cell? (a_1.add ((11 : Int).toNat * 1)) = some (.int .u8 t60) ∧
  If (t60 == (1 : Int))
  (0 ≤ (13 : Int) ∧ (13 : Int) < (t170N : Int) ∧ NN t170P fun a_2 =>
  ∃ t66 : Int, w1_51.cell? (a_2.add ((13 : Int).toNat * 1)) = some (.int .u8 t66) ∧
  If (t66 == (128 : Int))
  (0 ≤ (14 : Int) ∧ (14 : Int) < (t170N : Int) ∧ NN t170P fun a_3 =>
  ∃ t72 : Int, w1_51.cell? (a_3.add ((14 : Int).toNat * 1)) = some (.int .u8 t72) ∧
  If (t72 == (1 : Int))
  (If (t221 == (0 : Int))
  (∃ t800 : ByteArray, w1_51.cell? ((⟨r_1, 0, none⟩ : Addr).add 0) = some (.string t800) ∧
  ∃ t801 : ByteArray, w1_51.cell? ((⟨r_1, 0, none⟩ : Addr).add 1) = some (.string t801) ∧
  ∃ t802 : Int, w1_51.cell? ((⟨r_1, 0, none⟩ : Addr).add 2) = some (.int .i64 t802) ∧
  ∃ t803 : Int, w1_51.cell? ((⟨r_1, 0, none⟩ : Addr).add 3) = some (.int .i64 t803) ∧
  ∃ t804 : Int, w1_51.cell? ((⟨r_1, 0, none⟩ : Addr).add 4) = some (.int .i64 t804) ∧
  ∃ t805 : Int, w1_51.cell? ((⟨r_1, 0, none⟩ : Addr).add 5) = some (.int .i64 t805) ∧
  ∃ t806 : Int, w1_51.cell? ((⟨r_1, 0, none⟩ : Addr).add 6) = some (.int .i64 t806) ∧
  ∃ t807 : Int, w1_51.cell? ((⟨r_1, 0, none⟩ : Addr).add 7) = some (.int .i64 t807) ∧
  ∃ t808P : Option Addr, ∃ t808N : Nat, ∃ t808C : Nat, w1_51.cell? ((⟨r_1, 0, none⟩ : Addr).add 8) = some (.slice t808P t808N t808C) ∧
  ∃ t810 : ByteArray, w1_51.cell? ((⟨r, 0, none⟩ : Addr).add 0) = some (.string t810) ∧
  ∃ t811 : ByteArray, w1_51.cell? ((⟨r, 0, none⟩ : Addr).add 1) = some (.string t811) ∧
  ∃ t812 : Int, w1_51.cell? ((⟨r, 0, none⟩ : Addr).add 2) = some (.int .i64 t812) ∧
  ∃ t813 : Int, w1_51.cell? ((⟨r, 0, none⟩ : Addr).add 3) = some (.int .i64 t813) ∧
  ∃ t814 : Int, w1_51.cell? ((⟨r, 0, none⟩ : Addr).add 4) = some (.int .i64 t814) ∧
  ∃ t815 : Int, w1_51.cell? ((⟨r, 0, none⟩ : Addr).add 5) = some (.int .i64 t815) ∧
  ∃ t816 : Int, w1_51.cell? ((⟨r, 0, none⟩ : Addr).add 6) = some (.int .i64 t816) ∧
  ∃ t817 : Int, w1_51.cell? ((⟨r, 0, none⟩ : Addr).add 7) = some (.int .i64 t817) ∧
  ∃ t818P : Option Addr, ∃ t818N : Nat, ∃ t818C : Nat, w1_51.cell? ((⟨r, 0, none⟩ : Addr).add 8) = some (.slice t818P t818N t818C) ∧
  C_ref27_Same t800 t801 t802 t803 t804 t805 t806 t807 t808P t808N t808C t810 t811 t812 t813 t814 t815 t816 t817 t818P t818N t818C w1_51 fun t82 w1_52 =>
  If t82
  (If (t271 == (270 : Int))
  (If (t361 == (0 : Int))
  (If (t411 == (0 : Int))
  (∃ t970 : Int, w1_52.cell? ((⟨r_4, 0, none⟩ : Addr).add 0) = some (.int .i64 t970) ∧
  ∃ t971P : Option Addr, ∃ t971N : Nat, ∃ t971C : Nat, w1_52.cell? ((⟨r_4, 0, none⟩ : Addr).add 1) = some (.slice t971P t971N t971C) ∧
  ∃ t972 : Int, w1_52.cell? ((⟨r_4, 0, none⟩ : Addr).add 2) = some (.int .i64 t972) ∧
  ∃ t973 : Int, w1_52.cell? ((⟨r_4, 0, none⟩ : Addr).add 3) = some (.int .i64 t973) ∧
  ∃ t974 : Int, w1_52.cell? ((⟨r_4, 0, none⟩ : Addr).add 4) = some (.int .i64 t974) ∧
  ∃ t975 : Int, w1_52.cell? ((⟨r_4, 0, none⟩ : Addr).add 5) = some (.int .i64 t975) ∧
  ∃ t980 : Int, w1_52.cell? ((⟨r_3, 0, none⟩ : Addr).add 0) = some (.int .i64 t980) ∧
  ∃ t981P : Option Addr, ∃ t981N : Nat, ∃ t981C : Nat, w1_52.cell? ((⟨r_3, 0, none⟩ : Addr).add 1) = some (.slice t981P t981N t981C) ∧
  ∃ t982 : Int, w1_52.cell? ((⟨r_3, 0, none⟩ : Addr).add 2) = some (.int .i64 t982) ∧
  ∃ t983 : Int, w1_52.cell? ((⟨r_3, 0, none⟩ : Addr).add 3) = some (.int .i64 t983) ∧
  ∃ t984 : Int, w1_52.cell? ((⟨r_3, 0, none⟩ : Addr).add 4) = some (.int .i64 t984) ∧
  ∃ t985 : Int, w1_52.cell? ((⟨r_3, 0, none⟩ : Addr).add 5) = some (.int .i64 t985) ∧
  C_ref26_SameRun t970 t971P t971N t971C t972 t973 t974 t975 t980 t981P t981N t981C t982 t983 t984 t985 w1_52 fun t99 w1_53 =>
  If t99
  (∃ t1020 : Int, w1_53.cell? ((⟨r_3, 0, none⟩ : Addr).add 0) = some (.int .i64 t1020) ∧
  ∃ t1021P : Option Addr, ∃ t1021N : Nat, ∃ t1021C : Nat, w1_53.cell? ((⟨r_3, 0, none⟩ : Addr).add 1) = some (.slice t1021P t1021N t1021C) ∧
  ∃ t1022 : Int, w1_53.cell? ((⟨r_3, 0, none⟩ : Addr).add 2) = some (.int .i64 t1022) ∧
  ∃ t1023 : Int, w1_53.cell? ((⟨r_3, 0, none⟩ : Addr).add 3) = some (.int .i64 t1023) ∧
  ∃ t1024 : Int, w1_53.cell? ((⟨r_3, 0, none⟩ : Addr).add 4) = some (.int .i64 t1024) ∧
  ∃ t1025 : Int, w1_53.cell? ((⟨r_3, 0, none⟩ : Addr).add 5) = some (.int .i64 t1025) ∧
  C_script_Listing t1020 t1021P t1021N t1021C t1022 t1023 t1024 t1025 w1_53 fun t103 w1_54 =>
  R (t103.toList == (⟨#[97, 110, 115, 119, 101, 114, 32, 39, 88, 32, 61, 32, 49, 39, 10, 110, 111, 10, 100, 111, 110, 101, 10]⟩ : ByteArray).toList) w1_54)
  (F_law27_lives_k1 R w1_53))
  (F_law27_lives_k1 R w1_52))
  (F_law27_lives_k1 R w1_52))
  (F_law27_lives_k1 R w1_52))
  (F_law27_lives_k1 R w1_52))
  (F_law27_lives_k1 R w1_51))
  (F_law27_lives_k1 R w1_51))
  (F_law27_lives_k1 R w1_51))
  (F_law27_lives_k1 R w1_51))
  (F_law27_lives_k1 R w1_51))
  (F_law27_lives_k1 R w1_51))
  (F_law27_lives_k1 R w1_51)

def G_law27_lives : Gen where
  loop := lookL []
  plan := fun _ => none

theorem loops_law27_lives : LoopOk Tryd.prog Tryd.f8.ntmps G_law27_lives (codeOf Tryd.f8) := loopOk_none fun _ => rfl

theorem den_law27_lives  (w : World) (R : Value → World → Prop) :
    F_law27_lives w (fun r w1 => R (.bool r) w1) = den Tryd.prog Tryd.f8.ntmps G_law27_lives (codeOf Tryd.f8) [] (postD Tryd.prog Tryd.f8.results.toList R) (entry [] 0) w := by kernel_rfl

theorem C_law27_lives.of {w : World} {R : Bool → World → Prop} (h : F_law27_lives w R) : C_law27_lives w R := by
  refine (calls_of_den (c := codeOf Tryd.f8) seat_ok seat_mixed Tryd.func8 (by kernel_rfl) loops_law27_lives (args := []) rfl (R := fun v w1 => ∃ (r : Bool), v = (.bool r : Value) ∧ R r w1) ?_).mono ?_
  · rw [← den_law27_lives]
    have e : (fun r w1 => ∃ (r' : Bool), (.bool r : Value) = (.bool r' : Value) ∧ R r' w1) = R := by
      funext r w1
      exact propext ⟨fun ⟨r', he, h⟩ => by first | (simp at he; simp_all) | (cases he; exact h), fun h => ⟨_, rfl, h⟩⟩
    simpa only [e] using h
  · rintro en w1 ⟨v, he, r, rfl, h⟩
    exact ⟨_, he, h⟩

end Go.Proofs.YtggbmakfifllnaaDoor
