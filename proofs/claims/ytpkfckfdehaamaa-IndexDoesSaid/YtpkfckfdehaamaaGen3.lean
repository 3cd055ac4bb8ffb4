/- The formulas of this seat's functions, held against the loaded program by the kernel. Printed by a program. -/
import Derived.Test.YtpkfckfdehaamaaGenC
set_option maxRecDepth 100000
set_option linter.unusedVariables false
namespace Go.Proofs.Ytpkfckfdehaamaa
open Go Go.D Go.Proofs

def F_index_Table_Add_k1 (t : Option Addr) (idx : Int) (R : Int → World → Prop) (r : Nat) (rank : Int) (w1_8 : World) : Prop :=
  NN t fun a_4 =>
  ∃ first_1 : Int, (drw w1_8).cell? (a_4.add 3) = some (.int .i64 first_1) ∧
  NN t fun a_5 =>
  ∃ last_1 : Int, (drw w1_8).cell? (a_5.add 4) = some (.int .i64 last_1) ∧
  NN t fun a_6 =>
  St (drw w1_8) ((a_6.add 3).add 0) (.int .i64 (minI first_1 rank)) fun w1_9 =>
  NN t fun a_7 =>
  St w1_9 ((a_7.add 4).add 0) (.int .i64 (maxI last_1 rank)) fun w1_10 =>
  ∃ t630 : Int, w1_10.cell? ((⟨r, 0, none⟩ : Addr).add 0) = some (.int .i64 t630) ∧
  ∃ t631 : ByteArray, w1_10.cell? ((⟨r, 0, none⟩ : Addr).add 1) = some (.string t631) ∧
  ∃ t632 : Int, w1_10.cell? ((⟨r, 0, none⟩ : Addr).add 2) = some (.int .i64 t632) ∧
  C_index_key t630 t631 t632 w1_10 fun t640 t641 t642 w1_11 =>
  St w1_11 ((⟨r, 0, none⟩ : Addr).add 0) (.int .i64 t640) fun w1_12 =>
  St w1_12 ((⟨r, 0, none⟩ : Addr).add 1) (.string t641) fun w1_13 =>
  St w1_13 ((⟨r, 0, none⟩ : Addr).add 2) (.int .i64 t642) fun w1_14 =>
  New w1_14 (.cells #[.int .i64 0, .int .i64 0] 69) fun r_2 w1_15 =>
  St w1_15 ((⟨r_2, 0, none⟩ : Addr).add 0) (.int .i64 rank) fun w1_16 =>
  St w1_16 ((⟨r_2, 0, none⟩ : Addr).add 1) (.int .i64 idx) fun w1_17 =>
  NN t fun a_8 =>
  ∃ rows : Option Nat, (drw w1_17).cell? (a_8.add 0) = some (.map rows) ∧
  ∃ t720 : Int, (drw w1_17).cell? ((⟨r, 0, none⟩ : Addr).add 0) = some (.int .i64 t720) ∧
  ∃ t721 : ByteArray, (drw w1_17).cell? ((⟨r, 0, none⟩ : Addr).add 1) = some (.string t721) ∧
  ∃ t722 : Int, (drw w1_17).cell? ((⟨r, 0, none⟩ : Addr).add 2) = some (.int .i64 t722) ∧
  NN t fun a_9 =>
  ∃ rows_1 : Option Nat, (drw w1_17).cell? (a_9.add 0) = some (.map rows_1) ∧
  ∃ t770 : Int, (drw w1_17).cell? ((⟨r, 0, none⟩ : Addr).add 0) = some (.int .i64 t770) ∧
  ∃ t771 : ByteArray, (drw w1_17).cell? ((⟨r, 0, none⟩ : Addr).add 1) = some (.string t771) ∧
  ∃ t772 : Int, (drw w1_17).cell? ((⟨r, 0, none⟩ : Addr).add 2) = some (.int .i64 t772) ∧
  ∃ t790 : Int, (drw w1_17).cell? ((⟨r_2, 0, none⟩ : Addr).add 0) = some (.int .i64 t790) ∧
  ∃ t791 : Int, (drw w1_17).cell? ((⟨r_2, 0, none⟩ : Addr).add 1) = some (.int .i64 t791) ∧
  Run Try.prog (Instr.lookup 55 (.map rows_1) (.agg #[.int .i64 t770, .string t771, .int .i64 t772]) false) (drw w1_17) fun v_1 w1_18 => ∃ t78P : Option Addr, ∃ t78N : Nat, ∃ t78C : Nat, v_1 = (.slice t78P t78N t78C) ∧
  (∀ i, i < 2 → w1_18.cell? ((⟨r_2, 0, none⟩ : Addr).add i) = (drw w1_17).cell? ((⟨r_2, 0, none⟩ : Addr).add i)) ∧
  (∀ i, i < 3 → w1_18.cell? ((⟨r, 0, none⟩ : Addr).add i) = (drw w1_17).cell? ((⟨r, 0, none⟩ : Addr).add i)) ∧
  w1_18.cell? (a_8.add 0) = (drw w1_17).cell? (a_8.add 0) ∧
  C_index_put t78P t78N t78C t790 t791 w1_18 fun t80P t80N t80C w1_19 =>
  (∀ i, i < 3 → w1_19.cell? ((⟨r, 0, none⟩ : Addr).add i) = (drw w1_17).cell? ((⟨r, 0, none⟩ : Addr).add i)) ∧
  w1_19.cell? (a_8.add 0) = (drw w1_17).cell? (a_8.add 0) ∧
  MUp Try.prog 55 (.map rows) (.agg #[.int .i64 t720, .string t721, .int .i64 t722]) (.slice t80P t80N t80C) w1_19 fun w1_20 =>
  NN t fun a_10 =>
  ∃ allP_1 : Option Addr, ∃ allN_1 : Nat, ∃ allC_1 : Nat, (drw w1_20).cell? (a_10.add 1) = some (.slice allP_1 allN_1 allC_1) ∧
  ∃ t860 : Int, (drw w1_20).cell? ((⟨r_2, 0, none⟩ : Addr).add 0) = some (.int .i64 t860) ∧
  ∃ t861 : Int, (drw w1_20).cell? ((⟨r_2, 0, none⟩ : Addr).add 1) = some (.int .i64 t861) ∧
  C_index_put allP_1 allN_1 allC_1 t860 t861 (drw w1_20) fun t87P t87N t87C w1_21 =>
  NN t fun a_11 =>
  St w1_21 ((a_11.add 1).add 0) (.slice t87P t87N t87C) fun w1_22 =>
  NN t fun a_12 =>
  ∃ atx_1 : Option Nat, (drw w1_22).cell? (a_12.add 2) = some (.map atx_1) ∧
  ∃ t950 : Int, (drw w1_22).cell? ((⟨r, 0, none⟩ : Addr).add 0) = some (.int .i64 t950) ∧
  ∃ t951 : ByteArray, (drw w1_22).cell? ((⟨r, 0, none⟩ : Addr).add 1) = some (.string t951) ∧
  ∃ t952 : Int, (drw w1_22).cell? ((⟨r, 0, none⟩ : Addr).add 2) = some (.int .i64 t952) ∧
  MUp Try.prog 56 (.map atx_1) (.int .i64 idx) (.agg #[.int .i64 t950, .string t951, .int .i64 t952, .int .i64 rank]) (drw w1_22) fun w1_23 =>
  R (0 : Int) w1_23

def F_index_Table_Add (t : Option Addr) (idx : Int) (k0x : Int) (k1x : ByteArray) (k2x : Int) (front : Bool) (w : World) (R : Int → World → Prop) : Prop :=
  New w (.cells #[.int .i64 k0x, .string k1x, .int .i64 k2x] 26) fun r w1 =>
  C_index_Table_made t w1 fun t14 w1_1 =>
  If (!t14)
  (R (6 : Int) w1_1)
  (NN t fun a =>
  ∃ atx : Option Nat, w1_1.cell? (a.add 2) = some (.map atx) ∧
  Run Try.prog (Instr.lookup 56 (.map atx) (.int .i64 idx) true) w1_1 fun v w1_2 => ∃ t2200 : Int, ∃ t2201 : ByteArray, ∃ t2202 : Int, ∃ t2203 : Int, ∃ t221 : Bool, v = (.tuple #[.agg #[.int .i64 t2200, .string t2201, .int .i64 t2202, .int .i64 t2203], .bool t221]) ∧
  New w1_2 (.cells #[.int .i64 0, .string ⟨#[]⟩, .int .i64 0, .int .i64 0] 64) fun r_1 w1_3 =>
  St w1_3 ((⟨r_1, 0, none⟩ : Addr).add 0) (.int .i64 t2200) fun w1_4 =>
  St w1_4 ((⟨r_1, 0, none⟩ : Addr).add 1) (.string t2201) fun w1_5 =>
  St w1_5 ((⟨r_1, 0, none⟩ : Addr).add 2) (.int .i64 t2202) fun w1_6 =>
  St w1_6 ((⟨r_1, 0, none⟩ : Addr).add 3) (.int .i64 t2203) fun w1_7 =>
  If t221
  (R (5 : Int) w1_7)
  (NN t fun a_1 =>
  ∃ allP : Option Addr, ∃ allN : Nat, ∃ allC : Nat, w1_7.cell? (a_1.add 1) = some (.slice allP allN allC) ∧
  If (decide ((allN : Int) ≥ (4096 : Int)))
  (R (2 : Int) w1_7)
  (NN t fun a_2 =>
  ∃ last : Int, w1_7.cell? (a_2.add 4) = some (.int .i64 last) ∧
  If front
  (NN t fun a_3 =>
  ∃ first : Int, w1_7.cell? (a_3.add 3) = some (.int .i64 first) ∧
  F_index_Table_Add_k1 t idx R r (IntKind.i64.wrap (first - (1 : Int))) w1_7)
  (F_index_Table_Add_k1 t idx R r (IntKind.i64.wrap (last + (1 : Int))) w1_7))))

def G_index_Table_Add : Gen where
  loop := lookL []
  plan := fun id =>
    bif Nat.beq id 11 then some ([0, 0, 0, 4, 12, 28, 0, 124, 0, 256, 768, 1792, 0, 7936, 4093, 20477, 53245, 131071, 262143, 524287], .take 0 (.take 1 (.take 2 (.take 3 (.take 4 (.take 5 (.take 6 (.take 7 (.take 8 (.take 9 (.take 10 (.take 11 (.take 12 (.take 13 (.take 14 (.take 15 (.take 16 (.take 17 (.take 18 (.take 19 .done)))))))))))))))))))) else
    bif Nat.beq id 14 then some ([0, 1, 3, 7, 0, 0, 32, 96, 224, 0, 992, 0, 4064, 8191], .take 0 (.take 1 (.take 2 (.take 3 (.take 4 (.take 5 (.take 6 (.take 7 (.take 8 (.take 9 (.take 11 (.take 10 (.take 12 (.take 13 .done)))))))))))))) else
    bif Nat.beq id 15 then some ([0, 0, 2, 6, 14, 0, 62, 127, 255, 511], .take 0 (.take 1 (.take 2 (.take 3 (.take 4 (.take 5 (.take 6 (.take 7 (.take 8 (.take 9 .done)))))))))) else
    bif Nat.beq id 16 then some ([0, 1, 3, 7, 0, 0, 0, 96, 255], .take 0 (.take 1 (.take 2 (.take 3 (.take 4 (.take 5 (.take 6 (.take 7 (.take 8 .done))))))))) else none

theorem loops_index_Table_Add : LoopOk Try.prog Try.f22.ntmps G_index_Table_Add (codeOf Try.f22) := loopOk_none fun _ => rfl

theorem den_index_Table_Add (t : Option Addr) (idx : Int) (k0x : Int) (k1x : ByteArray) (k2x : Int) (front : Bool) (w : World) (R : Value → World → Prop) :
    F_index_Table_Add t idx k0x k1x k2x front w (fun r w1 => R (.int .i64 r) w1) = den Try.prog Try.f22.ntmps G_index_Table_Add (codeOf Try.f22) [] (postD Try.prog Try.f22.results.toList R) (entry [.pointer t, .int .i64 idx, .agg #[.int .i64 k0x, .string k1x, .int .i64 k2x], .bool front] 0) w := by kernel_rfl

theorem C_index_Table_Add.of {t : Option Addr} {idx : Int} {k0x : Int} {k1x : ByteArray} {k2x : Int} {front : Bool} {w : World} {R : Int → World → Prop} (h : F_index_Table_Add t idx k0x k1x k2x front w R) : C_index_Table_Add t idx k0x k1x k2x front w R := by
  refine (calls_of_den (c := codeOf Try.f22) seat_ok seat_mixed Try.func22 (by kernel_rfl) loops_index_Table_Add (args := [.pointer t, .int .i64 idx, .agg #[.int .i64 k0x, .string k1x, .int .i64 k2x], .bool front]) rfl (R := fun v w1 => ∃ (r : Int), v = (.int .i64 r : Value) ∧ R r w1) ?_).mono ?_
  · rw [← den_index_Table_Add]
    have e : (fun r w1 => ∃ (r' : Int), (.int .i64 r : Value) = (.int .i64 r' : Value) ∧ R r' w1) = R := by
      funext r w1
      exact propext ⟨fun ⟨r', he, h⟩ => by simp at he; simp_all, fun h => ⟨_, rfl, h⟩⟩
    simpa only [e] using h
  · rintro en w1 ⟨v, he, r, rfl, h⟩
    exact ⟨_, he, h⟩

def F_index_Table_Head (t : Option Addr) (k0x : Int) (k1x : ByteArray) (k2x : Int) (w : World) (R : Int → Bool → World → Prop) : Prop :=
  New w (.cells #[.int .i64 k0x, .string k1x, .int .i64 k2x] 26) fun r w1 =>
  C_index_Table_made t w1 fun t7 w1_1 =>
  If (!t7)
  (R (0 : Int) false w1_1)
  (NN t fun a =>
  ∃ first : Int, (drw w1_1).cell? (a.add 3) = some (.int .i64 first) ∧
  ∃ t150 : Int, (drw w1_1).cell? ((⟨r, 0, none⟩ : Addr).add 0) = some (.int .i64 t150) ∧
  ∃ t151 : ByteArray, (drw w1_1).cell? ((⟨r, 0, none⟩ : Addr).add 1) = some (.string t151) ∧
  ∃ t152 : Int, (drw w1_1).cell? ((⟨r, 0, none⟩ : Addr).add 2) = some (.int .i64 t152) ∧
  C_index_Table_behind t (IntKind.i64.wrap (first - (1 : Int))) t150 t151 t152 (drw w1_1) fun t160 t161 w1_2 =>
  R t160 t161 w1_2)

def G_index_Table_Head : Gen where
  loop := lookL []
  plan := fun id =>
    bif Nat.beq id 3 then some ([0, 0, 2, 6, 14, 30, 0, 127, 255, 255, 1023, 2047], .take 0 (.take 1 (.take 2 (.take 3 (.take 4 (.take 5 (.take 6 (.take 7 (.take 8 (.take 9 (.take 10 (.take 11 .done)))))))))))) else none

theorem loops_index_Table_Head : LoopOk Try.prog Try.f23.ntmps G_index_Table_Head (codeOf Try.f23) := loopOk_none fun _ => rfl

theorem den_index_Table_Head (t : Option Addr) (k0x : Int) (k1x : ByteArray) (k2x : Int) (w : World) (R : Value → World → Prop) :
    F_index_Table_Head t k0x k1x k2x w (fun r0 r1 w1 => R (.tuple #[.int .i64 r0, .bool r1]) w1) = den Try.prog Try.f23.ntmps G_index_Table_Head (codeOf Try.f23) [] (postD Try.prog Try.f23.results.toList R) (entry [.pointer t, .agg #[.int .i64 k0x, .string k1x, .int .i64 k2x]] 0) w := by kernel_rfl

theorem C_index_Table_Head.of {t : Option Addr} {k0x : Int} {k1x : ByteArray} {k2x : Int} {w : World} {R : Int → Bool → World → Prop} (h : F_index_Table_Head t k0x k1x k2x w R) : C_index_Table_Head t k0x k1x k2x w R := by
  refine (calls_of_den (c := codeOf Try.f23) seat_ok seat_mixed Try.func23 (by kernel_rfl) loops_index_Table_Head (args := [.pointer t, .agg #[.int .i64 k0x, .string k1x, .int .i64 k2x]]) rfl (R := fun v w1 => ∃ (r0 : Int) (r1 : Bool), v = (.tuple #[.int .i64 r0, .bool r1] : Value) ∧ R r0 r1 w1) ?_).mono ?_
  · rw [← den_index_Table_Head]
    have e : (fun r0 r1 w1 => ∃ (r0' : Int) (r1' : Bool), (.tuple #[.int .i64 r0, .bool r1] : Value) = (.tuple #[.int .i64 r0', .bool r1'] : Value) ∧ R r0' r1' w1) = R := by
      funext r0 r1 w1
      exact propext ⟨fun ⟨r0', r1', he, h⟩ => by simp at he; simp_all, fun h => ⟨_, _, rfl, h⟩⟩
    simpa only [e] using h
  · rintro en w1 ⟨v, he, r0, r1, rfl, h⟩
    exact ⟨_, _, he, h⟩

def F_index_Table_Next (t : Option Addr) (after : Int) (k0x : Int) (k1x : ByteArray) (k2x : Int) (w : World) (R : Int → Bool → World → Prop) : Prop :=
  New w (.cells #[.int .i64 k0x, .string k1x, .int .i64 k2x] 26) fun r w1 =>
  C_index_Table_made t w1 fun t11 w1_1 =>
  If (!t11)
  (R (0 : Int) false w1_1)
  (NN t fun a =>
  ∃ atx : Option Nat, w1_1.cell? (a.add 2) = some (.map atx) ∧
  Run Try.prog (Instr.lookup 56 (.map atx) (.int .i64 after) true) w1_1 fun v w1_2 => ∃ t1900 : Int, ∃ t1901 : ByteArray, ∃ t1902 : Int, ∃ t1903 : Int, ∃ t191 : Bool, v = (.tuple #[.agg #[.int .i64 t1900, .string t1901, .int .i64 t1902, .int .i64 t1903], .bool t191]) ∧
  New w1_2 (.cells #[.int .i64 0, .string ⟨#[]⟩, .int .i64 0, .int .i64 0] 64) fun r_1 w1_3 =>
  St w1_3 ((⟨r_1, 0, none⟩ : Addr).add 0) (.int .i64 t1900) fun w1_4 =>
  St w1_4 ((⟨r_1, 0, none⟩ : Addr).add 1) (.string t1901) fun w1_5 =>
  St w1_5 ((⟨r_1, 0, none⟩ : Addr).add 2) (.int .i64 t1902) fun w1_6 =>
  St w1_6 ((⟨r_1, 0, none⟩ : Addr).add 3) (.int .i64 t1903) fun w1_7 =>
  If (!t191)
  (R (0 : Int) false w1_7)
  (∃ rank : Int, w1_7.cell? ((⟨r_1, 0, none⟩ : Addr).add 3) = some (.int .i64 rank) ∧
  ∃ t270 : Int, w1_7.cell? ((⟨r, 0, none⟩ : Addr).add 0) = some (.int .i64 t270) ∧
  ∃ t271 : ByteArray, w1_7.cell? ((⟨r, 0, none⟩ : Addr).add 1) = some (.string t271) ∧
  ∃ t272 : Int, w1_7.cell? ((⟨r, 0, none⟩ : Addr).add 2) = some (.int .i64 t272) ∧
  C_index_Table_behind t rank t270 t271 t272 w1_7 fun t280 t281 w1_8 =>
  R t280 t281 w1_8))

def G_index_Table_Next : Gen where
  loop := lookL []
  plan := fun _ => none

theorem loops_index_Table_Next : LoopOk Try.prog Try.f24.ntmps G_index_Table_Next (codeOf Try.f24) := loopOk_none fun _ => rfl

theorem den_index_Table_Next (t : Option Addr) (after : Int) (k0x : Int) (k1x : ByteArray) (k2x : Int) (w : World) (R : Value → World → Prop) :
    F_index_Table_Next t after k0x k1x k2x w (fun r0 r1 w1 => R (.tuple #[.int .i64 r0, .bool r1]) w1) = den Try.prog Try.f24.ntmps G_index_Table_Next (codeOf Try.f24) [] (postD Try.prog Try.f24.results.toList R) (entry [.pointer t, .int .i64 after, .agg #[.int .i64 k0x, .string k1x, .int .i64 k2x]] 0) w := by kernel_rfl

theorem C_index_Table_Next.of {t : Option Addr} {after : Int} {k0x : Int} {k1x : ByteArray} {k2x : Int} {w : World} {R : Int → Bool → World → Prop} (h : F_index_Table_Next t after k0x k1x k2x w R) : C_index_Table_Next t after k0x k1x k2x w R := by
  refine (calls_of_den (c := codeOf Try.f24) seat_ok seat_mixed Try.func24 (by kernel_rfl) loops_index_Table_Next (args := [.pointer t, .int .i64 after, .agg #[.int .i64 k0x, .string k1x, .int .i64 k2x]]) rfl (R := fun v w1 => ∃ (r0 : Int) (r1 : Bool), v = (.tuple #[.int .i64 r0, .bool r1] : Value) ∧ R r0 r1 w1) ?_).mono ?_
  · rw [← den_index_Table_Next]
    have e : (fun r0 r1 w1 => ∃ (r0' : Int) (r1' : Bool), (.tuple #[.int .i64 r0, .bool r1] : Value) = (.tuple #[.int .i64 r0', .bool r1'] : Value) ∧ R r0' r1' w1) = R := by
      funext r0 r1 w1
      exact propext ⟨fun ⟨r0', r1', he, h⟩ => by simp at he; simp_all, fun h => ⟨_, _, rfl, h⟩⟩
    simpa only [e] using h
  · rintro en w1 ⟨v, he, r0, r1, rfl, h⟩
    exact ⟨_, _, he, h⟩

def F_ref18_Table_Add_k1 (R : Int → World → Prop) (w1_8 : World) : Prop :=
  R (0 : Int) w1_8

def F_ref18_Table_Add (t : Option Addr) (idx : Int) (k0x : Int) (k1x : ByteArray) (k2x : Int) (front : Bool) (w : World) (R : Int → World → Prop) : Prop :=
  New w (.cells #[.int .i64 k0x, .string k1x, .int .i64 k2x] 26) fun r w1 =>
  C_ref18_Table_at t idx w1 fun t24 w1_1 =>
  If (decide (t24 ≥ (0 : Int)))
  (R (5 : Int) w1_1)
  (NN t fun a =>
  ∃ LP : Option Addr, ∃ LN : Nat, ∃ LC : Nat, w1_1.cell? (a.add 0) = some (.slice LP LN LC) ∧
  If (decide ((LN : Int) ≥ (4096 : Int)))
  (R (2 : Int) w1_1)
  (If front
  (∃ t370 : Int, (drw w1_1).cell? ((⟨r, 0, none⟩ : Addr).add 0) = some (.int .i64 t370) ∧
  ∃ t371 : ByteArray, (drw w1_1).cell? ((⟨r, 0, none⟩ : Addr).add 1) = some (.string t371) ∧
  ∃ t372 : Int, (drw w1_1).cell? ((⟨r, 0, none⟩ : Addr).add 2) = some (.int .i64 t372) ∧
  NN t fun a_1 =>
  ∃ LP_1 : Option Addr, ∃ LN_1 : Nat, ∃ LC_1 : Nat, (drw w1_1).cell? (a_1.add 0) = some (.slice LP_1 LN_1 LC_1) ∧
  BSl Try.prog 35 1 [(0, .agg #[.int .i64 idx, .int .i64 t370, .string t371, .int .i64 t372])] (drw w1_1) fun t39P t39N t39C w1_2 =>
  w1_2.cell? (a_1.add 0) = (drw w1_1).cell? (a_1.add 0) ∧
  App Try.prog #[35, 35] 35 #[.slice t39P t39N t39C, .slice LP_1 LN_1 LC_1] w1_2 fun t44P t44N t44C w1_3 =>
  NN t fun a_2 =>
  St w1_3 ((a_2.add 0).add 0) (.slice t44P t44N t44C) fun w1_4 =>
  F_ref18_Table_Add_k1 R w1_4)
  (NN t fun a_3 =>
  ∃ LP_2 : Option Addr, ∃ LN_2 : Nat, ∃ LC_2 : Nat, (drw w1_1).cell? (a_3.add 0) = some (.slice LP_2 LN_2 LC_2) ∧
  ∃ t150 : Int, (drw w1_1).cell? ((⟨r, 0, none⟩ : Addr).add 0) = some (.int .i64 t150) ∧
  ∃ t151 : ByteArray, (drw w1_1).cell? ((⟨r, 0, none⟩ : Addr).add 1) = some (.string t151) ∧
  ∃ t152 : Int, (drw w1_1).cell? ((⟨r, 0, none⟩ : Addr).add 2) = some (.int .i64 t152) ∧
  BSl Try.prog 35 1 [(0, .agg #[.int .i64 idx, .int .i64 t150, .string t151, .int .i64 t152])] (drw w1_1) fun t17P t17N t17C w1_5 =>
  w1_5.cell? (a_3.add 0) = (drw w1_1).cell? (a_3.add 0) ∧
  App Try.prog #[35, 35] 35 #[.slice LP_2 LN_2 LC_2, .slice t17P t17N t17C] w1_5 fun t18P t18N t18C w1_6 =>
  NN t fun a_4 =>
  St w1_6 ((a_4.add 0).add 0) (.slice t18P t18N t18C) fun w1_7 =>
  F_ref18_Table_Add_k1 R w1_7)))

def G_ref18_Table_Add : Gen where
  loop := lookL []
  plan := fun id =>
    bif Nat.beq id 7 then some ([0, 0, 0, 6, 14, 0, 32, 96, 224, 510, 1023, 2047, 4095], .take 0 (.take 1 (.take 2 (.take 3 (.take 5 (.take 6 (.take 7 (.take 8 (.take 4 (.take 9 (.take 10 (.take 11 (.take 12 .done))))))))))))) else
    bif Nat.beq id 1 then some ([0, 0, 2, 6, 14, 0, 0, 96, 224, 510, 1023, 2047, 4095], .take 0 (.take 1 (.take 2 (.take 3 (.take 4 (.take 5 (.take 6 (.take 7 (.take 8 (.take 9 (.take 10 (.take 11 (.take 12 .done))))))))))))) else none

theorem loops_ref18_Table_Add : LoopOk Try.prog Try.f25.ntmps G_ref18_Table_Add (codeOf Try.f25) := loopOk_none fun _ => rfl

theorem den_ref18_Table_Add (t : Option Addr) (idx : Int) (k0x : Int) (k1x : ByteArray) (k2x : Int) (front : Bool) (w : World) (R : Value → World → Prop) :
    F_ref18_Table_Add t idx k0x k1x k2x front w (fun r w1 => R (.int .i64 r) w1) = den Try.prog Try.f25.ntmps G_ref18_Table_Add (codeOf Try.f25) [] (postD Try.prog Try.f25.results.toList R) (entry [.pointer t, .int .i64 idx, .agg #[.int .i64 k0x, .string k1x, .int .i64 k2x], .bool front] 0) w := by kernel_rfl

theorem C_ref18_Table_Add.of {t : Option Addr} {idx : Int} {k0x : Int} {k1x : ByteArray} {k2x : Int} {front : Bool} {w : World} {R : Int → World → Prop} (h : F_ref18_Table_Add t idx k0x k1x k2x front w R) : C_ref18_Table_Add t idx k0x k1x k2x front w R := by
  refine (calls_of_den (c := codeOf Try.f25) seat_ok seat_mixed Try.func25 (by kernel_rfl) loops_ref18_Table_Add (args := [.pointer t, .int .i64 idx, .agg #[.int .i64 k0x, .string k1x, .int .i64 k2x], .bool front]) rfl (R := fun v w1 => ∃ (r : Int), v = (.int .i64 r : Value) ∧ R r w1) ?_).mono ?_
  · rw [← den_ref18_Table_Add]
    have e : (fun r w1 => ∃ (r' : Int), (.int .i64 r : Value) = (.int .i64 r' : Value) ∧ R r' w1) = R := by
      funext r w1
      exact propext ⟨fun ⟨r', he, h⟩ => by simp at he; simp_all, fun h => ⟨_, rfl, h⟩⟩
    simpa only [e] using h
  · rintro en w1 ⟨v, he, r, rfl, h⟩
    exact ⟨_, he, h⟩

def F_ref18_Table_Drop (t : Option Addr) (idx : Int) (w : World) (R : Int → World → Prop) : Prop :=
  C_ref18_Table_at t idx w fun t8 w1 =>
  If (decide (t8 < (0 : Int)))
  (R (4 : Int) w1)
  (NN t fun a =>
  ∃ LP : Option Addr, ∃ LN : Nat, ∃ LC : Nat, (drw w1).cell? (a.add 0) = some (.slice LP LN LC) ∧
  0 ≤ t8 ∧ t8 ≤ (LC : Int) ∧
  NN t fun a_1 =>
  ∃ LP_1 : Option Addr, ∃ LN_1 : Nat, ∃ LC_1 : Nat, (drw w1).cell? (a_1.add 0) = some (.slice LP_1 LN_1 LC_1) ∧
  0 ≤ (IntKind.i64.wrap (t8 + (1 : Int))) ∧ (IntKind.i64.wrap (t8 + (1 : Int))) ≤ (LN_1 : Int) ∧
  BSl Try.prog 35 0 [] (drw w1) fun t12P t12N t12C w1_1 =>
  w1_1.cell? (a_1.add 0) = (drw w1).cell? (a_1.add 0) ∧
  w1_1.cell? (a.add 0) = (drw w1).cell? (a.add 0) ∧
  App Try.prog #[35, 35] 35 #[.slice t12P t12N t12C, .slice LP t8.toNat LC] w1_1 fun t19P t19N t19C w1_2 =>
  w1_2.cell? (a_1.add 0) = (drw w1).cell? (a_1.add 0) ∧
  App Try.prog #[35, 35] 35 #[.slice t19P t19N t19C, .slice (adv LP_1 LC_1 (IntKind.i64.wrap (t8 + (1 : Int))).toNat 4) (LN_1 - (IntKind.i64.wrap (t8 + (1 : Int))).toNat) (LC_1 - (IntKind.i64.wrap (t8 + (1 : Int))).toNat)] w1_2 fun t27P t27N t27C w1_3 =>
  NN t fun a_2 =>
  St w1_3 ((a_2.add 0).add 0) (.slice t27P t27N t27C) fun w1_4 =>
  R (0 : Int) w1_4)

def G_ref18_Table_Drop : Gen where
  loop := lookL []
  plan := fun id =>
    bif Nat.beq id 4 then some ([0, 0, 0, 4, 12, 28, 0, 124, 254, 0, 512, 1536, 3584, 0, 8192, 32256, 65534, 131071, 262143, 524287], .take 0 (.take 2 (.take 3 (.take 4 (.take 5 (.take 6 (.take 7 (.take 9 (.take 10 (.take 11 (.take 12 (.take 13 (.take 14 (.take 15 (.take 1 (.take 8 (.take 16 (.take 17 (.take 18 (.take 19 .done)))))))))))))))))))) else none

theorem loops_ref18_Table_Drop : LoopOk Try.prog Try.f26.ntmps G_ref18_Table_Drop (codeOf Try.f26) := loopOk_none fun _ => rfl

theorem den_ref18_Table_Drop (t : Option Addr) (idx : Int) (w : World) (R : Value → World → Prop) :
    F_ref18_Table_Drop t idx w (fun r w1 => R (.int .i64 r) w1) = den Try.prog Try.f26.ntmps G_ref18_Table_Drop (codeOf Try.f26) [] (postD Try.prog Try.f26.results.toList R) (entry [.pointer t, .int .i64 idx] 0) w := by kernel_rfl

theorem C_ref18_Table_Drop.of {t : Option Addr} {idx : Int} {w : World} {R : Int → World → Prop} (h : F_ref18_Table_Drop t idx w R) : C_ref18_Table_Drop t idx w R := by
  refine (calls_of_den (c := codeOf Try.f26) seat_ok seat_mixed Try.func26 (by kernel_rfl) loops_ref18_Table_Drop (args := [.pointer t, .int .i64 idx]) rfl (R := fun v w1 => ∃ (r : Int), v = (.int .i64 r : Value) ∧ R r w1) ?_).mono ?_
  · rw [← den_ref18_Table_Drop]
    have e : (fun r w1 => ∃ (r' : Int), (.int .i64 r : Value) = (.int .i64 r' : Value) ∧ R r' w1) = R := by
      funext r w1
      exact propext ⟨fun ⟨r', he, h⟩ => by simp at he; simp_all, fun h => ⟨_, rfl, h⟩⟩
    simpa only [e] using h
  · rintro en w1 ⟨v, he, r, rfl, h⟩
    exact ⟨_, he, h⟩

def F_ref18_Table_Next (t : Option Addr) (after : Int) (k0x : Int) (k1x : ByteArray) (k2x : Int) (w : World) (R : Int → Bool → World → Prop) : Prop :=
  New w (.cells #[.int .i64 k0x, .string k1x, .int .i64 k2x] 26) fun r w1 =>
  C_ref18_Table_at t after w1 fun t11 w1_1 =>
  If (decide (t11 < (0 : Int)))
  (R (0 : Int) false w1_1)
  (∃ t170 : Int, w1_1.cell? ((⟨r, 0, none⟩ : Addr).add 0) = some (.int .i64 t170) ∧
  ∃ t171 : ByteArray, w1_1.cell? ((⟨r, 0, none⟩ : Addr).add 1) = some (.string t171) ∧
  ∃ t172 : Int, w1_1.cell? ((⟨r, 0, none⟩ : Addr).add 2) = some (.int .i64 t172) ∧
  C_ref18_Table_from t (IntKind.i64.wrap (t11 + (1 : Int))) t170 t171 t172 w1_1 fun t180 t181 w1_2 =>
  R t180 t181 w1_2)

def G_ref18_Table_Next : Gen where
  loop := lookL []
  plan := fun _ => none

theorem loops_ref18_Table_Next : LoopOk Try.prog Try.f27.ntmps G_ref18_Table_Next (codeOf Try.f27) := loopOk_none fun _ => rfl

theorem den_ref18_Table_Next (t : Option Addr) (after : Int) (k0x : Int) (k1x : ByteArray) (k2x : Int) (w : World) (R : Value → World → Prop) :
    F_ref18_Table_Next t after k0x k1x k2x w (fun r0 r1 w1 => R (.tuple #[.int .i64 r0, .bool r1]) w1) = den Try.prog Try.f27.ntmps G_ref18_Table_Next (codeOf Try.f27) [] (postD Try.prog Try.f27.results.toList R) (entry [.pointer t, .int .i64 after, .agg #[.int .i64 k0x, .string k1x, .int .i64 k2x]] 0) w := by kernel_rfl

theorem C_ref18_Table_Next.of {t : Option Addr} {after : Int} {k0x : Int} {k1x : ByteArray} {k2x : Int} {w : World} {R : Int → Bool → World → Prop} (h : F_ref18_Table_Next t after k0x k1x k2x w R) : C_ref18_Table_Next t after k0x k1x k2x w R := by
  refine (calls_of_den (c := codeOf Try.f27) seat_ok seat_mixed Try.func27 (by kernel_rfl) loops_ref18_Table_Next (args := [.pointer t, .int .i64 after, .agg #[.int .i64 k0x, .string k1x, .int .i64 k2x]]) rfl (R := fun v w1 => ∃ (r0 : Int) (r1 : Bool), v = (.tuple #[.int .i64 r0, .bool r1] : Value) ∧ R r0 r1 w1) ?_).mono ?_
  · rw [← den_ref18_Table_Next]
    have e : (fun r0 r1 w1 => ∃ (r0' : Int) (r1' : Bool), (.tuple #[.int .i64 r0, .bool r1] : Value) = (.tuple #[.int .i64 r0', .bool r1'] : Value) ∧ R r0' r1' w1) = R := by
      funext r0 r1 w1
      exact propext ⟨fun ⟨r0', r1', he, h⟩ => by simp at he; simp_all, fun h => ⟨_, _, rfl, h⟩⟩
    simpa only [e] using h
  · rintro en w1 ⟨v, he, r0, r1, rfl, h⟩
    exact ⟨_, _, he, h⟩

def F_ref18_Table_Head (t : Option Addr) (k0x : Int) (k1x : ByteArray) (k2x : Int) (w : World) (R : Int → Bool → World → Prop) : Prop :=
  New w (.cells #[.int .i64 k0x, .string k1x, .int .i64 k2x] 26) fun r w1 =>
  ∃ t70 : Int, w1.cell? ((⟨r, 0, none⟩ : Addr).add 0) = some (.int .i64 t70) ∧
  ∃ t71 : ByteArray, w1.cell? ((⟨r, 0, none⟩ : Addr).add 1) = some (.string t71) ∧
  ∃ t72 : Int, w1.cell? ((⟨r, 0, none⟩ : Addr).add 2) = some (.int .i64 t72) ∧
  C_ref18_Table_from t (0 : Int) t70 t71 t72 w1 fun t80 t81 w1_1 =>
  R t80 t81 w1_1

def G_ref18_Table_Head : Gen where
  loop := lookL []
  plan := fun _ => none

theorem loops_ref18_Table_Head : LoopOk Try.prog Try.f28.ntmps G_ref18_Table_Head (codeOf Try.f28) := loopOk_none fun _ => rfl

theorem den_ref18_Table_Head (t : Option Addr) (k0x : Int) (k1x : ByteArray) (k2x : Int) (w : World) (R : Value → World → Prop) :
    F_ref18_Table_Head t k0x k1x k2x w (fun r0 r1 w1 => R (.tuple #[.int .i64 r0, .bool r1]) w1) = den Try.prog Try.f28.ntmps G_ref18_Table_Head (codeOf Try.f28) [] (postD Try.prog Try.f28.results.toList R) (entry [.pointer t, .agg #[.int .i64 k0x, .string k1x, .int .i64 k2x]] 0) w := by kernel_rfl

theorem C_ref18_Table_Head.of {t : Option Addr} {k0x : Int} {k1x : ByteArray} {k2x : Int} {w : World} {R : Int → Bool → World → Prop} (h : F_ref18_Table_Head t k0x k1x k2x w R) : C_ref18_Table_Head t k0x k1x k2x w R := by
  refine (calls_of_den (c := codeOf Try.f28) seat_ok seat_mixed Try.func28 (by kernel_rfl) loops_ref18_Table_Head (args := [.pointer t, .agg #[.int .i64 k0x, .string k1x, .int .i64 k2x]]) rfl (R := fun v w1 => ∃ (r0 : Int) (r1 : Bool), v = (.tuple #[.int .i64 r0, .bool r1] : Value) ∧ R r0 r1 w1) ?_).mono ?_
  · rw [← den_ref18_Table_Head]
    have e : (fun r0 r1 w1 => ∃ (r0' : Int) (r1' : Bool), (.tuple #[.int .i64 r0, .bool r1] : Value) = (.tuple #[.int .i64 r0', .bool r1'] : Value) ∧ R r0' r1' w1) = R := by
      funext r0 r1 w1
      exact propext ⟨fun ⟨r0', r1', he, h⟩ => by simp at he; simp_all, fun h => ⟨_, _, rfl, h⟩⟩
    simpa only [e] using h
  · rintro en w1 ⟨v, he, r0, r1, rfl, h⟩
    exact ⟨_, _, he, h⟩

def F_index_Table_made (t : Option Addr) (w : World) (R : Bool → World → Prop) : Prop :=
  If (!t.isNone)
  (NN t fun a =>
  ∃ rows : Option Nat, w.cell? (a.add 0) = some (.map rows) ∧
  R (!rows.isNone) w)
  (R false w)

def G_index_Table_made : Gen where
  loop := lookL []
  plan := fun _ => none

theorem loops_index_Table_made : LoopOk Try.prog Try.f29.ntmps G_index_Table_made (codeOf Try.f29) := loopOk_none fun _ => rfl

theorem den_index_Table_made (t : Option Addr) (w : World) (R : Value → World → Prop) :
    F_index_Table_made t w (fun r w1 => R (.bool r) w1) = den Try.prog Try.f29.ntmps G_index_Table_made (codeOf Try.f29) [] (postD Try.prog Try.f29.results.toList R) (entry [.pointer t] 0) w := by kernel_rfl

theorem C_index_Table_made.of {t : Option Addr} {w : World} {R : Bool → World → Prop} (h : F_index_Table_made t w R) : C_index_Table_made t w R := by
  refine (calls_of_den (c := codeOf Try.f29) seat_ok seat_mixed Try.func29 (by kernel_rfl) loops_index_Table_made (args := [.pointer t]) rfl (R := fun v w1 => ∃ (r : Bool), v = (.bool r : Value) ∧ R r w1) ?_).mono ?_
  · rw [← den_index_Table_made]
    have e : (fun r w1 => ∃ (r' : Bool), (.bool r : Value) = (.bool r' : Value) ∧ R r' w1) = R := by
      funext r w1
      exact propext ⟨fun ⟨r', he, h⟩ => by simp at he; simp_all, fun h => ⟨_, rfl, h⟩⟩
    simpa only [e] using h
  · rintro en w1 ⟨v, he, r, rfl, h⟩
    exact ⟨_, he, h⟩

def F_index_cut (rP : Option Addr) (rN : Nat) (rC : Nat) (rank : Int) (w : World) (R : Option Addr → Nat → Nat → World → Prop) : Prop :=
  C_index_row_place rP rN rC rank w fun t8 w1 =>
  C_slices_Delete rP rN rC t8 (IntKind.i64.wrap (t8 + (1 : Int))) w1 fun t13P t13N t13C w1_1 =>
  R t13P t13N t13C w1_1

def G_index_cut : Gen where
  loop := lookL []
  plan := fun _ => none

theorem loops_index_cut : LoopOk Try.prog Try.f30.ntmps G_index_cut (codeOf Try.f30) := loopOk_none fun _ => rfl

theorem den_index_cut (rP : Option Addr) (rN : Nat) (rC : Nat) (rank : Int) (w : World) (R : Value → World → Prop) :
    F_index_cut rP rN rC rank w (fun rP rN rC w1 => R (.slice rP rN rC) w1) = den Try.prog Try.f30.ntmps G_index_cut (codeOf Try.f30) [] (postD Try.prog Try.f30.results.toList R) (entry [.slice rP rN rC, .int .i64 rank] 0) w := by kernel_rfl

theorem C_index_cut.of {rP : Option Addr} {rN : Nat} {rC : Nat} {rank : Int} {w : World} {R : Option Addr → Nat → Nat → World → Prop} (h : F_index_cut rP rN rC rank w R) : C_index_cut rP rN rC rank w R := by
  refine (calls_of_den (c := codeOf Try.f30) seat_ok seat_mixed Try.func30 (by kernel_rfl) loops_index_cut (args := [.slice rP rN rC, .int .i64 rank]) rfl (R := fun v w1 => ∃ (rP : Option Addr) (rN : Nat) (rC : Nat), v = (.slice rP rN rC : Value) ∧ R rP rN rC w1) ?_).mono ?_
  · rw [← den_index_cut]
    have e : (fun rP rN rC w1 => ∃ (rP' : Option Addr) (rN' : Nat) (rC' : Nat), (.slice rP rN rC : Value) = (.slice rP' rN' rC' : Value) ∧ R rP' rN' rC' w1) = R := by
      funext rP rN rC w1
      exact propext ⟨fun ⟨rP', rN', rC', he, h⟩ => by simp at he; simp_all, fun h => ⟨_, _, _, rfl, h⟩⟩
    simpa only [e] using h
  · rintro en w1 ⟨v, he, rP, rN, rC, rfl, h⟩
    exact ⟨_, _, _, he, h⟩

def F_index_key (k0x : Int) (k1x : ByteArray) (k2x : Int) (w : World) (R : Int → ByteArray → Int → World → Prop) : Prop :=
  New w (.cells #[.int .i64 k0x, .string k1x, .int .i64 k2x] 26) fun r w1 =>
  New w1 (.cells #[.int .i64 0, .string ⟨#[]⟩, .int .i64 0] 26) fun r_1 w1_1 =>
  ∃ Kind : Int, w1_1.cell? ((⟨r, 0, none⟩ : Addr).add 0) = some (.int .i64 Kind) ∧
  If (Kind == (0 : Int))
  (St w1_1 ((⟨r_1, 0, none⟩ : Addr).add 0) (.int .i64 0) fun w1_2 =>
  St w1_2 ((⟨r_1, 0, none⟩ : Addr).add 1) (.string ⟨#[]⟩) fun w1_3 =>
  St w1_3 ((⟨r_1, 0, none⟩ : Addr).add 2) (.int .i64 0) fun w1_4 =>
  ∃ r_2 : Int, w1_4.cell? ((⟨r_1, 0, none⟩ : Addr).add 0) = some (.int .i64 r_2) ∧
  ∃ r_3 : ByteArray, w1_4.cell? ((⟨r_1, 0, none⟩ : Addr).add 1) = some (.string r_3) ∧
  ∃ r_4 : Int, w1_4.cell? ((⟨r_1, 0, none⟩ : Addr).add 2) = some (.int .i64 r_4) ∧
  R r_2 r_3 r_4 w1_4)
  (∃ t70 : Int, w1_1.cell? ((⟨r, 0, none⟩ : Addr).add 0) = some (.int .i64 t70) ∧
  ∃ t71 : ByteArray, w1_1.cell? ((⟨r, 0, none⟩ : Addr).add 1) = some (.string t71) ∧
  ∃ t72 : Int, w1_1.cell? ((⟨r, 0, none⟩ : Addr).add 2) = some (.int .i64 t72) ∧
  St w1_1 ((⟨r_1, 0, none⟩ : Addr).add 0) (.int .i64 t70) fun w1_5 =>
  St w1_5 ((⟨r_1, 0, none⟩ : Addr).add 1) (.string t71) fun w1_6 =>
  St w1_6 ((⟨r_1, 0, none⟩ : Addr).add 2) (.int .i64 t72) fun w1_7 =>
  ∃ r_5 : Int, w1_7.cell? ((⟨r_1, 0, none⟩ : Addr).add 0) = some (.int .i64 r_5) ∧
  ∃ r_6 : ByteArray, w1_7.cell? ((⟨r_1, 0, none⟩ : Addr).add 1) = some (.string r_6) ∧
  ∃ r_7 : Int, w1_7.cell? ((⟨r_1, 0, none⟩ : Addr).add 2) = some (.int .i64 r_7) ∧
  R r_5 r_6 r_7 w1_7)

def G_index_key : Gen where
  loop := lookL []
  plan := fun _ => none

theorem loops_index_key : LoopOk Try.prog Try.f31.ntmps G_index_key (codeOf Try.f31) := loopOk_none fun _ => rfl

theorem den_index_key (k0x : Int) (k1x : ByteArray) (k2x : Int) (w : World) (R : Value → World → Prop) :
    F_index_key k0x k1x k2x w (fun r0 r1 r2 w1 => R (.agg #[.int .i64 r0, .string r1, .int .i64 r2]) w1) = den Try.prog Try.f31.ntmps G_index_key (codeOf Try.f31) [] (postD Try.prog Try.f31.results.toList R) (entry [.agg #[.int .i64 k0x, .string k1x, .int .i64 k2x]] 0) w := by kernel_rfl

theorem C_index_key.of {k0x : Int} {k1x : ByteArray} {k2x : Int} {w : World} {R : Int → ByteArray → Int → World → Prop} (h : F_index_key k0x k1x k2x w R) : C_index_key k0x k1x k2x w R := by
  refine (calls_of_den (c := codeOf Try.f31) seat_ok seat_mixed Try.func31 (by kernel_rfl) loops_index_key (args := [.agg #[.int .i64 k0x, .string k1x, .int .i64 k2x]]) rfl (R := fun v w1 => ∃ (r0 : Int) (r1 : ByteArray) (r2 : Int), v = (.agg #[.int .i64 r0, .string r1, .int .i64 r2] : Value) ∧ R r0 r1 r2 w1) ?_).mono ?_
  · rw [← den_index_key]
    have e : (fun r0 r1 r2 w1 => ∃ (r0' : Int) (r1' : ByteArray) (r2' : Int), (.agg #[.int .i64 r0, .string r1, .int .i64 r2] : Value) = (.agg #[.int .i64 r0', .string r1', .int .i64 r2'] : Value) ∧ R r0' r1' r2' w1) = R := by
      funext r0 r1 r2 w1
      exact propext ⟨fun ⟨r0', r1', r2', he, h⟩ => by simp at he; simp_all, fun h => ⟨_, _, _, rfl, h⟩⟩
    simpa only [e] using h
  · rintro en w1 ⟨v, he, r0, r1, r2, rfl, h⟩
    exact ⟨_, _, _, he, h⟩

def F_index_put_k1 (R : Option Addr → Nat → Nat → World → Prop) (t4P : Option Addr) (t4N : Nat) (t4C : Nat) (w1_7 : World) : Prop :=
  R t4P t4N t4C w1_7

def F_index_put (rP : Option Addr) (rN : Nat) (rC : Nat) (e0 : Int) (e1 : Int) (w : World) (R : Option Addr → Nat → Nat → World → Prop) : Prop :=
  New w (.cells #[.int .i64 e0, .int .i64 e1] 69) fun r w1 =>
  ∃ rank : Int, (drw w1).cell? ((⟨r, 0, none⟩ : Addr).add 0) = some (.int .i64 rank) ∧
  ∃ t100 : Int, (drw w1).cell? ((⟨r, 0, none⟩ : Addr).add 0) = some (.int .i64 t100) ∧
  ∃ t101 : Int, (drw w1).cell? ((⟨r, 0, none⟩ : Addr).add 1) = some (.int .i64 t101) ∧
  (C_index_row_place rP rN rC rank (drw w1) fun t9 w1_1 =>
  (∀ i, i < 2 → w1_1.cell? ((⟨r, 0, none⟩ : Addr).add i) = (drw w1).cell? ((⟨r, 0, none⟩ : Addr).add i)) ∧
  BSl Try.prog 57 1 [(0, .agg #[.int .i64 t100, .int .i64 t101])] w1_1 fun t11P t11N t11C w1_2 =>
  C_slices_Insert rP rN rC t9 t11P t11N t11C w1_2 fun t12P t12N t12C w1_3 =>
  F_index_put_k1 R t12P t12N t12C w1_3) ∧
  (BSl Try.prog 57 1 [(0, .agg #[.int .i64 t100, .int .i64 t101])] (drw w1) fun t11P_1 t11N_1 t11C_1 w1_4 =>
  w1_4.cell? ((⟨r, 0, none⟩ : Addr).add 0) = (drw w1).cell? ((⟨r, 0, none⟩ : Addr).add 0) ∧
  C_index_row_place rP rN rC rank w1_4 fun t9_1 w1_5 =>
  C_slices_Insert rP rN rC t9_1 t11P_1 t11N_1 t11C_1 w1_5 fun t12P_1 t12N_1 t12C_1 w1_6 =>
  F_index_put_k1 R t12P_1 t12N_1 t12C_1 w1_6)

def G_index_put : Gen where
  loop := lookL []
  plan := fun id =>
    bif Nat.beq id 1 then some ([0, 0, 0, 4, 14, 0, 32, 127, 255], .take 0 (.take 1 (.take 2 (.take 3 (.take 5 (.both 4 (.take 6 (.take 7 (.take 8 .done))) 6 (.take 4 (.take 7 (.take 8 .done))))))))) else none

theorem loops_index_put : LoopOk Try.prog Try.f32.ntmps G_index_put (codeOf Try.f32) := loopOk_none fun _ => rfl

theorem den_index_put (rP : Option Addr) (rN : Nat) (rC : Nat) (e0 : Int) (e1 : Int) (w : World) (R : Value → World → Prop) :
    F_index_put rP rN rC e0 e1 w (fun rP rN rC w1 => R (.slice rP rN rC) w1) = den Try.prog Try.f32.ntmps G_index_put (codeOf Try.f32) [] (postD Try.prog Try.f32.results.toList R) (entry [.slice rP rN rC, .agg #[.int .i64 e0, .int .i64 e1]] 0) w := by kernel_rfl

theorem C_index_put.of {rP : Option Addr} {rN : Nat} {rC : Nat} {e0 : Int} {e1 : Int} {w : World} {R : Option Addr → Nat → Nat → World → Prop} (h : F_index_put rP rN rC e0 e1 w R) : C_index_put rP rN rC e0 e1 w R := by
  refine (calls_of_den (c := codeOf Try.f32) seat_ok seat_mixed Try.func32 (by kernel_rfl) loops_index_put (args := [.slice rP rN rC, .agg #[.int .i64 e0, .int .i64 e1]]) rfl (R := fun v w1 => ∃ (rP : Option Addr) (rN : Nat) (rC : Nat), v = (.slice rP rN rC : Value) ∧ R rP rN rC w1) ?_).mono ?_
  · rw [← den_index_put]
    have e : (fun rP rN rC w1 => ∃ (rP' : Option Addr) (rN' : Nat) (rC' : Nat), (.slice rP rN rC : Value) = (.slice rP' rN' rC' : Value) ∧ R rP' rN' rC' w1) = R := by
      funext rP rN rC w1
      exact propext ⟨fun ⟨rP', rN', rC', he, h⟩ => by simp at he; simp_all, fun h => ⟨_, _, _, rfl, h⟩⟩
    simpa only [e] using h
  · rintro en w1 ⟨v, he, rP, rN, rC, rfl, h⟩
    exact ⟨_, _, _, he, h⟩

def F_index_Table_behind_k1 (R : Int → Bool → World → Prop) (a_2 : Addr) (w1_25 : World) : Prop :=
  ∃ idx_3 : Int, w1_25.cell? (a_2.add 1) = some (.int .i64 idx_3) ∧
  R idx_3 true w1_25

def F_index_Table_behind_k2 (t : Option Addr) (rank : Int) (R : Int → Bool → World → Prop) (a_2 : Addr) (isx : Bool) (w1_19 : World) : Prop :=
  NN t fun a_3 =>
  ∃ rows_1 : Option Nat, w1_19.cell? (a_3.add 0) = some (.map rows_1) ∧
  Run Try.prog (Instr.lookup 55 (.map rows_1) (.agg #[.int .i64 0, .string ⟨#[]⟩, .int .i64 0]) false) w1_19 fun v_2 w1_20 => ∃ t46P : Option Addr, ∃ t46N : Nat, ∃ t46C : Nat, v_2 = (.slice t46P t46N t46C) ∧
  C_index_row_after t46P t46N t46C rank w1_20 fun t4800 t4801 t481 w1_21 =>
  New w1_21 (.cells #[.int .i64 0, .int .i64 0] 69) fun r_5 w1_22 =>
  St w1_22 ((⟨r_5, 0, none⟩ : Addr).add 0) (.int .i64 t4800) fun w1_23 =>
  St w1_23 ((⟨r_5, 0, none⟩ : Addr).add 1) (.int .i64 t4801) fun w1_24 =>
  If (!isx)
  (∃ idx_1 : Int, w1_24.cell? ((⟨r_5, 0, none⟩ : Addr).add 1) = some (.int .i64 idx_1) ∧
  R idx_1 t481 w1_24)
  (If t481
  (∃ rank_1 : Int, w1_24.cell? ((⟨r_5, 0, none⟩ : Addr).add 0) = some (.int .i64 rank_1) ∧
  ∃ rank_2 : Int, w1_24.cell? (a_2.add 0) = some (.int .i64 rank_2) ∧
  If (decide (rank_1 < rank_2))
  (∃ idx_2 : Int, w1_24.cell? ((⟨r_5, 0, none⟩ : Addr).add 1) = some (.int .i64 idx_2) ∧
  R idx_2 t481 w1_24)
  (F_index_Table_behind_k1 R a_2 w1_24))
  (F_index_Table_behind_k1 R a_2 w1_24))

def F_index_Table_behind (t : Option Addr) (rank : Int) (k0x : Int) (k1x : ByteArray) (k2x : Int) (w : World) (R : Int → Bool → World → Prop) : Prop :=
  New w (.cells #[.int .i64 k0x, .string k1x, .int .i64 k2x] 26) fun r w1 =>
  ∃ Kind : Int, w1.cell? ((⟨r, 0, none⟩ : Addr).add 0) = some (.int .i64 Kind) ∧
  If (Kind == (0 : Int))
  (NN t fun a =>
  ∃ allP : Option Addr, ∃ allN : Nat, ∃ allC : Nat, w1.cell? (a.add 1) = some (.slice allP allN allC) ∧
  C_index_row_after allP allN allC rank w1 fun t2300 t2301 t231 w1_1 =>
  New w1_1 (.cells #[.int .i64 0, .int .i64 0] 69) fun r_1 w1_2 =>
  St w1_2 ((⟨r_1, 0, none⟩ : Addr).add 0) (.int .i64 t2300) fun w1_3 =>
  St w1_3 ((⟨r_1, 0, none⟩ : Addr).add 1) (.int .i64 t2301) fun w1_4 =>
  ∃ idx : Int, w1_4.cell? ((⟨r_1, 0, none⟩ : Addr).add 1) = some (.int .i64 idx) ∧
  R idx t231 w1_4)
  (NN t fun a_1 =>
  ∃ rows : Option Nat, (drw w1).cell? (a_1.add 0) = some (.map rows) ∧
  ∃ t340 : Int, (drw w1).cell? ((⟨r, 0, none⟩ : Addr).add 0) = some (.int .i64 t340) ∧
  ∃ t341 : ByteArray, (drw w1).cell? ((⟨r, 0, none⟩ : Addr).add 1) = some (.string t341) ∧
  ∃ t342 : Int, (drw w1).cell? ((⟨r, 0, none⟩ : Addr).add 2) = some (.int .i64 t342) ∧
  (Run Try.prog (Instr.lookup 55 (.map rows) (.agg #[.int .i64 t340, .string t341, .int .i64 t342]) false) (drw w1) fun v w1_5 => ∃ t35P : Option Addr, ∃ t35N : Nat, ∃ t35C : Nat, v = (.slice t35P t35N t35C) ∧
  (C_index_row_after t35P t35N t35C rank w1_5 fun t3700 t3701 t371 w1_6 =>
  New w1_6 (.cells #[.int .i64 0, .int .i64 0] 69) fun r_2 w1_7 =>
  St w1_7 ((⟨r_2, 0, none⟩ : Addr).add 0) (.int .i64 t3700) fun w1_8 =>
  St w1_8 ((⟨r_2, 0, none⟩ : Addr).add 1) (.int .i64 t3701) fun w1_9 =>
  F_index_Table_behind_k2 t rank R ⟨r_2, 0, none⟩ t371 w1_9) ∧
  (New w1_5 (.cells #[.int .i64 0, .int .i64 0] 69) fun r_3 w1_10 =>
  C_index_row_after t35P t35N t35C rank w1_10 fun t3700_1 t3701_1 t371_1 w1_11 =>
  St w1_11 ((⟨r_3, 0, none⟩ : Addr).add 0) (.int .i64 t3700_1) fun w1_12 =>
  St w1_12 ((⟨r_3, 0, none⟩ : Addr).add 1) (.int .i64 t3701_1) fun w1_13 =>
  F_index_Table_behind_k2 t rank R ⟨r_3, 0, none⟩ t371_1 w1_13)) ∧
  (New (drw w1) (.cells #[.int .i64 0, .int .i64 0] 69) fun r_4 w1_14 =>
  (∀ i, i < 3 → w1_14.cell? ((⟨r, 0, none⟩ : Addr).add i) = (drw w1).cell? ((⟨r, 0, none⟩ : Addr).add i)) ∧
  w1_14.cell? (a_1.add 0) = (drw w1).cell? (a_1.add 0) ∧
  Run Try.prog (Instr.lookup 55 (.map rows) (.agg #[.int .i64 t340, .string t341, .int .i64 t342]) false) w1_14 fun v_1 w1_15 => ∃ t35P_1 : Option Addr, ∃ t35N_1 : Nat, ∃ t35C_1 : Nat, v_1 = (.slice t35P_1 t35N_1 t35C_1) ∧
  C_index_row_after t35P_1 t35N_1 t35C_1 rank w1_15 fun t3700_2 t3701_2 t371_2 w1_16 =>
  St w1_16 ((⟨r_4, 0, none⟩ : Addr).add 0) (.int .i64 t3700_2) fun w1_17 =>
  St w1_17 ((⟨r_4, 0, none⟩ : Addr).add 1) (.int .i64 t3701_2) fun w1_18 =>
  F_index_Table_behind_k2 t rank R ⟨r_4, 0, none⟩ t371_2 w1_18))

def G_index_Table_behind : Gen where
  loop := lookL []
  plan := fun id =>
    bif Nat.beq id 4 then some ([0, 1, 3, 7, 0, 31, 0, 127, 255, 511, 511, 0, 3071, 8191], .take 0 (.take 1 (.take 2 (.take 3 (.take 4 (.take 6 (.both 5 (.both 7 (.take 8 (.take 9 (.take 10 (.take 11 (.take 12 (.take 13 .done)))))) 11 (.take 7 (.take 8 (.take 9 (.take 10 (.take 12 (.take 13 .done))))))) 11 (.take 5 (.take 7 (.take 8 (.take 9 (.take 10 (.take 12 (.take 13 .done)))))))))))))) else none

theorem loops_index_Table_behind : LoopOk Try.prog Try.f33.ntmps G_index_Table_behind (codeOf Try.f33) := loopOk_none fun _ => rfl

theorem den_index_Table_behind (t : Option Addr) (rank : Int) (k0x : Int) (k1x : ByteArray) (k2x : Int) (w : World) (R : Value → World → Prop) :
    F_index_Table_behind t rank k0x k1x k2x w (fun r0 r1 w1 => R (.tuple #[.int .i64 r0, .bool r1]) w1) = den Try.prog Try.f33.ntmps G_index_Table_behind (codeOf Try.f33) [] (postD Try.prog Try.f33.results.toList R) (entry [.pointer t, .int .i64 rank, .agg #[.int .i64 k0x, .string k1x, .int .i64 k2x]] 0) w := by kernel_rfl

theorem C_index_Table_behind.of {t : Option Addr} {rank : Int} {k0x : Int} {k1x : ByteArray} {k2x : Int} {w : World} {R : Int → Bool → World → Prop} (h : F_index_Table_behind t rank k0x k1x k2x w R) : C_index_Table_behind t rank k0x k1x k2x w R := by
  refine (calls_of_den (c := codeOf Try.f33) seat_ok seat_mixed Try.func33 (by kernel_rfl) loops_index_Table_behind (args := [.pointer t, .int .i64 rank, .agg #[.int .i64 k0x, .string k1x, .int .i64 k2x]]) rfl (R := fun v w1 => ∃ (r0 : Int) (r1 : Bool), v = (.tuple #[.int .i64 r0, .bool r1] : Value) ∧ R r0 r1 w1) ?_).mono ?_
  · rw [← den_index_Table_behind]
    have e : (fun r0 r1 w1 => ∃ (r0' : Int) (r1' : Bool), (.tuple #[.int .i64 r0, .bool r1] : Value) = (.tuple #[.int .i64 r0', .bool r1'] : Value) ∧ R r0' r1' w1) = R := by
      funext r0 r1 w1
      exact propext ⟨fun ⟨r0', r1', he, h⟩ => by simp at he; simp_all, fun h => ⟨_, _, rfl, h⟩⟩
    simpa only [e] using h
  · rintro en w1 ⟨v, he, r0, r1, rfl, h⟩
    exact ⟨_, _, he, h⟩

structure S_ref18_Table_at_L1 where
  i : Int

/-- One round. -/
def B_ref18_Table_at_L1 (t_1 : Option Addr) (idx_1 : Int) (s : S_ref18_Table_at_L1) (w : World) (Kn : S_ref18_Table_at_L1 → World → Prop) (Kx0 : World → Prop) (Kr : Int → World → Prop) : Prop :=
  NN t_1 fun a =>
  ∃ LP : Option Addr, ∃ LN : Nat, ∃ LC : Nat, w.cell? (a.add 0) = some (.slice LP LN LC) ∧
  If (decide ((s.i : Int) < (LN : Int)))
  (NN t_1 fun a_1 =>
  ∃ LP_1 : Option Addr, ∃ LN_1 : Nat, ∃ LC_1 : Nat, w.cell? (a_1.add 0) = some (.slice LP_1 LN_1 LC_1) ∧
  0 ≤ (s.i : Int) ∧ (s.i : Int) < (LN_1 : Int) ∧ NN LP_1 fun a_2 =>
  ∃ Id : Int, w.cell? ((a_2.add ((s.i : Int).toNat * 4)).add 0) = some (.int .i64 Id) ∧
  If (Id == idx_1)
  (Kr (s.i : Int) w)
  (Kn ⟨(IntKind.i64.wrap ((s.i : Int) + (1 : Int)))⟩ w))
  (Kx0 w)

def F_ref18_Table_at_L1 (t_1 : Option Addr) (idx_1 : Int) (s : S_ref18_Table_at_L1) (w : World) (Kx0 : World → Prop) (Kr : Int → World → Prop) : Prop :=
  LoopS (fun s w Kn => B_ref18_Table_at_L1 t_1 idx_1 s w Kn Kx0 Kr) s w

def F_ref18_Table_at (t : Option Addr) (idx : Int) (w : World) (R : Int → World → Prop) : Prop :=
  F_ref18_Table_at_L1 t idx ⟨(0 : Int)⟩ w
  (fun w1 =>
  R (-1) w1)
  (fun t4_1 w1_1 =>
  R t4_1 w1_1)

def lit_ref18_Table_at_L1 (f : (Option Addr) × Int) (s : S_ref18_Table_at_L1) : Env := [⟨0, .pointer f.1, none⟩, ⟨1, .int .i64 f.2, none⟩, ⟨5, .int .i64 s.i, none⟩]

def dec_ref18_Table_at_L1 (e : Env) (K : ((Option Addr) × Int) → S_ref18_Table_at_L1 → Prop) : Prop :=
  onV (getV e 0) fun u1 =>
  asP u1 fun t_1 =>
  onV (getV e 1) fun u2 =>
  asI .i64 u2 fun idx_1 =>
  onV (getV e 5) fun u3 =>
  asI .i64 u3 fun i =>
    K (t_1, idx_1) ⟨i⟩

theorem dec_ref18_Table_at_L1_ok {N : Nat} (e : Env) (a : Act) (K : ((Option Addr) × Int) → S_ref18_Table_at_L1 → Prop) (hr : Rep N a e) (h0 : dec_ref18_Table_at_L1 e K) : ∃ f s, K f s ∧ Rep N a (lit_ref18_Table_at_L1 f s) := by
  unfold dec_ref18_Table_at_L1 at h0
  obtain ⟨u1, g0, h1⟩ := onV_elim h0
  obtain ⟨t_1, rfl, h2⟩ := asP_elim h1
  obtain ⟨u2, g1, h3⟩ := onV_elim h2
  obtain ⟨idx_1, rfl, h4⟩ := asI_elim h3
  obtain ⟨u3, g5, h5⟩ := onV_elim h4
  obtain ⟨i, rfl, h6⟩ := asI_elim h5
  exact ⟨_, _, h6, rep_less hr (by simp [lit_ref18_Table_at_L1, g0, g1, g5])⟩

def spec_ref18_Table_at_L1 (Q : Post) (e : Env) (w : World) : Prop :=
  dec_ref18_Table_at_L1 e fun f s => F_ref18_Table_at_L1 f.1 f.2 s w (fun w1 => Q (.exit 0) [] w1) (fun t4 w1 => Q .ret [⟨4, .int .i64 t4, none⟩] w1)

def G_ref18_Table_at : Gen where
  loop := lookL [([false, true, false, true], spec_ref18_Table_at_L1)]
  plan := fun _ => none

def dx_ref18_Table_at_L1_0 (e : Env) (K : ((Option Addr) × Int) → Prop) : Prop :=
  onV (getV e 0) fun u1 =>
  asP u1 fun t_1 =>
  onV (getV e 1) fun u2 =>
  asI .i64 u2 fun idx_1 =>
    K (t_1, idx_1)

def dx_ref18_Table_at_L1_ret (e : Env) (K : ((Option Addr) × Int) → Int → Prop) : Prop :=
  onV (getV e 0) fun u1 =>
  asP u1 fun t_1 =>
  onV (getV e 1) fun u2 =>
  asI .i64 u2 fun idx_1 =>
  onV (getV e 4) fun u3 =>
  asI .i64 u3 fun t4 =>
    K (t_1, idx_1) t4

theorem body_ref18_Table_at_L1 (f : (Option Addr) × Int) (s : S_ref18_Table_at_L1) (w : World) (Kn : ((Option Addr) × Int) → S_ref18_Table_at_L1 → World → Prop) (Kx0 : ((Option Addr) × Int) → World → Prop) (Kr : ((Option Addr) × Int) → Int → World → Prop) :
    B_ref18_Table_at_L1 f.1 f.2 s w (fun s1 w1 => Kn f s1 w1) (fun w1 => Kx0 f w1) (fun t4 w1 => Kr f t4 w1) =
    den Try.prog Try.f34.ntmps G_ref18_Table_at (sub (codeOf Try.f34) [false, false, true, false, true]) [false, false, true, false, true] (roundQ (fun e w => dec_ref18_Table_at_L1 e fun f s => Kn f s w) (fun e w => dx_ref18_Table_at_L1_ret e fun f t4 => Kr f t4 w) (fun id e w => match Nat.beq id 0 with | true => dx_ref18_Table_at_L1_0 e fun f => Kx0 f w | false => False)) (lit_ref18_Table_at_L1 f s) w := by kernel_rfl

theorem ok_ref18_Table_at_L1 : OneOk Try.prog Try.f34.ntmps G_ref18_Table_at (codeOf Try.f34) [false, true, false, true] spec_ref18_Table_at_L1 := by
  intro c hc ih Q e w a hr h
  have hcc : sub (codeOf Try.f34) [false, false, true, false, true] = c := sub_of_codeAt hc
  obtain ⟨f, s, h, hrep⟩ := dec_ref18_Table_at_L1_ok e a _ hr h
  obtain ⟨J, μ, hj, hround⟩ := h
  refine loop_rule_deep seat_ok seat_mixed ih lit_ref18_Table_at_L1 dec_ref18_Table_at_L1 dec_ref18_Table_at_L1_ok hc f J μ (Kr := fun e w => dx_ref18_Table_at_L1_ret e fun f1 t4 => f1 = f ∧ Q .ret [⟨4, .int .i64 t4, none⟩] w) (Kx := fun id e w => match Nat.beq id 0 with | true => (dx_ref18_Table_at_L1_0 e fun f1 => f1 = f ∧ Q (.exit 0) [] w) | false => False) ?_ ?_ ?_ s w a hj hrep
  · intro e a w hr h0
    unfold dx_ref18_Table_at_L1_ret at h0
    obtain ⟨u1, g0, h1⟩ := onV_elim h0
    obtain ⟨t_1, rfl, h2⟩ := asP_elim h1
    obtain ⟨u2, g1, h3⟩ := onV_elim h2
    obtain ⟨idx_1, rfl, h4⟩ := asI_elim h3
    obtain ⟨u3, g4, h5⟩ := onV_elim h4
    obtain ⟨t4, rfl, h6⟩ := asI_elim h5
    obtain ⟨hf, hq⟩ := h6
    subst hf
    exact ⟨_, rep_less hr (by simp [g4]), hq⟩
  · intro id e a w hr h0
    (try dsimp only at h0)
    split at h0
    · rename_i hid
      obtain rfl := Nat.eq_of_beq_eq_true hid
      unfold dx_ref18_Table_at_L1_0 at h0
      obtain ⟨u1, g0, h1⟩ := onV_elim h0
      obtain ⟨t_1, rfl, h2⟩ := asP_elim h1
      obtain ⟨u2, g1, h3⟩ := onV_elim h2
      obtain ⟨idx_1, rfl, h4⟩ := asI_elim h3
      obtain ⟨hf, hq⟩ := h4
      subst hf
      exact ⟨_, rep_less hr (by simp), hq⟩
    · exact h0.elim
  · intro s w hj
    have hb := hround s w hj
    rw [← hcc]
    have e1 := body_ref18_Table_at_L1 f s w (fun f1 s1 w1 => f1 = f ∧ J s1 w1 ∧ μ s1 w1 < μ s w) (fun f1 w1 => f1 = f ∧ Q (.exit 0) [] w1) (fun f1 t4 w1 => f1 = f ∧ Q .ret [⟨4, .int .i64 t4, none⟩] w1)
    simp only [true_and] at e1
    exact cast e1 hb

theorem loops_ref18_Table_at : LoopOk Try.prog Try.f34.ntmps G_ref18_Table_at (codeOf Try.f34) := loopOk_list rfl ⟨ok_ref18_Table_at_L1, trivial⟩

theorem den_ref18_Table_at (t : Option Addr) (idx : Int) (w : World) (R : Value → World → Prop) :
    F_ref18_Table_at t idx w (fun r w1 => R (.int .i64 r) w1) = den Try.prog Try.f34.ntmps G_ref18_Table_at (codeOf Try.f34) [] (postD Try.prog Try.f34.results.toList R) (entry [.pointer t, .int .i64 idx] 0) w := by kernel_rfl

theorem C_ref18_Table_at.of {t : Option Addr} {idx : Int} {w : World} {R : Int → World → Prop} (h : F_ref18_Table_at t idx w R) : C_ref18_Table_at t idx w R := by
  refine (calls_of_den (c := codeOf Try.f34) seat_ok seat_mixed Try.func34 (by kernel_rfl) loops_ref18_Table_at (args := [.pointer t, .int .i64 idx]) rfl (R := fun v w1 => ∃ (r : Int), v = (.int .i64 r : Value) ∧ R r w1) ?_).mono ?_
  · rw [← den_ref18_Table_at]
    have e : (fun r w1 => ∃ (r' : Int), (.int .i64 r : Value) = (.int .i64 r' : Value) ∧ R r' w1) = R := by
      funext r w1
      exact propext ⟨fun ⟨r', he, h⟩ => by simp at he; simp_all, fun h => ⟨_, rfl, h⟩⟩
    simpa only [e] using h
  · rintro en w1 ⟨v, he, r, rfl, h⟩
    exact ⟨_, he, h⟩

structure S_ref18_Table_from_L1 where
  i_1 : Int

/-- One round. -/
def B_ref18_Table_from_L1 (t_1 : Option Addr) (k : Addr) (s : S_ref18_Table_from_L1) (w : World) (Kn : S_ref18_Table_from_L1 → World → Prop) (Kx0 : World → Prop) (Kr : Int → Bool → World → Prop) : Prop :=
  NN t_1 fun a =>
  ∃ LP : Option Addr, ∃ LN : Nat, ∃ LC : Nat, w.cell? (a.add 0) = some (.slice LP LN LC) ∧
  If (decide ((s.i_1 : Int) < (LN : Int)))
  (NN t_1 fun a_1 =>
  ∃ LP_1 : Option Addr, ∃ LN_1 : Nat, ∃ LC_1 : Nat, (drw w).cell? (a_1.add 0) = some (.slice LP_1 LN_1 LC_1) ∧
  0 ≤ (s.i_1 : Int) ∧ (s.i_1 : Int) < (LN_1 : Int) ∧ NN LP_1 fun a_2 =>
  ∃ Key0 : Int, (drw w).cell? (((a_2.add ((s.i_1 : Int).toNat * 4)).add 1).add 0) = some (.int .i64 Key0) ∧
  ∃ Key1 : ByteArray, (drw w).cell? (((a_2.add ((s.i_1 : Int).toNat * 4)).add 1).add 1) = some (.string Key1) ∧
  ∃ Key2 : Int, (drw w).cell? (((a_2.add ((s.i_1 : Int).toNat * 4)).add 1).add 2) = some (.int .i64 Key2) ∧
  ∃ t230 : Int, (drw w).cell? (k.add 0) = some (.int .i64 t230) ∧
  ∃ t231 : ByteArray, (drw w).cell? (k.add 1) = some (.string t231) ∧
  ∃ t232 : Int, (drw w).cell? (k.add 2) = some (.int .i64 t232) ∧
  C_ref18_Meet Key0 Key1 Key2 t230 t231 t232 (drw w) fun t24 w1_1 =>
  If t24
  (NN t_1 fun a_3 =>
  ∃ LP_2 : Option Addr, ∃ LN_2 : Nat, ∃ LC_2 : Nat, w1_1.cell? (a_3.add 0) = some (.slice LP_2 LN_2 LC_2) ∧
  0 ≤ (s.i_1 : Int) ∧ (s.i_1 : Int) < (LN_2 : Int) ∧ NN LP_2 fun a_4 =>
  ∃ Id : Int, w1_1.cell? ((a_4.add ((s.i_1 : Int).toNat * 4)).add 0) = some (.int .i64 Id) ∧
  Kr Id true w1_1)
  (Kn ⟨(IntKind.i64.wrap ((s.i_1 : Int) + (1 : Int)))⟩ w1_1))
  (Kx0 w)

def F_ref18_Table_from_L1 (t_1 : Option Addr) (k : Addr) (s : S_ref18_Table_from_L1) (w : World) (Kx0 : World → Prop) (Kr : Int → Bool → World → Prop) : Prop :=
  LoopS (fun s w Kn => B_ref18_Table_from_L1 t_1 k s w Kn Kx0 Kr) s w

def F_ref18_Table_from (t : Option Addr) (i : Int) (k0x : Int) (k1x : ByteArray) (k2x : Int) (w : World) (R : Int → Bool → World → Prop) : Prop :=
  New w (.cells #[.int .i64 k0x, .string k1x, .int .i64 k2x] 26) fun r w1 =>
  F_ref18_Table_from_L1 t ⟨r, 0, none⟩ ⟨i⟩ w1
  (fun w1_2 =>
  R (0 : Int) false w1_2)
  (fun t6_1 t7_1 w1_3 =>
  R t6_1 t7_1 w1_3)

def lit_ref18_Table_from_L1 (f : (Option Addr) × Addr) (s : S_ref18_Table_from_L1) : Env := [⟨0, .pointer f.1, none⟩, ⟨5, .pointer (some f.2), none⟩, ⟨1, .int .i64 s.i_1, none⟩]

def dec_ref18_Table_from_L1 (e : Env) (K : ((Option Addr) × Addr) → S_ref18_Table_from_L1 → Prop) : Prop :=
  onV (getV e 0) fun u1 =>
  asP u1 fun t_1 =>
  onV (getV e 5) fun u2 =>
  asA u2 fun k =>
  onV (getV e 1) fun u3 =>
  asI .i64 u3 fun i_1 =>
    K (t_1, k) ⟨i_1⟩

theorem dec_ref18_Table_from_L1_ok {N : Nat} (e : Env) (a : Act) (K : ((Option Addr) × Addr) → S_ref18_Table_from_L1 → Prop) (hr : Rep N a e) (h0 : dec_ref18_Table_from_L1 e K) : ∃ f s, K f s ∧ Rep N a (lit_ref18_Table_from_L1 f s) := by
  unfold dec_ref18_Table_from_L1 at h0
  obtain ⟨u1, g0, h1⟩ := onV_elim h0
  obtain ⟨t_1, rfl, h2⟩ := asP_elim h1
  obtain ⟨u2, g5, h3⟩ := onV_elim h2
  obtain ⟨k, rfl, h4⟩ := asA_elim h3
  obtain ⟨u3, g1, h5⟩ := onV_elim h4
  obtain ⟨i_1, rfl, h6⟩ := asI_elim h5
  exact ⟨_, _, h6, rep_less hr (by simp [lit_ref18_Table_from_L1, g0, g5, g1])⟩

def spec_ref18_Table_from_L1 (Q : Post) (e : Env) (w : World) : Prop :=
  dec_ref18_Table_from_L1 e fun f s => F_ref18_Table_from_L1 f.1 f.2 s w (fun w1 => Q (.exit 0) [] w1) (fun t6 t7 w1 => Q .ret [⟨6, .int .i64 t6, none⟩, ⟨7, .bool t7, none⟩] w1)

def G_ref18_Table_from : Gen where
  loop := lookL [([false, false, true], spec_ref18_Table_from_L1)]
  plan := fun id =>
    bif Nat.beq id 2 then some ([0, 1, 3, 7, 0, 31, 63, 127, 0, 511], .take 0 (.take 1 (.take 2 (.take 3 (.take 4 (.take 5 (.take 6 (.take 7 (.take 8 (.take 9 .done)))))))))) else none

def dx_ref18_Table_from_L1_0 (e : Env) (K : ((Option Addr) × Addr) → Prop) : Prop :=
  onV (getV e 0) fun u1 =>
  asP u1 fun t_1 =>
  onV (getV e 5) fun u2 =>
  asA u2 fun k =>
    K (t_1, k)

def dx_ref18_Table_from_L1_ret (e : Env) (K : ((Option Addr) × Addr) → Int → Bool → Prop) : Prop :=
  onV (getV e 0) fun u1 =>
  asP u1 fun t_1 =>
  onV (getV e 5) fun u2 =>
  asA u2 fun k =>
  onV (getV e 6) fun u3 =>
  asI .i64 u3 fun t6 =>
  onV (getV e 7) fun u4 =>
  asB u4 fun t7 =>
    K (t_1, k) t6 t7

theorem body_ref18_Table_from_L1 (f : (Option Addr) × Addr) (s : S_ref18_Table_from_L1) (w : World) (Kn : ((Option Addr) × Addr) → S_ref18_Table_from_L1 → World → Prop) (Kx0 : ((Option Addr) × Addr) → World → Prop) (Kr : ((Option Addr) × Addr) → Int → Bool → World → Prop) :
    B_ref18_Table_from_L1 f.1 f.2 s w (fun s1 w1 => Kn f s1 w1) (fun w1 => Kx0 f w1) (fun t6 t7 w1 => Kr f t6 t7 w1) =
    den Try.prog Try.f35.ntmps G_ref18_Table_from (sub (codeOf Try.f35) [false, false, false, true]) [false, false, false, true] (roundQ (fun e w => dec_ref18_Table_from_L1 e fun f s => Kn f s w) (fun e w => dx_ref18_Table_from_L1_ret e fun f t6 t7 => Kr f t6 t7 w) (fun id e w => match Nat.beq id 0 with | true => dx_ref18_Table_from_L1_0 e fun f => Kx0 f w | false => False)) (lit_ref18_Table_from_L1 f s) w := by kernel_rfl

theorem ok_ref18_Table_from_L1 : OneOk Try.prog Try.f35.ntmps G_ref18_Table_from (codeOf Try.f35) [false, false, true] spec_ref18_Table_from_L1 := by
  intro c hc ih Q e w a hr h
  have hcc : sub (codeOf Try.f35) [false, false, false, true] = c := sub_of_codeAt hc
  obtain ⟨f, s, h, hrep⟩ := dec_ref18_Table_from_L1_ok e a _ hr h
  obtain ⟨J, μ, hj, hround⟩ := h
  refine loop_rule_deep seat_ok seat_mixed ih lit_ref18_Table_from_L1 dec_ref18_Table_from_L1 dec_ref18_Table_from_L1_ok hc f J μ (Kr := fun e w => dx_ref18_Table_from_L1_ret e fun f1 t6 t7 => f1 = f ∧ Q .ret [⟨6, .int .i64 t6, none⟩, ⟨7, .bool t7, none⟩] w) (Kx := fun id e w => match Nat.beq id 0 with | true => (dx_ref18_Table_from_L1_0 e fun f1 => f1 = f ∧ Q (.exit 0) [] w) | false => False) ?_ ?_ ?_ s w a hj hrep
  · intro e a w hr h0
    unfold dx_ref18_Table_from_L1_ret at h0
    obtain ⟨u1, g0, h1⟩ := onV_elim h0
    obtain ⟨t_1, rfl, h2⟩ := asP_elim h1
    obtain ⟨u2, g5, h3⟩ := onV_elim h2
    obtain ⟨k, rfl, h4⟩ := asA_elim h3
    obtain ⟨u3, g6, h5⟩ := onV_elim h4
    obtain ⟨t6, rfl, h6⟩ := asI_elim h5
    obtain ⟨u4, g7, h7⟩ := onV_elim h6
    obtain ⟨t7, rfl, h8⟩ := asB_elim h7
    obtain ⟨hf, hq⟩ := h8
    subst hf
    exact ⟨_, rep_less hr (by simp [g6, g7]), hq⟩
  · intro id e a w hr h0
    (try dsimp only at h0)
    split at h0
    · rename_i hid
      obtain rfl := Nat.eq_of_beq_eq_true hid
      unfold dx_ref18_Table_from_L1_0 at h0
      obtain ⟨u1, g0, h1⟩ := onV_elim h0
      obtain ⟨t_1, rfl, h2⟩ := asP_elim h1
      obtain ⟨u2, g5, h3⟩ := onV_elim h2
      obtain ⟨k, rfl, h4⟩ := asA_elim h3
      obtain ⟨hf, hq⟩ := h4
      subst hf
      exact ⟨_, rep_less hr (by simp), hq⟩
    · exact h0.elim
  · intro s w hj
    have hb := hround s w hj
    rw [← hcc]
    have e1 := body_ref18_Table_from_L1 f s w (fun f1 s1 w1 => f1 = f ∧ J s1 w1 ∧ μ s1 w1 < μ s w) (fun f1 w1 => f1 = f ∧ Q (.exit 0) [] w1) (fun f1 t6 t7 w1 => f1 = f ∧ Q .ret [⟨6, .int .i64 t6, none⟩, ⟨7, .bool t7, none⟩] w1)
    simp only [true_and] at e1
    exact cast e1 hb

theorem loops_ref18_Table_from : LoopOk Try.prog Try.f35.ntmps G_ref18_Table_from (codeOf Try.f35) := loopOk_list rfl ⟨ok_ref18_Table_from_L1, trivial⟩

theorem den_ref18_Table_from (t : Option Addr) (i : Int) (k0x : Int) (k1x : ByteArray) (k2x : Int) (w : World) (R : Value → World → Prop) :
    F_ref18_Table_from t i k0x k1x k2x w (fun r0 r1 w1 => R (.tuple #[.int .i64 r0, .bool r1]) w1) = den Try.prog Try.f35.ntmps G_ref18_Table_from (codeOf Try.f35) [] (postD Try.prog Try.f35.results.toList R) (entry [.pointer t, .int .i64 i, .agg #[.int .i64 k0x, .string k1x, .int .i64 k2x]] 0) w := by kernel_rfl

theorem C_ref18_Table_from.of {t : Option Addr} {i : Int} {k0x : Int} {k1x : ByteArray} {k2x : Int} {w : World} {R : Int → Bool → World → Prop} (h : F_ref18_Table_from t i k0x k1x k2x w R) : C_ref18_Table_from t i k0x k1x k2x w R := by
  refine (calls_of_den (c := codeOf Try.f35) seat_ok seat_mixed Try.func35 (by kernel_rfl) loops_ref18_Table_from (args := [.pointer t, .int .i64 i, .agg #[.int .i64 k0x, .string k1x, .int .i64 k2x]]) rfl (R := fun v w1 => ∃ (r0 : Int) (r1 : Bool), v = (.tuple #[.int .i64 r0, .bool r1] : Value) ∧ R r0 r1 w1) ?_).mono ?_
  · rw [← den_ref18_Table_from]
    have e : (fun r0 r1 w1 => ∃ (r0' : Int) (r1' : Bool), (.tuple #[.int .i64 r0, .bool r1] : Value) = (.tuple #[.int .i64 r0', .bool r1'] : Value) ∧ R r0' r1' w1) = R := by
      funext r0 r1 w1
      exact propext ⟨fun ⟨r0', r1', he, h⟩ => by simp at he; simp_all, fun h => ⟨_, _, rfl, h⟩⟩
    simpa only [e] using h
  · rintro en w1 ⟨v, he, r0, r1, rfl, h⟩
    exact ⟨_, _, he, h⟩

def F_index_row_place (rP : Option Addr) (rN : Nat) (rC : Nat) (rank : Int) (w : World) (R : Int → World → Prop) : Prop :=
  C_slices_BinarySearchFunc rP rN rC rank (.func (.func 41) #[] #[]) w fun t100 t101 w1 =>
  R t100 w1

def G_index_row_place : Gen where
  loop := lookL []
  plan := fun _ => none

theorem loops_index_row_place : LoopOk Try.prog Try.f36.ntmps G_index_row_place (codeOf Try.f36) := loopOk_none fun _ => rfl

theorem den_index_row_place (rP : Option Addr) (rN : Nat) (rC : Nat) (rank : Int) (w : World) (R : Value → World → Prop) :
    F_index_row_place rP rN rC rank w (fun r w1 => R (.int .i64 r) w1) = den Try.prog Try.f36.ntmps G_index_row_place (codeOf Try.f36) [] (postD Try.prog Try.f36.results.toList R) (entry [.slice rP rN rC, .int .i64 rank] 0) w := by kernel_rfl

theorem C_index_row_place.of {rP : Option Addr} {rN : Nat} {rC : Nat} {rank : Int} {w : World} {R : Int → World → Prop} (h : F_index_row_place rP rN rC rank w R) : C_index_row_place rP rN rC rank w R := by
  refine (calls_of_den (c := codeOf Try.f36) seat_ok seat_mixed Try.func36 (by kernel_rfl) loops_index_row_place (args := [.slice rP rN rC, .int .i64 rank]) rfl (R := fun v w1 => ∃ (r : Int), v = (.int .i64 r : Value) ∧ R r w1) ?_).mono ?_
  · rw [← den_index_row_place]
    have e : (fun r w1 => ∃ (r' : Int), (.int .i64 r : Value) = (.int .i64 r' : Value) ∧ R r' w1) = R := by
      funext r w1
      exact propext ⟨fun ⟨r', he, h⟩ => by simp at he; simp_all, fun h => ⟨_, rfl, h⟩⟩
    simpa only [e] using h
  · rintro en w1 ⟨v, he, r, rfl, h⟩
    exact ⟨_, he, h⟩

end Go.Proofs.Ytpkfckfdehaamaa
