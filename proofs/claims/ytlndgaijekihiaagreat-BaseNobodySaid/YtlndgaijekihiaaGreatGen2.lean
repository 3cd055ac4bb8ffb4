/- The formulas of this seat's functions, held against the loaded program by the kernel. Printed by a program. -/
import Derived.Test.YtlndgaijekihiaaGreatGenC
set_option maxRecDepth 100000
set_option linter.unusedVariables false
namespace Go.Proofs.YtlndgaijekihiaaGreat
open Go Go.D Go.Proofs

def F_law19_nobody (idx : Int) (w : World) (R : Bool → World → Prop) : Prop :=
  R false w

def G_law19_nobody : Gen where
  loop := lookL []
  plan := fun _ => none

theorem loops_law19_nobody : LoopOk Tryz.prog Tryz.f19.ntmps G_law19_nobody (codeOf Tryz.f19) := loopOk_none fun _ => rfl

theorem C_law19_nobody.of {idx : Int} {w : World} {R : Bool → World → Prop} (h : F_law19_nobody idx w R) : C_law19_nobody idx w R := ofS2 (Fm := F_law19_nobody idx w) Tryz.func19 (by kernel_rfl) loops_law19_nobody rfl (fun _ => by kernel_rfl) h

def F_base_Base_made (b : Option Addr) (w : World) (R : Bool → World → Prop) : Prop :=
  If (!b.isNone)
  (NN b fun a =>
  ∃ preds : Option Nat, w.cell? (a.add 4) = some (.map preds) ∧
  R (!preds.isNone) w)
  (R false w)

def G_base_Base_made : Gen where
  loop := lookL []
  plan := fun _ => none

theorem loops_base_Base_made : LoopOk Tryz.prog Tryz.f20.ntmps G_base_Base_made (codeOf Tryz.f20) := loopOk_none fun _ => rfl

theorem C_base_Base_made.of {b : Option Addr} {w : World} {R : Bool → World → Prop} (h : F_base_Base_made b w R) : C_base_Base_made b w R := ofS2 (Fm := F_base_Base_made b w) Tryz.func20 (by kernel_rfl) loops_base_Base_made rfl (fun _ => by kernel_rfl) h

def F_base_Base_room (b : Option Addr) (w : World) (R : Int → Bool → World → Prop) : Prop :=
  NN b fun a =>
  ∃ freeP : Option Addr, ∃ freeN : Nat, ∃ freeC : Nat, w.cell? (a.add 3) = some (.slice freeP freeN freeC) ∧
  If (decide ((freeN : Int) > (0 : Int)))
  (NN b fun a_1 =>
  ∃ freeP_1 : Option Addr, ∃ freeN_1 : Nat, ∃ freeC_1 : Nat, w.cell? (a_1.add 3) = some (.slice freeP_1 freeN_1 freeC_1) ∧
  0 ≤ (0 : Int) ∧ (0 : Int) < (freeN_1 : Int) ∧ NN freeP_1 fun a_2 =>
  ∃ t15 : Int, w.cell? (a_2.add ((0 : Int).toNat * 1)) = some (.int .i64 t15) ∧
  R t15 true w)
  (NN b fun a_3 =>
  ∃ lP : Option Addr, ∃ lN : Nat, ∃ lC : Nat, (drw w).cell? (a_3.add 2) = some (.slice lP lN lC) ∧
  NN b fun a_4 =>
  ∃ lP_1 : Option Addr, ∃ lN_1 : Nat, ∃ lC_1 : Nat, (drw w).cell? (a_4.add 2) = some (.slice lP_1 lN_1 lC_1) ∧
  NN b fun a_5 =>
  ∃ limitx : Int, (drw w).cell? (a_5.add 0) = some (.int .i64 limitx) ∧
  (drw w).cell? (a_5.add 0) = (drw w).cell? (a_5.add 0) ∧
  (drw w).cell? (a_4.add 2) = (drw w).cell? (a_4.add 2) ∧
  R (lN : Int) (decide ((lN_1 : Int) < limitx)) (drw w))

def G_base_Base_room : Gen where
  loop := lookL []
  plan := fun id =>
    bif Nat.beq id 3 then some ([0, 1, 3, 7, 15, 0, 32, 96, 224, 480, 0, 1024, 3072, 7168, 16352, 31, 65535], .take 0 (.take 1 (.take 2 (.take 3 (.take 4 (.take 5 (.take 6 (.take 7 (.take 8 (.take 9 (.take 10 (.take 11 (.take 12 (.take 13 (.take 14 (.take 15 (.take 16 .done))))))))))))))))) else none

theorem loops_base_Base_room : LoopOk Tryz.prog Tryz.f21.ntmps G_base_Base_room (codeOf Tryz.f21) := loopOk_none fun _ => rfl

theorem C_base_Base_room.of {b : Option Addr} {w : World} {R : Int → Bool → World → Prop} (h : F_base_Base_room b w R) : C_base_Base_room b w R := ofS4 (Fm := F_base_Base_room b w) Tryz.func21 (by kernel_rfl) loops_base_Base_room rfl (fun _ => by kernel_rfl) h

def F_base_of (t0 : Int) (t1 : Int) (t2 : ByteArray) (t3P : Option Addr) (t3N : Nat) (t3C : Nat) (w : World) (R : ByteArray → Int → World → Prop) : Prop :=
  New w (.cells #[.int .i64 t0, .int .i64 t1, .string t2, .slice t3P t3N t3C] 24) fun r w1 =>
  New w1 (.cells #[.string ⟨#[]⟩, .int .i64 0] 61) fun r_1 w1_1 =>
  ∃ S : ByteArray, w1_1.cell? ((⟨r, 0, none⟩ : Addr).add 2) = some (.string S) ∧
  ∃ LP : Option Addr, ∃ LN : Nat, ∃ LC : Nat, w1_1.cell? ((⟨r, 0, none⟩ : Addr).add 3) = some (.slice LP LN LC) ∧
  St w1_1 ((⟨r_1, 0, none⟩ : Addr).add 0) (.string S) fun w1_2 =>
  St w1_2 ((⟨r_1, 0, none⟩ : Addr).add 1) (.int .i64 (LN : Int)) fun w1_3 =>
  ∃ r_2 : ByteArray, w1_3.cell? ((⟨r_1, 0, none⟩ : Addr).add 0) = some (.string r_2) ∧
  ∃ r_3 : Int, w1_3.cell? ((⟨r_1, 0, none⟩ : Addr).add 1) = some (.int .i64 r_3) ∧
  R r_2 r_3 w1_3

def G_base_of : Gen where
  loop := lookL []
  plan := fun _ => none

theorem loops_base_of : LoopOk Tryz.prog Tryz.f22.ntmps G_base_of (codeOf Tryz.f22) := loopOk_none fun _ => rfl

theorem C_base_of.of {t0 : Int} {t1 : Int} {t2 : ByteArray} {t3P : Option Addr} {t3N : Nat} {t3C : Nat} {w : World} {R : ByteArray → Int → World → Prop} (h : F_base_of t0 t1 t2 t3P t3N t3C w R) : C_base_of t0 t1 t2 t3P t3N t3C w R := ofS10 (Fm := F_base_of t0 t1 t2 t3P t3N t3C w) Tryz.func22 (by kernel_rfl) loops_base_of rfl (fun _ => by kernel_rfl) h

def F_index_Table_Len (t : Option Addr) (w : World) (R : Int → World → Prop) : Prop :=
  C_index_Table_made t w fun t4 w1 =>
  If (!t4)
  (R (0 : Int) w1)
  (NN t fun a =>
  ∃ allP : Option Addr, ∃ allN : Nat, ∃ allC : Nat, w1.cell? (a.add 1) = some (.slice allP allN allC) ∧
  R (allN : Int) w1)

def G_index_Table_Len : Gen where
  loop := lookL []
  plan := fun _ => none

theorem loops_index_Table_Len : LoopOk Tryz.prog Tryz.f23.ntmps G_index_Table_Len (codeOf Tryz.f23) := loopOk_none fun _ => rfl

theorem C_index_Table_Len.of {t : Option Addr} {w : World} {R : Int → World → Prop} (h : F_index_Table_Len t w R) : C_index_Table_Len t w R := ofS8 (Fm := F_index_Table_Len t w) Tryz.func23 (by kernel_rfl) loops_index_Table_Len rfl (fun _ => by kernel_rfl) h

def F_index_New (w : World) (R : Option Addr → World → Prop) : Prop :=
  New w (.map #[] 0) fun r w1 =>
  New w1 (.map #[] 0) fun r_1 w1_1 =>
  New w1_1 (.cells #[.map (some r), .slice none 0 0, .map (some r_1), .int .i64 0, .int .i64 0] 99) fun r_2 w1_2 =>
  R (some ⟨r_2, 0, none⟩) w1_2

def G_index_New : Gen where
  loop := lookL []
  plan := fun _ => none

theorem loops_index_New : LoopOk Tryz.prog Tryz.f24.ntmps G_index_New (codeOf Tryz.f24) := loopOk_none fun _ => rfl

theorem C_index_New.of {w : World} {R : Option Addr → World → Prop} (h : F_index_New w R) : C_index_New w R := ofS11 (Fm := F_index_New w) Tryz.func24 (by kernel_rfl) loops_index_New rfl (fun _ => by kernel_rfl) h

def F_index_Table_Add_k1 (t : Option Addr) (idx : Int) (R : Int → World → Prop) (r : Nat) (rank : Int) (w1_8 : World) : Prop :=
  NN t fun a_4 =>
  ∃ first_1 : Int, (drw w1_8).cell? (a_4.add 3) = some (.int .i64 first_1) ∧
  NN t fun a_5 =>
  ∃ last_1 : Int, (drw w1_8).cell? (a_5.add 4) = some (.int .i64 last_1) ∧
  NN t fun a_6 =>
  St (drw w1_8) ((a_6.add 3).add 0) (.int .i64 (minI first_1 rank)) fun w1_9 =>
  NN t fun a_7 =>
  St w1_9 ((a_7.add 4).add 0) (.int .i64 (maxI last_1 rank)) fun w1_10 =>
  ∃ t630 : Int, w1_10.cell? ((⟨r, 0, none⟩ : Addr).add 0) = some (.int .i64 t630) ∧
  ∃ t631 : ByteArray, w1_10.cell? ((⟨r, 0, none⟩ : Addr).add 1) = some (.string t631) ∧
  ∃ t632 : Int, w1_10.cell? ((⟨r, 0, none⟩ : Addr).add 2) = some (.int .i64 t632) ∧
  C_index_key t630 t631 t632 w1_10 fun t640 t641 t642 w1_11 =>
  St w1_11 ((⟨r, 0, none⟩ : Addr).add 0) (.int .i64 t640) fun w1_12 =>
  St w1_12 ((⟨r, 0, none⟩ : Addr).add 1) (.string t641) fun w1_13 =>
  St w1_13 ((⟨r, 0, none⟩ : Addr).add 2) (.int .i64 t642) fun w1_14 =>
  New w1_14 (.cells #[.int .i64 0, .int .i64 0] 105) fun r_2 w1_15 =>
  St w1_15 ((⟨r_2, 0, none⟩ : Addr).add 0) (.int .i64 rank) fun w1_16 =>
  St w1_16 ((⟨r_2, 0, none⟩ : Addr).add 1) (.int .i64 idx) fun w1_17 =>
  NN t fun a_8 =>
  ∃ rows : Option Nat, (drw w1_17).cell? (a_8.add 0) = some (.map rows) ∧
  ∃ t720 : Int, (drw w1_17).cell? ((⟨r, 0, none⟩ : Addr).add 0) = some (.int .i64 t720) ∧
  ∃ t721 : ByteArray, (drw w1_17).cell? ((⟨r, 0, none⟩ : Addr).add 1) = some (.string t721) ∧
  ∃ t722 : Int, (drw w1_17).cell? ((⟨r, 0, none⟩ : Addr).add 2) = some (.int .i64 t722) ∧
  NN t fun a_9 =>
  ∃ rows_1 : Option Nat, (drw w1_17).cell? (a_9.add 0) = some (.map rows_1) ∧
  ∃ t770 : Int, (drw w1_17).cell? ((⟨r, 0, none⟩ : Addr).add 0) = some (.int .i64 t770) ∧
  ∃ t771 : ByteArray, (drw w1_17).cell? ((⟨r, 0, none⟩ : Addr).add 1) = some (.string t771) ∧
  ∃ t772 : Int, (drw w1_17).cell? ((⟨r, 0, none⟩ : Addr).add 2) = some (.int .i64 t772) ∧
  ∃ t790 : Int, (drw w1_17).cell? ((⟨r_2, 0, none⟩ : Addr).add 0) = some (.int .i64 t790) ∧
  ∃ t791 : Int, (drw w1_17).cell? ((⟨r_2, 0, none⟩ : Addr).add 1) = some (.int .i64 t791) ∧
  Run Tryz.prog (Instr.lookup 94 (.map rows_1) (.agg #[.int .i64 t770, .string t771, .int .i64 t772]) false) (drw w1_17) fun v_1 w1_18 => ∃ t78P : Option Addr, ∃ t78N : Nat, ∃ t78C : Nat, v_1 = (.slice t78P t78N t78C) ∧
  (∀ i_, i_ < 2 → w1_18.cell? ((⟨r_2, 0, none⟩ : Addr).add i_) = (drw w1_17).cell? ((⟨r_2, 0, none⟩ : Addr).add i_)) ∧
  (∀ i_, i_ < 3 → w1_18.cell? ((⟨r, 0, none⟩ : Addr).add i_) = (drw w1_17).cell? ((⟨r, 0, none⟩ : Addr).add i_)) ∧
  w1_18.cell? (a_8.add 0) = (drw w1_17).cell? (a_8.add 0) ∧
  C_index_put t78P t78N t78C t790 t791 w1_18 fun t80P t80N t80C w1_19 =>
  (∀ i_, i_ < 3 → w1_19.cell? ((⟨r, 0, none⟩ : Addr).add i_) = (drw w1_17).cell? ((⟨r, 0, none⟩ : Addr).add i_)) ∧
  w1_19.cell? (a_8.add 0) = (drw w1_17).cell? (a_8.add 0) ∧
  MUp Tryz.prog 94 (.map rows) (.agg #[.int .i64 t720, .string t721, .int .i64 t722]) (.slice t80P t80N t80C) w1_19 fun w1_20 =>
  NN t fun a_10 =>
  ∃ allP_1 : Option Addr, ∃ allN_1 : Nat, ∃ allC_1 : Nat, (drw w1_20).cell? (a_10.add 1) = some (.slice allP_1 allN_1 allC_1) ∧
  ∃ t860 : Int, (drw w1_20).cell? ((⟨r_2, 0, none⟩ : Addr).add 0) = some (.int .i64 t860) ∧
  ∃ t861 : Int, (drw w1_20).cell? ((⟨r_2, 0, none⟩ : Addr).add 1) = some (.int .i64 t861) ∧
  C_index_put allP_1 allN_1 allC_1 t860 t861 (drw w1_20) fun t87P t87N t87C w1_21 =>
  NN t fun a_11 =>
  St w1_21 ((a_11.add 1).add 0) (.slice t87P t87N t87C) fun w1_22 =>
  NN t fun a_12 =>
  ∃ atx_1 : Option Nat, (drw w1_22).cell? (a_12.add 2) = some (.map atx_1) ∧
  ∃ t950 : Int, (drw w1_22).cell? ((⟨r, 0, none⟩ : Addr).add 0) = some (.int .i64 t950) ∧
  ∃ t951 : ByteArray, (drw w1_22).cell? ((⟨r, 0, none⟩ : Addr).add 1) = some (.string t951) ∧
  ∃ t952 : Int, (drw w1_22).cell? ((⟨r, 0, none⟩ : Addr).add 2) = some (.int .i64 t952) ∧
  MUp Tryz.prog 97 (.map atx_1) (.int .i64 idx) (.agg #[.int .i64 t950, .string t951, .int .i64 t952, .int .i64 rank]) (drw w1_22) fun w1_23 =>
  R (0 : Int) w1_23

def F_index_Table_Add (t : Option Addr) (idx : Int) (k0x : Int) (k1x : ByteArray) (k2x : Int) (front : Bool) (w : World) (R : Int → World → Prop) : Prop :=
  New w (.cells #[.int .i64 k0x, .string k1x, .int .i64 k2x] 30) fun r w1 =>
  C_index_Table_made t w1 fun t14 w1_1 =>
  If (!t14)
  (R (6 : Int) w1_1)
  (NN t fun a =>
  ∃ atx : Option Nat, w1_1.cell? (a.add 2) = some (.map atx) ∧
  Run Tryz.prog (Instr.lookup 97 (.map atx) (.int .i64 idx) true) w1_1 fun v w1_2 => ∃ t2200 : Int, ∃ t2201 : ByteArray, ∃ t2202 : Int, ∃ t2203 : Int, ∃ t221 : Bool, v = (.tuple #[.agg #[.int .i64 t2200, .string t2201, .int .i64 t2202, .int .i64 t2203], .bool t221]) ∧
  New w1_2 (.cells #[.int .i64 0, .string ⟨#[]⟩, .int .i64 0, .int .i64 0] 101) fun r_1 w1_3 =>
  St w1_3 ((⟨r_1, 0, none⟩ : Addr).add 0) (.int .i64 t2200) fun w1_4 =>
  St w1_4 ((⟨r_1, 0, none⟩ : Addr).add 1) (.string t2201) fun w1_5 =>
  St w1_5 ((⟨r_1, 0, none⟩ : Addr).add 2) (.int .i64 t2202) fun w1_6 =>
  St w1_6 ((⟨r_1, 0, none⟩ : Addr).add 3) (.int .i64 t2203) fun w1_7 =>
  If t221
  (R (5 : Int) w1_7)
  (NN t fun a_1 =>
  ∃ allP : Option Addr, ∃ allN : Nat, ∃ allC : Nat, w1_7.cell? (a_1.add 1) = some (.slice allP allN allC) ∧
  If (decide ((allN : Int) ≥ (4096 : Int)))
  (R (2 : Int) w1_7)
  (NN t fun a_2 =>
  ∃ last : Int, w1_7.cell? (a_2.add 4) = some (.int .i64 last) ∧
  If front
  (NN t fun a_3 =>
  ∃ first : Int, w1_7.cell? (a_3.add 3) = some (.int .i64 first) ∧
  F_index_Table_Add_k1 t idx R r (IntKind.i64.wrap (first - (1 : Int))) w1_7)
  (F_index_Table_Add_k1 t idx R r (IntKind.i64.wrap (last + (1 : Int))) w1_7))))

def G_index_Table_Add : Gen where
  loop := lookL []
  plan := fun id =>
    bif Nat.beq id 11 then some ([0, 0, 0, 4, 12, 28, 0, 124, 0, 256, 768, 1792, 0, 7936, 4093, 20477, 53245, 131071, 262143, 524287], .take 0 (.take 1 (.take 2 (.take 3 (.take 4 (.take 5 (.take 6 (.take 7 (.take 8 (.take 9 (.take 10 (.take 11 (.take 12 (.take 13 (.take 14 (.take 15 (.take 16 (.take 17 (.take 18 (.take 19 .done)))))))))))))))))))) else
    bif Nat.beq id 14 then some ([0, 1, 3, 7, 0, 0, 32, 96, 224, 0, 992, 0, 4064, 8191], .take 0 (.take 1 (.take 2 (.take 3 (.take 4 (.take 5 (.take 6 (.take 7 (.take 8 (.take 9 (.take 11 (.take 10 (.take 12 (.take 13 .done)))))))))))))) else
    bif Nat.beq id 15 then some ([0, 0, 2, 6, 14, 0, 62, 127, 255, 511], .take 0 (.take 1 (.take 2 (.take 3 (.take 4 (.take 5 (.take 6 (.take 7 (.take 8 (.take 9 .done)))))))))) else
    bif Nat.beq id 16 then some ([0, 1, 3, 7, 0, 0, 0, 96, 255], .take 0 (.take 1 (.take 2 (.take 3 (.take 4 (.take 5 (.take 6 (.take 7 (.take 8 .done))))))))) else none

theorem loops_index_Table_Add : LoopOk Tryz.prog Tryz.f25.ntmps G_index_Table_Add (codeOf Tryz.f25) := loopOk_none fun _ => rfl

theorem C_index_Table_Add.of {t : Option Addr} {idx : Int} {k0x : Int} {k1x : ByteArray} {k2x : Int} {front : Bool} {w : World} {R : Int → World → Prop} (h : F_index_Table_Add t idx k0x k1x k2x front w R) : C_index_Table_Add t idx k0x k1x k2x front w R := ofS8 (Fm := F_index_Table_Add t idx k0x k1x k2x front w) Tryz.func25 (by kernel_rfl) loops_index_Table_Add rfl (fun _ => by kernel_rfl) h

def F_index_First (t0 : Int) (t1 : Int) (t2 : ByteArray) (t3P : Option Addr) (t3N : Nat) (t3C : Nat) (w : World) (R : Int → ByteArray → Int → World → Prop) : Prop :=
  New w (.cells #[.int .i64 t0, .int .i64 t1, .string t2, .slice t3P t3N t3C] 24) fun r w1 =>
  New w1 (.cells #[.int .i64 0, .string ⟨#[]⟩, .int .i64 0] 30) fun r_1 w1_1 =>
  ∃ Kind : Int, w1_1.cell? ((⟨r, 0, none⟩ : Addr).add 0) = some (.int .i64 Kind) ∧
  If (Kind != (4 : Int))
  (St w1_1 ((⟨r_1, 0, none⟩ : Addr).add 0) (.int .i64 0) fun w1_2 =>
  St w1_2 ((⟨r_1, 0, none⟩ : Addr).add 1) (.string ⟨#[]⟩) fun w1_3 =>
  St w1_3 ((⟨r_1, 0, none⟩ : Addr).add 2) (.int .i64 0) fun w1_4 =>
  ∃ r_2 : Int, w1_4.cell? ((⟨r_1, 0, none⟩ : Addr).add 0) = some (.int .i64 r_2) ∧
  ∃ r_3 : ByteArray, w1_4.cell? ((⟨r_1, 0, none⟩ : Addr).add 1) = some (.string r_3) ∧
  ∃ r_4 : Int, w1_4.cell? ((⟨r_1, 0, none⟩ : Addr).add 2) = some (.int .i64 r_4) ∧
  R r_2 r_3 r_4 w1_4)
  (∃ LP : Option Addr, ∃ LN : Nat, ∃ LC : Nat, w1_1.cell? ((⟨r, 0, none⟩ : Addr).add 3) = some (.slice LP LN LC) ∧
  If ((LN : Int) == (0 : Int))
  (St w1_1 ((⟨r_1, 0, none⟩ : Addr).add 0) (.int .i64 0) fun w1_5 =>
  St w1_5 ((⟨r_1, 0, none⟩ : Addr).add 1) (.string ⟨#[]⟩) fun w1_6 =>
  St w1_6 ((⟨r_1, 0, none⟩ : Addr).add 2) (.int .i64 0) fun w1_7 =>
  ∃ r_5 : Int, w1_7.cell? ((⟨r_1, 0, none⟩ : Addr).add 0) = some (.int .i64 r_5) ∧
  ∃ r_6 : ByteArray, w1_7.cell? ((⟨r_1, 0, none⟩ : Addr).add 1) = some (.string r_6) ∧
  ∃ r_7 : Int, w1_7.cell? ((⟨r_1, 0, none⟩ : Addr).add 2) = some (.int .i64 r_7) ∧
  R r_5 r_6 r_7 w1_7)
  (∃ LP_1 : Option Addr, ∃ LN_1 : Nat, ∃ LC_1 : Nat, w1_1.cell? ((⟨r, 0, none⟩ : Addr).add 3) = some (.slice LP_1 LN_1 LC_1) ∧
  0 ≤ (0 : Int) ∧ (0 : Int) < (LN_1 : Int) ∧ NN LP_1 fun a =>
  ∃ t160 : Int, w1_1.cell? ((a.add ((0 : Int).toNat * 4)).add 0) = some (.int .i64 t160) ∧
  ∃ t161 : Int, w1_1.cell? ((a.add ((0 : Int).toNat * 4)).add 1) = some (.int .i64 t161) ∧
  ∃ t162 : ByteArray, w1_1.cell? ((a.add ((0 : Int).toNat * 4)).add 2) = some (.string t162) ∧
  ∃ t163P : Option Addr, ∃ t163N : Nat, ∃ t163C : Nat, w1_1.cell? ((a.add ((0 : Int).toNat * 4)).add 3) = some (.slice t163P t163N t163C) ∧
  C_index_KeyOf t160 t161 t162 t163P t163N t163C w1_1 fun t170 t171 t172 w1_8 =>
  St w1_8 ((⟨r_1, 0, none⟩ : Addr).add 0) (.int .i64 t170) fun w1_9 =>
  St w1_9 ((⟨r_1, 0, none⟩ : Addr).add 1) (.string t171) fun w1_10 =>
  St w1_10 ((⟨r_1, 0, none⟩ : Addr).add 2) (.int .i64 t172) fun w1_11 =>
  ∃ r_8 : Int, w1_11.cell? ((⟨r_1, 0, none⟩ : Addr).add 0) = some (.int .i64 r_8) ∧
  ∃ r_9 : ByteArray, w1_11.cell? ((⟨r_1, 0, none⟩ : Addr).add 1) = some (.string r_9) ∧
  ∃ r_10 : Int, w1_11.cell? ((⟨r_1, 0, none⟩ : Addr).add 2) = some (.int .i64 r_10) ∧
  R r_8 r_9 r_10 w1_11))

def G_index_First : Gen where
  loop := lookL []
  plan := fun _ => none

theorem loops_index_First : LoopOk Tryz.prog Tryz.f26.ntmps G_index_First (codeOf Tryz.f26) := loopOk_none fun _ => rfl

theorem C_index_First.of {t0 : Int} {t1 : Int} {t2 : ByteArray} {t3P : Option Addr} {t3N : Nat} {t3C : Nat} {w : World} {R : Int → ByteArray → Int → World → Prop} (h : F_index_First t0 t1 t2 t3P t3N t3C w R) : C_index_First t0 t1 t2 t3P t3N t3C w R := ofS12 (Fm := F_index_First t0 t1 t2 t3P t3N t3C w) Tryz.func26 (by kernel_rfl) loops_index_First rfl (fun _ => by kernel_rfl) h

def F_base_Base_take (b : Option Addr) (idx : Int) (s0x : Int) (s1x : Int) (s2x : ByteArray) (s3P : Option Addr) (s3N : Nat) (s3C : Nat) (s4P : Option Addr) (s4N : Nat) (s4C : Nat) (s5x : Int) (s6P : Option Addr) (s6N : Nat) (s6C : Nat) (s7x : Int) (s8x : Int) (s9x : Bool) (w : World) (R : World → Prop) : Prop :=
  New w (.cells #[.int .i64 s0x, .int .i64 s1x, .string s2x, .slice s3P s3N s3C, .slice s4P s4N s4C, .int .i64 s5x, .slice s6P s6N s6C, .int .i64 s7x, .int .i64 s8x, .bool s9x] 76) fun r w1 =>
  NN b fun a =>
  ∃ lP : Option Addr, ∃ lN : Nat, ∃ lC : Nat, w1.cell? (a.add 2) = some (.slice lP lN lC) ∧
  If (idx == (lN : Int))
  (NN b fun a_1 =>
  ∃ lP_1 : Option Addr, ∃ lN_1 : Nat, ∃ lC_1 : Nat, (drw w1).cell? (a_1.add 2) = some (.slice lP_1 lN_1 lC_1) ∧
  ∃ t180 : Int, (drw w1).cell? ((⟨r, 0, none⟩ : Addr).add 0) = some (.int .i64 t180) ∧
  ∃ t181 : Int, (drw w1).cell? ((⟨r, 0, none⟩ : Addr).add 1) = some (.int .i64 t181) ∧
  ∃ t182 : ByteArray, (drw w1).cell? ((⟨r, 0, none⟩ : Addr).add 2) = some (.string t182) ∧
  ∃ t183P : Option Addr, ∃ t183N : Nat, ∃ t183C : Nat, (drw w1).cell? ((⟨r, 0, none⟩ : Addr).add 3) = some (.slice t183P t183N t183C) ∧
  ∃ t184P : Option Addr, ∃ t184N : Nat, ∃ t184C : Nat, (drw w1).cell? ((⟨r, 0, none⟩ : Addr).add 4) = some (.slice t184P t184N t184C) ∧
  ∃ t185 : Int, (drw w1).cell? ((⟨r, 0, none⟩ : Addr).add 5) = some (.int .i64 t185) ∧
  ∃ t186P : Option Addr, ∃ t186N : Nat, ∃ t186C : Nat, (drw w1).cell? ((⟨r, 0, none⟩ : Addr).add 6) = some (.slice t186P t186N t186C) ∧
  ∃ t187 : Int, (drw w1).cell? ((⟨r, 0, none⟩ : Addr).add 7) = some (.int .i64 t187) ∧
  ∃ t188 : Int, (drw w1).cell? ((⟨r, 0, none⟩ : Addr).add 8) = some (.int .i64 t188) ∧
  ∃ t189 : Bool, (drw w1).cell? ((⟨r, 0, none⟩ : Addr).add 9) = some (.bool t189) ∧
  BSl Tryz.prog 64 1 [(0, .agg #[.int .i64 t180, .int .i64 t181, .string t182, .slice t183P t183N t183C, .slice t184P t184N t184C, .int .i64 t185, .slice t186P t186N t186C, .int .i64 t187, .int .i64 t188, .bool t189])] (drw w1) fun t19P t19N t19C w1_1 =>
  w1_1.cell? (a_1.add 2) = (drw w1).cell? (a_1.add 2) ∧
  App Tryz.prog #[64, 64] 64 #[.slice lP_1 lN_1 lC_1, .slice t19P t19N t19C] w1_1 fun t20P t20N t20C w1_2 =>
  NN b fun a_2 =>
  St w1_2 ((a_2.add 2).add 0) (.slice t20P t20N t20C) fun w1_3 =>
  R w1_3)
  (NN b fun a_3 =>
  ∃ freeP : Option Addr, ∃ freeN : Nat, ∃ freeC : Nat, w1.cell? (a_3.add 3) = some (.slice freeP freeN freeC) ∧
  0 ≤ (1 : Int) ∧ (1 : Int) ≤ (freeN : Int) ∧
  NN b fun a_4 =>
  St w1 ((a_4.add 3).add 0) (.slice (adv freeP freeC (1 : Int).toNat 1) (freeN - (1 : Int).toNat) (freeC - (1 : Int).toNat)) fun w1_4 =>
  NN b fun a_5 =>
  ∃ lP_2 : Option Addr, ∃ lN_2 : Nat, ∃ lC_2 : Nat, (drw w1_4).cell? (a_5.add 2) = some (.slice lP_2 lN_2 lC_2) ∧
  ∃ t360 : Int, (drw w1_4).cell? ((⟨r, 0, none⟩ : Addr).add 0) = some (.int .i64 t360) ∧
  ∃ t361 : Int, (drw w1_4).cell? ((⟨r, 0, none⟩ : Addr).add 1) = some (.int .i64 t361) ∧
  ∃ t362 : ByteArray, (drw w1_4).cell? ((⟨r, 0, none⟩ : Addr).add 2) = some (.string t362) ∧
  ∃ t363P : Option Addr, ∃ t363N : Nat, ∃ t363C : Nat, (drw w1_4).cell? ((⟨r, 0, none⟩ : Addr).add 3) = some (.slice t363P t363N t363C) ∧
  ∃ t364P : Option Addr, ∃ t364N : Nat, ∃ t364C : Nat, (drw w1_4).cell? ((⟨r, 0, none⟩ : Addr).add 4) = some (.slice t364P t364N t364C) ∧
  ∃ t365 : Int, (drw w1_4).cell? ((⟨r, 0, none⟩ : Addr).add 5) = some (.int .i64 t365) ∧
  ∃ t366P : Option Addr, ∃ t366N : Nat, ∃ t366C : Nat, (drw w1_4).cell? ((⟨r, 0, none⟩ : Addr).add 6) = some (.slice t366P t366N t366C) ∧
  ∃ t367 : Int, (drw w1_4).cell? ((⟨r, 0, none⟩ : Addr).add 7) = some (.int .i64 t367) ∧
  ∃ t368 : Int, (drw w1_4).cell? ((⟨r, 0, none⟩ : Addr).add 8) = some (.int .i64 t368) ∧
  ∃ t369 : Bool, (drw w1_4).cell? ((⟨r, 0, none⟩ : Addr).add 9) = some (.bool t369) ∧
  0 ≤ idx ∧ idx < (lN_2 : Int) ∧ NN lP_2 fun a_6 =>
  St (drw w1_4) ((a_6.add (idx.toNat * 10)).add 0) (.int .i64 t360) fun w1_5 =>
  St w1_5 ((a_6.add (idx.toNat * 10)).add 1) (.int .i64 t361) fun w1_6 =>
  St w1_6 ((a_6.add (idx.toNat * 10)).add 2) (.string t362) fun w1_7 =>
  St w1_7 ((a_6.add (idx.toNat * 10)).add 3) (.slice t363P t363N t363C) fun w1_8 =>
  St w1_8 ((a_6.add (idx.toNat * 10)).add 4) (.slice t364P t364N t364C) fun w1_9 =>
  St w1_9 ((a_6.add (idx.toNat * 10)).add 5) (.int .i64 t365) fun w1_10 =>
  St w1_10 ((a_6.add (idx.toNat * 10)).add 6) (.slice t366P t366N t366C) fun w1_11 =>
  St w1_11 ((a_6.add (idx.toNat * 10)).add 7) (.int .i64 t367) fun w1_12 =>
  St w1_12 ((a_6.add (idx.toNat * 10)).add 8) (.int .i64 t368) fun w1_13 =>
  St w1_13 ((a_6.add (idx.toNat * 10)).add 9) (.bool t369) fun w1_14 =>
  R w1_14)

def G_base_Base_take : Gen where
  loop := lookL []
  plan := fun id =>
    bif Nat.beq id 2 then some ([0, 0, 2, 6, 14, 0, 32, 126, 255, 511, 1023], .take 0 (.take 1 (.take 2 (.take 3 (.take 4 (.take 5 (.take 6 (.take 7 (.take 8 (.take 9 (.take 10 .done))))))))))) else
    bif Nat.beq id 4 then some ([0, 1, 3, 7, 0, 0, 63, 127], .take 0 (.take 1 (.take 2 (.take 3 (.take 4 (.take 5 (.take 6 (.take 7 .done)))))))) else none

theorem loops_base_Base_take : LoopOk Tryz.prog Tryz.f27.ntmps G_base_Base_take (codeOf Tryz.f27) := loopOk_none fun _ => rfl

theorem C_base_Base_take.of {b : Option Addr} {idx : Int} {s0x : Int} {s1x : Int} {s2x : ByteArray} {s3P : Option Addr} {s3N : Nat} {s3C : Nat} {s4P : Option Addr} {s4N : Nat} {s4C : Nat} {s5x : Int} {s6P : Option Addr} {s6N : Nat} {s6C : Nat} {s7x : Int} {s8x : Int} {s9x : Bool} {w : World} {R : World → Prop} (h : F_base_Base_take b idx s0x s1x s2x s3P s3N s3C s4P s4N s4C s5x s6P s6N s6C s7x s8x s9x w R) : C_base_Base_take b idx s0x s1x s2x s3P s3N s3C s4P s4N s4C s5x s6P s6N s6C s7x s8x s9x w R := ofS1 (Fm := F_base_Base_take b idx s0x s1x s2x s3P s3N s3C s4P s4N s4C s5x s6P s6N s6C s7x s8x s9x w) Tryz.func27 (by kernel_rfl) loops_base_Base_take rfl (fun _ => by kernel_rfl) h

structure S_base_copyOf_L1 where
  t15 : Int

/-- One round. -/
def B_base_copyOf_L1 (t2 : Addr) (out_1 : Addr) (t13P : Option Addr) (t13N : Nat) (t13C : Nat) (t14 : Int) (s : S_base_copyOf_L1) (w : World) (Kn : S_base_copyOf_L1 → World → Prop) (Kx0 : World → Prop) : Prop :=
  If (decide ((s.t15 : Int) < t14))
  (0 ≤ (s.t15 : Int) ∧ (s.t15 : Int) < (t13N : Int) ∧ NN t13P fun a =>
  ∃ t180 : Int, w.cell? ((a.add ((s.t15 : Int).toNat * 5)).add 0) = some (.int .i64 t180) ∧
  ∃ t181 : Int, w.cell? ((a.add ((s.t15 : Int).toNat * 5)).add 1) = some (.int .i64 t181) ∧
  ∃ t182 : Int, w.cell? ((a.add ((s.t15 : Int).toNat * 5)).add 2) = some (.int .i64 t182) ∧
  ∃ t183 : ByteArray, w.cell? ((a.add ((s.t15 : Int).toNat * 5)).add 3) = some (.string t183) ∧
  ∃ t184P : Option Addr, ∃ t184N : Nat, ∃ t184C : Nat, w.cell? ((a.add ((s.t15 : Int).toNat * 5)).add 4) = some (.slice t184P t184N t184C) ∧
  New w (.cells #[.int .i64 0, .int .i64 0, .int .i64 0, .string ⟨#[]⟩, .slice none 0 0] 109) fun r_4 w1_19 =>
  St w1_19 ((⟨r_4, 0, none⟩ : Addr).add 0) (.int .i64 t180) fun w1_20 =>
  St w1_20 ((⟨r_4, 0, none⟩ : Addr).add 1) (.int .i64 t181) fun w1_21 =>
  St w1_21 ((⟨r_4, 0, none⟩ : Addr).add 2) (.int .i64 t182) fun w1_22 =>
  St w1_22 ((⟨r_4, 0, none⟩ : Addr).add 3) (.string t183) fun w1_23 =>
  St w1_23 ((⟨r_4, 0, none⟩ : Addr).add 4) (.slice t184P t184N t184C) fun w1_24 =>
  ∃ GoalsP_1 : Option Addr, ∃ GoalsN_1 : Nat, ∃ GoalsC_1 : Nat, (drw w1_24).cell? (out_1.add 4) = some (.slice GoalsP_1 GoalsN_1 GoalsC_1) ∧
  ∃ Kind : Int, (drw w1_24).cell? ((⟨r_4, 0, none⟩ : Addr).add 0) = some (.int .i64 Kind) ∧
  ∃ Term0 : Int, (drw w1_24).cell? (((⟨r_4, 0, none⟩ : Addr).add 1).add 0) = some (.int .i64 Term0) ∧
  ∃ Term1 : Int, (drw w1_24).cell? (((⟨r_4, 0, none⟩ : Addr).add 1).add 1) = some (.int .i64 Term1) ∧
  ∃ Term2 : ByteArray, (drw w1_24).cell? (((⟨r_4, 0, none⟩ : Addr).add 1).add 2) = some (.string Term2) ∧
  ∃ Term3P : Option Addr, ∃ Term3N : Nat, ∃ Term3C : Nat, (drw w1_24).cell? (((⟨r_4, 0, none⟩ : Addr).add 1).add 3) = some (.slice Term3P Term3N Term3C) ∧
  C_base_clone Term0 Term1 Term2 Term3P Term3N Term3C (drw w1_24) fun t250 t251 t252 t253P t253N t253C w1_25 =>
  w1_25.cell? ((⟨r_4, 0, none⟩ : Addr).add 0) = (drw w1_24).cell? ((⟨r_4, 0, none⟩ : Addr).add 0) ∧
  w1_25.cell? (out_1.add 4) = (drw w1_24).cell? (out_1.add 4) ∧
  BSl Tryz.prog 25 1 [(0, .agg #[.int .i64 Kind, .int .i64 t250, .int .i64 t251, .string t252, .slice t253P t253N t253C])] w1_25 fun t27P t27N t27C w1_26 =>
  w1_26.cell? (out_1.add 4) = (drw w1_24).cell? (out_1.add 4) ∧
  App Tryz.prog #[25, 25] 25 #[.slice GoalsP_1 GoalsN_1 GoalsC_1, .slice t27P t27N t27C] w1_26 fun t28P t28N t28C w1_27 =>
  St w1_27 ((out_1.add 4).add 0) (.slice t28P t28N t28C) fun w1_28 =>
  Kn ⟨(IntKind.i64.wrap ((s.t15 : Int) + (1 : Int)))⟩ w1_28)
  (Kx0 w)

def F_base_copyOf_L1 (t2 : Addr) (out_1 : Addr) (t13P : Option Addr) (t13N : Nat) (t13C : Nat) (t14 : Int) (s : S_base_copyOf_L1) (w : World) (Kx0 : World → Prop) : Prop :=
  LoopS (fun s w Kn => B_base_copyOf_L1 t2 out_1 t13P t13N t13C t14 s w Kn Kx0) s w

def F_base_copyOf_k1 (R : Int → Int → ByteArray → Option Addr → Nat → Nat → Option Addr → Nat → Nat → Int → World → Prop) (r : Nat) (r_1 : Nat) (out : Addr) (w1_18 : World) : Prop :=
  ∃ GoalsP : Option Addr, ∃ GoalsN : Nat, ∃ GoalsC : Nat, w1_18.cell? ((⟨r, 0, none⟩ : Addr).add 4) = some (.slice GoalsP GoalsN GoalsC) ∧
  F_base_copyOf_L1 ⟨r_1, 0, none⟩ out GoalsP GoalsN GoalsC (GoalsN : Int) ⟨(0 : Int)⟩ w1_18
  (fun w1_29 =>
  ∃ t310 : Int, w1_29.cell? (out.add 0) = some (.int .i64 t310) ∧
  ∃ t311 : Int, w1_29.cell? (out.add 1) = some (.int .i64 t311) ∧
  ∃ t312 : ByteArray, w1_29.cell? (out.add 2) = some (.string t312) ∧
  ∃ t313P : Option Addr, ∃ t313N : Nat, ∃ t313C : Nat, w1_29.cell? (out.add 3) = some (.slice t313P t313N t313C) ∧
  ∃ t314P : Option Addr, ∃ t314N : Nat, ∃ t314C : Nat, w1_29.cell? (out.add 4) = some (.slice t314P t314N t314C) ∧
  ∃ t315 : Int, w1_29.cell? (out.add 5) = some (.int .i64 t315) ∧
  St w1_29 ((⟨r_1, 0, none⟩ : Addr).add 0) (.int .i64 t310) fun w1_30 =>
  St w1_30 ((⟨r_1, 0, none⟩ : Addr).add 1) (.int .i64 t311) fun w1_31 =>
  St w1_31 ((⟨r_1, 0, none⟩ : Addr).add 2) (.string t312) fun w1_32 =>
  St w1_32 ((⟨r_1, 0, none⟩ : Addr).add 3) (.slice t313P t313N t313C) fun w1_33 =>
  St w1_33 ((⟨r_1, 0, none⟩ : Addr).add 4) (.slice t314P t314N t314C) fun w1_34 =>
  St w1_34 ((⟨r_1, 0, none⟩ : Addr).add 5) (.int .i64 t315) fun w1_35 =>
  ∃ r_5 : Int, w1_35.cell? ((⟨r_1, 0, none⟩ : Addr).add 0) = some (.int .i64 r_5) ∧
  ∃ r_6 : Int, w1_35.cell? ((⟨r_1, 0, none⟩ : Addr).add 1) = some (.int .i64 r_6) ∧
  ∃ r_7 : ByteArray, w1_35.cell? ((⟨r_1, 0, none⟩ : Addr).add 2) = some (.string r_7) ∧
  ∃ rP : Option Addr, ∃ rN : Nat, ∃ rC : Nat, w1_35.cell? ((⟨r_1, 0, none⟩ : Addr).add 3) = some (.slice rP rN rC) ∧
  ∃ rP_1 : Option Addr, ∃ rN_1 : Nat, ∃ rC_1 : Nat, w1_35.cell? ((⟨r_1, 0, none⟩ : Addr).add 4) = some (.slice rP_1 rN_1 rC_1) ∧
  ∃ r_8 : Int, w1_35.cell? ((⟨r_1, 0, none⟩ : Addr).add 5) = some (.int .i64 r_8) ∧
  R r_5 r_6 r_7 rP rN rC rP_1 rN_1 rC_1 r_8 w1_35)

def F_base_copyOf (c0 : Int) (c1 : Int) (c2 : ByteArray) (c3P : Option Addr) (c3N : Nat) (c3C : Nat) (c4P : Option Addr) (c4N : Nat) (c4C : Nat) (c5 : Int) (w : World) (R : Int → Int → ByteArray → Option Addr → Nat → Nat → Option Addr → Nat → Nat → Int → World → Prop) : Prop :=
  New w (.cells #[.int .i64 c0, .int .i64 c1, .string c2, .slice c3P c3N c3C, .slice c4P c4N c4C, .int .i64 c5] 27) fun r w1 =>
  New w1 (.cells #[.int .i64 0, .int .i64 0, .string ⟨#[]⟩, .slice none 0 0, .slice none 0 0, .int .i64 0] 27) fun r_1 w1_1 =>
  ∃ Head0 : Int, (drw w1_1).cell? (((⟨r, 0, none⟩ : Addr).add 0).add 0) = some (.int .i64 Head0) ∧
  ∃ Head1 : Int, (drw w1_1).cell? (((⟨r, 0, none⟩ : Addr).add 0).add 1) = some (.int .i64 Head1) ∧
  ∃ Head2 : ByteArray, (drw w1_1).cell? (((⟨r, 0, none⟩ : Addr).add 0).add 2) = some (.string Head2) ∧
  ∃ Head3P : Option Addr, ∃ Head3N : Nat, ∃ Head3C : Nat, (drw w1_1).cell? (((⟨r, 0, none⟩ : Addr).add 0).add 3) = some (.slice Head3P Head3N Head3C) ∧
  ∃ Vars : Int, (drw w1_1).cell? ((⟨r, 0, none⟩ : Addr).add 5) = some (.int .i64 Vars) ∧
  (C_base_clone Head0 Head1 Head2 Head3P Head3N Head3C (drw w1_1) fun t80 t81 t82 t83P t83N t83C w1_2 =>
  w1_2.cell? ((⟨r, 0, none⟩ : Addr).add 5) = (drw w1_1).cell? ((⟨r, 0, none⟩ : Addr).add 5) ∧
  New w1_2 (.cells #[.int .i64 0, .int .i64 0, .string ⟨#[]⟩, .slice none 0 0, .slice none 0 0, .int .i64 0] 27) fun r_2 w1_3 =>
  w1_3.cell? ((⟨r, 0, none⟩ : Addr).add 5) = (drw w1_1).cell? ((⟨r, 0, none⟩ : Addr).add 5) ∧
  St w1_3 ((⟨r_2, 0, none⟩ : Addr).add 0) (.int .i64 t80) fun w1_4 =>
  St w1_4 ((⟨r_2, 0, none⟩ : Addr).add 1) (.int .i64 t81) fun w1_5 =>
  St w1_5 ((⟨r_2, 0, none⟩ : Addr).add 2) (.string t82) fun w1_6 =>
  St w1_6 ((⟨r_2, 0, none⟩ : Addr).add 3) (.slice t83P t83N t83C) fun w1_7 =>
  St w1_7 ((⟨r_2, 0, none⟩ : Addr).add 4) (.slice none 0 0) fun w1_8 =>
  St w1_8 ((⟨r_2, 0, none⟩ : Addr).add 5) (.int .i64 Vars) fun w1_9 =>
  F_base_copyOf_k1 R r r_1 ⟨r_2, 0, none⟩ w1_9) ∧
  (New (drw w1_1) (.cells #[.int .i64 0, .int .i64 0, .string ⟨#[]⟩, .slice none 0 0, .slice none 0 0, .int .i64 0] 27) fun r_3 w1_10 =>
  w1_10.cell? ((⟨r, 0, none⟩ : Addr).add 5) = (drw w1_1).cell? ((⟨r, 0, none⟩ : Addr).add 5) ∧
  (∀ i_, i_ < 4 → w1_10.cell? (((⟨r, 0, none⟩ : Addr).add 0).add i_) = (drw w1_1).cell? (((⟨r, 0, none⟩ : Addr).add 0).add i_)) ∧
  C_base_clone Head0 Head1 Head2 Head3P Head3N Head3C w1_10 fun t80_1 t81_1 t82_1 t83P_1 t83N_1 t83C_1 w1_11 =>
  w1_11.cell? ((⟨r, 0, none⟩ : Addr).add 5) = (drw w1_1).cell? ((⟨r, 0, none⟩ : Addr).add 5) ∧
  St w1_11 ((⟨r_3, 0, none⟩ : Addr).add 0) (.int .i64 t80_1) fun w1_12 =>
  St w1_12 ((⟨r_3, 0, none⟩ : Addr).add 1) (.int .i64 t81_1) fun w1_13 =>
  St w1_13 ((⟨r_3, 0, none⟩ : Addr).add 2) (.string t82_1) fun w1_14 =>
  St w1_14 ((⟨r_3, 0, none⟩ : Addr).add 3) (.slice t83P_1 t83N_1 t83C_1) fun w1_15 =>
  St w1_15 ((⟨r_3, 0, none⟩ : Addr).add 4) (.slice none 0 0) fun w1_16 =>
  St w1_16 ((⟨r_3, 0, none⟩ : Addr).add 5) (.int .i64 Vars) fun w1_17 =>
  F_base_copyOf_k1 R r r_1 ⟨r_3, 0, none⟩ w1_17)

def lit_base_copyOf_L1 (f : Addr × Addr × (Option Addr) × Nat × Nat × Int) (s : S_base_copyOf_L1) : Env := [⟨2, .pointer (some f.1), none⟩, ⟨3, .pointer (some f.2.1), none⟩, ⟨13, .slice f.2.2.1 f.2.2.2.1 f.2.2.2.2.1, none⟩, ⟨14, .int .i64 f.2.2.2.2.2, none⟩, ⟨15, .int .i64 s.t15, none⟩]

def dec_base_copyOf_L1 (e : Env) (K : (Addr × Addr × (Option Addr) × Nat × Nat × Int) → S_base_copyOf_L1 → Prop) : Prop :=
  oA e 2 fun t2 =>
  oA e 3 fun out_1 =>
  oS e 13 fun t13P t13N t13C =>
  oI e 14 .i64 fun t14 =>
  oI e 15 .i64 fun t15 =>
    K (t2, out_1, t13P, t13N, t13C, t14) ⟨t15⟩

theorem dec_base_copyOf_L1_ok {N : Nat} (e : Env) (a : Act) (K : (Addr × Addr × (Option Addr) × Nat × Nat × Int) → S_base_copyOf_L1 → Prop) (hr : Rep N a e) (h0 : dec_base_copyOf_L1 e K) : ∃ f s, K f s ∧ Rep N a (lit_base_copyOf_L1 f s) := by
  unfold dec_base_copyOf_L1 at h0
  obtain ⟨t2, g2, h1⟩ := oA_elim h0
  obtain ⟨out_1, g3, h2⟩ := oA_elim h1
  obtain ⟨t13P, t13N, t13C, g13, h3⟩ := oS_elim h2
  obtain ⟨t14, g14, h4⟩ := oI_elim h3
  obtain ⟨t15, g15, h5⟩ := oI_elim h4
  exact ⟨_, _, h5, rep_less hr (by simp [lit_base_copyOf_L1, g2, g3, g13, g14, g15])⟩

def spec_base_copyOf_L1 (Q : Post) (e : Env) (w : World) : Prop :=
  dec_base_copyOf_L1 e fun f s => F_base_copyOf_L1 f.1 f.2.1 f.2.2.1 f.2.2.2.1 f.2.2.2.2.1 f.2.2.2.2.2 s w (fun w1 => Q (.exit 0) [⟨2, .pointer (some f.1), none⟩, ⟨3, .pointer (some f.2.1), none⟩] w1)

def G_base_copyOf : Gen where
  loop := lookL [([false, true, false, true, true], spec_base_copyOf_L1)]
  plan := fun id =>
    bif Nat.beq id 1 then some ([0, 1, 3, 0, 8, 31, 0, 127], .take 0 (.take 1 (.take 3 (.take 4 (.both 2 (.take 5 (.take 6 (.take 7 .done))) 6 (.take 2 (.take 5 (.take 7 .done)))))))) else
    bif Nat.beq id 5 then some ([0, 1, 0, 4, 0, 16, 48, 124, 252, 511, 1023, 2047], .take 0 (.take 1 (.take 2 (.take 3 (.take 4 (.take 5 (.take 6 (.take 7 (.take 8 (.take 9 (.take 10 (.take 11 .done)))))))))))) else none

def dx_base_copyOf_L1_0 (e : Env) (K : (Addr × Addr × (Option Addr) × Nat × Nat × Int) → Prop) : Prop :=
  oA e 2 fun t2 =>
  oA e 3 fun out_1 =>
  oS e 13 fun t13P t13N t13C =>
  oI e 14 .i64 fun t14 =>
    K (t2, out_1, t13P, t13N, t13C, t14)

theorem body_base_copyOf_L1 (f : Addr × Addr × (Option Addr) × Nat × Nat × Int) (s : S_base_copyOf_L1) (w : World) (Kn : (Addr × Addr × (Option Addr) × Nat × Nat × Int) → S_base_copyOf_L1 → World → Prop) (Kx0 : (Addr × Addr × (Option Addr) × Nat × Nat × Int) → World → Prop) :
    B_base_copyOf_L1 f.1 f.2.1 f.2.2.1 f.2.2.2.1 f.2.2.2.2.1 f.2.2.2.2.2 s w (fun s1 w1 => Kn f s1 w1) (fun w1 => Kx0 f w1) =
    den Tryz.prog Tryz.f28.ntmps G_base_copyOf (sub (codeOf Tryz.f28) [false, false, true, false, true, true]) [false, false, true, false, true, true] (roundQ (fun e w => dec_base_copyOf_L1 e fun f s => Kn f s w) (fun e w => False) (fun id e w => match Nat.beq id 0 with | true => dx_base_copyOf_L1_0 e fun f => Kx0 f w | false => False)) (lit_base_copyOf_L1 f s) w := by kernel_rfl

theorem ok_base_copyOf_L1 : OneOk Tryz.prog Tryz.f28.ntmps G_base_copyOf (codeOf Tryz.f28) [false, true, false, true, true] spec_base_copyOf_L1 := by
  intro c hc ih Q e w a hr h
  have hcc : sub (codeOf Tryz.f28) [false, false, true, false, true, true] = c := sub_of_codeAt hc
  obtain ⟨f, s, h, hrep⟩ := dec_base_copyOf_L1_ok e a _ hr h
  obtain ⟨J, μ, hj, hround⟩ := h
  refine loop_rule_deep seat_ok seat_mixed ih lit_base_copyOf_L1 dec_base_copyOf_L1 dec_base_copyOf_L1_ok hc f J μ (Kr := fun e w => False) (Kx := fun id e w => match Nat.beq id 0 with | true => (dx_base_copyOf_L1_0 e fun f1 => f1 = f ∧ Q (.exit 0) [⟨2, .pointer (some f.1), none⟩, ⟨3, .pointer (some f.2.1), none⟩] w) | false => False) ?_ ?_ ?_ s w a hj hrep
  · intro e a w hr h
    exact h.elim
  · intro id e a w hr h0
    (try dsimp only at h0)
    split at h0
    · rename_i hid
      obtain rfl := Nat.eq_of_beq_eq_true hid
      unfold dx_base_copyOf_L1_0 at h0
      obtain ⟨t2, g2, h1⟩ := oA_elim h0
      obtain ⟨out_1, g3, h2⟩ := oA_elim h1
      obtain ⟨t13P, t13N, t13C, g13, h3⟩ := oS_elim h2
      obtain ⟨t14, g14, h4⟩ := oI_elim h3
      obtain ⟨hf, hq⟩ := h4
      subst hf
      exact ⟨_, rep_less hr (by simp [g2, g3]), hq⟩
    · exact h0.elim
  · intro s w hj
    have hb := hround s w hj
    rw [← hcc]
    have e1 := body_base_copyOf_L1 f s w (fun f1 s1 w1 => f1 = f ∧ J s1 w1 ∧ μ s1 w1 < μ s w) (fun f1 w1 => f1 = f ∧ Q (.exit 0) [⟨2, .pointer (some f.1), none⟩, ⟨3, .pointer (some f.2.1), none⟩] w1)
    simp only [true_and] at e1
    exact cast e1 hb

theorem loops_base_copyOf : LoopOk Tryz.prog Tryz.f28.ntmps G_base_copyOf (codeOf Tryz.f28) := loopOk_list rfl ⟨ok_base_copyOf_L1, trivial⟩

theorem C_base_copyOf.of {c0 : Int} {c1 : Int} {c2 : ByteArray} {c3P : Option Addr} {c3N : Nat} {c3C : Nat} {c4P : Option Addr} {c4N : Nat} {c4C : Nat} {c5 : Int} {w : World} {R : Int → Int → ByteArray → Option Addr → Nat → Nat → Option Addr → Nat → Nat → Int → World → Prop} (h : F_base_copyOf c0 c1 c2 c3P c3N c3C c4P c4N c4C c5 w R) : C_base_copyOf c0 c1 c2 c3P c3N c3C c4P c4N c4C c5 w R := ofS13 (Fm := F_base_copyOf c0 c1 c2 c3P c3N c3C c4P c4N c4C c5 w) Tryz.func28 (by kernel_rfl) loops_base_copyOf rfl (fun _ => by kernel_rfl) h

def F_slices_Clone (sP : Option Addr) (sN : Nat) (sC : Nat) (w : World) (R : Option Addr → Nat → Nat → World → Prop) : Prop :=
  If sP.isNone
  (R none 0 0 w)
  (BSl Tryz.prog 28 0 [] w fun t5P t5N t5C w1 =>
  App Tryz.prog #[28, 28] 28 #[.slice t5P t5N t5C, .slice sP sN sC] w1 fun t7P t7N t7C w1_1 =>
  R t7P t7N t7C w1_1)

def G_slices_Clone : Gen where
  loop := lookL []
  plan := fun _ => none

theorem loops_slices_Clone : LoopOk Tryz.prog Tryz.f29.ntmps G_slices_Clone (codeOf Tryz.f29) := loopOk_none fun _ => rfl

theorem C_slices_Clone.of {sP : Option Addr} {sN : Nat} {sC : Nat} {w : World} {R : Option Addr → Nat → Nat → World → Prop} (h : F_slices_Clone sP sN sC w R) : C_slices_Clone sP sN sC w R := ofS9 (Fm := F_slices_Clone sP sN sC w) Tryz.func29 (by kernel_rfl) loops_slices_Clone rfl (fun _ => by kernel_rfl) h

def F_index_Table_Head (t : Option Addr) (k0x : Int) (k1x : ByteArray) (k2x : Int) (w : World) (R : Int → Bool → World → Prop) : Prop :=
  New w (.cells #[.int .i64 k0x, .string k1x, .int .i64 k2x] 30) fun r w1 =>
  C_index_Table_made t w1 fun t7 w1_1 =>
  If (!t7)
  (R (0 : Int) false w1_1)
  (NN t fun a =>
  ∃ first : Int, (drw w1_1).cell? (a.add 3) = some (.int .i64 first) ∧
  ∃ t150 : Int, (drw w1_1).cell? ((⟨r, 0, none⟩ : Addr).add 0) = some (.int .i64 t150) ∧
  ∃ t151 : ByteArray, (drw w1_1).cell? ((⟨r, 0, none⟩ : Addr).add 1) = some (.string t151) ∧
  ∃ t152 : Int, (drw w1_1).cell? ((⟨r, 0, none⟩ : Addr).add 2) = some (.int .i64 t152) ∧
  C_index_Table_behind t (IntKind.i64.wrap (first - (1 : Int))) t150 t151 t152 (drw w1_1) fun t160 t161 w1_2 =>
  R t160 t161 w1_2)

def G_index_Table_Head : Gen where
  loop := lookL []
  plan := fun id =>
    bif Nat.beq id 3 then some ([0, 0, 2, 6, 14, 30, 0, 127, 255, 255, 1023, 2047], .take 0 (.take 1 (.take 2 (.take 3 (.take 4 (.take 5 (.take 6 (.take 7 (.take 8 (.take 9 (.take 10 (.take 11 .done)))))))))))) else none

theorem loops_index_Table_Head : LoopOk Tryz.prog Tryz.f30.ntmps G_index_Table_Head (codeOf Tryz.f30) := loopOk_none fun _ => rfl

theorem C_index_Table_Head.of {t : Option Addr} {k0x : Int} {k1x : ByteArray} {k2x : Int} {w : World} {R : Int → Bool → World → Prop} (h : F_index_Table_Head t k0x k1x k2x w R) : C_index_Table_Head t k0x k1x k2x w R := ofS4 (Fm := F_index_Table_Head t k0x k1x k2x w) Tryz.func30 (by kernel_rfl) loops_index_Table_Head rfl (fun _ => by kernel_rfl) h

structure S_base_Base_first_L1 where
  idx_1 : Int
  isx_1 : Bool

/-- One round. -/
def B_base_Base_first_L1 (b_1 : Option Addr) (t_1 : Option Addr) (generation_1 : Int) (k : Addr) (s : S_base_Base_first_L1) (w : World) (Kn : S_base_Base_first_L1 → World → Prop) (Kx0 : Int → Bool → World → Prop) : Prop :=
  If s.isx_1
  (C_base_Base_Lives b_1 (s.idx_1 : Int) generation_1 w fun t19 w1_1 =>
  If (!t19)
  (∃ t250 : Int, w1_1.cell? (k.add 0) = some (.int .i64 t250) ∧
  ∃ t251 : ByteArray, w1_1.cell? (k.add 1) = some (.string t251) ∧
  ∃ t252 : Int, w1_1.cell? (k.add 2) = some (.int .i64 t252) ∧
  C_index_Table_Next t_1 (s.idx_1 : Int) t250 t251 t252 w1_1 fun t260 t261 w1_2 =>
  Kn ⟨t260, t261⟩ w1_2)
  (Kx0 (s.idx_1 : Int) s.isx_1 w1_1))
  (Kx0 (s.idx_1 : Int) s.isx_1 w)

def F_base_Base_first_L1 (b_1 : Option Addr) (t_1 : Option Addr) (generation_1 : Int) (k : Addr) (s : S_base_Base_first_L1) (w : World) (Kx0 : Int → Bool → World → Prop) : Prop :=
  LoopS (fun s w Kn => B_base_Base_first_L1 b_1 t_1 generation_1 k s w Kn Kx0) s w

def F_base_Base_first (b : Option Addr) (t : Option Addr) (idx : Int) (isx : Bool) (k0x : Int) (k1x : ByteArray) (k2x : Int) (generation : Int) (w : World) (R : Int → Bool → World → Prop) : Prop :=
  New w (.cells #[.int .i64 k0x, .string k1x, .int .i64 k2x] 30) fun r w1 =>
  F_base_Base_first_L1 b t generation ⟨r, 0, none⟩ ⟨idx, isx⟩ w1
  (fun idx_3 isx_3 w1_3 =>
  R idx_3 isx_3 w1_3)

def lit_base_Base_first_L1 (f : (Option Addr) × (Option Addr) × Int × Addr) (s : S_base_Base_first_L1) : Env := [⟨0, .pointer f.1, none⟩, ⟨1, .pointer f.2.1, none⟩, ⟨5, .int .i64 f.2.2.1, none⟩, ⟨10, .pointer (some f.2.2.2), none⟩, ⟨2, .int .i64 s.idx_1, none⟩, ⟨3, .bool s.isx_1, none⟩]

def dec_base_Base_first_L1 (e : Env) (K : ((Option Addr) × (Option Addr) × Int × Addr) → S_base_Base_first_L1 → Prop) : Prop :=
  oP e 0 fun b_1 =>
  oP e 1 fun t_1 =>
  oI e 5 .i64 fun generation_1 =>
  oA e 10 fun k =>
  oI e 2 .i64 fun idx_1 =>
  oB e 3 fun isx_1 =>
    K (b_1, t_1, generation_1, k) ⟨idx_1, isx_1⟩

theorem dec_base_Base_first_L1_ok {N : Nat} (e : Env) (a : Act) (K : ((Option Addr) × (Option Addr) × Int × Addr) → S_base_Base_first_L1 → Prop) (hr : Rep N a e) (h0 : dec_base_Base_first_L1 e K) : ∃ f s, K f s ∧ Rep N a (lit_base_Base_first_L1 f s) := by
  unfold dec_base_Base_first_L1 at h0
  obtain ⟨b_1, g0, h1⟩ := oP_elim h0
  obtain ⟨t_1, g1, h2⟩ := oP_elim h1
  obtain ⟨generation_1, g5, h3⟩ := oI_elim h2
  obtain ⟨k, g10, h4⟩ := oA_elim h3
  obtain ⟨idx_1, g2, h5⟩ := oI_elim h4
  obtain ⟨isx_1, g3, h6⟩ := oB_elim h5
  exact ⟨_, _, h6, rep_less hr (by simp [lit_base_Base_first_L1, g0, g1, g5, g10, g2, g3])⟩

def spec_base_Base_first_L1 (Q : Post) (e : Env) (w : World) : Prop :=
  dec_base_Base_first_L1 e fun f s => F_base_Base_first_L1 f.1 f.2.1 f.2.2.1 f.2.2.2 s w (fun idx_2 isx_2 w1 => Q (.exit 0) [⟨2, .int .i64 idx_2, none⟩, ⟨3, .bool isx_2, none⟩] w1)

def G_base_Base_first : Gen where
  loop := lookL [([false, false, true], spec_base_Base_first_L1)]
  plan := fun _ => none

def dx_base_Base_first_L1_0 (e : Env) (K : ((Option Addr) × (Option Addr) × Int × Addr) → Int → Bool → Prop) : Prop :=
  oP e 0 fun b_1 =>
  oP e 1 fun t_1 =>
  oI e 5 .i64 fun generation_1 =>
  oA e 10 fun k =>
  oI e 2 .i64 fun idx_2 =>
  oB e 3 fun isx_2 =>
    K (b_1, t_1, generation_1, k) idx_2 isx_2

theorem body_base_Base_first_L1 (f : (Option Addr) × (Option Addr) × Int × Addr) (s : S_base_Base_first_L1) (w : World) (Kn : ((Option Addr) × (Option Addr) × Int × Addr) → S_base_Base_first_L1 → World → Prop) (Kx0 : ((Option Addr) × (Option Addr) × Int × Addr) → Int → Bool → World → Prop) :
    B_base_Base_first_L1 f.1 f.2.1 f.2.2.1 f.2.2.2 s w (fun s1 w1 => Kn f s1 w1) (fun idx_2 isx_2 w1 => Kx0 f idx_2 isx_2 w1) =
    den Tryz.prog Tryz.f31.ntmps G_base_Base_first (sub (codeOf Tryz.f31) [false, false, false, true]) [false, false, false, true] (roundQ (fun e w => dec_base_Base_first_L1 e fun f s => Kn f s w) (fun e w => False) (fun id e w => match Nat.beq id 0 with | true => dx_base_Base_first_L1_0 e fun f idx_2 isx_2 => Kx0 f idx_2 isx_2 w | false => False)) (lit_base_Base_first_L1 f s) w := by kernel_rfl

theorem ok_base_Base_first_L1 : OneOk Tryz.prog Tryz.f31.ntmps G_base_Base_first (codeOf Tryz.f31) [false, false, true] spec_base_Base_first_L1 := by
  intro c hc ih Q e w a hr h
  have hcc : sub (codeOf Tryz.f31) [false, false, false, true] = c := sub_of_codeAt hc
  obtain ⟨f, s, h, hrep⟩ := dec_base_Base_first_L1_ok e a _ hr h
  obtain ⟨J, μ, hj, hround⟩ := h
  refine loop_rule_deep seat_ok seat_mixed ih lit_base_Base_first_L1 dec_base_Base_first_L1 dec_base_Base_first_L1_ok hc f J μ (Kr := fun e w => False) (Kx := fun id e w => match Nat.beq id 0 with | true => (dx_base_Base_first_L1_0 e fun f1 idx_2 isx_2 => f1 = f ∧ Q (.exit 0) [⟨2, .int .i64 idx_2, none⟩, ⟨3, .bool isx_2, none⟩] w) | false => False) ?_ ?_ ?_ s w a hj hrep
  · intro e a w hr h
    exact h.elim
  · intro id e a w hr h0
    (try dsimp only at h0)
    split at h0
    · rename_i hid
      obtain rfl := Nat.eq_of_beq_eq_true hid
      unfold dx_base_Base_first_L1_0 at h0
      obtain ⟨b_1, g0, h1⟩ := oP_elim h0
      obtain ⟨t_1, g1, h2⟩ := oP_elim h1
      obtain ⟨generation_1, g5, h3⟩ := oI_elim h2
      obtain ⟨k, g10, h4⟩ := oA_elim h3
      obtain ⟨idx_2, g2, h5⟩ := oI_elim h4
      obtain ⟨isx_2, g3, h6⟩ := oB_elim h5
      obtain ⟨hf, hq⟩ := h6
      subst hf
      exact ⟨_, rep_less hr (by simp [g2, g3]), hq⟩
    · exact h0.elim
  · intro s w hj
    have hb := hround s w hj
    rw [← hcc]
    have e1 := body_base_Base_first_L1 f s w (fun f1 s1 w1 => f1 = f ∧ J s1 w1 ∧ μ s1 w1 < μ s w) (fun f1 idx_2 isx_2 w1 => f1 = f ∧ Q (.exit 0) [⟨2, .int .i64 idx_2, none⟩, ⟨3, .bool isx_2, none⟩] w1)
    simp only [true_and] at e1
    exact cast e1 hb

theorem loops_base_Base_first : LoopOk Tryz.prog Tryz.f31.ntmps G_base_Base_first (codeOf Tryz.f31) := loopOk_list rfl ⟨ok_base_Base_first_L1, trivial⟩

theorem C_base_Base_first.of {b : Option Addr} {t : Option Addr} {idx : Int} {isx : Bool} {k0x : Int} {k1x : ByteArray} {k2x : Int} {generation : Int} {w : World} {R : Int → Bool → World → Prop} (h : F_base_Base_first b t idx isx k0x k1x k2x generation w R) : C_base_Base_first b t idx isx k0x k1x k2x generation w R := ofS4 (Fm := F_base_Base_first b t idx isx k0x k1x k2x generation w) Tryz.func31 (by kernel_rfl) loops_base_Base_first rfl (fun _ => by kernel_rfl) h

def F_base_Base_has_k1 (R : Bool → World → Prop) (w1_1 : World) : Prop :=
  R false w1_1

def F_base_Base_has (b : Option Addr) (idx : Int) (w : World) (R : Bool → World → Prop) : Prop :=
  C_base_Base_made b w fun t6 w1 =>
  If t6
  (If (decide (idx ≥ (0 : Int)))
  (NN b fun a =>
  ∃ lP : Option Addr, ∃ lN : Nat, ∃ lC : Nat, w1.cell? (a.add 2) = some (.slice lP lN lC) ∧
  If (decide (idx < (lN : Int)))
  (NN b fun a_1 =>
  ∃ lP_1 : Option Addr, ∃ lN_1 : Nat, ∃ lC_1 : Nat, w1.cell? (a_1.add 2) = some (.slice lP_1 lN_1 lC_1) ∧
  0 ≤ idx ∧ idx < (lN_1 : Int) ∧ NN lP_1 fun a_2 =>
  ∃ isx : Bool, w1.cell? ((a_2.add (idx.toNat * 10)).add 9) = some (.bool isx) ∧
  R isx w1)
  (F_base_Base_has_k1 R w1))
  (F_base_Base_has_k1 R w1))
  (F_base_Base_has_k1 R w1)

def G_base_Base_has : Gen where
  loop := lookL []
  plan := fun _ => none

theorem loops_base_Base_has : LoopOk Tryz.prog Tryz.f32.ntmps G_base_Base_has (codeOf Tryz.f32) := loopOk_none fun _ => rfl

theorem C_base_Base_has.of {b : Option Addr} {idx : Int} {w : World} {R : Bool → World → Prop} (h : F_base_Base_has b idx w R) : C_base_Base_has b idx w R := ofS2 (Fm := F_base_Base_has b idx w) Tryz.func32 (by kernel_rfl) loops_base_Base_has rfl (fun _ => by kernel_rfl) h

def F_index_Table_Next (t : Option Addr) (after : Int) (k0x : Int) (k1x : ByteArray) (k2x : Int) (w : World) (R : Int → Bool → World → Prop) : Prop :=
  New w (.cells #[.int .i64 k0x, .string k1x, .int .i64 k2x] 30) fun r w1 =>
  C_index_Table_made t w1 fun t11 w1_1 =>
  If (!t11)
  (R (0 : Int) false w1_1)
  (NN t fun a =>
  ∃ atx : Option Nat, w1_1.cell? (a.add 2) = some (.map atx) ∧
  Run Tryz.prog (Instr.lookup 97 (.map atx) (.int .i64 after) true) w1_1 fun v w1_2 => ∃ t1900 : Int, ∃ t1901 : ByteArray, ∃ t1902 : Int, ∃ t1903 : Int, ∃ t191 : Bool, v = (.tuple #[.agg #[.int .i64 t1900, .string t1901, .int .i64 t1902, .int .i64 t1903], .bool t191]) ∧
  New w1_2 (.cells #[.int .i64 0, .string ⟨#[]⟩, .int .i64 0, .int .i64 0] 101) fun r_1 w1_3 =>
  St w1_3 ((⟨r_1, 0, none⟩ : Addr).add 0) (.int .i64 t1900) fun w1_4 =>
  St w1_4 ((⟨r_1, 0, none⟩ : Addr).add 1) (.string t1901) fun w1_5 =>
  St w1_5 ((⟨r_1, 0, none⟩ : Addr).add 2) (.int .i64 t1902) fun w1_6 =>
  St w1_6 ((⟨r_1, 0, none⟩ : Addr).add 3) (.int .i64 t1903) fun w1_7 =>
  If (!t191)
  (R (0 : Int) false w1_7)
  (∃ rank : Int, w1_7.cell? ((⟨r_1, 0, none⟩ : Addr).add 3) = some (.int .i64 rank) ∧
  ∃ t270 : Int, w1_7.cell? ((⟨r, 0, none⟩ : Addr).add 0) = some (.int .i64 t270) ∧
  ∃ t271 : ByteArray, w1_7.cell? ((⟨r, 0, none⟩ : Addr).add 1) = some (.string t271) ∧
  ∃ t272 : Int, w1_7.cell? ((⟨r, 0, none⟩ : Addr).add 2) = some (.int .i64 t272) ∧
  C_index_Table_behind t rank t270 t271 t272 w1_7 fun t280 t281 w1_8 =>
  R t280 t281 w1_8))

def G_index_Table_Next : Gen where
  loop := lookL []
  plan := fun _ => none

theorem loops_index_Table_Next : LoopOk Tryz.prog Tryz.f33.ntmps G_index_Table_Next (codeOf Tryz.f33) := loopOk_none fun _ => rfl

theorem C_index_Table_Next.of {t : Option Addr} {after : Int} {k0x : Int} {k1x : ByteArray} {k2x : Int} {w : World} {R : Int → Bool → World → Prop} (h : F_index_Table_Next t after k0x k1x k2x w R) : C_index_Table_Next t after k0x k1x k2x w R := ofS4 (Fm := F_index_Table_Next t after k0x k1x k2x w) Tryz.func33 (by kernel_rfl) loops_index_Table_Next rfl (fun _ => by kernel_rfl) h

def F_base_Base_may (b : Option Addr) (idx : Int) (w : World) (R : Int → World → Prop) : Prop :=
  C_base_Base_made b w fun t7 w1 =>
  If (!t7)
  (R (6 : Int) w1)
  (C_base_Base_has b idx w1 fun t12 w1_1 =>
  If (!t12)
  (R (4 : Int) w1_1)
  (R (0 : Int) w1_1))

def G_base_Base_may : Gen where
  loop := lookL []
  plan := fun _ => none

theorem loops_base_Base_may : LoopOk Tryz.prog Tryz.f34.ntmps G_base_Base_may (codeOf Tryz.f34) := loopOk_none fun _ => rfl

theorem C_base_Base_may.of {b : Option Addr} {idx : Int} {w : World} {R : Int → World → Prop} (h : F_base_Base_may b idx w R) : C_base_Base_may b idx w R := ofS8 (Fm := F_base_Base_may b idx w) Tryz.func34 (by kernel_rfl) loops_base_Base_may rfl (fun _ => by kernel_rfl) h

def F_base_New (limitx : Int) (w : World) (R : Option Addr → Int → World → Prop) : Prop :=
  If (decide (limitx < (1 : Int)))
  (R none (1 : Int) w)
  (If (decide (limitx > (16384 : Int)))
  (R none (1 : Int) w)
  (New w (.map #[] 0) fun r w1 =>
  New w1 (.cells #[.int .i64 limitx, .int .i64 0, .slice none 0 0, .slice none 0 0, .map (some r)] 68) fun r_1 w1_1 =>
  R (some ⟨r_1, 0, none⟩) (0 : Int) w1_1))

def G_base_New : Gen where
  loop := lookL []
  plan := fun _ => none

theorem loops_base_New : LoopOk Tryz.prog Tryz.f35.ntmps G_base_New (codeOf Tryz.f35) := loopOk_none fun _ => rfl

theorem C_base_New.of {limitx : Int} {w : World} {R : Option Addr → Int → World → Prop} (h : F_base_New limitx w R) : C_base_New limitx w R := ofS14 (Fm := F_base_New limitx w) Tryz.func35 (by kernel_rfl) loops_base_New rfl (fun _ => by kernel_rfl) h

def F_law19_fact (n : Int) (w : World) (R : Int → Int → ByteArray → Option Addr → Nat → Nat → Option Addr → Nat → Nat → Int → World → Prop) : Prop :=
  New w (.cells #[.int .i64 0, .int .i64 0, .string ⟨#[]⟩, .slice none 0 0, .slice none 0 0, .int .i64 0] 27) fun r w1 =>
  C_ref06_Int n w1 fun t40 t41 t42 t43P t43N t43C w1_1 =>
  BSl Tryz.prog 22 1 [(0, .agg #[.int .i64 t40, .int .i64 t41, .string t42, .slice t43P t43N t43C])] w1_1 fun t5P t5N t5C w1_2 =>
  C_ref06_Comp ⟨#[112]⟩ t5P t5N t5C w1_2 fun t60 t61 t62 t63P t63N t63C w1_3 =>
  St w1_3 ((⟨r, 0, none⟩ : Addr).add 0) (.int .i64 t60) fun w1_4 =>
  St w1_4 ((⟨r, 0, none⟩ : Addr).add 1) (.int .i64 t61) fun w1_5 =>
  St w1_5 ((⟨r, 0, none⟩ : Addr).add 2) (.string t62) fun w1_6 =>
  St w1_6 ((⟨r, 0, none⟩ : Addr).add 3) (.slice t63P t63N t63C) fun w1_7 =>
  St w1_7 ((⟨r, 0, none⟩ : Addr).add 4) (.slice none 0 0) fun w1_8 =>
  St w1_8 ((⟨r, 0, none⟩ : Addr).add 5) (.int .i64 0) fun w1_9 =>
  ∃ r_1 : Int, w1_9.cell? ((⟨r, 0, none⟩ : Addr).add 0) = some (.int .i64 r_1) ∧
  ∃ r_2 : Int, w1_9.cell? ((⟨r, 0, none⟩ : Addr).add 1) = some (.int .i64 r_2) ∧
  ∃ r_3 : ByteArray, w1_9.cell? ((⟨r, 0, none⟩ : Addr).add 2) = some (.string r_3) ∧
  ∃ rP : Option Addr, ∃ rN : Nat, ∃ rC : Nat, w1_9.cell? ((⟨r, 0, none⟩ : Addr).add 3) = some (.slice rP rN rC) ∧
  ∃ rP_1 : Option Addr, ∃ rN_1 : Nat, ∃ rC_1 : Nat, w1_9.cell? ((⟨r, 0, none⟩ : Addr).add 4) = some (.slice rP_1 rN_1 rC_1) ∧
  ∃ r_4 : Int, w1_9.cell? ((⟨r, 0, none⟩ : Addr).add 5) = some (.int .i64 r_4) ∧
  R r_1 r_2 r_3 rP rN rC rP_1 rN_1 rC_1 r_4 w1_9

def G_law19_fact : Gen where
  loop := lookL []
  plan := fun _ => none

theorem loops_law19_fact : LoopOk Tryz.prog Tryz.f36.ntmps G_law19_fact (codeOf Tryz.f36) := loopOk_none fun _ => rfl

theorem C_law19_fact.of {n : Int} {w : World} {R : Int → Int → ByteArray → Option Addr → Nat → Nat → Option Addr → Nat → Nat → Int → World → Prop} (h : F_law19_fact n w R) : C_law19_fact n w R := ofS13 (Fm := F_law19_fact n w) Tryz.func36 (by kernel_rfl) loops_law19_fact rfl (fun _ => by kernel_rfl) h

structure S_ref06_Exact_L1 where
  i : Int

def F_ref06_Exact_k1 (R : Bool → World → Prop) (w1_2 : World) : Prop :=
  R false w1_2

/-- One round. -/
def B_ref06_Exact_L1 (a : Addr) (b : Addr) (s : S_ref06_Exact_L1) (w : World) (Kn : S_ref06_Exact_L1 → World → Prop) (Kx0 : World → Prop) (Kr : Bool → World → Prop) : Prop :=
  ∃ LP_2 : Option Addr, ∃ LN_2 : Nat, ∃ LC_2 : Nat, w.cell? (a.add 3) = some (.slice LP_2 LN_2 LC_2) ∧
  If (decide ((s.i : Int) < (LN_2 : Int)))
  (∃ LP_3 : Option Addr, ∃ LN_3 : Nat, ∃ LC_3 : Nat, (drw w).cell? (a.add 3) = some (.slice LP_3 LN_3 LC_3) ∧
  0 ≤ (s.i : Int) ∧ (s.i : Int) < (LN_3 : Int) ∧ NN LP_3 fun a_1 =>
  ∃ t450 : Int, (drw w).cell? ((a_1.add ((s.i : Int).toNat * 4)).add 0) = some (.int .i64 t450) ∧
  ∃ t451 : Int, (drw w).cell? ((a_1.add ((s.i : Int).toNat * 4)).add 1) = some (.int .i64 t451) ∧
  ∃ t452 : ByteArray, (drw w).cell? ((a_1.add ((s.i : Int).toNat * 4)).add 2) = some (.string t452) ∧
  ∃ t453P : Option Addr, ∃ t453N : Nat, ∃ t453C : Nat, (drw w).cell? ((a_1.add ((s.i : Int).toNat * 4)).add 3) = some (.slice t453P t453N t453C) ∧
  ∃ LP_4 : Option Addr, ∃ LN_4 : Nat, ∃ LC_4 : Nat, (drw w).cell? (b.add 3) = some (.slice LP_4 LN_4 LC_4) ∧
  0 ≤ (s.i : Int) ∧ (s.i : Int) < (LN_4 : Int) ∧ NN LP_4 fun a_2 =>
  ∃ t500 : Int, (drw w).cell? ((a_2.add ((s.i : Int).toNat * 4)).add 0) = some (.int .i64 t500) ∧
  ∃ t501 : Int, (drw w).cell? ((a_2.add ((s.i : Int).toNat * 4)).add 1) = some (.int .i64 t501) ∧
  ∃ t502 : ByteArray, (drw w).cell? ((a_2.add ((s.i : Int).toNat * 4)).add 2) = some (.string t502) ∧
  ∃ t503P : Option Addr, ∃ t503N : Nat, ∃ t503C : Nat, (drw w).cell? ((a_2.add ((s.i : Int).toNat * 4)).add 3) = some (.slice t503P t503N t503C) ∧
  C_ref06_Exact t450 t451 t452 t453P t453N t453C t500 t501 t502 t503P t503N t503C (drw w) fun t51 w1_3 =>
  If (!t51)
  (Kr false w1_3)
  (Kn ⟨(IntKind.i64.wrap ((s.i : Int) + (1 : Int)))⟩ w1_3))
  (Kx0 w)

def F_ref06_Exact_L1 (a : Addr) (b : Addr) (s : S_ref06_Exact_L1) (w : World) (Kx0 : World → Prop) (Kr : Bool → World → Prop) : Prop :=
  LoopS (fun s w Kn => B_ref06_Exact_L1 a b s w Kn Kx0 Kr) s w

def F_ref06_Exact (a0 : Int) (a1 : Int) (a2 : ByteArray) (a3P : Option Addr) (a3N : Nat) (a3C : Nat) (b0 : Int) (b1 : Int) (b2 : ByteArray) (b3P : Option Addr) (b3N : Nat) (b3C : Nat) (w : World) (R : Bool → World → Prop) : Prop :=
  New w (.cells #[.int .i64 a0, .int .i64 a1, .string a2, .slice a3P a3N a3C] 24) fun r w1 =>
  New w1 (.cells #[.int .i64 b0, .int .i64 b1, .string b2, .slice b3P b3N b3C] 24) fun r_1 w1_1 =>
  ∃ Kind : Int, w1_1.cell? ((⟨r, 0, none⟩ : Addr).add 0) = some (.int .i64 Kind) ∧
  ∃ Kind_1 : Int, w1_1.cell? ((⟨r_1, 0, none⟩ : Addr).add 0) = some (.int .i64 Kind_1) ∧
  If (Kind != Kind_1)
  (F_ref06_Exact_k1 R w1_1)
  (∃ N : Int, w1_1.cell? ((⟨r, 0, none⟩ : Addr).add 1) = some (.int .i64 N) ∧
  ∃ N_1 : Int, w1_1.cell? ((⟨r_1, 0, none⟩ : Addr).add 1) = some (.int .i64 N_1) ∧
  If (N != N_1)
  (F_ref06_Exact_k1 R w1_1)
  (∃ S : ByteArray, w1_1.cell? ((⟨r, 0, none⟩ : Addr).add 2) = some (.string S) ∧
  ∃ S_1 : ByteArray, w1_1.cell? ((⟨r_1, 0, none⟩ : Addr).add 2) = some (.string S_1) ∧
  If (!(S.toList == S_1.toList))
  (F_ref06_Exact_k1 R w1_1)
  (∃ LP : Option Addr, ∃ LN : Nat, ∃ LC : Nat, w1_1.cell? ((⟨r, 0, none⟩ : Addr).add 3) = some (.slice LP LN LC) ∧
  ∃ LP_1 : Option Addr, ∃ LN_1 : Nat, ∃ LC_1 : Nat, w1_1.cell? ((⟨r_1, 0, none⟩ : Addr).add 3) = some (.slice LP_1 LN_1 LC_1) ∧
  If ((LN : Int) != (LN_1 : Int))
  (R false w1_1)
  (F_ref06_Exact_L1 ⟨r, 0, none⟩ ⟨r_1, 0, none⟩ ⟨(0 : Int)⟩ w1_1
  (fun w1_4 =>
  R true w1_4)
  (fun t4_1 w1_5 =>
  R t4_1 w1_5)))))

def lit_ref06_Exact_L1 (f : Addr × Addr) (s : S_ref06_Exact_L1) : Env := [⟨2, .pointer (some f.1), none⟩, ⟨3, .pointer (some f.2), none⟩, ⟨5, .int .i64 s.i, none⟩]

def dec_ref06_Exact_L1 (e : Env) (K : (Addr × Addr) → S_ref06_Exact_L1 → Prop) : Prop :=
  oA e 2 fun a =>
  oA e 3 fun b =>
  oI e 5 .i64 fun i =>
    K (a, b) ⟨i⟩

theorem dec_ref06_Exact_L1_ok {N : Nat} (e : Env) (a : Act) (K : (Addr × Addr) → S_ref06_Exact_L1 → Prop) (hr : Rep N a e) (h0 : dec_ref06_Exact_L1 e K) : ∃ f s, K f s ∧ Rep N a (lit_ref06_Exact_L1 f s) := by
  unfold dec_ref06_Exact_L1 at h0
  obtain ⟨a, g2, h1⟩ := oA_elim h0
  obtain ⟨b, g3, h2⟩ := oA_elim h1
  obtain ⟨i, g5, h3⟩ := oI_elim h2
  exact ⟨_, _, h3, rep_less hr (by simp [lit_ref06_Exact_L1, g2, g3, g5])⟩

def spec_ref06_Exact_L1 (Q : Post) (e : Env) (w : World) : Prop :=
  dec_ref06_Exact_L1 e fun f s => F_ref06_Exact_L1 f.1 f.2 s w (fun w1 => Q (.exit 0) [] w1) (fun t4 w1 => Q .ret [⟨4, .bool t4, none⟩] w1)

def G_ref06_Exact : Gen where
  loop := lookL [([false, true, false, true, true], spec_ref06_Exact_L1)]
  plan := fun id =>
    bif Nat.beq id 6 then some ([0, 1, 0, 7, 15, 0, 32, 0, 224, 480, 1023, 2047], .take 0 (.take 1 (.take 2 (.take 3 (.take 4 (.take 5 (.take 6 (.take 7 (.take 8 (.take 9 (.take 10 (.take 11 .done)))))))))))) else none

def dx_ref06_Exact_L1_0 (e : Env) (K : (Addr × Addr) → Prop) : Prop :=
  oA e 2 fun a =>
  oA e 3 fun b =>
    K (a, b)

def dx_ref06_Exact_L1_ret (e : Env) (K : (Addr × Addr) → Bool → Prop) : Prop :=
  oA e 2 fun a =>
  oA e 3 fun b =>
  oB e 4 fun t4 =>
    K (a, b) t4

theorem body_ref06_Exact_L1 (f : Addr × Addr) (s : S_ref06_Exact_L1) (w : World) (Kn : (Addr × Addr) → S_ref06_Exact_L1 → World → Prop) (Kx0 : (Addr × Addr) → World → Prop) (Kr : (Addr × Addr) → Bool → World → Prop) :
    B_ref06_Exact_L1 f.1 f.2 s w (fun s1 w1 => Kn f s1 w1) (fun w1 => Kx0 f w1) (fun t4 w1 => Kr f t4 w1) =
    den Tryz.prog Tryz.f37.ntmps G_ref06_Exact (sub (codeOf Tryz.f37) [false, false, true, false, true, true]) [false, false, true, false, true, true] (roundQ (fun e w => dec_ref06_Exact_L1 e fun f s => Kn f s w) (fun e w => dx_ref06_Exact_L1_ret e fun f t4 => Kr f t4 w) (fun id e w => match Nat.beq id 0 with | true => dx_ref06_Exact_L1_0 e fun f => Kx0 f w | false => False)) (lit_ref06_Exact_L1 f s) w := by kernel_rfl

theorem ok_ref06_Exact_L1 : OneOk Tryz.prog Tryz.f37.ntmps G_ref06_Exact (codeOf Tryz.f37) [false, true, false, true, true] spec_ref06_Exact_L1 := by
  intro c hc ih Q e w a hr h
  have hcc : sub (codeOf Tryz.f37) [false, false, true, false, true, true] = c := sub_of_codeAt hc
  obtain ⟨f, s, h, hrep⟩ := dec_ref06_Exact_L1_ok e a _ hr h
  obtain ⟨J, μ, hj, hround⟩ := h
  refine loop_rule_deep seat_ok seat_mixed ih lit_ref06_Exact_L1 dec_ref06_Exact_L1 dec_ref06_Exact_L1_ok hc f J μ (Kr := fun e w => dx_ref06_Exact_L1_ret e fun f1 t4 => f1 = f ∧ Q .ret [⟨4, .bool t4, none⟩] w) (Kx := fun id e w => match Nat.beq id 0 with | true => (dx_ref06_Exact_L1_0 e fun f1 => f1 = f ∧ Q (.exit 0) [] w) | false => False) ?_ ?_ ?_ s w a hj hrep
  · intro e a w hr h0
    unfold dx_ref06_Exact_L1_ret at h0
    obtain ⟨a, g2, h1⟩ := oA_elim h0
    obtain ⟨b, g3, h2⟩ := oA_elim h1
    obtain ⟨t4, g4, h3⟩ := oB_elim h2
    obtain ⟨hf, hq⟩ := h3
    subst hf
    exact ⟨_, rep_less hr (by simp [g4]), hq⟩
  · intro id e a w hr h0
    (try dsimp only at h0)
    split at h0
    · rename_i hid
      obtain rfl := Nat.eq_of_beq_eq_true hid
      unfold dx_ref06_Exact_L1_0 at h0
      obtain ⟨a, g2, h1⟩ := oA_elim h0
      obtain ⟨b, g3, h2⟩ := oA_elim h1
      obtain ⟨hf, hq⟩ := h2
      subst hf
      exact ⟨_, rep_less hr (by simp), hq⟩
    · exact h0.elim
  · intro s w hj
    have hb := hround s w hj
    rw [← hcc]
    have e1 := body_ref06_Exact_L1 f s w (fun f1 s1 w1 => f1 = f ∧ J s1 w1 ∧ μ s1 w1 < μ s w) (fun f1 w1 => f1 = f ∧ Q (.exit 0) [] w1) (fun f1 t4 w1 => f1 = f ∧ Q .ret [⟨4, .bool t4, none⟩] w1)
    simp only [true_and] at e1
    exact cast e1 hb

theorem loops_ref06_Exact : LoopOk Tryz.prog Tryz.f37.ntmps G_ref06_Exact (codeOf Tryz.f37) := loopOk_list rfl ⟨ok_ref06_Exact_L1, trivial⟩

theorem C_ref06_Exact.of {a0 : Int} {a1 : Int} {a2 : ByteArray} {a3P : Option Addr} {a3N : Nat} {a3C : Nat} {b0 : Int} {b1 : Int} {b2 : ByteArray} {b3P : Option Addr} {b3N : Nat} {b3C : Nat} {w : World} {R : Bool → World → Prop} (h : F_ref06_Exact a0 a1 a2 a3P a3N a3C b0 b1 b2 b3P b3N b3C w R) : C_ref06_Exact a0 a1 a2 a3P a3N a3C b0 b1 b2 b3P b3N b3C w R := ofS2 (Fm := F_ref06_Exact a0 a1 a2 a3P a3N a3C b0 b1 b2 b3P b3N b3C w) Tryz.func37 (by kernel_rfl) loops_ref06_Exact rfl (fun _ => by kernel_rfl) h

end Go.Proofs.YtlndgaijekihiaaGreat
