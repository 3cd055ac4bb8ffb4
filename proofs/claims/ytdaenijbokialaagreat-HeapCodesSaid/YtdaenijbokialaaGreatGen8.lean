import Derived.Test.YtdaenijbokialaaGreatGenC
set_option maxRecDepth 100000
set_option linter.unusedVariables false
namespace Go.Proofs.YtdaenijbokialaaGreat
open Go Go.D Go.Proofs
def F_heap_Heap_taken_k1 (R : Bool → World → Prop) (w1_2 : World) : Prop :=
  R false w1_2
def F_heap_Heap_taken (hx : Option Addr) (atx : Int) (w : World) (R : Bool → World → Prop) : Prop :=
  If (decide (atx ≥ (0 : Int)))
  (NN hx fun a =>
  ∃ pool, (drw w).cell? (a.add 0) = some (.pointer pool) ∧
  NN hx fun a_1 =>
  ∃ cellsP cellsN cellsC, (drw w).cell? (a_1.add 4) = some (.slice cellsP cellsN cellsC) ∧
  C_pool_Pool_Top pool (drw w) fun t13 w1 =>
  w1.cell? (a_1.add 4) = (drw w).cell? (a_1.add 4) ∧
  If (decide (atx < (minI t13 (cellsN : Int))))
  (NN hx fun a_2 =>
  ∃ pool_1, w1.cell? (a_2.add 0) = some (.pointer pool_1) ∧
  C_pool_Pool_Free pool_1 atx w1 fun t28 w1_1 =>
  R (!t28) w1_1)
  (F_heap_Heap_taken_k1 R w1))
  (F_heap_Heap_taken_k1 R (drw w))
def G_heap_Heap_taken : Gen where
  loop := lookL []
  plan := fun id =>
    bif Nat.beq id 1 then some ([0, 1, 3, 7, 7, 23, 55, 119, 247, 7, 519, 1543, 3591, 7687, 16375, 32767, 65535, 131071, 262143, 524287, 1048575, 2097151, 262143, 8388607, 16777215, 33554431, 67108863], .take 0 (.take 1 (.take 2 (.take 3 (.take 4 (.take 5 (.take 6 (.take 7 (.take 9 (.take 10 (.take 11 (.take 12 (.take 13 (.take 8 (.take 14 (.take 15 (.take 16 (.take 17 (.take 18 (.take 19 (.take 20 (.take 21 (.take 22 (.take 23 (.take 24 (.take 25 (.take 26 .done))))))))))))))))))))))))))) else none
theorem loops_heap_Heap_taken : LoopOk Tryz.prog Tryz.f98.ntmps G_heap_Heap_taken (codeOf Tryz.f98) := loopOk_none fun _ => rfl
theorem C_heap_Heap_taken.of {hx : Option Addr} {atx : Int} {w : World} {R : Bool → World → Prop} (h : F_heap_Heap_taken hx atx w R) : C_heap_Heap_taken hx atx w R := ofS2 (Fm := F_heap_Heap_taken hx atx w) Tryz.func98 (by kernel_rfl) loops_heap_Heap_taken rfl (fun _ => by kernel_rfl) h
def F_pool_Pool_made (p : Option Addr) (w : World) (R : Bool → World → Prop) : Prop :=
  If (!p.isNone)
  (NN p fun a =>
  ∃ lP lN lC, w.cell? (a.add 0) = some (.slice lP lN lC) ∧
  R (decide ((lN : Int) > (0 : Int))) w)
  (R false w)
def G_pool_Pool_made : Gen where
  loop := lookL []
  plan := fun _ => none
theorem loops_pool_Pool_made : LoopOk Tryz.prog Tryz.f102.ntmps G_pool_Pool_made (codeOf Tryz.f102) := loopOk_none fun _ => rfl
theorem C_pool_Pool_made.of {p : Option Addr} {w : World} {R : Bool → World → Prop} (h : F_pool_Pool_made p w R) : C_pool_Pool_made p w R := ofS2 (Fm := F_pool_Pool_made p w) Tryz.func102 (by kernel_rfl) loops_pool_Pool_made rfl (fun _ => by kernel_rfl) h
def F_atom_Table_Intern_k1 (t : Option Addr) (namex : ByteArray) (R : Int → Int → World → Prop) (idx : Int) (w1_9 : World) : Prop :=
  NN t fun a_12 =>
  ∃ ids_1, w1_9.cell? (a_12.add 6) = some (.map ids_1) ∧
  MUp Tryz.prog 188 (.map ids_1) (.string namex) (.int .i64 idx) w1_9 fun w1_10 =>
  NN t fun a_13 =>
  C_sync_atomic_Int64_Add (some (a_13.add 3)) (1 : Int) w1_10 fun t87 w1_11 =>
  R idx (0 : Int) w1_11
def F_atom_Table_Intern (t : Option Addr) (namex : ByteArray) (w : World) (R : Int → Int → World → Prop) : Prop :=
  C_atom_Table_ready t w fun t10 w1 =>
  If (!t10)
  (R (0 : Int) (6 : Int) w1)
  (If (decide ((namex.size : Int) > (64 : Int)))
  (R (0 : Int) (3 : Int) w1)
  (NN t fun a =>
  ∃ ids, w1.cell? (a.add 6) = some (.map ids) ∧
  Run Tryz.prog (Instr.lookup 188 (.map ids) (.string namex) true) w1 fun v w1_1 => ∃ t210 : Int, ∃ t211 : Bool, v = (.tuple #[.int .i64 t210, .bool t211]) ∧
  If t211
  (R t210 (0 : Int) w1_1)
  (NN t fun a_1 =>
  ∃ lP lN lC, w1_1.cell? (a_1.add 5) = some (.slice lP lN lC) ∧
  NN t fun a_2 =>
  ∃ freeP freeN freeC, w1_1.cell? (a_2.add 7) = some (.slice freeP freeN freeC) ∧
  If (decide ((freeN : Int) > (0 : Int)))
  (NN t fun a_3 =>
  ∃ freeP_1 freeN_1 freeC_1, w1_1.cell? (a_3.add 7) = some (.slice freeP_1 freeN_1 freeC_1) ∧
  0 ≤ (0 : Int) ∧ (0 : Int) < (freeN_1 : Int) ∧ NN freeP_1 fun a_4 =>
  ∃ t54, w1_1.cell? (a_4.add ((0 : Int).toNat * 1)) = some (.int .i64 t54) ∧
  NN t fun a_5 =>
  ∃ freeP_2 freeN_2 freeC_2, w1_1.cell? (a_5.add 7) = some (.slice freeP_2 freeN_2 freeC_2) ∧
  0 ≤ (1 : Int) ∧ (1 : Int) ≤ (freeN_2 : Int) ∧
  NN t fun a_6 =>
  St w1_1 ((a_6.add 7).add 0) (.slice (adv freeP_2 freeC_2 (1 : Int).toNat 1) (freeN_2 - (1 : Int).toNat) (freeC_2 - (1 : Int).toNat)) fun w1_2 =>
  NN t fun a_7 =>
  ∃ lP_1 lN_1 lC_1, w1_2.cell? (a_7.add 5) = some (.slice lP_1 lN_1 lC_1) ∧
  0 ≤ t54 ∧ t54 < (lN_1 : Int) ∧ NN lP_1 fun a_8 =>
  St w1_2 ((a_8.add (t54.toNat * 3)).add 0) (.string namex) fun w1_3 =>
  St w1_3 ((a_8.add (t54.toNat * 3)).add 1) (.bool true) fun w1_4 =>
  St w1_4 ((a_8.add (t54.toNat * 3)).add 2) (.bool false) fun w1_5 =>
  F_atom_Table_Intern_k1 t namex R t54 w1_5)
  (NN t fun a_9 =>
  ∃ limitx, w1_1.cell? (a_9.add 4) = some (.int .i64 limitx) ∧
  If (decide ((lN : Int) ≥ limitx))
  (R (0 : Int) (2 : Int) w1_1)
  (NN t fun a_10 =>
  ∃ lP_2 lN_2 lC_2, w1_1.cell? (a_10.add 5) = some (.slice lP_2 lN_2 lC_2) ∧
  BSl Tryz.prog 187 1 [(0, .agg #[.string namex, .bool true, .bool false])] w1_1 fun t38P t38N t38C w1_6 =>
  App Tryz.prog #[187, 187] 187 #[.slice lP_2 lN_2 lC_2, .slice t38P t38N t38C] w1_6 fun t39P t39N t39C w1_7 =>
  NN t fun a_11 =>
  St w1_7 ((a_11.add 5).add 0) (.slice t39P t39N t39C) fun w1_8 =>
  F_atom_Table_Intern_k1 t namex R (lN : Int) w1_8)))))
def G_atom_Table_Intern : Gen where
  loop := lookL []
  plan := fun _ => none
theorem loops_atom_Table_Intern : LoopOk Tryz.prog Tryz.f108.ntmps G_atom_Table_Intern (codeOf Tryz.f108) := loopOk_none fun _ => rfl
theorem C_atom_Table_Intern.of {t : Option Addr} {namex : ByteArray} {w : World} {R : Int → Int → World → Prop} (h : F_atom_Table_Intern t namex w R) : C_atom_Table_Intern t namex w R := ofS12 (Fm := F_atom_Table_Intern t namex w) Tryz.func108 (by kernel_rfl) loops_atom_Table_Intern rfl (fun _ => by kernel_rfl) h
def F_atom_Reserved (w : World) (R : Option Addr → Nat → Nat → World → Prop) : Prop :=
  BSl Tryz.prog 170 15 [(0, .string ⟨#[91, 93]⟩), (1, .string ⟨#[46]⟩), (2, .string ⟨#[123, 125]⟩), (3, .string ⟨#[45]⟩), (4, .string ⟨#[44]⟩), (5, .string ⟨#[59]⟩), (6, .string ⟨#[45, 62]⟩), (7, .string ⟨#[58, 45]⟩), (8, .string ⟨#[124]⟩), (9, .string ⟨#[33]⟩), (10, .string ⟨#[92, 43]⟩), (11, .string ⟨#[116, 114, 117, 101]⟩), (12, .string ⟨#[102, 97, 105, 108]⟩), (13, .string ⟨#[99, 97, 108, 108]⟩), (14, .string ⟨#[101, 114, 114, 111, 114]⟩)] w fun t1P t1N t1C w1 =>
  R t1P t1N t1C w1
def G_atom_Reserved : Gen where
  loop := lookL []
  plan := fun _ => none
theorem loops_atom_Reserved : LoopOk Tryz.prog Tryz.f115.ntmps G_atom_Reserved (codeOf Tryz.f115) := loopOk_none fun _ => rfl
theorem C_atom_Reserved.of {w : World} {R : Option Addr → Nat → Nat → World → Prop} (h : F_atom_Reserved w R) : C_atom_Reserved w R := ofS6 (Fm := F_atom_Reserved w) Tryz.func115 (by kernel_rfl) loops_atom_Reserved rfl (fun _ => by kernel_rfl) h
def F_ref06_part_k1 (R : Bool → World → Prop) (w1_1 : World) : Prop :=
  R false w1_1
def F_ref06_part_k2 (R : Bool → World → Prop) (w1_2 : World) : Prop :=
  R false w1_2
def F_ref06_part_k3 (R : Bool → World → Prop) (w1_3 : World) : Prop :=
  R false w1_3
def F_ref06_part_k4 (R : Bool → World → Prop) (w1_4 : World) : Prop :=
  R false w1_4
def F_ref06_part (t0 : Int) (t1 : Int) (t2 : ByteArray) (t3P : Option Addr) (t3N : Nat) (t3C : Nat) (w : World) (R : Bool → World → Prop) : Prop :=
  New w (.cells #[.int .i64 t0, .int .i64 t1, .string t2, .slice t3P t3N t3C] 31) fun r w1 =>
  ∃ Kind, w1.cell? ((⟨r, 0, none⟩ : Addr).add 0) = some (.int .i64 Kind) ∧
  If (Kind == (1 : Int))
  (∃ N, w1.cell? ((⟨r, 0, none⟩ : Addr).add 1) = some (.int .i64 N) ∧
  If (decide (N ≥ (0 : Int)))
  (∃ N_1, w1.cell? ((⟨r, 0, none⟩ : Addr).add 1) = some (.int .i64 N_1) ∧
  If (decide (N_1 < (1073741824 : Int)))
  (∃ S, w1.cell? ((⟨r, 0, none⟩ : Addr).add 2) = some (.string S) ∧
  If (S.toList == (⟨#[]⟩ : ByteArray).toList)
  (∃ LP LN LC, w1.cell? ((⟨r, 0, none⟩ : Addr).add 3) = some (.slice LP LN LC) ∧
  R ((LN : Int) == (0 : Int)) w1)
  (F_ref06_part_k1 R w1))
  (F_ref06_part_k1 R w1))
  (F_ref06_part_k1 R w1))
  (If (Kind == (2 : Int))
  (∃ N_2, w1.cell? ((⟨r, 0, none⟩ : Addr).add 1) = some (.int .i64 N_2) ∧
  If (decide (N_2 ≥ (-9007199254740991)))
  (∃ N_3, w1.cell? ((⟨r, 0, none⟩ : Addr).add 1) = some (.int .i64 N_3) ∧
  If (decide (N_3 ≤ (9007199254740991 : Int)))
  (∃ S_1, w1.cell? ((⟨r, 0, none⟩ : Addr).add 2) = some (.string S_1) ∧
  If (S_1.toList == (⟨#[]⟩ : ByteArray).toList)
  (∃ LP_1 LN_1 LC_1, w1.cell? ((⟨r, 0, none⟩ : Addr).add 3) = some (.slice LP_1 LN_1 LC_1) ∧
  R ((LN_1 : Int) == (0 : Int)) w1)
  (F_ref06_part_k2 R w1))
  (F_ref06_part_k2 R w1))
  (F_ref06_part_k2 R w1))
  (If (Kind == (3 : Int))
  (∃ N_4, w1.cell? ((⟨r, 0, none⟩ : Addr).add 1) = some (.int .i64 N_4) ∧
  If (N_4 == (0 : Int))
  (∃ S_2, w1.cell? ((⟨r, 0, none⟩ : Addr).add 2) = some (.string S_2) ∧
  If (decide ((S_2.size : Int) ≤ (64 : Int)))
  (∃ LP_2 LN_2 LC_2, w1.cell? ((⟨r, 0, none⟩ : Addr).add 3) = some (.slice LP_2 LN_2 LC_2) ∧
  R ((LN_2 : Int) == (0 : Int)) w1)
  (F_ref06_part_k3 R w1))
  (F_ref06_part_k3 R w1))
  (If (Kind == (4 : Int))
  (∃ N_5, w1.cell? ((⟨r, 0, none⟩ : Addr).add 1) = some (.int .i64 N_5) ∧
  If (N_5 == (0 : Int))
  (∃ S_3, w1.cell? ((⟨r, 0, none⟩ : Addr).add 2) = some (.string S_3) ∧
  If (decide ((S_3.size : Int) ≤ (64 : Int)))
  (∃ LP_3 LN_3 LC_3, w1.cell? ((⟨r, 0, none⟩ : Addr).add 3) = some (.slice LP_3 LN_3 LC_3) ∧
  If (decide ((LN_3 : Int) ≥ (1 : Int)))
  (∃ LP_4 LN_4 LC_4, w1.cell? ((⟨r, 0, none⟩ : Addr).add 3) = some (.slice LP_4 LN_4 LC_4) ∧
  R (decide ((LN_4 : Int) ≤ (16 : Int))) w1)
  (F_ref06_part_k4 R w1))
  (F_ref06_part_k4 R w1))
  (F_ref06_part_k4 R w1))
  (R false w1))))
def G_ref06_part : Gen where
  loop := lookL []
  plan := fun _ => none
theorem loops_ref06_part : LoopOk Tryz.prog Tryz.f116.ntmps G_ref06_part (codeOf Tryz.f116) := loopOk_none fun _ => rfl
theorem C_ref06_part.of {t0 : Int} {t1 : Int} {t2 : ByteArray} {t3P : Option Addr} {t3N : Nat} {t3C : Nat} {w : World} {R : Bool → World → Prop} (h : F_ref06_part t0 t1 t2 t3P t3N t3C w R) : C_ref06_part t0 t1 t2 t3P t3N t3C w R := ofS2 (Fm := F_ref06_part t0 t1 t2 t3P t3N t3C w) Tryz.func116 (by kernel_rfl) loops_ref06_part rfl (fun _ => by kernel_rfl) h
end Go.Proofs.YtdaenijbokialaaGreat
