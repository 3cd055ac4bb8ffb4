import Derived.Test.YtdaenijbokialaaGreatGenC
set_option maxRecDepth 100000
set_option linter.unusedVariables false
namespace Go.Proofs.YtdaenijbokialaaGreat
open Go Go.D Go.Proofs
def F_term_measure (t0 : Int) (t1 : Int) (t2 : ByteArray) (t3P : Option Addr) (t3N : Nat) (t3C : Nat) (w : World) (R : Int → Int → Bool → World → Prop) : Prop :=
 New w (.cells #[.int .i64 t0, .int .i64 t1, .string t2, .slice t3P t3N t3C] 31) fun r w1 =>
 New w1 (.cells #[.int .i64 0, .int .i64 0, .bool false] 196) fun r_1 w1_1 =>
 New w1_1 (.cells #[.int .i64 0, .int .i64 0, .bool false] 196) fun r_2 w1_2 =>
 ∃ t40, w1_2.cell? (Addr.add ⟨r, 0, none⟩ 0) = some (.int .i64 t40) ∧
 ∃ t41, w1_2.cell? (Addr.add ⟨r, 0, none⟩ 1) = some (.int .i64 t41) ∧
 ∃ t42, w1_2.cell? (Addr.add ⟨r, 0, none⟩ 2) = some (.string t42) ∧
 ∃ t43P t43N t43C, w1_2.cell? (Addr.add ⟨r, 0, none⟩ 3) = some (.slice t43P t43N t43C) ∧
 C_term_count_of (some ⟨r_2, 0, none⟩) t40 t41 t42 t43P t43N t43C (1 : Int) w1_2 fun w1_3 =>
 ∃ t60, w1_3.cell? (Addr.add ⟨r_2, 0, none⟩ 0) = some (.int .i64 t60) ∧
 ∃ t61, w1_3.cell? (Addr.add ⟨r_2, 0, none⟩ 1) = some (.int .i64 t61) ∧
 ∃ t62, w1_3.cell? (Addr.add ⟨r_2, 0, none⟩ 2) = some (.bool t62) ∧
 St w1_3 (Addr.add ⟨r_1, 0, none⟩ 0) (.int .i64 t60) fun w1_4 =>
 St w1_4 (Addr.add ⟨r_1, 0, none⟩ 1) (.int .i64 t61) fun w1_5 =>
 St w1_5 (Addr.add ⟨r_1, 0, none⟩ 2) (.bool t62) fun w1_6 =>
 ∃ r_3, w1_6.cell? (Addr.add ⟨r_1, 0, none⟩ 0) = some (.int .i64 r_3) ∧
 ∃ r_4, w1_6.cell? (Addr.add ⟨r_1, 0, none⟩ 1) = some (.int .i64 r_4) ∧
 ∃ r_5, w1_6.cell? (Addr.add ⟨r_1, 0, none⟩ 2) = some (.bool r_5) ∧
 R r_3 r_4 r_5 w1_6
theorem C_term_measure.of {t0 : Int} {t1 : Int} {t2 : ByteArray} {t3P : Option Addr} {t3N : Nat} {t3C : Nat} {w : World} {R : Int → Int → Bool → World → Prop} (h : F_term_measure t0 t1 t2 t3P t3N t3C w R) : C_term_measure t0 t1 t2 t3P t3N t3C w R := ofS19 (Fm := F_term_measure t0 t1 t2 t3P t3N t3C w) Tryz.func117 (by kernel_rfl) (L0 Tryz.f117) rfl (fun _ => by kernel_rfl) h
def F_heap_Heap_variable_k1 (R : Int → Int → World → Prop) (t270 : Int) (t271 : Int) (w1_5 : World) : Prop :=
 R t270 t271 w1_5
def F_heap_Heap_variable_k2 (hx : Option Addr) (n : Int) (vars : Option Nat) (R : Int → Int → World → Prop) (w1_2 : World) : Prop :=
 C_heap_Heap_Var hx w1_2 fun t270 t271 w1_3 =>
 If (t271 == (0 : Int))
 (If (!vars.isNone)
 (MUp Tryz.prog 35 (.map vars) (.int .i64 n) (.int .u64 t270) w1_3 fun w1_4 =>
 F_heap_Heap_variable_k1 R t270 t271 w1_4)
 (F_heap_Heap_variable_k1 R t270 t271 w1_3))
 (F_heap_Heap_variable_k1 R t270 t271 w1_3)
def F_heap_Heap_variable (hx : Option Addr) (n : Int) (vars : Option Nat) (w : World) (R : Int → Int → World → Prop) : Prop :=
 Run Tryz.prog (Instr.lookup 35 (.map vars) (.int .i64 n) true) w fun v w1 => ∃ t150 : Int, ∃ t151 : Bool, v = (.tuple #[.int .u64 t150, .bool t151]) ∧
 If t151
 (C_heap_Heap_right hx t150 w1 fun t22 w1_1 =>
 If t22
 (R t150 (0 : Int) w1_1)
 (F_heap_Heap_variable_k2 hx n vars R w1_1))
 (F_heap_Heap_variable_k2 hx n vars R w1)
theorem C_heap_Heap_variable.of {hx : Option Addr} {n : Int} {vars : Option Nat} {w : World} {R : Int → Int → World → Prop} (h : F_heap_Heap_variable hx n vars w R) : C_heap_Heap_variable hx n vars w R := ofS5 (Fm := F_heap_Heap_variable hx n vars w) Tryz.func118 (by kernel_rfl) (L0 Tryz.f118) rfl (fun _ => by kernel_rfl) h
def F_heap_reader_variable_k1 (R : Int → Int → ByteArray → Option Addr → Nat → Nat → World → Prop) (r_1 : Nat) (n : Int) (w1_6 : World) : Prop :=
 C_term_Var n w1_6 fun t400 t401 t402 t403P t403N t403C w1_7 =>
 St w1_7 (Addr.add ⟨r_1, 0, none⟩ 0) (.int .i64 t400) fun w1_8 =>
 St w1_8 (Addr.add ⟨r_1, 0, none⟩ 1) (.int .i64 t401) fun w1_9 =>
 St w1_9 (Addr.add ⟨r_1, 0, none⟩ 2) (.string t402) fun w1_10 =>
 St w1_10 (Addr.add ⟨r_1, 0, none⟩ 3) (.slice t403P t403N t403C) fun w1_11 =>
 ∃ r_2, w1_11.cell? (Addr.add ⟨r_1, 0, none⟩ 0) = some (.int .i64 r_2) ∧
 ∃ r_3, w1_11.cell? (Addr.add ⟨r_1, 0, none⟩ 1) = some (.int .i64 r_3) ∧
 ∃ r_4, w1_11.cell? (Addr.add ⟨r_1, 0, none⟩ 2) = some (.string r_4) ∧
 ∃ rP rN rC, w1_11.cell? (Addr.add ⟨r_1, 0, none⟩ 3) = some (.slice rP rN rC) ∧
 R r_2 r_3 r_4 rP rN rC w1_11
def F_heap_reader_variable (r : Option Addr) (wx : Int) (w : World) (R : Int → Int → ByteArray → Option Addr → Nat → Nat → World → Prop) : Prop :=
 New w (.cells #[.int .i64 0, .int .i64 0, .string ⟨#[]⟩, .slice none 0 0] 31) fun r_1 w1 =>
 NN r fun a =>
 ∃ atx, w1.cell? (a.add 1) = some (.map atx) ∧
 Run Tryz.prog (Instr.lookup 117 (.map atx) (.int .u64 wx) true) w1 fun v w1_1 => ∃ t130 : Int, ∃ t131 : Bool, v = (.tuple #[.int .i64 t130, .bool t131]) ∧
 If (!t131)
 (NN r fun a_1 =>
 ∃ varsP varsN varsC, w1_1.cell? (a_1.add 2) = some (.slice varsP varsN varsC) ∧
 NN r fun a_2 =>
 ∃ atx_1, w1_1.cell? (a_2.add 1) = some (.map atx_1) ∧
 MUp Tryz.prog 117 (.map atx_1) (.int .u64 wx) (.int .i64 (varsN : Int)) w1_1 fun w1_2 =>
 NN r fun a_3 =>
 ∃ varsP_1 varsN_1 varsC_1, w1_2.cell? (a_3.add 2) = some (.slice varsP_1 varsN_1 varsC_1) ∧
 BSl Tryz.prog 36 1 [(0, .int .u64 wx)] w1_2 fun t35P t35N t35C w1_3 =>
 App Tryz.prog #[36, 36] 36 #[.slice varsP_1 varsN_1 varsC_1, .slice t35P t35N t35C] w1_3 fun t36P t36N t36C w1_4 =>
 NN r fun a_4 =>
 St w1_4 ((a_4.add 2).add 0) (.slice t36P t36N t36C) fun w1_5 =>
 F_heap_reader_variable_k1 R r_1 (varsN : Int) w1_5)
 (F_heap_reader_variable_k1 R r_1 t130 w1_1)
theorem C_heap_reader_variable.of {r : Option Addr} {wx : Int} {w : World} {R : Int → Int → ByteArray → Option Addr → Nat → Nat → World → Prop} (h : F_heap_reader_variable r wx w R) : C_heap_reader_variable r wx w R := ofS10 (Fm := F_heap_reader_variable r wx w) Tryz.func119 (by kernel_rfl) (L0 Tryz.f119) rfl (fun _ => by kernel_rfl) h
def F_term_Int (n : Int) (w : World) (R : Int → Int → ByteArray → Option Addr → Nat → Nat → World → Prop) : Prop :=
 New w (.cells #[.int .i64 0, .int .i64 0, .string ⟨#[]⟩, .slice none 0 0] 31) fun r w1 =>
 St w1 (Addr.add ⟨r, 0, none⟩ 0) (.int .i64 2) fun w1_1 =>
 St w1_1 (Addr.add ⟨r, 0, none⟩ 1) (.int .i64 n) fun w1_2 =>
 St w1_2 (Addr.add ⟨r, 0, none⟩ 2) (.string ⟨#[]⟩) fun w1_3 =>
 St w1_3 (Addr.add ⟨r, 0, none⟩ 3) (.slice none 0 0) fun w1_4 =>
 ∃ r_1, w1_4.cell? (Addr.add ⟨r, 0, none⟩ 0) = some (.int .i64 r_1) ∧
 ∃ r_2, w1_4.cell? (Addr.add ⟨r, 0, none⟩ 1) = some (.int .i64 r_2) ∧
 ∃ r_3, w1_4.cell? (Addr.add ⟨r, 0, none⟩ 2) = some (.string r_3) ∧
 ∃ rP rN rC, w1_4.cell? (Addr.add ⟨r, 0, none⟩ 3) = some (.slice rP rN rC) ∧
 R r_1 r_2 r_3 rP rN rC w1_4
theorem C_term_Int.of {n : Int} {w : World} {R : Int → Int → ByteArray → Option Addr → Nat → Nat → World → Prop} (h : F_term_Int n w R) : C_term_Int n w R := ofS10 (Fm := F_term_Int n w) Tryz.func120 (by kernel_rfl) (L0 Tryz.f120) rfl (fun _ => by kernel_rfl) h
def F_term_Atom (sx : ByteArray) (w : World) (R : Int → Int → ByteArray → Option Addr → Nat → Nat → World → Prop) : Prop :=
 New w (.cells #[.int .i64 0, .int .i64 0, .string ⟨#[]⟩, .slice none 0 0] 31) fun r w1 =>
 St w1 (Addr.add ⟨r, 0, none⟩ 0) (.int .i64 3) fun w1_1 =>
 St w1_1 (Addr.add ⟨r, 0, none⟩ 1) (.int .i64 0) fun w1_2 =>
 St w1_2 (Addr.add ⟨r, 0, none⟩ 2) (.string sx) fun w1_3 =>
 St w1_3 (Addr.add ⟨r, 0, none⟩ 3) (.slice none 0 0) fun w1_4 =>
 ∃ r_1, w1_4.cell? (Addr.add ⟨r, 0, none⟩ 0) = some (.int .i64 r_1) ∧
 ∃ r_2, w1_4.cell? (Addr.add ⟨r, 0, none⟩ 1) = some (.int .i64 r_2) ∧
 ∃ r_3, w1_4.cell? (Addr.add ⟨r, 0, none⟩ 2) = some (.string r_3) ∧
 ∃ rP rN rC, w1_4.cell? (Addr.add ⟨r, 0, none⟩ 3) = some (.slice rP rN rC) ∧
 R r_1 r_2 r_3 rP rN rC w1_4
theorem C_term_Atom.of {sx : ByteArray} {w : World} {R : Int → Int → ByteArray → Option Addr → Nat → Nat → World → Prop} (h : F_term_Atom sx w R) : C_term_Atom sx w R := ofS10 (Fm := F_term_Atom sx w) Tryz.func121 (by kernel_rfl) (L0 Tryz.f121) rfl (fun _ => by kernel_rfl) h
def F_atom_Table_may (t : Option Addr) (idx : Int) (w : World) (R : Int → World → Prop) : Prop :=
 C_atom_Table_ready t w fun t7 w1 =>
 If (!t7)
 (R (6 : Int) w1)
 (C_atom_Table_has t idx w1 fun t12 w1_1 =>
 If (!t12)
 (R (4 : Int) w1_1)
 (R (0 : Int) w1_1))
theorem C_atom_Table_may.of {t : Option Addr} {idx : Int} {w : World} {R : Int → World → Prop} (h : F_atom_Table_may t idx w R) : C_atom_Table_may t idx w R := ofS4 (Fm := F_atom_Table_may t idx w) Tryz.func122 (by kernel_rfl) (L0 Tryz.f122) rfl (fun _ => by kernel_rfl) h
def F_functor_Table_Get (t : Option Addr) (idx : Int) (w : World) (R : ByteArray → Int → Int → World → Prop) : Prop :=
 C_functor_Table_may t idx w fun t13 w1 =>
 If (t13 != (0 : Int))
 (R ⟨#[]⟩ (0 : Int) t13 w1)
 (NN t fun a =>
 ∃ lP lN lC, w1.cell? (a.add 2) = some (.slice lP lN lC) ∧
 0 ≤ idx ∧ idx < (lN : Int) ∧ NN lP fun a_1 =>
 ∃ f0, w1.cell? (((a_1.add (idx.toNat * 4)).add 0).add 0) = some (.int .i64 f0) ∧
 ∃ f1, w1.cell? (((a_1.add (idx.toNat * 4)).add 0).add 1) = some (.int .i64 f1) ∧
 New w1 (.cells #[.int .i64 0, .int .i64 0] 204) fun r w1_1 =>
 St w1_1 (Addr.add ⟨r, 0, none⟩ 0) (.int .i64 f0) fun w1_2 =>
 St w1_2 (Addr.add ⟨r, 0, none⟩ 1) (.int .i64 f1) fun w1_3 =>
 NN t fun a_2 =>
 ∃ atoms, (drw w1_3).cell? (a_2.add 0) = some (.pointer atoms) ∧
 ∃ namex, (drw w1_3).cell? (Addr.add ⟨r, 0, none⟩ 0) = some (.int .i64 namex) ∧
 C_atom_Table_Name atoms namex (drw w1_3) fun t320 t321 w1_4 =>
 If (t321 != (0 : Int))
 (R ⟨#[]⟩ (0 : Int) t321 w1_4)
 (∃ arity, (drw w1_4).cell? (Addr.add ⟨r, 0, none⟩ 1) = some (.int .i64 arity) ∧
 (drw w1_4).cell? (Addr.add ⟨r, 0, none⟩ 1) = (drw w1_4).cell? (Addr.add ⟨r, 0, none⟩ 1) ∧
 R t320 arity (0 : Int) (drw w1_4)))
def G_functor_Table_Get : Gen where
 loop := lookL []
 plan := fun id =>
  bif Nat.beq id 5 then some ([0, 1, 3, 7, 0, 16, 63, 127, 255, 255, 511, 2047], .take 0 (.take 1 (.take 2 (.take 3 (.take 4 (.take 5 (.take 6 (.take 7 (.take 8 (.take 9 (.take 10 (.take 11 .done)))))))))))) else
  bif Nat.beq id 8 then some ([0, 0, 2, 1, 15, 31], .take 0 (.take 1 (.take 2 (.take 3 (.take 4 (.take 5 .done)))))) else none
theorem C_functor_Table_Get.of {t : Option Addr} {idx : Int} {w : World} {R : ByteArray → Int → Int → World → Prop} (h : F_functor_Table_Get t idx w R) : C_functor_Table_Get t idx w R := ofS20 (Fm := F_functor_Table_Get t idx w) Tryz.func123 (by kernel_rfl) (L1 G_functor_Table_Get Tryz.f123 fun _ => rfl) rfl (fun _ => by kernel_rfl) h
def F_functor_Table_made (t : Option Addr) (w : World) (R : Bool → World → Prop) : Prop :=
 If (!t.isNone)
 (NN t fun a =>
 ∃ ids, w.cell? (a.add 3) = some (.map ids) ∧
 R (!ids.isNone) w)
 (R false w)
theorem C_functor_Table_made.of {t : Option Addr} {w : World} {R : Bool → World → Prop} (h : F_functor_Table_made t w R) : C_functor_Table_made t w R := ofS2 (Fm := F_functor_Table_made t w) Tryz.func124 (by kernel_rfl) (L0 Tryz.f124) rfl (fun _ => by kernel_rfl) h
def F_functor_Table_add_k1 (t : Option Addr) (R : Int → Int → World → Prop) (r : Nat) (idx : Int) (w1_9 : World) : Prop :=
 NN t fun a_11 =>
 ∃ ids, (drw w1_9).cell? (a_11.add 3) = some (.map ids) ∧
 ∃ t630, (drw w1_9).cell? (Addr.add ⟨r, 0, none⟩ 0) = some (.int .i64 t630) ∧
 ∃ t631, (drw w1_9).cell? (Addr.add ⟨r, 0, none⟩ 1) = some (.int .i64 t631) ∧
 MUp Tryz.prog 191 (.map ids) (.agg #[.int .i64 t630, .int .i64 t631]) (.int .i64 idx) (drw w1_9) fun w1_10 =>
 R idx (0 : Int) w1_10
def F_functor_Table_add (t : Option Addr) (f0 : Int) (f1 : Int) (w : World) (R : Int → Int → World → Prop) : Prop :=
 New w (.cells #[.int .i64 f0, .int .i64 f1] 204) fun r w1 =>
 NN t fun a =>
 ∃ lP lN lC, w1.cell? (a.add 2) = some (.slice lP lN lC) ∧
 NN t fun a_1 =>
 ∃ freeP freeN freeC, w1.cell? (a_1.add 4) = some (.slice freeP freeN freeC) ∧
 If (decide ((freeN : Int) > (0 : Int)))
 (NN t fun a_2 =>
 ∃ freeP_1 freeN_1 freeC_1, w1.cell? (a_2.add 4) = some (.slice freeP_1 freeN_1 freeC_1) ∧
 0 ≤ (0 : Int) ∧ (0 : Int) < (freeN_1 : Int) ∧ NN freeP_1 fun a_3 =>
 ∃ t35, w1.cell? (a_3.add ((0 : Int).toNat * 1)) = some (.int .i64 t35) ∧
 NN t fun a_4 =>
 ∃ freeP_2 freeN_2 freeC_2, w1.cell? (a_4.add 4) = some (.slice freeP_2 freeN_2 freeC_2) ∧
 0 ≤ (1 : Int) ∧ (1 : Int) ≤ (freeN_2 : Int) ∧
 NN t fun a_5 =>
 St w1 ((a_5.add 4).add 0) (.slice (adv freeP_2 freeC_2 (1 : Int).toNat 1) (freeN_2 - (1 : Int).toNat) (freeC_2 - (1 : Int).toNat)) fun w1_1 =>
 NN t fun a_6 =>
 ∃ lP_1 lN_1 lC_1, (drw w1_1).cell? (a_6.add 2) = some (.slice lP_1 lN_1 lC_1) ∧
 ∃ t490, (drw w1_1).cell? (Addr.add ⟨r, 0, none⟩ 0) = some (.int .i64 t490) ∧
 ∃ t491, (drw w1_1).cell? (Addr.add ⟨r, 0, none⟩ 1) = some (.int .i64 t491) ∧
 0 ≤ t35 ∧ t35 < (lN_1 : Int) ∧ NN lP_1 fun a_7 =>
 St (drw w1_1) ((a_7.add (t35.toNat * 4)).add 0) (.int .i64 t490) fun w1_2 =>
 St w1_2 ((a_7.add (t35.toNat * 4)).add 1) (.int .i64 t491) fun w1_3 =>
 St w1_3 ((a_7.add (t35.toNat * 4)).add 2) (.bool true) fun w1_4 =>
 St w1_4 ((a_7.add (t35.toNat * 4)).add 3) (.bool false) fun w1_5 =>
 F_functor_Table_add_k1 t R r t35 w1_5)
 (NN t fun a_8 =>
 ∃ limitx, w1.cell? (a_8.add 1) = some (.int .i64 limitx) ∧
 If (decide ((lN : Int) ≥ limitx))
 (R (0 : Int) (2 : Int) w1)
 (NN t fun a_9 =>
 ∃ lP_2 lN_2 lC_2, (drw w1).cell? (a_9.add 2) = some (.slice lP_2 lN_2 lC_2) ∧
 ∃ t170, (drw w1).cell? (Addr.add ⟨r, 0, none⟩ 0) = some (.int .i64 t170) ∧
 ∃ t171, (drw w1).cell? (Addr.add ⟨r, 0, none⟩ 1) = some (.int .i64 t171) ∧
 BSl Tryz.prog 192 1 [(0, .agg #[.int .i64 t170, .int .i64 t171, .bool true, .bool false])] (drw w1) fun t19P t19N t19C w1_6 =>
 w1_6.cell? (a_9.add 2) = (drw w1).cell? (a_9.add 2) ∧
 App Tryz.prog #[192, 192] 192 #[.slice lP_2 lN_2 lC_2, .slice t19P t19N t19C] w1_6 fun t20P t20N t20C w1_7 =>
 NN t fun a_10 =>
 St w1_7 ((a_10.add 2).add 0) (.slice t20P t20N t20C) fun w1_8 =>
 F_functor_Table_add_k1 t R r (lN : Int) w1_8))
def G_functor_Table_add : Gen where
 loop := lookL []
 plan := fun id =>
  bif Nat.beq id 6 then some ([0, 1, 3, 7, 0, 0, 32, 127, 255], .take 0 (.take 1 (.take 2 (.take 3 (.take 4 (.take 5 (.take 6 (.take 7 (.take 8 .done))))))))) else
  bif Nat.beq id 2 then some ([0, 0, 2, 6, 14, 0, 32, 96, 254, 511, 1023, 2047], .take 0 (.take 1 (.take 2 (.take 3 (.take 4 (.take 5 (.take 6 (.take 7 (.take 8 (.take 9 (.take 10 (.take 11 .done)))))))))))) else
  bif Nat.beq id 9 then some ([0, 1, 3, 7, 0, 0, 63], .take 0 (.take 1 (.take 2 (.take 3 (.take 4 (.take 5 (.take 6 .done))))))) else none
theorem C_functor_Table_add.of {t : Option Addr} {f0 : Int} {f1 : Int} {w : World} {R : Int → Int → World → Prop} (h : F_functor_Table_add t f0 f1 w R) : C_functor_Table_add t f0 f1 w R := ofS12 (Fm := F_functor_Table_add t f0 f1 w) Tryz.func125 (by kernel_rfl) (L1 G_functor_Table_add Tryz.f125 fun _ => rfl) rfl (fun _ => by kernel_rfl) h
def F_pool_Pool_Take_k1 (R : Int → Int → World → Prop) (At : Int) (w1_8 : World) : Prop :=
 R At (0 : Int) w1_8
def F_pool_Pool_Take (p : Option Addr) (n : Int) (w : World) (R : Int → Int → World → Prop) : Prop :=
 New w (.cells #[.int .i64 n] 3) fun r w1 =>
 C_pool_Pool_made p w1 fun t12 w1_1 =>
 If (!t12)
 (R (0 : Int) (6 : Int) w1_1)
 (∃ t15, w1_1.cell? ⟨r, 0, none⟩ = some (.int .i64 t15) ∧
 If (decide (t15 < (1 : Int)))
 (R (0 : Int) (1 : Int) w1_1)
 (C_pool_Pool_last p w1_1 fun t18 w1_2 =>
 NN t18 fun a =>
 ∃ runsP runsN runsC, w1_2.cell? (a.add 1) = some (.slice runsP runsN runsC) ∧
 C_slices_IndexFunc runsP runsN runsC (.func (.func 150) #[] #[.pointer (some ⟨r, 0, none⟩)]) w1_2 fun t24 w1_3 =>
 If (decide (t24 ≥ (0 : Int)))
 (NN t18 fun a_1 =>
 ∃ runsP_1 runsN_1 runsC_1, w1_3.cell? (a_1.add 1) = some (.slice runsP_1 runsN_1 runsC_1) ∧
 0 ≤ t24 ∧ t24 < (runsN_1 : Int) ∧ NN runsP_1 fun a_2 =>
 ∃ At, w1_3.cell? ((a_2.add (t24.toNat * 2)).add 0) = some (.int .i64 At) ∧
 NN t18 fun a_3 =>
 ∃ runsP_2 runsN_2 runsC_2, (drw w1_3).cell? (a_3.add 1) = some (.slice runsP_2 runsN_2 runsC_2) ∧
 0 ≤ t24 ∧ t24 < (runsN_2 : Int) ∧ NN runsP_2 fun a_4 =>
 ∃ At_1, (drw w1_3).cell? ((a_4.add (t24.toNat * 2)).add 0) = some (.int .i64 At_1) ∧
 ∃ t43, (drw w1_3).cell? ⟨r, 0, none⟩ = some (.int .i64 t43) ∧
 0 ≤ t24 ∧ t24 < (runsN_2 : Int) ∧ NN runsP_2 fun a_5 =>
 St (drw w1_3) (((a_5.add (t24.toNat * 2)).add 0).add 0) (.int .i64 (IntKind.i64.wrap (At_1 + t43))) fun w1_4 =>
 NN t18 fun a_6 =>
 ∃ runsP_3 runsN_3 runsC_3, (drw w1_4).cell? (a_6.add 1) = some (.slice runsP_3 runsN_3 runsC_3) ∧
 0 ≤ t24 ∧ t24 < (runsN_3 : Int) ∧ NN runsP_3 fun a_7 =>
 ∃ Len, (drw w1_4).cell? ((a_7.add (t24.toNat * 2)).add 1) = some (.int .i64 Len) ∧
 ∃ t55, (drw w1_4).cell? ⟨r, 0, none⟩ = some (.int .i64 t55) ∧
 0 ≤ t24 ∧ t24 < (runsN_3 : Int) ∧ NN runsP_3 fun a_8 =>
 St (drw w1_4) (((a_8.add (t24.toNat * 2)).add 1).add 0) (.int .i64 (IntKind.i64.wrap (Len - t55))) fun w1_5 =>
 NN t18 fun a_9 =>
 ∃ runsP_4 runsN_4 runsC_4, w1_5.cell? (a_9.add 1) = some (.slice runsP_4 runsN_4 runsC_4) ∧
 0 ≤ t24 ∧ t24 < (runsN_4 : Int) ∧ NN runsP_4 fun a_10 =>
 ∃ Len_1, w1_5.cell? ((a_10.add (t24.toNat * 2)).add 1) = some (.int .i64 Len_1) ∧
 If (Len_1 == (0 : Int))
 (NN t18 fun a_11 =>
 ∃ runsP_5 runsN_5 runsC_5, w1_5.cell? (a_11.add 1) = some (.slice runsP_5 runsN_5 runsC_5) ∧
 C_slices_Delete runsP_5 runsN_5 runsC_5 t24 (IntKind.i64.wrap (t24 + (1 : Int))) w1_5 fun t76P t76N t76C w1_6 =>
 NN t18 fun a_12 =>
 St w1_6 ((a_12.add 1).add 0) (.slice t76P t76N t76C) fun w1_7 =>
 F_pool_Pool_Take_k1 R At w1_7)
 (F_pool_Pool_Take_k1 R At w1_5))
 (∃ t80, (drw w1_3).cell? ⟨r, 0, none⟩ = some (.int .i64 t80) ∧
 NN p fun a_13 =>
 ∃ limitx, (drw w1_3).cell? (a_13.add 2) = some (.int .i64 limitx) ∧
 NN p fun a_14 =>
 ∃ topx, (drw w1_3).cell? (a_14.add 1) = some (.int .i64 topx) ∧
 If (decide (t80 > (IntKind.i64.wrap (limitx - topx))))
 (R (0 : Int) (2 : Int) (drw w1_3))
 (NN p fun a_15 =>
 ∃ topx_1, (drw w1_3).cell? (a_15.add 1) = some (.int .i64 topx_1) ∧
 NN p fun a_16 =>
 ∃ topx_2 : Int, (drw (drw w1_3)).cell? (a_16.add 1) = some (.int .i64 topx_2) ∧
 ∃ t99 : Int, (drw (drw w1_3)).cell? ⟨r, 0, none⟩ = some (.int .i64 t99) ∧
 NN p fun a_17 =>
 St (drw (drw w1_3)) ((a_17.add 1).add 0) (.int .i64 (IntKind.i64.wrap (topx_2 + t99))) fun w1_9 =>
 R topx_1 (0 : Int) w1_9))))
def G_pool_Pool_Take : Gen where
 loop := lookL []
 plan := fun id =>
  bif Nat.beq id 9 || Nat.beq id 10 then some ([0, 1, 3, 7, 0, 31, 63, 127, 0, 511, 1023, 2047, 4095], .take 0 (.take 1 (.take 2 (.take 3 (.take 4 (.take 5 (.take 6 (.take 7 (.take 8 (.take 9 (.take 10 (.take 11 (.take 12 .done))))))))))))) else
  bif Nat.beq id 14 then some ([0, 0, 2, 6, 14, 0, 32, 96, 224, 510, 1023], .take 0 (.take 1 (.take 2 (.take 3 (.take 4 (.take 5 (.take 6 (.take 7 (.take 8 (.take 9 (.take 10 .done))))))))))) else
  bif Nat.beq id 17 then some ([0, 1, 3, 7, 0, 31, 63, 127, 255], .take 0 (.take 1 (.take 2 (.take 3 (.take 4 (.take 5 (.take 6 (.take 7 (.take 8 .done))))))))) else none
theorem C_pool_Pool_Take.of {p : Option Addr} {n : Int} {w : World} {R : Int → Int → World → Prop} (h : F_pool_Pool_Take p n w R) : C_pool_Pool_Take p n w R := ofS12 (Fm := F_pool_Pool_Take p n w) Tryz.func126 (by kernel_rfl) (L1 G_pool_Pool_Take Tryz.f126 fun _ => rfl) rfl (fun _ => by kernel_rfl) h
def F_cell_Make_k1 (R : Int → Int → World → Prop) (w1 : World) : Prop :=
 R (0 : Int) (1 : Int) w1
def F_cell_Make (tag : Int) (n : Int) (w : World) (R : Int → Int → World → Prop) : Prop :=
 If (decide (tag < (1 : Int)))
 (F_cell_Make_k1 R w)
 (If (decide (tag > (7 : Int)))
 (F_cell_Make_k1 R w)
 (If (decide (n < (-1152921504606846976)))
 (F_cell_Make_k1 R w)
 (If (decide (n > (1152921504606846975 : Int)))
 (R (0 : Int) (1 : Int) w)
 (0 ≤ (3 : Int) ∧
 R (orI .u64 (shlI .u64 (IntKind.u64.wrap n) (3 : Int)) (IntKind.u64.wrap tag)) (0 : Int) w))))
theorem C_cell_Make.of {tag : Int} {n : Int} {w : World} {R : Int → Int → World → Prop} (h : F_cell_Make tag n w R) : C_cell_Make tag n w R := ofS5 (Fm := F_cell_Make tag n w) Tryz.func127 (by kernel_rfl) (L0 Tryz.f127) rfl (fun _ => by kernel_rfl) h
def F_room_Room_Push (m : Option Addr) (wx : Int) (w : World) (R : Int → World → Prop) : Prop :=
 If m.isNone
 (R (6 : Int) w)
 (NN m fun a =>
 ∃ lP lN lC, (drw w).cell? (a.add 0) = some (.slice lP lN lC) ∧
 NN m fun a_1 =>
 ∃ limitx, (drw w).cell? (a_1.add 1) = some (.int .i64 limitx) ∧
 If (decide ((lN : Int) ≥ limitx))
 (R (2 : Int) (drw w))
 (NN m fun a_2 =>
 ∃ lP_1 lN_1 lC_1, (drw w).cell? (a_2.add 0) = some (.slice lP_1 lN_1 lC_1) ∧
 BSl Tryz.prog 36 1 [(0, .int .u64 wx)] (drw w) fun t25P t25N t25C w1 =>
 App Tryz.prog #[36, 36] 36 #[.slice lP_1 lN_1 lC_1, .slice t25P t25N t25C] w1 fun t26P t26N t26C w1_1 =>
 NN m fun a_3 =>
 St w1_1 ((a_3.add 0).add 0) (.slice t26P t26N t26C) fun w1_2 =>
 C_room_Room_note m w1_2 fun w1_3 =>
 R (0 : Int) w1_3))
def G_room_Room_Push : Gen where
 loop := lookL []
 plan := fun id =>
  bif Nat.beq id 3 then some ([0, 1, 3, 7, 15, 0, 32, 96, 224, 511, 1023], .take 0 (.take 1 (.take 2 (.take 3 (.take 4 (.take 5 (.take 6 (.take 7 (.take 8 (.take 9 (.take 10 .done))))))))))) else none
theorem C_room_Room_Push.of {m : Option Addr} {wx : Int} {w : World} {R : Int → World → Prop} (h : F_room_Room_Push m wx w R) : C_room_Room_Push m wx w R := ofS4 (Fm := F_room_Room_Push m wx w) Tryz.func128 (by kernel_rfl) (L1 G_room_Room_Push Tryz.f128 fun _ => rfl) rfl (fun _ => by kernel_rfl) h
def F_heap_matcher_bind (m : Option Addr) (wx : Int) (x : Int) (w : World) (R : Bool → World → Prop) : Prop :=
 NN m fun a =>
 ∃ hx, w.cell? (a.add 0) = some (.pointer hx) ∧
 C_heap_Heap_bind hx wx x w fun t160 t161 w1 =>
 NN m fun a_1 =>
 ∃ ex, w1.cell? (a_1.add 2) = some (.int .i64 ex) ∧
 NN m fun a_2 =>
 St w1 ((a_2.add 2).add 0) (.int .i64 (maxI ex t161)) fun w1_1 =>
 R t160 w1_1
theorem C_heap_matcher_bind.of {m : Option Addr} {wx : Int} {x : Int} {w : World} {R : Bool → World → Prop} (h : F_heap_matcher_bind m wx x w R) : C_heap_matcher_bind m wx x w R := ofS2 (Fm := F_heap_matcher_bind m wx x w) Tryz.func129 (by kernel_rfl) (L0 Tryz.f129) rfl (fun _ => by kernel_rfl) h
def F_pool_Pool_Free (p : Option Addr) (atx : Int) (w : World) (R : Bool → World → Prop) : Prop :=
 C_pool_Pool_Segment p atx w fun t8 w1 =>
 If (decide (t8 ≥ (0 : Int)))
 (NN p fun a =>
 ∃ lP lN lC, w1.cell? (a.add 0) = some (.slice lP lN lC) ∧
 0 ≤ t8 ∧ t8 < (lN : Int) ∧ NN lP fun a_1 =>
 C_pool_segment_meets (some (a_1.add (t8.toNat * 2))) atx (1 : Int) w1 fun t19 w1_1 =>
 R t19 w1_1)
 (R false w1)
theorem C_pool_Pool_Free.of {p : Option Addr} {atx : Int} {w : World} {R : Bool → World → Prop} (h : F_pool_Pool_Free p atx w R) : C_pool_Pool_Free p atx w R := ofS2 (Fm := F_pool_Pool_Free p atx w) Tryz.func130 (by kernel_rfl) (L0 Tryz.f130) rfl (fun _ => by kernel_rfl) h
def F_pool_Pool_last (p : Option Addr) (w : World) (R : Option Addr → World → Prop) : Prop :=
 NN p fun a =>
 ∃ lP lN lC, (drw w).cell? (a.add 0) = some (.slice lP lN lC) ∧
 NN p fun a_1 =>
 ∃ lP_1 lN_1 lC_1, (drw w).cell? (a_1.add 0) = some (.slice lP_1 lN_1 lC_1) ∧
 0 ≤ (IntKind.i64.wrap ((lN_1 : Int) - (1 : Int))) ∧ (IntKind.i64.wrap ((lN_1 : Int) - (1 : Int))) < (lN : Int) ∧ NN lP fun a_2 =>
 R (some (a_2.add ((IntKind.i64.wrap ((lN_1 : Int) - (1 : Int))).toNat * 2))) (drw w)
def G_pool_Pool_last : Gen where
 loop := lookL []
 plan := fun id =>
  bif Nat.beq id 1 then some ([0, 1, 3, 7, 0, 16, 48, 112, 240, 496, 1023, 2047], .take 0 (.take 1 (.take 2 (.take 3 (.take 4 (.take 5 (.take 6 (.take 7 (.take 8 (.take 9 (.take 10 (.take 11 .done)))))))))))) else none
theorem C_pool_Pool_last.of {p : Option Addr} {w : World} {R : Option Addr → World → Prop} (h : F_pool_Pool_last p w R) : C_pool_Pool_last p w R := ofS13 (Fm := F_pool_Pool_last p w) Tryz.func131 (by kernel_rfl) (L1 G_pool_Pool_last Tryz.f131 fun _ => rfl) rfl (fun _ => by kernel_rfl) h
end Go.Proofs.YtdaenijbokialaaGreat
