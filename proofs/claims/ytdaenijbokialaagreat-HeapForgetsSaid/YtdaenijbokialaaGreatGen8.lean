import Derived.Test.YtdaenijbokialaaGreatGenC
set_option maxRecDepth 100000
set_option linter.unusedVariables false
namespace Go.Proofs.YtdaenijbokialaaGreat
open Go Go.D Go.Proofs
def F_heap_Heap_taken_k1 (R : Bool → World → Prop) (w1_2 : World) : Prop :=
 R false w1_2
def F_heap_Heap_taken (hx : Option Addr) (atx : Int) (w : World) (R : Bool → World → Prop) : Prop :=
 If (decide (atx ≥ (0 : Int)))
 (NN hx fun a =>
 ∃ pool, (drw w).cell? (a.add 0) = some (.pointer pool) ∧
 NN hx fun a_1 =>
 ∃ cellsP cellsN cellsC, (drw w).cell? (a_1.add 4) = some (.slice cellsP cellsN cellsC) ∧
 C_pool_Pool_Top pool (drw w) fun t13 w1 =>
 w1.cell? (a_1.add 4) = (drw w).cell? (a_1.add 4) ∧
 If (decide (atx < (minI t13 (cellsN : Int))))
 (NN hx fun a_2 =>
 ∃ pool_1, w1.cell? (a_2.add 0) = some (.pointer pool_1) ∧
 C_pool_Pool_Free pool_1 atx w1 fun t28 w1_1 =>
 R (!t28) w1_1)
 (F_heap_Heap_taken_k1 R w1))
 (F_heap_Heap_taken_k1 R (drw w))
def G_heap_Heap_taken : Gen where
 loop := lookL []
 plan := fun id =>
  bif Nat.beq id 1 then some ([0, 1, 3, 7, 7, 23, 55, 119, 247, 7, 519, 1543, 3591, 7687, 16375, 32767, 65535, 131071, 262143, 524287, 1048575, 2097151, 262143, 8388607, 16777215, 33554431, 67108863], .take 0 (.take 1 (.take 2 (.take 3 (.take 4 (.take 5 (.take 6 (.take 7 (.take 9 (.take 10 (.take 11 (.take 12 (.take 13 (.take 8 (.take 14 (.take 15 (.take 16 (.take 17 (.take 18 (.take 19 (.take 20 (.take 21 (.take 22 (.take 23 (.take 24 (.take 25 (.take 26 .done))))))))))))))))))))))))))) else none
theorem C_heap_Heap_taken.of {hx : Option Addr} {atx : Int} {w : World} {R : Bool → World → Prop} (h : F_heap_Heap_taken hx atx w R) : C_heap_Heap_taken hx atx w R := ofS2 (Fm := F_heap_Heap_taken hx atx w) Tryz.func98 (by kernel_rfl) (L1 G_heap_Heap_taken Tryz.f98 fun _ => rfl) rfl (fun _ => by kernel_rfl) h
def F_pool_Pool_Open (p : Option Addr) (w : World) (R : Int → World → Prop) : Prop :=
 C_pool_Pool_made p w fun t5 w1 =>
 If (!t5)
 (R (6 : Int) w1)
 (NN p fun a =>
 ∃ lP lN lC, w1.cell? (a.add 0) = some (.slice lP lN lC) ∧
 If (decide ((lN : Int) ≥ (4096 : Int)))
 (R (2 : Int) w1)
 (NN p fun a_1 =>
 ∃ lP_1 lN_1 lC_1, (drw w1).cell? (a_1.add 0) = some (.slice lP_1 lN_1 lC_1) ∧
 NN p fun a_2 =>
 ∃ topx, (drw w1).cell? (a_2.add 1) = some (.int .i64 topx) ∧
 BSl Tryz.prog 145 1 [(0, .agg #[.int .i64 topx, .slice none 0 0])] (drw w1) fun t24P t24N t24C w1_1 =>
 w1_1.cell? (a_1.add 0) = (drw w1).cell? (a_1.add 0) ∧
 App Tryz.prog #[145, 145] 145 #[.slice lP_1 lN_1 lC_1, .slice t24P t24N t24C] w1_1 fun t25P t25N t25C w1_2 =>
 NN p fun a_3 =>
 St w1_2 ((a_3.add 0).add 0) (.slice t25P t25N t25C) fun w1_3 =>
 R (0 : Int) w1_3))
def G_pool_Pool_Open : Gen where
 loop := lookL []
 plan := fun id =>
  bif Nat.beq id 5 then some ([0, 0, 2, 6, 14, 0, 32, 96, 224, 480, 992, 2046, 4095, 8191, 16383], .take 0 (.take 1 (.take 2 (.take 3 (.take 4 (.take 5 (.take 6 (.take 7 (.take 8 (.take 9 (.take 10 (.take 11 (.take 12 (.take 13 (.take 14 .done))))))))))))))) else none
theorem C_pool_Pool_Open.of {p : Option Addr} {w : World} {R : Int → World → Prop} (h : F_pool_Pool_Open p w R) : C_pool_Pool_Open p w R := ofS4 (Fm := F_pool_Pool_Open p w) Tryz.func99 (by kernel_rfl) (L1 G_pool_Pool_Open Tryz.f99 fun _ => rfl) rfl (fun _ => by kernel_rfl) h
def F_room_Room_Len (m : Option Addr) (w : World) (R : Int → World → Prop) : Prop :=
 If m.isNone
 (R (0 : Int) w)
 (NN m fun a =>
 ∃ lP lN lC, w.cell? (a.add 0) = some (.slice lP lN lC) ∧
 R (lN : Int) w)
theorem C_room_Room_Len.of {m : Option Addr} {w : World} {R : Int → World → Prop} (h : F_room_Room_Len m w R) : C_room_Room_Len m w R := ofS4 (Fm := F_room_Room_Len m w) Tryz.func100 (by kernel_rfl) (L0 Tryz.f100) rfl (fun _ => by kernel_rfl) h
def F_pool_Pool_Back (p : Option Addr) (w : World) (R : Int → World → Prop) : Prop :=
 C_pool_Pool_made p w fun t4 w1 =>
 If (!t4)
 (R (6 : Int) w1)
 (C_pool_Pool_last p w1 fun t8 w1_1 =>
 NN t8 fun a =>
 ∃ startx, w1_1.cell? (a.add 0) = some (.int .i64 startx) ∧
 NN p fun a_1 =>
 St w1_1 ((a_1.add 1).add 0) (.int .i64 startx) fun w1_2 =>
 C_pool_Pool_last p w1_2 fun t15 w1_3 =>
 NN t15 fun a_2 =>
 St w1_3 ((a_2.add 1).add 0) (.slice none 0 0) fun w1_4 =>
 R (0 : Int) w1_4)
theorem C_pool_Pool_Back.of {p : Option Addr} {w : World} {R : Int → World → Prop} (h : F_pool_Pool_Back p w R) : C_pool_Pool_Back p w R := ofS4 (Fm := F_pool_Pool_Back p w) Tryz.func101 (by kernel_rfl) (L0 Tryz.f101) rfl (fun _ => by kernel_rfl) h
def F_pool_Pool_made (p : Option Addr) (w : World) (R : Bool → World → Prop) : Prop :=
 If (!p.isNone)
 (NN p fun a =>
 ∃ lP lN lC, w.cell? (a.add 0) = some (.slice lP lN lC) ∧
 R (decide ((lN : Int) > (0 : Int))) w)
 (R false w)
theorem C_pool_Pool_made.of {p : Option Addr} {w : World} {R : Bool → World → Prop} (h : F_pool_Pool_made p w R) : C_pool_Pool_made p w R := ofS2 (Fm := F_pool_Pool_made p w) Tryz.func102 (by kernel_rfl) (L0 Tryz.f102) rfl (fun _ => by kernel_rfl) h
def F_atom_Table_Intern_k1 (t : Option Addr) (namex : ByteArray) (R : Int → Int → World → Prop) (idx : Int) (w1_9 : World) : Prop :=
 NN t fun a_12 =>
 ∃ ids_1, w1_9.cell? (a_12.add 6) = some (.map ids_1) ∧
 MUp Tryz.prog 188 (.map ids_1) (.string namex) (.int .i64 idx) w1_9 fun w1_10 =>
 NN t fun a_13 =>
 C_sync_atomic_Int64_Add (some (a_13.add 3)) (1 : Int) w1_10 fun t87 w1_11 =>
 R idx (0 : Int) w1_11
def F_atom_Table_Intern (t : Option Addr) (namex : ByteArray) (w : World) (R : Int → Int → World → Prop) : Prop :=
 C_atom_Table_ready t w fun t10 w1 =>
 If (!t10)
 (R (0 : Int) (6 : Int) w1)
 (If (decide ((namex.size : Int) > (64 : Int)))
 (R (0 : Int) (3 : Int) w1)
 (NN t fun a =>
 ∃ ids, w1.cell? (a.add 6) = some (.map ids) ∧
 Run Tryz.prog (Instr.lookup 188 (.map ids) (.string namex) true) w1 fun v w1_1 => ∃ t210 : Int, ∃ t211 : Bool, v = (.tuple #[.int .i64 t210, .bool t211]) ∧
 If t211
 (R t210 (0 : Int) w1_1)
 (NN t fun a_1 =>
 ∃ lP lN lC, w1_1.cell? (a_1.add 5) = some (.slice lP lN lC) ∧
 NN t fun a_2 =>
 ∃ freeP freeN freeC, w1_1.cell? (a_2.add 7) = some (.slice freeP freeN freeC) ∧
 If (decide ((freeN : Int) > (0 : Int)))
 (NN t fun a_3 =>
 ∃ freeP_1 freeN_1 freeC_1, w1_1.cell? (a_3.add 7) = some (.slice freeP_1 freeN_1 freeC_1) ∧
 0 ≤ (0 : Int) ∧ (0 : Int) < (freeN_1 : Int) ∧ NN freeP_1 fun a_4 =>
 ∃ t54, w1_1.cell? (a_4.add ((0 : Int).toNat * 1)) = some (.int .i64 t54) ∧
 NN t fun a_5 =>
 ∃ freeP_2 freeN_2 freeC_2, w1_1.cell? (a_5.add 7) = some (.slice freeP_2 freeN_2 freeC_2) ∧
 0 ≤ (1 : Int) ∧ (1 : Int) ≤ (freeN_2 : Int) ∧
 NN t fun a_6 =>
 St w1_1 ((a_6.add 7).add 0) (.slice (adv freeP_2 freeC_2 (1 : Int).toNat 1) (freeN_2 - (1 : Int).toNat) (freeC_2 - (1 : Int).toNat)) fun w1_2 =>
 NN t fun a_7 =>
 ∃ lP_1 lN_1 lC_1, w1_2.cell? (a_7.add 5) = some (.slice lP_1 lN_1 lC_1) ∧
 0 ≤ t54 ∧ t54 < (lN_1 : Int) ∧ NN lP_1 fun a_8 =>
 St w1_2 ((a_8.add (t54.toNat * 3)).add 0) (.string namex) fun w1_3 =>
 St w1_3 ((a_8.add (t54.toNat * 3)).add 1) (.bool true) fun w1_4 =>
 St w1_4 ((a_8.add (t54.toNat * 3)).add 2) (.bool false) fun w1_5 =>
 F_atom_Table_Intern_k1 t namex R t54 w1_5)
 (NN t fun a_9 =>
 ∃ limitx, w1_1.cell? (a_9.add 4) = some (.int .i64 limitx) ∧
 If (decide ((lN : Int) ≥ limitx))
 (R (0 : Int) (2 : Int) w1_1)
 (NN t fun a_10 =>
 ∃ lP_2 lN_2 lC_2, w1_1.cell? (a_10.add 5) = some (.slice lP_2 lN_2 lC_2) ∧
 BSl Tryz.prog 187 1 [(0, .agg #[.string namex, .bool true, .bool false])] w1_1 fun t38P t38N t38C w1_6 =>
 App Tryz.prog #[187, 187] 187 #[.slice lP_2 lN_2 lC_2, .slice t38P t38N t38C] w1_6 fun t39P t39N t39C w1_7 =>
 NN t fun a_11 =>
 St w1_7 ((a_11.add 5).add 0) (.slice t39P t39N t39C) fun w1_8 =>
 F_atom_Table_Intern_k1 t namex R (lN : Int) w1_8)))))
theorem C_atom_Table_Intern.of {t : Option Addr} {namex : ByteArray} {w : World} {R : Int → Int → World → Prop} (h : F_atom_Table_Intern t namex w R) : C_atom_Table_Intern t namex w R := ofS12 (Fm := F_atom_Table_Intern t namex w) Tryz.func108 (by kernel_rfl) (L0 Tryz.f108) rfl (fun _ => by kernel_rfl) h
def F_room_Room_Pop_k1 (R : Int → Int → World → Prop) (t130 : Int) (t131 : Int) (w1_3 : World) : Prop :=
 R t130 t131 w1_3
def F_room_Room_Pop (m : Option Addr) (w : World) (R : Int → Int → World → Prop) : Prop :=
 C_room_Room_Len m w fun t8 w1 =>
 C_room_Room_Get m (IntKind.i64.wrap (t8 - (1 : Int))) w1 fun t130 t131 w1_1 =>
 If (t131 == (0 : Int))
 (NN m fun a =>
 ∃ lP lN lC, w1_1.cell? (a.add 0) = some (.slice lP lN lC) ∧
 0 ≤ (IntKind.i64.wrap (t8 - (1 : Int))) ∧ (IntKind.i64.wrap (t8 - (1 : Int))) ≤ (lC : Int) ∧
 NN m fun a_1 =>
 St w1_1 ((a_1.add 0).add 0) (.slice lP ((IntKind.i64.wrap (t8 - (1 : Int))).toNat) lC) fun w1_2 =>
 F_room_Room_Pop_k1 R t130 t131 w1_2)
 (F_room_Room_Pop_k1 R t130 t131 w1_1)
theorem C_room_Room_Pop.of {m : Option Addr} {w : World} {R : Int → Int → World → Prop} (h : F_room_Room_Pop m w R) : C_room_Room_Pop m w R := ofS5 (Fm := F_room_Room_Pop m w) Tryz.func109 (by kernel_rfl) (L0 Tryz.f109) rfl (fun _ => by kernel_rfl) h
def F_slices_Clone (sP : Option Addr) (sN : Nat) (sC : Nat) (w : World) (R : Option Addr → Nat → Nat → World → Prop) : Prop :=
 If sP.isNone
 (R none 0 0 w)
 (BSl Tryz.prog 36 0 [] w fun t5P t5N t5C w1 =>
 App Tryz.prog #[36, 36] 36 #[.slice t5P t5N t5C, .slice sP sN sC] w1 fun t7P t7N t7C w1_1 =>
 R t7P t7N t7C w1_1)
theorem C_slices_Clone.of {sP : Option Addr} {sN : Nat} {sC : Nat} {w : World} {R : Option Addr → Nat → Nat → World → Prop} (h : F_slices_Clone sP sN sC w R) : C_slices_Clone sP sN sC w R := ofS6 (Fm := F_slices_Clone sP sN sC w) Tryz.func110 (by kernel_rfl) (L0 Tryz.f110) rfl (fun _ => by kernel_rfl) h
def F_slices_Clone__2 (sP : Option Addr) (sN : Nat) (sC : Nat) (w : World) (R : Option Addr → Nat → Nat → World → Prop) : Prop :=
 If sP.isNone
 (R none 0 0 w)
 (BSl Tryz.prog 55 0 [] w fun t5P t5N t5C w1 =>
 App Tryz.prog #[55, 55] 55 #[.slice t5P t5N t5C, .slice sP sN sC] w1 fun t7P t7N t7C w1_1 =>
 R t7P t7N t7C w1_1)
theorem C_slices_Clone__2.of {sP : Option Addr} {sN : Nat} {sC : Nat} {w : World} {R : Option Addr → Nat → Nat → World → Prop} (h : F_slices_Clone__2 sP sN sC w R) : C_slices_Clone__2 sP sN sC w R := ofS6 (Fm := F_slices_Clone__2 sP sN sC w) Tryz.func111 (by kernel_rfl) (L0 Tryz.f111) rfl (fun _ => by kernel_rfl) h
def F_room_Room_Keep (m : Option Addr) (keepx : Value) (w : World) (R : Int → World → Prop) : Prop :=
 New w (.cells (Value.cells keepx) 164) fun r w1 =>
 If m.isNone
 (R (0 : Int) w1)
 (NN m fun a =>
 ∃ lP lN lC, w1.cell? (a.add 0) = some (.slice lP lN lC) ∧
 New w1 (.cells #[.int .i64 0] 3) fun r_1 w1_1 =>
 St w1_1 (Addr.add ⟨r_1, 0, none⟩ 0) (.int .i64 (-1)) fun w1_2 =>
 NN m fun a_1 =>
 ∃ lP_1 lN_1 lC_1, w1_2.cell? (a_1.add 0) = some (.slice lP_1 lN_1 lC_1) ∧
 C_slices_DeleteFunc lP_1 lN_1 lC_1 (.func (.func 142) #[] #[.pointer (some ⟨r_1, 0, none⟩), .pointer (some ⟨r, 0, none⟩)]) w1_2 fun t20P t20N t20C w1_3 =>
 NN m fun a_2 =>
 St w1_3 ((a_2.add 0).add 0) (.slice t20P t20N t20C) fun w1_4 =>
 NN m fun a_3 =>
 ∃ lP_2 lN_2 lC_2, w1_4.cell? (a_3.add 0) = some (.slice lP_2 lN_2 lC_2) ∧
 R (IntKind.i64.wrap ((lN : Int) - (lN_2 : Int))) w1_4)
theorem C_room_Room_Keep.of {m : Option Addr} {keepx : Value} {w : World} {R : Int → World → Prop} (h : F_room_Room_Keep m keepx w R) : C_room_Room_Keep m keepx w R := ofS4 (Fm := F_room_Room_Keep m keepx w) Tryz.func112 (by kernel_rfl) (L0 Tryz.f112) rfl (fun _ => by kernel_rfl) h
def F_heap_Heap_Forget_1_k1 (R : Bool → World → Prop) (t12 : Bool) (w1_4 : World) : Prop :=
 R t12 w1_4
def F_heap_Heap_Forget_1 (i : Int) (wx : Int) (c0 : Addr) (c1 : Addr) (w : World) (R : Bool → World → Prop) : Prop :=
 ∃ t8 : Value, w.cell? c0 = some (t8) ∧
 CallV Tryz.prog t8 [.int .i64 i, .int .i64 (IntKind.i64.wrap wx)] w fun v w1 => ∃ t12 : Bool, v = (.bool t12) ∧
 If (!t12)
 (∃ t15P t15N t15C, w1.cell? c1 = some (.slice t15P t15N t15C) ∧
 BSl Tryz.prog 55 1 [(0, .int .i64 i)] w1 fun t17P t17N t17C w1_1 =>
 App Tryz.prog #[55, 55] 55 #[.slice t15P t15N t15C, .slice t17P t17N t17C] w1_1 fun t18P t18N t18C w1_2 =>
 St w1_2 (c1.add 0) (.slice t18P t18N t18C) fun w1_3 =>
 F_heap_Heap_Forget_1_k1 R t12 w1_3)
 (F_heap_Heap_Forget_1_k1 R t12 w1)
theorem C_heap_Heap_Forget_1.of {i : Int} {wx : Int} {c0 : Addr} {c1 : Addr} {w : World} {R : Bool → World → Prop} (h : F_heap_Heap_Forget_1 i wx c0 c1 w R) : C_heap_Heap_Forget_1 i wx c0 c1 w R := ofS2 (Fm := F_heap_Heap_Forget_1 i wx c0 c1 w) Tryz.func113 (by kernel_rfl) (L0 Tryz.f113) rfl (fun _ => by kernel_rfl) h
structure S_slices_BinarySearch_L1 where
 i : Int
 j : Int
def F_slices_BinarySearch_k1 (R : Int → Bool → World → Prop) (i_2 : Int) (w1_4 : World) : Prop :=
 R i_2 false w1_4
def B_slices_BinarySearch_L1 (xP_1 : Option Addr) (xN_1 : Nat) (xC_1 : Nat) (target_1 : Int) (n : Int) (s : S_slices_BinarySearch_L1) (w : World) (Kn : S_slices_BinarySearch_L1 → World → Prop) (Kx0 : Int → World → Prop) : Prop :=
 If (decide (s.i < s.j))
 (0 ≤ (1 : Int) ∧
 0 ≤ (IntKind.i64.wrap (shrI .u64 (IntKind.u64.wrap (IntKind.i64.wrap (s.i + s.j))) (1 : Int))) ∧ (IntKind.i64.wrap (shrI .u64 (IntKind.u64.wrap (IntKind.i64.wrap (s.i + s.j))) (1 : Int))) < (xN_1 : Int) ∧ NN xP_1 fun a =>
 ∃ t25, w.cell? (a.add ((IntKind.i64.wrap (shrI .u64 (IntKind.u64.wrap (IntKind.i64.wrap (s.i + s.j))) (1 : Int))).toNat * 1)) = some (.int .i64 t25) ∧
 C_cmp_Less t25 target_1 w fun t27 w1 =>
 If t27
 (Kn ⟨(IntKind.i64.wrap ((IntKind.i64.wrap (shrI .u64 (IntKind.u64.wrap (IntKind.i64.wrap (s.i + s.j))) (1 : Int))) + (1 : Int))), s.j⟩ w1)
 (Kn ⟨s.i, (IntKind.i64.wrap (shrI .u64 (IntKind.u64.wrap (IntKind.i64.wrap (s.i + s.j))) (1 : Int)))⟩ w1))
 (Kx0 s.i w)
def F_slices_BinarySearch_L1 (xP_1 : Option Addr) (xN_1 : Nat) (xC_1 : Nat) (target_1 : Int) (n : Int) (s : S_slices_BinarySearch_L1) (w : World) (Kx0 : Int → World → Prop) : Prop :=
 LoopS (fun s w Kn => B_slices_BinarySearch_L1 xP_1 xN_1 xC_1 target_1 n s w Kn Kx0) s w
def F_slices_BinarySearch (xP : Option Addr) (xN : Nat) (xC : Nat) (target : Int) (w : World) (R : Int → Bool → World → Prop) : Prop :=
 F_slices_BinarySearch_L1 xP xN xC target (xN : Int) ⟨(0 : Int), (xN : Int)⟩ w
 (fun i_2 w1_1 =>
 If (decide (i_2 < (xN : Int)))
 (0 ≤ i_2 ∧ i_2 < (xN : Int) ∧ NN xP fun a_1 =>
 ∃ t39, w1_1.cell? (a_1.add (i_2.toNat * 1)) = some (.int .i64 t39) ∧
 If (t39 == target)
 (R i_2 true w1_1)
 (0 ≤ i_2 ∧ i_2 < (xN : Int) ∧ NN xP fun a_2 =>
 ∃ t46, w1_1.cell? (a_2.add (i_2.toNat * 1)) = some (.int .i64 t46) ∧
 C_slices_isNaN t46 w1_1 fun t47 w1_2 =>
 If t47
 (C_slices_isNaN target w1_2 fun t50 w1_3 =>
 R i_2 t50 w1_3)
 (F_slices_BinarySearch_k1 R i_2 w1_2)))
 (F_slices_BinarySearch_k1 R i_2 w1_1))
def lit_slices_BinarySearch_L1 (f : (Option Addr) × Nat × Nat × Int × Int) (s : S_slices_BinarySearch_L1) : Env := [⟨0, .slice f.1 f.2.1 f.2.2.1, none⟩, ⟨1, .int .i64 f.2.2.2.1, none⟩, ⟨6, .int .i64 f.2.2.2.2, none⟩, ⟨7, .int .i64 s.i, none⟩, ⟨8, .int .i64 s.j, none⟩]
def dec_slices_BinarySearch_L1 (e : Env) (K : ((Option Addr) × Nat × Nat × Int × Int) → S_slices_BinarySearch_L1 → Prop) : Prop :=
 oS e 0 fun xP_1 xN_1 xC_1 =>
 oI e 1 .i64 fun target_1 =>
 oI e 6 .i64 fun n =>
 oI e 7 .i64 fun i =>
 oI e 8 .i64 fun j =>
  K (xP_1, xN_1, xC_1, target_1, n) ⟨i, j⟩
theorem dec_slices_BinarySearch_L1_ok {N : Nat} (e : Env) (a : Act) (K : ((Option Addr) × Nat × Nat × Int × Int) → S_slices_BinarySearch_L1 → Prop) (hr : Rep N a e) (h0 : dec_slices_BinarySearch_L1 e K) : ∃ f s, K f s ∧ Rep N a (lit_slices_BinarySearch_L1 f s) := by
 unfold dec_slices_BinarySearch_L1 at h0
 obtain ⟨xP_1, xN_1, xC_1, g0, h1⟩ := oS_elim h0
 obtain ⟨target_1, g1, h2⟩ := oI_elim h1
 obtain ⟨n, g6, h3⟩ := oI_elim h2
 obtain ⟨i, g7, h4⟩ := oI_elim h3
 obtain ⟨j, g8, h5⟩ := oI_elim h4
 exact ⟨_, _, h5, rep_less hr (by simp [lit_slices_BinarySearch_L1, g0, g1, g6, g7, g8])⟩
def spec_slices_BinarySearch_L1 (Q : Post) (e : Env) (w : World) : Prop :=
 dec_slices_BinarySearch_L1 e fun f s => F_slices_BinarySearch_L1 f.1 f.2.1 f.2.2.1 f.2.2.2.1 f.2.2.2.2 s w (fun i_1 w1 => Q (.exit 0) [⟨0, .slice f.1 f.2.1 f.2.2.1, none⟩, ⟨1, .int .i64 f.2.2.2.1, none⟩, ⟨6, .int .i64 f.2.2.2.2, none⟩, ⟨7, .int .i64 i_1, none⟩] w1)
def G_slices_BinarySearch : Gen where
 loop := lookL [([false, false, true, true, true], spec_slices_BinarySearch_L1)]
 plan := fun _ => none
def dx_slices_BinarySearch_L1_0 (e : Env) (K : ((Option Addr) × Nat × Nat × Int × Int) → Int → Prop) : Prop :=
 oS e 0 fun xP_1 xN_1 xC_1 =>
 oI e 1 .i64 fun target_1 =>
 oI e 6 .i64 fun n =>
 oI e 7 .i64 fun i_1 =>
  K (xP_1, xN_1, xC_1, target_1, n) i_1
theorem body_slices_BinarySearch_L1 (f : (Option Addr) × Nat × Nat × Int × Int) (s : S_slices_BinarySearch_L1) (w : World) (Kn : ((Option Addr) × Nat × Nat × Int × Int) → S_slices_BinarySearch_L1 → World → Prop) (Kx0 : ((Option Addr) × Nat × Nat × Int × Int) → Int → World → Prop) :
  B_slices_BinarySearch_L1 f.1 f.2.1 f.2.2.1 f.2.2.2.1 f.2.2.2.2 s w (fun s1 w1 => Kn f s1 w1) (fun i_1 w1 => Kx0 f i_1 w1) =
  den Tryz.prog Tryz.f114.ntmps G_slices_BinarySearch (sub (codeOf Tryz.f114) [false, false, false, true, true, true]) [false, false, false, true, true, true] (roundQ (fun e w => dec_slices_BinarySearch_L1 e fun f s => Kn f s w) (fun e w => False) (fun id e w => match Nat.beq id 0 with | true => dx_slices_BinarySearch_L1_0 e fun f i_1 => Kx0 f i_1 w | false => False)) (lit_slices_BinarySearch_L1 f s) w := by kernel_rfl
theorem ok_slices_BinarySearch_L1 : OneOk Tryz.prog Tryz.f114.ntmps G_slices_BinarySearch (codeOf Tryz.f114) [false, false, true, true, true] spec_slices_BinarySearch_L1 := by
 intro c hc ih Q e w a hr h
 have hcc : sub (codeOf Tryz.f114) [false, false, false, true, true, true] = c := sub_of_codeAt hc
 obtain ⟨f, s, h, hrep⟩ := dec_slices_BinarySearch_L1_ok e a _ hr h
 obtain ⟨J, μ, hj, hround⟩ := h
 refine loop_rule_deep seat_ok seat_mixed ih lit_slices_BinarySearch_L1 dec_slices_BinarySearch_L1 dec_slices_BinarySearch_L1_ok hc f J μ (Kr := fun e w => False) (Kx := fun id e w => match Nat.beq id 0 with | true => (dx_slices_BinarySearch_L1_0 e fun f1 i_1 => f1 = f ∧ Q (.exit 0) [⟨0, .slice f.1 f.2.1 f.2.2.1, none⟩, ⟨1, .int .i64 f.2.2.2.1, none⟩, ⟨6, .int .i64 f.2.2.2.2, none⟩, ⟨7, .int .i64 i_1, none⟩] w) | false => False) ?_ ?_ ?_ s w a hj hrep
 ·intro e a w hr h
  exact h.elim
 ·intro id e a w hr h0
  (try dsimp only at h0)
  split at h0
  ·rename_i hid
   obtain rfl := Nat.eq_of_beq_eq_true hid
   unfold dx_slices_BinarySearch_L1_0 at h0
   obtain ⟨xP_1, xN_1, xC_1, g0, h1⟩ := oS_elim h0
   obtain ⟨target_1, g1, h2⟩ := oI_elim h1
   obtain ⟨n, g6, h3⟩ := oI_elim h2
   obtain ⟨i_1, g7, h4⟩ := oI_elim h3
   obtain ⟨hf, hq⟩ := h4
   subst hf
   exact ⟨_, rep_less hr (by simp [g0, g1, g6, g7]), hq⟩
  ·exact h0.elim
 ·intro s w hj
  have hb := hround s w hj
  rw [← hcc]
  have e1 := body_slices_BinarySearch_L1 f s w (fun f1 s1 w1 => f1 = f ∧ J s1 w1 ∧ μ s1 w1 < μ s w) (fun f1 i_1 w1 => f1 = f ∧ Q (.exit 0) [⟨0, .slice f.1 f.2.1 f.2.2.1, none⟩, ⟨1, .int .i64 f.2.2.2.1, none⟩, ⟨6, .int .i64 f.2.2.2.2, none⟩, ⟨7, .int .i64 i_1, none⟩] w1)
  simp only [true_and] at e1
  exact cast e1 hb
theorem loops_slices_BinarySearch : LoopOk Tryz.prog Tryz.f114.ntmps G_slices_BinarySearch (codeOf Tryz.f114) := loopOk_list rfl ⟨ok_slices_BinarySearch_L1, trivial⟩
theorem C_slices_BinarySearch.of {xP : Option Addr} {xN : Nat} {xC : Nat} {target : Int} {w : World} {R : Int → Bool → World → Prop} (h : F_slices_BinarySearch xP xN xC target w R) : C_slices_BinarySearch xP xN xC target w R := ofS18 (Fm := F_slices_BinarySearch xP xN xC target w) Tryz.func114 (by kernel_rfl) loops_slices_BinarySearch rfl (fun _ => by kernel_rfl) h
def F_atom_Reserved (w : World) (R : Option Addr → Nat → Nat → World → Prop) : Prop :=
 BSl Tryz.prog 170 15 [(0, .string ⟨#[91, 93]⟩), (1, .string ⟨#[46]⟩), (2, .string ⟨#[123, 125]⟩), (3, .string ⟨#[45]⟩), (4, .string ⟨#[44]⟩), (5, .string ⟨#[59]⟩), (6, .string ⟨#[45, 62]⟩), (7, .string ⟨#[58, 45]⟩), (8, .string ⟨#[124]⟩), (9, .string ⟨#[33]⟩), (10, .string ⟨#[92, 43]⟩), (11, .string ⟨#[116, 114, 117, 101]⟩), (12, .string ⟨#[102, 97, 105, 108]⟩), (13, .string ⟨#[99, 97, 108, 108]⟩), (14, .string ⟨#[101, 114, 114, 111, 114]⟩)] w fun t1P t1N t1C w1 =>
 R t1P t1N t1C w1
theorem C_atom_Reserved.of {w : World} {R : Option Addr → Nat → Nat → World → Prop} (h : F_atom_Reserved w R) : C_atom_Reserved w R := ofS6 (Fm := F_atom_Reserved w) Tryz.func115 (by kernel_rfl) (L0 Tryz.f115) rfl (fun _ => by kernel_rfl) h
def F_ref06_part_k1 (R : Bool → World → Prop) (w1_1 : World) : Prop :=
 R false w1_1
def F_ref06_part_k2 (R : Bool → World → Prop) (w1_2 : World) : Prop :=
 R false w1_2
def F_ref06_part_k3 (R : Bool → World → Prop) (w1_3 : World) : Prop :=
 R false w1_3
def F_ref06_part_k4 (R : Bool → World → Prop) (w1_4 : World) : Prop :=
 R false w1_4
def F_ref06_part (t0 : Int) (t1 : Int) (t2 : ByteArray) (t3P : Option Addr) (t3N : Nat) (t3C : Nat) (w : World) (R : Bool → World → Prop) : Prop :=
 New w (.cells #[.int .i64 t0, .int .i64 t1, .string t2, .slice t3P t3N t3C] 31) fun r w1 =>
 ∃ Kind, w1.cell? (Addr.add ⟨r, 0, none⟩ 0) = some (.int .i64 Kind) ∧
 If (Kind == (1 : Int))
 (∃ N, w1.cell? (Addr.add ⟨r, 0, none⟩ 1) = some (.int .i64 N) ∧
 If (decide (N ≥ (0 : Int)))
 (∃ N_1, w1.cell? (Addr.add ⟨r, 0, none⟩ 1) = some (.int .i64 N_1) ∧
 If (decide (N_1 < (1073741824 : Int)))
 (∃ S, w1.cell? (Addr.add ⟨r, 0, none⟩ 2) = some (.string S) ∧
 If (S.toList == (⟨#[]⟩ : ByteArray).toList)
 (∃ LP LN LC, w1.cell? (Addr.add ⟨r, 0, none⟩ 3) = some (.slice LP LN LC) ∧
 R ((LN : Int) == (0 : Int)) w1)
 (F_ref06_part_k1 R w1))
 (F_ref06_part_k1 R w1))
 (F_ref06_part_k1 R w1))
 (If (Kind == (2 : Int))
 (∃ N_2, w1.cell? (Addr.add ⟨r, 0, none⟩ 1) = some (.int .i64 N_2) ∧
 If (decide (N_2 ≥ (-9007199254740991)))
 (∃ N_3, w1.cell? (Addr.add ⟨r, 0, none⟩ 1) = some (.int .i64 N_3) ∧
 If (decide (N_3 ≤ (9007199254740991 : Int)))
 (∃ S_1, w1.cell? (Addr.add ⟨r, 0, none⟩ 2) = some (.string S_1) ∧
 If (S_1.toList == (⟨#[]⟩ : ByteArray).toList)
 (∃ LP_1 LN_1 LC_1, w1.cell? (Addr.add ⟨r, 0, none⟩ 3) = some (.slice LP_1 LN_1 LC_1) ∧
 R ((LN_1 : Int) == (0 : Int)) w1)
 (F_ref06_part_k2 R w1))
 (F_ref06_part_k2 R w1))
 (F_ref06_part_k2 R w1))
 (If (Kind == (3 : Int))
 (∃ N_4, w1.cell? (Addr.add ⟨r, 0, none⟩ 1) = some (.int .i64 N_4) ∧
 If (N_4 == (0 : Int))
 (∃ S_2, w1.cell? (Addr.add ⟨r, 0, none⟩ 2) = some (.string S_2) ∧
 If (decide ((S_2.size : Int) ≤ (64 : Int)))
 (∃ LP_2 LN_2 LC_2, w1.cell? (Addr.add ⟨r, 0, none⟩ 3) = some (.slice LP_2 LN_2 LC_2) ∧
 R ((LN_2 : Int) == (0 : Int)) w1)
 (F_ref06_part_k3 R w1))
 (F_ref06_part_k3 R w1))
 (If (Kind == (4 : Int))
 (∃ N_5, w1.cell? (Addr.add ⟨r, 0, none⟩ 1) = some (.int .i64 N_5) ∧
 If (N_5 == (0 : Int))
 (∃ S_3, w1.cell? (Addr.add ⟨r, 0, none⟩ 2) = some (.string S_3) ∧
 If (decide ((S_3.size : Int) ≤ (64 : Int)))
 (∃ LP_3 LN_3 LC_3, w1.cell? (Addr.add ⟨r, 0, none⟩ 3) = some (.slice LP_3 LN_3 LC_3) ∧
 If (decide ((LN_3 : Int) ≥ (1 : Int)))
 (∃ LP_4 LN_4 LC_4, w1.cell? (Addr.add ⟨r, 0, none⟩ 3) = some (.slice LP_4 LN_4 LC_4) ∧
 R (decide ((LN_4 : Int) ≤ (16 : Int))) w1)
 (F_ref06_part_k4 R w1))
 (F_ref06_part_k4 R w1))
 (F_ref06_part_k4 R w1))
 (R false w1))))
theorem C_ref06_part.of {t0 : Int} {t1 : Int} {t2 : ByteArray} {t3P : Option Addr} {t3N : Nat} {t3C : Nat} {w : World} {R : Bool → World → Prop} (h : F_ref06_part t0 t1 t2 t3P t3N t3C w R) : C_ref06_part t0 t1 t2 t3P t3N t3C w R := ofS2 (Fm := F_ref06_part t0 t1 t2 t3P t3N t3C w) Tryz.func116 (by kernel_rfl) (L0 Tryz.f116) rfl (fun _ => by kernel_rfl) h
end Go.Proofs.YtdaenijbokialaaGreat
