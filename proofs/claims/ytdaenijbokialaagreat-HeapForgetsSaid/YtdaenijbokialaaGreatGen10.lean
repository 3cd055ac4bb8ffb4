import Derived.Test.YtdaenijbokialaaGreatGenC
set_option maxRecDepth 100000
set_option linter.unusedVariables false
namespace Go.Proofs.YtdaenijbokialaaGreat
open Go Go.D Go.Proofs
def F_atom_Table_ready (t : Option Addr) (w : World) (R : Bool → World → Prop) : Prop :=
 If t.isNone
 (R false w)
 (NN t fun a =>
 ∃ limitx, w.cell? (a.add 4) = some (.int .i64 limitx) ∧
 If (limitx == (0 : Int))
 (R false w)
 (NN t fun a_1 =>
 C_sync_Once_Do (some (a_1.add 0)) (.func (.func 157) #[.pointer t] #[]) w fun w1 =>
 R true w1))
theorem C_atom_Table_ready.of {t : Option Addr} {w : World} {R : Bool → World → Prop} (h : F_atom_Table_ready t w R) : C_atom_Table_ready t w R := ofS2 (Fm := F_atom_Table_ready t w) Tryz.func138 (by kernel_rfl) (L0 Tryz.f138) rfl (fun _ => by kernel_rfl) h
def F_sync_atomic_Int64_Add (x : Option Addr) (delta : Int) (w : World) (R : Int → World → Prop) : Prop :=
 NN x fun a =>
 CallX Tryz.prog 158 [.pointer (some (a.add 0)), .int .i64 delta] w fun v w1 => ∃ t9 : Int, v = (.int .i64 t9) ∧
 R t9 w1
theorem C_sync_atomic_Int64_Add.of {x : Option Addr} {delta : Int} {w : World} {R : Int → World → Prop} (h : F_sync_atomic_Int64_Add x delta w R) : C_sync_atomic_Int64_Add x delta w R := ofS4 (Fm := F_sync_atomic_Int64_Add x delta w) Tryz.func139 (by kernel_rfl) (L0 Tryz.f139) rfl (fun _ => by kernel_rfl) h
def F_room_Room_Get (m : Option Addr) (i : Int) (w : World) (R : Int → Int → World → Prop) : Prop :=
 C_room_Room_has m i w fun t9 w1 =>
 If (t9 != (0 : Int))
 (R (0 : Int) t9 w1)
 (NN m fun a =>
 ∃ lP lN lC, w1.cell? (a.add 0) = some (.slice lP lN lC) ∧
 0 ≤ i ∧ i < (lN : Int) ∧ NN lP fun a_1 =>
 ∃ t19, w1.cell? (a_1.add (i.toNat * 1)) = some (.int .u64 t19) ∧
 R t19 (0 : Int) w1)
theorem C_room_Room_Get.of {m : Option Addr} {i : Int} {w : World} {R : Int → Int → World → Prop} (h : F_room_Room_Get m i w R) : C_room_Room_Get m i w R := ofS5 (Fm := F_room_Room_Get m i w) Tryz.func140 (by kernel_rfl) (L0 Tryz.f140) rfl (fun _ => by kernel_rfl) h
structure S_slices_DeleteFunc_L1 where
 i : Int
 j : Int
def F_slices_DeleteFunc_k1 (s : S_slices_DeleteFunc_L1) (Kn : S_slices_DeleteFunc_L1 → World → Prop) (i_2 : Int) (w1_3 : World) : Prop :=
 Kn ⟨i_2, (IntKind.i64.wrap (s.j + (1 : Int)))⟩ w1_3
def B_slices_DeleteFunc_L1 (sP_1 : Option Addr) (sN_1 : Nat) (sC_1 : Nat) (del_1 : Value) (s : S_slices_DeleteFunc_L1) (w : World) (Kn : S_slices_DeleteFunc_L1 → World → Prop) (Kx0 : Int → World → Prop) : Prop :=
 If (decide (s.j < (sN_1 : Int)))
 (0 ≤ s.j ∧ s.j < (sN_1 : Int) ∧ NN sP_1 fun a =>
 ∃ t25, w.cell? (a.add (s.j.toNat * 1)) = some (.int .u64 t25) ∧
 CallV Tryz.prog del_1 [.int .u64 t25] w fun v w1_1 => ∃ t28 : Bool, v = (.bool t28) ∧
 If (!t28)
 (0 ≤ s.i ∧ s.i < (sN_1 : Int) ∧ NN sP_1 fun a_1 =>
 St w1_1 ((a_1.add (s.i.toNat * 1)).add 0) (.int .u64 t25) fun w1_2 =>
 F_slices_DeleteFunc_k1 s Kn (IntKind.i64.wrap (s.i + (1 : Int))) w1_2)
 (F_slices_DeleteFunc_k1 s Kn s.i w1_1))
 (Kx0 s.i w)
def F_slices_DeleteFunc_L1 (sP_1 : Option Addr) (sN_1 : Nat) (sC_1 : Nat) (del_1 : Value) (s : S_slices_DeleteFunc_L1) (w : World) (Kx0 : Int → World → Prop) : Prop :=
 LoopS (fun s w Kn => B_slices_DeleteFunc_L1 sP_1 sN_1 sC_1 del_1 s w Kn Kx0) s w
def F_slices_DeleteFunc (sP : Option Addr) (sN : Nat) (sC : Nat) (del : Value) (w : World) (R : Option Addr → Nat → Nat → World → Prop) : Prop :=
 C_slices_IndexFunc__2 sP sN sC del w fun t10 w1 =>
 If (t10 == (-1))
 (R sP sN sC w1)
 (F_slices_DeleteFunc_L1 sP sN sC del ⟨t10, (IntKind.i64.wrap (t10 + (1 : Int)))⟩ w1
 (fun i_3 w1_4 =>
 0 ≤ i_3 ∧ i_3 ≤ (sN : Int) ∧
 Clr Tryz.prog #[36] 0 #[.slice (adv sP sC i_3.toNat 1) (sN - i_3.toNat) (sC - i_3.toNat)] w1_4 fun v_1 w1_5 =>
 0 ≤ i_3 ∧ i_3 ≤ (sC : Int) ∧
 R sP i_3.toNat sC w1_5))
def lit_slices_DeleteFunc_L1 (f : (Option Addr) × Nat × Nat × Value) (s : S_slices_DeleteFunc_L1) : Env := [⟨0, .slice f.1 f.2.1 f.2.2.1, none⟩, ⟨1, f.2.2.2, none⟩, ⟨5, .int .i64 s.i, none⟩, ⟨6, .int .i64 s.j, none⟩]
def dec_slices_DeleteFunc_L1 (e : Env) (K : ((Option Addr) × Nat × Nat × Value) → S_slices_DeleteFunc_L1 → Prop) : Prop :=
 oS e 0 fun sP_1 sN_1 sC_1 =>
 oV e 1 fun del_1 =>
 oI e 5 .i64 fun i =>
 oI e 6 .i64 fun j =>
  K (sP_1, sN_1, sC_1, del_1) ⟨i, j⟩
theorem dec_slices_DeleteFunc_L1_ok {N : Nat} (e : Env) (a : Act) (K : ((Option Addr) × Nat × Nat × Value) → S_slices_DeleteFunc_L1 → Prop) (hr : Rep N a e) (h0 : dec_slices_DeleteFunc_L1 e K) : ∃ f s, K f s ∧ Rep N a (lit_slices_DeleteFunc_L1 f s) := by
 unfold dec_slices_DeleteFunc_L1 at h0
 obtain ⟨sP_1, sN_1, sC_1, g0, h1⟩ := oS_elim h0
 obtain ⟨del_1, g1, h2⟩ := oV_elim h1
 obtain ⟨i, g5, h3⟩ := oI_elim h2
 obtain ⟨j, g6, h4⟩ := oI_elim h3
 exact ⟨_, _, h4, rep_less hr (by simp [lit_slices_DeleteFunc_L1, g0, g1, g5, g6])⟩
def spec_slices_DeleteFunc_L1 (Q : Post) (e : Env) (w : World) : Prop :=
 dec_slices_DeleteFunc_L1 e fun f s => F_slices_DeleteFunc_L1 f.1 f.2.1 f.2.2.1 f.2.2.2 s w (fun i_1 w1 => Q (.exit 0) [⟨0, .slice f.1 f.2.1 f.2.2.1, none⟩, ⟨5, .int .i64 i_1, none⟩] w1)
def G_slices_DeleteFunc : Gen where
 loop := lookL [([false, true, false, true, true, true], spec_slices_DeleteFunc_L1)]
 plan := fun _ => none
def dx_slices_DeleteFunc_L1_0 (e : Env) (K : ((Option Addr) × Nat × Nat × Value) → Int → Prop) : Prop :=
 oS e 0 fun sP_1 sN_1 sC_1 =>
 oV e 1 fun del_1 =>
 oI e 5 .i64 fun i_1 =>
  K (sP_1, sN_1, sC_1, del_1) i_1
theorem body_slices_DeleteFunc_L1 (f : (Option Addr) × Nat × Nat × Value) (s : S_slices_DeleteFunc_L1) (w : World) (Kn : ((Option Addr) × Nat × Nat × Value) → S_slices_DeleteFunc_L1 → World → Prop) (Kx0 : ((Option Addr) × Nat × Nat × Value) → Int → World → Prop) :
  B_slices_DeleteFunc_L1 f.1 f.2.1 f.2.2.1 f.2.2.2 s w (fun s1 w1 => Kn f s1 w1) (fun i_1 w1 => Kx0 f i_1 w1) =
  den Tryz.prog Tryz.f141.ntmps G_slices_DeleteFunc (sub (codeOf Tryz.f141) [false, false, true, false, true, true, true]) [false, false, true, false, true, true, true] (roundQ (fun e w => dec_slices_DeleteFunc_L1 e fun f s => Kn f s w) (fun e w => False) (fun id e w => match Nat.beq id 0 with | true => dx_slices_DeleteFunc_L1_0 e fun f i_1 => Kx0 f i_1 w | false => False)) (lit_slices_DeleteFunc_L1 f s) w := by kernel_rfl
theorem ok_slices_DeleteFunc_L1 : OneOk Tryz.prog Tryz.f141.ntmps G_slices_DeleteFunc (codeOf Tryz.f141) [false, true, false, true, true, true] spec_slices_DeleteFunc_L1 := by
 intro c hc ih Q e w a hr h
 have hcc : sub (codeOf Tryz.f141) [false, false, true, false, true, true, true] = c := sub_of_codeAt hc
 obtain ⟨f, s, h, hrep⟩ := dec_slices_DeleteFunc_L1_ok e a _ hr h
 obtain ⟨J, μ, hj, hround⟩ := h
 refine loop_rule_deep seat_ok seat_mixed ih lit_slices_DeleteFunc_L1 dec_slices_DeleteFunc_L1 dec_slices_DeleteFunc_L1_ok hc f J μ (Kr := fun e w => False) (Kx := fun id e w => match Nat.beq id 0 with | true => (dx_slices_DeleteFunc_L1_0 e fun f1 i_1 => f1 = f ∧ Q (.exit 0) [⟨0, .slice f.1 f.2.1 f.2.2.1, none⟩, ⟨5, .int .i64 i_1, none⟩] w) | false => False) ?_ ?_ ?_ s w a hj hrep
 ·intro e a w hr h
  exact h.elim
 ·intro id e a w hr h0
  (try dsimp only at h0)
  split at h0
  ·rename_i hid
   obtain rfl := Nat.eq_of_beq_eq_true hid
   unfold dx_slices_DeleteFunc_L1_0 at h0
   obtain ⟨sP_1, sN_1, sC_1, g0, h1⟩ := oS_elim h0
   obtain ⟨del_1, g1, h2⟩ := oV_elim h1
   obtain ⟨i_1, g5, h3⟩ := oI_elim h2
   obtain ⟨hf, hq⟩ := h3
   subst hf
   exact ⟨_, rep_less hr (by simp [g0, g5]), hq⟩
  ·exact h0.elim
 ·intro s w hj
  have hb := hround s w hj
  rw [← hcc]
  have e1 := body_slices_DeleteFunc_L1 f s w (fun f1 s1 w1 => f1 = f ∧ J s1 w1 ∧ μ s1 w1 < μ s w) (fun f1 i_1 w1 => f1 = f ∧ Q (.exit 0) [⟨0, .slice f.1 f.2.1 f.2.2.1, none⟩, ⟨5, .int .i64 i_1, none⟩] w1)
  simp only [true_and] at e1
  exact cast e1 hb
theorem loops_slices_DeleteFunc : LoopOk Tryz.prog Tryz.f141.ntmps G_slices_DeleteFunc (codeOf Tryz.f141) := loopOk_list rfl ⟨ok_slices_DeleteFunc_L1, trivial⟩
theorem C_slices_DeleteFunc.of {sP : Option Addr} {sN : Nat} {sC : Nat} {del : Value} {w : World} {R : Option Addr → Nat → Nat → World → Prop} (h : F_slices_DeleteFunc sP sN sC del w R) : C_slices_DeleteFunc sP sN sC del w R := ofS6 (Fm := F_slices_DeleteFunc sP sN sC del w) Tryz.func141 (by kernel_rfl) loops_slices_DeleteFunc rfl (fun _ => by kernel_rfl) h
def F_room_Room_Keep_1 (wx : Int) (c0 : Addr) (c1 : Addr) (w : World) (R : Bool → World → Prop) : Prop :=
 ∃ t5, w.cell? c0 = some (.int .i64 t5) ∧
 St w (c0.add 0) (.int .i64 (IntKind.i64.wrap (t5 + (1 : Int)))) fun w1 =>
 ∃ t7 : Value, w1.cell? c1 = some (t7) ∧
 ∃ t8, w1.cell? c0 = some (.int .i64 t8) ∧
 CallV Tryz.prog t7 [.int .i64 t8, .int .u64 wx] w1 fun v w1_1 => ∃ t10 : Bool, v = (.bool t10) ∧
 R (!t10) w1_1
theorem C_room_Room_Keep_1.of {wx : Int} {c0 : Addr} {c1 : Addr} {w : World} {R : Bool → World → Prop} (h : F_room_Room_Keep_1 wx c0 c1 w R) : C_room_Room_Keep_1 wx c0 c1 w R := ofS2 (Fm := F_room_Room_Keep_1 wx c0 c1 w) Tryz.func142 (by kernel_rfl) (L0 Tryz.f142) rfl (fun _ => by kernel_rfl) h
def F_cmp_Less_k1 (x : Int) (y : Int) (R : Bool → World → Prop) (w1_2 : World) : Prop :=
 R (decide (x < y)) w1_2
def F_cmp_Less (x : Int) (y : Int) (w : World) (R : Bool → World → Prop) : Prop :=
 C_cmp_isNaN x w fun t6 w1 =>
 If t6
 (C_cmp_isNaN y w1 fun t9 w1_1 =>
 If (!t9)
 (R true w1_1)
 (F_cmp_Less_k1 x y R w1_1))
 (F_cmp_Less_k1 x y R w1)
theorem C_cmp_Less.of {x : Int} {y : Int} {w : World} {R : Bool → World → Prop} (h : F_cmp_Less x y w R) : C_cmp_Less x y w R := ofS2 (Fm := F_cmp_Less x y w) Tryz.func143 (by kernel_rfl) (L0 Tryz.f143) rfl (fun _ => by kernel_rfl) h
def F_slices_isNaN (x : Int) (w : World) (R : Bool → World → Prop) : Prop :=
 R (x != x) w
theorem C_slices_isNaN.of {x : Int} {w : World} {R : Bool → World → Prop} (h : F_slices_isNaN x w R) : C_slices_isNaN x w R := ofS2 (Fm := F_slices_isNaN x w) Tryz.func144 (by kernel_rfl) (L0 Tryz.f144) rfl (fun _ => by kernel_rfl) h
structure S_term_count_of_L1 where
 t39 : Int
def B_term_count_of_L1 (cx_1 : Option Addr) (depth_2 : Int) (t37P : Option Addr) (t37N : Nat) (t37C : Nat) (t38 : Int) (s : S_term_count_of_L1) (w : World) (Kn : S_term_count_of_L1 → World → Prop) (Kx0 : World → Prop) : Prop :=
 If (decide (s.t39 < t38))
 (0 ≤ s.t39 ∧ s.t39 < (t37N : Int) ∧ NN t37P fun a_7 =>
 ∃ t420, w.cell? ((a_7.add (s.t39.toNat * 4)).add 0) = some (.int .i64 t420) ∧
 ∃ t421, w.cell? ((a_7.add (s.t39.toNat * 4)).add 1) = some (.int .i64 t421) ∧
 ∃ t422, w.cell? ((a_7.add (s.t39.toNat * 4)).add 2) = some (.string t422) ∧
 ∃ t423P t423N t423C, w.cell? ((a_7.add (s.t39.toNat * 4)).add 3) = some (.slice t423P t423N t423C) ∧
 New w (.cells #[.int .i64 0, .int .i64 0, .string ⟨#[]⟩, .slice none 0 0] 31) fun r_1 w1_7 =>
 St w1_7 (Addr.add ⟨r_1, 0, none⟩ 0) (.int .i64 t420) fun w1_8 =>
 St w1_8 (Addr.add ⟨r_1, 0, none⟩ 1) (.int .i64 t421) fun w1_9 =>
 St w1_9 (Addr.add ⟨r_1, 0, none⟩ 2) (.string t422) fun w1_10 =>
 St w1_10 (Addr.add ⟨r_1, 0, none⟩ 3) (.slice t423P t423N t423C) fun w1_11 =>
 ∃ t440, w1_11.cell? (Addr.add ⟨r_1, 0, none⟩ 0) = some (.int .i64 t440) ∧
 ∃ t441, w1_11.cell? (Addr.add ⟨r_1, 0, none⟩ 1) = some (.int .i64 t441) ∧
 ∃ t442, w1_11.cell? (Addr.add ⟨r_1, 0, none⟩ 2) = some (.string t442) ∧
 ∃ t443P t443N t443C, w1_11.cell? (Addr.add ⟨r_1, 0, none⟩ 3) = some (.slice t443P t443N t443C) ∧
 C_term_count_of cx_1 t440 t441 t442 t443P t443N t443C (IntKind.i64.wrap (depth_2 + (1 : Int))) w1_11 fun w1_12 =>
 Kn ⟨(IntKind.i64.wrap (s.t39 + (1 : Int)))⟩ w1_12)
 (Kx0 w)
def F_term_count_of_L1 (cx_1 : Option Addr) (depth_2 : Int) (t37P : Option Addr) (t37N : Nat) (t37C : Nat) (t38 : Int) (s : S_term_count_of_L1) (w : World) (Kx0 : World → Prop) : Prop :=
 LoopS (fun s w Kn => B_term_count_of_L1 cx_1 depth_2 t37P t37N t37C t38 s w Kn Kx0) s w
def F_term_count_of_k1 (cx : Option Addr) (depth : Int) (R : World → Prop) (r : Nat) (w1_6 : World) : Prop :=
 ∃ LP LN LC, w1_6.cell? (Addr.add ⟨r, 0, none⟩ 3) = some (.slice LP LN LC) ∧
 F_term_count_of_L1 cx depth LP LN LC (LN : Int) ⟨(0 : Int)⟩ w1_6
 (fun w1_13 =>
 R w1_13)
def F_term_count_of (cx : Option Addr) (t0 : Int) (t1 : Int) (t2 : ByteArray) (t3P : Option Addr) (t3N : Nat) (t3C : Nat) (depth : Int) (w : World) (R : World → Prop) : Prop :=
 New w (.cells #[.int .i64 t0, .int .i64 t1, .string t2, .slice t3P t3N t3C] 31) fun r w1 =>
 NN cx fun a =>
 ∃ parts, w1.cell? (a.add 0) = some (.int .i64 parts) ∧
 NN cx fun a_1 =>
 St w1 ((a_1.add 0).add 0) (.int .i64 (IntKind.i64.wrap (parts + (1 : Int)))) fun w1_1 =>
 NN cx fun a_2 =>
 ∃ depth_1, w1_1.cell? (a_2.add 1) = some (.int .i64 depth_1) ∧
 NN cx fun a_3 =>
 St w1_1 ((a_3.add 1).add 0) (.int .i64 (maxI depth_1 depth)) fun w1_2 =>
 NN cx fun a_4 =>
 ∃ bad, w1_2.cell? (a_4.add 2) = some (.bool bad) ∧
 If bad
 (NN cx fun a_5 =>
 St w1_2 ((a_5.add 2).add 0) (.bool true) fun w1_3 =>
 F_term_count_of_k1 cx depth R r w1_3)
 (∃ t300, w1_2.cell? (Addr.add ⟨r, 0, none⟩ 0) = some (.int .i64 t300) ∧
 ∃ t301, w1_2.cell? (Addr.add ⟨r, 0, none⟩ 1) = some (.int .i64 t301) ∧
 ∃ t302, w1_2.cell? (Addr.add ⟨r, 0, none⟩ 2) = some (.string t302) ∧
 ∃ t303P t303N t303C, w1_2.cell? (Addr.add ⟨r, 0, none⟩ 3) = some (.slice t303P t303N t303C) ∧
 C_term_part t300 t301 t302 t303P t303N t303C w1_2 fun t31 w1_4 =>
 NN cx fun a_6 =>
 St w1_4 ((a_6.add 2).add 0) (.bool (!t31)) fun w1_5 =>
 F_term_count_of_k1 cx depth R r w1_5)
def lit_term_count_of_L1 (f : (Option Addr) × Int × (Option Addr) × Nat × Nat × Int) (s : S_term_count_of_L1) : Env := [⟨0, .pointer f.1, none⟩, ⟨2, .int .i64 f.2.1, none⟩, ⟨37, .slice f.2.2.1 f.2.2.2.1 f.2.2.2.2.1, none⟩, ⟨38, .int .i64 f.2.2.2.2.2, none⟩, ⟨39, .int .i64 s.t39, none⟩]
def dec_term_count_of_L1 (e : Env) (K : ((Option Addr) × Int × (Option Addr) × Nat × Nat × Int) → S_term_count_of_L1 → Prop) : Prop :=
 oP e 0 fun cx_1 =>
 oI e 2 .i64 fun depth_2 =>
 oS e 37 fun t37P t37N t37C =>
 oI e 38 .i64 fun t38 =>
 oI e 39 .i64 fun t39 =>
  K (cx_1, depth_2, t37P, t37N, t37C, t38) ⟨t39⟩
theorem dec_term_count_of_L1_ok {N : Nat} (e : Env) (a : Act) (K : ((Option Addr) × Int × (Option Addr) × Nat × Nat × Int) → S_term_count_of_L1 → Prop) (hr : Rep N a e) (h0 : dec_term_count_of_L1 e K) : ∃ f s, K f s ∧ Rep N a (lit_term_count_of_L1 f s) := by
 unfold dec_term_count_of_L1 at h0
 obtain ⟨cx_1, g0, h1⟩ := oP_elim h0
 obtain ⟨depth_2, g2, h2⟩ := oI_elim h1
 obtain ⟨t37P, t37N, t37C, g37, h3⟩ := oS_elim h2
 obtain ⟨t38, g38, h4⟩ := oI_elim h3
 obtain ⟨t39, g39, h5⟩ := oI_elim h4
 exact ⟨_, _, h5, rep_less hr (by simp [lit_term_count_of_L1, g0, g2, g37, g38, g39])⟩
def spec_term_count_of_L1 (Q : Post) (e : Env) (w : World) : Prop :=
 dec_term_count_of_L1 e fun f s => F_term_count_of_L1 f.1 f.2.1 f.2.2.1 f.2.2.2.1 f.2.2.2.2.1 f.2.2.2.2.2 s w (fun w1 => Q (.exit 0) [] w1)
def G_term_count_of : Gen where
 loop := lookL [([false, true, true, true, true, true], spec_term_count_of_L1)]
 plan := fun _ => none
def dx_term_count_of_L1_0 (e : Env) (K : ((Option Addr) × Int × (Option Addr) × Nat × Nat × Int) → Prop) : Prop :=
 oP e 0 fun cx_1 =>
 oI e 2 .i64 fun depth_2 =>
 oS e 37 fun t37P t37N t37C =>
 oI e 38 .i64 fun t38 =>
  K (cx_1, depth_2, t37P, t37N, t37C, t38)
theorem body_term_count_of_L1 (f : (Option Addr) × Int × (Option Addr) × Nat × Nat × Int) (s : S_term_count_of_L1) (w : World) (Kn : ((Option Addr) × Int × (Option Addr) × Nat × Nat × Int) → S_term_count_of_L1 → World → Prop) (Kx0 : ((Option Addr) × Int × (Option Addr) × Nat × Nat × Int) → World → Prop) :
  B_term_count_of_L1 f.1 f.2.1 f.2.2.1 f.2.2.2.1 f.2.2.2.2.1 f.2.2.2.2.2 s w (fun s1 w1 => Kn f s1 w1) (fun w1 => Kx0 f w1) =
  den Tryz.prog Tryz.f145.ntmps G_term_count_of (sub (codeOf Tryz.f145) [false, false, true, true, true, true, true]) [false, false, true, true, true, true, true] (roundQ (fun e w => dec_term_count_of_L1 e fun f s => Kn f s w) (fun e w => False) (fun id e w => match Nat.beq id 0 with | true => dx_term_count_of_L1_0 e fun f => Kx0 f w | false => False)) (lit_term_count_of_L1 f s) w := by kernel_rfl
theorem ok_term_count_of_L1 : OneOk Tryz.prog Tryz.f145.ntmps G_term_count_of (codeOf Tryz.f145) [false, true, true, true, true, true] spec_term_count_of_L1 := by
 intro c hc ih Q e w a hr h
 have hcc : sub (codeOf Tryz.f145) [false, false, true, true, true, true, true] = c := sub_of_codeAt hc
 obtain ⟨f, s, h, hrep⟩ := dec_term_count_of_L1_ok e a _ hr h
 obtain ⟨J, μ, hj, hround⟩ := h
 refine loop_rule_deep seat_ok seat_mixed ih lit_term_count_of_L1 dec_term_count_of_L1 dec_term_count_of_L1_ok hc f J μ (Kr := fun e w => False) (Kx := fun id e w => match Nat.beq id 0 with | true => (dx_term_count_of_L1_0 e fun f1 => f1 = f ∧ Q (.exit 0) [] w) | false => False) ?_ ?_ ?_ s w a hj hrep
 ·intro e a w hr h
  exact h.elim
 ·intro id e a w hr h0
  (try dsimp only at h0)
  split at h0
  ·rename_i hid
   obtain rfl := Nat.eq_of_beq_eq_true hid
   unfold dx_term_count_of_L1_0 at h0
   obtain ⟨cx_1, g0, h1⟩ := oP_elim h0
   obtain ⟨depth_2, g2, h2⟩ := oI_elim h1
   obtain ⟨t37P, t37N, t37C, g37, h3⟩ := oS_elim h2
   obtain ⟨t38, g38, h4⟩ := oI_elim h3
   obtain ⟨hf, hq⟩ := h4
   subst hf
   exact ⟨_, rep_less hr (by simp), hq⟩
  ·exact h0.elim
 ·intro s w hj
  have hb := hround s w hj
  rw [← hcc]
  have e1 := body_term_count_of_L1 f s w (fun f1 s1 w1 => f1 = f ∧ J s1 w1 ∧ μ s1 w1 < μ s w) (fun f1 w1 => f1 = f ∧ Q (.exit 0) [] w1)
  simp only [true_and] at e1
  exact cast e1 hb
theorem loops_term_count_of : LoopOk Tryz.prog Tryz.f145.ntmps G_term_count_of (codeOf Tryz.f145) := loopOk_list rfl ⟨ok_term_count_of_L1, trivial⟩
theorem C_term_count_of.of {cx : Option Addr} {t0 : Int} {t1 : Int} {t2 : ByteArray} {t3P : Option Addr} {t3N : Nat} {t3C : Nat} {depth : Int} {w : World} {R : World → Prop} (h : F_term_count_of cx t0 t1 t2 t3P t3N t3C depth w R) : C_term_count_of cx t0 t1 t2 t3P t3N t3C depth w R := ofS1 (Fm := F_term_count_of cx t0 t1 t2 t3P t3N t3C depth w) Tryz.func145 (by kernel_rfl) loops_term_count_of rfl (fun _ => by kernel_rfl) h
def F_term_Var (n : Int) (w : World) (R : Int → Int → ByteArray → Option Addr → Nat → Nat → World → Prop) : Prop :=
 New w (.cells #[.int .i64 0, .int .i64 0, .string ⟨#[]⟩, .slice none 0 0] 31) fun r w1 =>
 St w1 (Addr.add ⟨r, 0, none⟩ 0) (.int .i64 1) fun w1_1 =>
 St w1_1 (Addr.add ⟨r, 0, none⟩ 1) (.int .i64 n) fun w1_2 =>
 St w1_2 (Addr.add ⟨r, 0, none⟩ 2) (.string ⟨#[]⟩) fun w1_3 =>
 St w1_3 (Addr.add ⟨r, 0, none⟩ 3) (.slice none 0 0) fun w1_4 =>
 ∃ r_1, w1_4.cell? (Addr.add ⟨r, 0, none⟩ 0) = some (.int .i64 r_1) ∧
 ∃ r_2, w1_4.cell? (Addr.add ⟨r, 0, none⟩ 1) = some (.int .i64 r_2) ∧
 ∃ r_3, w1_4.cell? (Addr.add ⟨r, 0, none⟩ 2) = some (.string r_3) ∧
 ∃ rP rN rC, w1_4.cell? (Addr.add ⟨r, 0, none⟩ 3) = some (.slice rP rN rC) ∧
 R r_1 r_2 r_3 rP rN rC w1_4
theorem C_term_Var.of {n : Int} {w : World} {R : Int → Int → ByteArray → Option Addr → Nat → Nat → World → Prop} (h : F_term_Var n w R) : C_term_Var n w R := ofS10 (Fm := F_term_Var n w) Tryz.func146 (by kernel_rfl) (L0 Tryz.f146) rfl (fun _ => by kernel_rfl) h
def F_atom_Table_has_k1 (R : Bool → World → Prop) (w1_1 : World) : Prop :=
 R false w1_1
def F_atom_Table_has (t : Option Addr) (idx : Int) (w : World) (R : Bool → World → Prop) : Prop :=
 C_atom_Table_ready t w fun t6 w1 =>
 If t6
 (If (decide (idx ≥ (0 : Int)))
 (NN t fun a =>
 ∃ lP lN lC, w1.cell? (a.add 5) = some (.slice lP lN lC) ∧
 If (decide (idx < (lN : Int)))
 (NN t fun a_1 =>
 ∃ lP_1 lN_1 lC_1, w1.cell? (a_1.add 5) = some (.slice lP_1 lN_1 lC_1) ∧
 0 ≤ idx ∧ idx < (lN_1 : Int) ∧ NN lP_1 fun a_2 =>
 ∃ isx, w1.cell? ((a_2.add (idx.toNat * 3)).add 1) = some (.bool isx) ∧
 R isx w1)
 (F_atom_Table_has_k1 R w1))
 (F_atom_Table_has_k1 R w1))
 (F_atom_Table_has_k1 R w1)
theorem C_atom_Table_has.of {t : Option Addr} {idx : Int} {w : World} {R : Bool → World → Prop} (h : F_atom_Table_has t idx w R) : C_atom_Table_has t idx w R := ofS2 (Fm := F_atom_Table_has t idx w) Tryz.func147 (by kernel_rfl) (L0 Tryz.f147) rfl (fun _ => by kernel_rfl) h
def F_functor_Table_may_k1 (R : Int → World → Prop) (w1_1 : World) : Prop :=
 R (4 : Int) w1_1
def F_functor_Table_may (t : Option Addr) (idx : Int) (w : World) (R : Int → World → Prop) : Prop :=
 C_functor_Table_made t w fun t7 w1 =>
 If (!t7)
 (R (6 : Int) w1)
 (If (decide (idx < (0 : Int)))
 (F_functor_Table_may_k1 R w1)
 (NN t fun a =>
 ∃ lP lN lC, w1.cell? (a.add 2) = some (.slice lP lN lC) ∧
 If (decide (idx ≥ (lN : Int)))
 (F_functor_Table_may_k1 R w1)
 (NN t fun a_1 =>
 ∃ lP_1 lN_1 lC_1, w1.cell? (a_1.add 2) = some (.slice lP_1 lN_1 lC_1) ∧
 0 ≤ idx ∧ idx < (lN_1 : Int) ∧ NN lP_1 fun a_2 =>
 ∃ isx, w1.cell? ((a_2.add (idx.toNat * 4)).add 2) = some (.bool isx) ∧
 If (!isx)
 (R (4 : Int) w1)
 (R (0 : Int) w1))))
theorem C_functor_Table_may.of {t : Option Addr} {idx : Int} {w : World} {R : Int → World → Prop} (h : F_functor_Table_may t idx w R) : C_functor_Table_may t idx w R := ofS4 (Fm := F_functor_Table_may t idx w) Tryz.func148 (by kernel_rfl) (L0 Tryz.f148) rfl (fun _ => by kernel_rfl) h
structure S_slices_IndexFunc_L1 where
 t8 : Int
def B_slices_IndexFunc_L1 (sP_1 : Option Addr) (sN_1 : Nat) (sC_1 : Nat) (fx_1 : Value) (t7 : Int) (s : S_slices_IndexFunc_L1) (w : World) (Kn : S_slices_IndexFunc_L1 → World → Prop) (Kx0 : World → Prop) (Kr : Int → World → Prop) : Prop :=
 If (decide (s.t8 < t7))
 (0 ≤ s.t8 ∧ s.t8 < (sN_1 : Int) ∧ NN sP_1 fun a =>
 ∃ t150, w.cell? ((a.add (s.t8.toNat * 2)).add 0) = some (.int .i64 t150) ∧
 ∃ t151, w.cell? ((a.add (s.t8.toNat * 2)).add 1) = some (.int .i64 t151) ∧
 CallV Tryz.prog fx_1 [.agg #[.int .i64 t150, .int .i64 t151]] w fun v w1 => ∃ t16 : Bool, v = (.bool t16) ∧
 If t16
 (Kr s.t8 w1)
 (Kn ⟨(IntKind.i64.wrap (s.t8 + (1 : Int)))⟩ w1))
 (Kx0 w)
def F_slices_IndexFunc_L1 (sP_1 : Option Addr) (sN_1 : Nat) (sC_1 : Nat) (fx_1 : Value) (t7 : Int) (s : S_slices_IndexFunc_L1) (w : World) (Kx0 : World → Prop) (Kr : Int → World → Prop) : Prop :=
 LoopS (fun s w Kn => B_slices_IndexFunc_L1 sP_1 sN_1 sC_1 fx_1 t7 s w Kn Kx0 Kr) s w
def F_slices_IndexFunc (sP : Option Addr) (sN : Nat) (sC : Nat) (fx : Value) (w : World) (R : Int → World → Prop) : Prop :=
 F_slices_IndexFunc_L1 sP sN sC fx (sN : Int) ⟨(0 : Int)⟩ w
 (fun w1_1 =>
 R (-1) w1_1)
 (fun t4_1 w1_2 =>
 R t4_1 w1_2)
def lit_slices_IndexFunc_L1 (f : (Option Addr) × Nat × Nat × Value × Int) (s : S_slices_IndexFunc_L1) : Env := [⟨0, .slice f.1 f.2.1 f.2.2.1, none⟩, ⟨1, f.2.2.2.1, none⟩, ⟨7, .int .i64 f.2.2.2.2, none⟩, ⟨8, .int .i64 s.t8, none⟩]
def dec_slices_IndexFunc_L1 (e : Env) (K : ((Option Addr) × Nat × Nat × Value × Int) → S_slices_IndexFunc_L1 → Prop) : Prop :=
 oS e 0 fun sP_1 sN_1 sC_1 =>
 oV e 1 fun fx_1 =>
 oI e 7 .i64 fun t7 =>
 oI e 8 .i64 fun t8 =>
  K (sP_1, sN_1, sC_1, fx_1, t7) ⟨t8⟩
theorem dec_slices_IndexFunc_L1_ok {N : Nat} (e : Env) (a : Act) (K : ((Option Addr) × Nat × Nat × Value × Int) → S_slices_IndexFunc_L1 → Prop) (hr : Rep N a e) (h0 : dec_slices_IndexFunc_L1 e K) : ∃ f s, K f s ∧ Rep N a (lit_slices_IndexFunc_L1 f s) := by
 unfold dec_slices_IndexFunc_L1 at h0
 obtain ⟨sP_1, sN_1, sC_1, g0, h1⟩ := oS_elim h0
 obtain ⟨fx_1, g1, h2⟩ := oV_elim h1
 obtain ⟨t7, g7, h3⟩ := oI_elim h2
 obtain ⟨t8, g8, h4⟩ := oI_elim h3
 exact ⟨_, _, h4, rep_less hr (by simp [lit_slices_IndexFunc_L1, g0, g1, g7, g8])⟩
def spec_slices_IndexFunc_L1 (Q : Post) (e : Env) (w : World) : Prop :=
 dec_slices_IndexFunc_L1 e fun f s => F_slices_IndexFunc_L1 f.1 f.2.1 f.2.2.1 f.2.2.2.1 f.2.2.2.2 s w (fun w1 => Q (.exit 0) [] w1) (fun t4 w1 => Q .ret [⟨4, .int .i64 t4, none⟩] w1)
def G_slices_IndexFunc : Gen where
 loop := lookL [([false, true, false, true], spec_slices_IndexFunc_L1)]
 plan := fun _ => none
def dx_slices_IndexFunc_L1_0 (e : Env) (K : ((Option Addr) × Nat × Nat × Value × Int) → Prop) : Prop :=
 oS e 0 fun sP_1 sN_1 sC_1 =>
 oV e 1 fun fx_1 =>
 oI e 7 .i64 fun t7 =>
  K (sP_1, sN_1, sC_1, fx_1, t7)
def dx_slices_IndexFunc_L1_ret (e : Env) (K : ((Option Addr) × Nat × Nat × Value × Int) → Int → Prop) : Prop :=
 oS e 0 fun sP_1 sN_1 sC_1 =>
 oV e 1 fun fx_1 =>
 oI e 7 .i64 fun t7 =>
 oI e 4 .i64 fun t4 =>
  K (sP_1, sN_1, sC_1, fx_1, t7) t4
theorem body_slices_IndexFunc_L1 (f : (Option Addr) × Nat × Nat × Value × Int) (s : S_slices_IndexFunc_L1) (w : World) (Kn : ((Option Addr) × Nat × Nat × Value × Int) → S_slices_IndexFunc_L1 → World → Prop) (Kx0 : ((Option Addr) × Nat × Nat × Value × Int) → World → Prop) (Kr : ((Option Addr) × Nat × Nat × Value × Int) → Int → World → Prop) :
  B_slices_IndexFunc_L1 f.1 f.2.1 f.2.2.1 f.2.2.2.1 f.2.2.2.2 s w (fun s1 w1 => Kn f s1 w1) (fun w1 => Kx0 f w1) (fun t4 w1 => Kr f t4 w1) =
  den Tryz.prog Tryz.f149.ntmps G_slices_IndexFunc (sub (codeOf Tryz.f149) [false, false, true, false, true]) [false, false, true, false, true] (roundQ (fun e w => dec_slices_IndexFunc_L1 e fun f s => Kn f s w) (fun e w => dx_slices_IndexFunc_L1_ret e fun f t4 => Kr f t4 w) (fun id e w => match Nat.beq id 0 with | true => dx_slices_IndexFunc_L1_0 e fun f => Kx0 f w | false => False)) (lit_slices_IndexFunc_L1 f s) w := by kernel_rfl
theorem ok_slices_IndexFunc_L1 : OneOk Tryz.prog Tryz.f149.ntmps G_slices_IndexFunc (codeOf Tryz.f149) [false, true, false, true] spec_slices_IndexFunc_L1 := by
 intro c hc ih Q e w a hr h
 have hcc : sub (codeOf Tryz.f149) [false, false, true, false, true] = c := sub_of_codeAt hc
 obtain ⟨f, s, h, hrep⟩ := dec_slices_IndexFunc_L1_ok e a _ hr h
 obtain ⟨J, μ, hj, hround⟩ := h
 refine loop_rule_deep seat_ok seat_mixed ih lit_slices_IndexFunc_L1 dec_slices_IndexFunc_L1 dec_slices_IndexFunc_L1_ok hc f J μ (Kr := fun e w => dx_slices_IndexFunc_L1_ret e fun f1 t4 => f1 = f ∧ Q .ret [⟨4, .int .i64 t4, none⟩] w) (Kx := fun id e w => match Nat.beq id 0 with | true => (dx_slices_IndexFunc_L1_0 e fun f1 => f1 = f ∧ Q (.exit 0) [] w) | false => False) ?_ ?_ ?_ s w a hj hrep
 ·intro e a w hr h0
  unfold dx_slices_IndexFunc_L1_ret at h0
  obtain ⟨sP_1, sN_1, sC_1, g0, h1⟩ := oS_elim h0
  obtain ⟨fx_1, g1, h2⟩ := oV_elim h1
  obtain ⟨t7, g7, h3⟩ := oI_elim h2
  obtain ⟨t4, g4, h4⟩ := oI_elim h3
  obtain ⟨hf, hq⟩ := h4
  subst hf
  exact ⟨_, rep_less hr (by simp [g4]), hq⟩
 ·intro id e a w hr h0
  (try dsimp only at h0)
  split at h0
  ·rename_i hid
   obtain rfl := Nat.eq_of_beq_eq_true hid
   unfold dx_slices_IndexFunc_L1_0 at h0
   obtain ⟨sP_1, sN_1, sC_1, g0, h1⟩ := oS_elim h0
   obtain ⟨fx_1, g1, h2⟩ := oV_elim h1
   obtain ⟨t7, g7, h3⟩ := oI_elim h2
   obtain ⟨hf, hq⟩ := h3
   subst hf
   exact ⟨_, rep_less hr (by simp), hq⟩
  ·exact h0.elim
 ·intro s w hj
  have hb := hround s w hj
  rw [← hcc]
  have e1 := body_slices_IndexFunc_L1 f s w (fun f1 s1 w1 => f1 = f ∧ J s1 w1 ∧ μ s1 w1 < μ s w) (fun f1 w1 => f1 = f ∧ Q (.exit 0) [] w1) (fun f1 t4 w1 => f1 = f ∧ Q .ret [⟨4, .int .i64 t4, none⟩] w1)
  simp only [true_and] at e1
  exact cast e1 hb
theorem loops_slices_IndexFunc : LoopOk Tryz.prog Tryz.f149.ntmps G_slices_IndexFunc (codeOf Tryz.f149) := loopOk_list rfl ⟨ok_slices_IndexFunc_L1, trivial⟩
theorem C_slices_IndexFunc.of {sP : Option Addr} {sN : Nat} {sC : Nat} {fx : Value} {w : World} {R : Int → World → Prop} (h : F_slices_IndexFunc sP sN sC fx w R) : C_slices_IndexFunc sP sN sC fx w R := ofS4 (Fm := F_slices_IndexFunc sP sN sC fx w) Tryz.func149 (by kernel_rfl) loops_slices_IndexFunc rfl (fun _ => by kernel_rfl) h
def F_pool_Pool_Take_1 (r0 : Int) (r1 : Int) (c0 : Addr) (w : World) (R : Bool → World → Prop) : Prop :=
 New w (.cells #[.int .i64 r0, .int .i64 r1] 225) fun r w1 =>
 ∃ Len, w1.cell? (Addr.add ⟨r, 0, none⟩ 1) = some (.int .i64 Len) ∧
 ∃ t6, w1.cell? c0 = some (.int .i64 t6) ∧
 R (decide (Len ≥ t6)) w1
theorem C_pool_Pool_Take_1.of {r0 : Int} {r1 : Int} {c0 : Addr} {w : World} {R : Bool → World → Prop} (h : F_pool_Pool_Take_1 r0 r1 c0 w R) : C_pool_Pool_Take_1 r0 r1 c0 w R := ofS2 (Fm := F_pool_Pool_Take_1 r0 r1 c0 w) Tryz.func150 (by kernel_rfl) (L0 Tryz.f150) rfl (fun _ => by kernel_rfl) h
def F_slices_Delete (sP : Option Addr) (sN : Nat) (sC : Nat) (i : Int) (j : Int) (w : World) (R : Option Addr → Nat → Nat → World → Prop) : Prop :=
 0 ≤ i ∧ i ≤ j ∧ j ≤ (sN : Int) ∧ (sN : Int) ≤ (sC : Int) ∧
 If (i == j)
 (R sP sN sC w)
 (0 ≤ i ∧ i ≤ (sC : Int) ∧
 0 ≤ j ∧ j ≤ (sN : Int) ∧
 App Tryz.prog #[167, 167] 167 #[.slice sP i.toNat sC, .slice (adv sP sC j.toNat 2) (sN - j.toNat) (sC - j.toNat)] (drw w) fun t26P t26N t26C w1 =>
 0 ≤ (t26N : Int) ∧ (t26N : Int) ≤ (sN : Int) ∧ (sN : Int) ≤ (t26C : Int) ∧
 Clr Tryz.prog #[167] 0 #[.slice (adv t26P t26C (t26N : Int).toNat 2) ((sN : Int).toNat - (t26N : Int).toNat) (t26C - (t26N : Int).toNat)] w1 fun v w1_1 =>
 R t26P t26N t26C w1_1)
def G_slices_Delete : Gen where
 loop := lookL []
 plan := fun id =>
  bif Nat.beq id 5 then some ([0, 0, 3, 0, 0, 24, 63, 127], .take 0 (.take 1 (.take 2 (.take 3 (.take 4 (.take 5 (.take 6 (.take 7 .done)))))))) else none
theorem C_slices_Delete.of {sP : Option Addr} {sN : Nat} {sC : Nat} {i : Int} {j : Int} {w : World} {R : Option Addr → Nat → Nat → World → Prop} (h : F_slices_Delete sP sN sC i j w R) : C_slices_Delete sP sN sC i j w R := ofS6 (Fm := F_slices_Delete sP sN sC i j w) Tryz.func151 (by kernel_rfl) (L1 G_slices_Delete Tryz.f151 fun _ => rfl) rfl (fun _ => by kernel_rfl) h
def F_room_Room_note (m : Option Addr) (w : World) (R : World → Prop) : Prop :=
 NN m fun a =>
 ∃ mostx, (drw w).cell? (a.add 2) = some (.int .i64 mostx) ∧
 NN m fun a_1 =>
 ∃ lP lN lC, (drw w).cell? (a_1.add 0) = some (.slice lP lN lC) ∧
 NN m fun a_2 =>
 St (drw w) ((a_2.add 2).add 0) (.int .i64 (maxI mostx (lN : Int))) fun w1 =>
 R w1
def G_room_Room_note : Gen where
 loop := lookL []
 plan := fun id =>
  bif Nat.beq id 0 then some ([0, 0, 2, 6, 14, 0, 32, 96, 224, 480, 1022, 2047, 4095, 8191], .take 0 (.take 1 (.take 2 (.take 3 (.take 4 (.take 5 (.take 6 (.take 7 (.take 8 (.take 9 (.take 10 (.take 11 (.take 12 (.take 13 .done)))))))))))))) else none
theorem C_room_Room_note.of {m : Option Addr} {w : World} {R : World → Prop} (h : F_room_Room_note m w R) : C_room_Room_note m w R := ofS1 (Fm := F_room_Room_note m w) Tryz.func152 (by kernel_rfl) (L1 G_room_Room_note Tryz.f152 fun _ => rfl) rfl (fun _ => by kernel_rfl) h
structure S_pool_Pool_Segment_L1 where
 i : Int
def F_pool_Pool_Segment_k1 (R : Int → World → Prop) (w1_1 : World) : Prop :=
 R (-1) w1_1
def B_pool_Pool_Segment_L1 (p_1 : Option Addr) (atx_1 : Int) (s : S_pool_Pool_Segment_L1) (w : World) (Kn : S_pool_Pool_Segment_L1 → World → Prop) (Kx0 : Int → World → Prop) : Prop :=
 NN p_1 fun a_2 =>
 ∃ lP_1 lN_1 lC_1, w.cell? (a_2.add 0) = some (.slice lP_1 lN_1 lC_1) ∧
 If (decide ((IntKind.i64.wrap (s.i + (1 : Int))) < (lN_1 : Int)))
 (NN p_1 fun a_3 =>
 ∃ lP_2 lN_2 lC_2, w.cell? (a_3.add 0) = some (.slice lP_2 lN_2 lC_2) ∧
 0 ≤ (IntKind.i64.wrap (s.i + (1 : Int))) ∧ (IntKind.i64.wrap (s.i + (1 : Int))) < (lN_2 : Int) ∧ NN lP_2 fun a_4 =>
 ∃ startx, w.cell? ((a_4.add ((IntKind.i64.wrap (s.i + (1 : Int))).toNat * 2)).add 0) = some (.int .i64 startx) ∧
 If (startx == atx_1)
 (Kn ⟨(IntKind.i64.wrap (s.i + (1 : Int)))⟩ w)
 (Kx0 s.i w))
 (Kx0 s.i w)
def F_pool_Pool_Segment_L1 (p_1 : Option Addr) (atx_1 : Int) (s : S_pool_Pool_Segment_L1) (w : World) (Kx0 : Int → World → Prop) : Prop :=
 LoopS (fun s w Kn => B_pool_Pool_Segment_L1 p_1 atx_1 s w Kn Kx0) s w
def F_pool_Pool_Segment (p : Option Addr) (atx : Int) (w : World) (R : Int → World → Prop) : Prop :=
 C_pool_Pool_made p w fun t8 w1 =>
 If (!t8)
 (F_pool_Pool_Segment_k1 R w1)
 (If (decide (atx < (0 : Int)))
 (F_pool_Pool_Segment_k1 R w1)
 (NN p fun a =>
 ∃ topx, w1.cell? (a.add 1) = some (.int .i64 topx) ∧
 If (decide (atx ≥ topx))
 (R (-1) w1)
 (NN p fun a_1 =>
 ∃ lP lN lC, w1.cell? (a_1.add 0) = some (.slice lP lN lC) ∧
 C_slices_BinarySearchFunc lP lN lC atx (.func (.func 164) #[] #[]) w1 fun t280 t281 w1_2 =>
 If (!t281)
 (R (IntKind.i64.wrap (t280 - (1 : Int))) w1_2)
 (F_pool_Pool_Segment_L1 p atx ⟨t280⟩ w1_2
 (fun i_2 w1_3 =>
 R i_2 w1_3)))))
def lit_pool_Pool_Segment_L1 (f : (Option Addr) × Int) (s : S_pool_Pool_Segment_L1) : Env := [⟨0, .pointer f.1, none⟩, ⟨1, .int .i64 f.2, none⟩, ⟨5, .int .i64 s.i, none⟩]
def dec_pool_Pool_Segment_L1 (e : Env) (K : ((Option Addr) × Int) → S_pool_Pool_Segment_L1 → Prop) : Prop :=
 oP e 0 fun p_1 =>
 oI e 1 .i64 fun atx_1 =>
 oI e 5 .i64 fun i =>
  K (p_1, atx_1) ⟨i⟩
theorem dec_pool_Pool_Segment_L1_ok {N : Nat} (e : Env) (a : Act) (K : ((Option Addr) × Int) → S_pool_Pool_Segment_L1 → Prop) (hr : Rep N a e) (h0 : dec_pool_Pool_Segment_L1 e K) : ∃ f s, K f s ∧ Rep N a (lit_pool_Pool_Segment_L1 f s) := by
 unfold dec_pool_Pool_Segment_L1 at h0
 obtain ⟨p_1, g0, h1⟩ := oP_elim h0
 obtain ⟨atx_1, g1, h2⟩ := oI_elim h1
 obtain ⟨i, g5, h3⟩ := oI_elim h2
 exact ⟨_, _, h3, rep_less hr (by simp [lit_pool_Pool_Segment_L1, g0, g1, g5])⟩
def spec_pool_Pool_Segment_L1 (Q : Post) (e : Env) (w : World) : Prop :=
 dec_pool_Pool_Segment_L1 e fun f s => F_pool_Pool_Segment_L1 f.1 f.2 s w (fun i_1 w1 => Q (.exit 0) [⟨5, .int .i64 i_1, none⟩] w1)
def G_pool_Pool_Segment : Gen where
 loop := lookL [([false, false, true, true, true, true], spec_pool_Pool_Segment_L1)]
 plan := fun _ => none
def dx_pool_Pool_Segment_L1_0 (e : Env) (K : ((Option Addr) × Int) → Int → Prop) : Prop :=
 oP e 0 fun p_1 =>
 oI e 1 .i64 fun atx_1 =>
 oI e 5 .i64 fun i_1 =>
  K (p_1, atx_1) i_1
theorem body_pool_Pool_Segment_L1 (f : (Option Addr) × Int) (s : S_pool_Pool_Segment_L1) (w : World) (Kn : ((Option Addr) × Int) → S_pool_Pool_Segment_L1 → World → Prop) (Kx0 : ((Option Addr) × Int) → Int → World → Prop) :
  B_pool_Pool_Segment_L1 f.1 f.2 s w (fun s1 w1 => Kn f s1 w1) (fun i_1 w1 => Kx0 f i_1 w1) =
  den Tryz.prog Tryz.f153.ntmps G_pool_Pool_Segment (sub (codeOf Tryz.f153) [false, false, false, true, true, true, true]) [false, false, false, true, true, true, true] (roundQ (fun e w => dec_pool_Pool_Segment_L1 e fun f s => Kn f s w) (fun e w => False) (fun id e w => match Nat.beq id 0 with | true => dx_pool_Pool_Segment_L1_0 e fun f i_1 => Kx0 f i_1 w | false => False)) (lit_pool_Pool_Segment_L1 f s) w := by kernel_rfl
theorem ok_pool_Pool_Segment_L1 : OneOk Tryz.prog Tryz.f153.ntmps G_pool_Pool_Segment (codeOf Tryz.f153) [false, false, true, true, true, true] spec_pool_Pool_Segment_L1 := by
 intro c hc ih Q e w a hr h
 have hcc : sub (codeOf Tryz.f153) [false, false, false, true, true, true, true] = c := sub_of_codeAt hc
 obtain ⟨f, s, h, hrep⟩ := dec_pool_Pool_Segment_L1_ok e a _ hr h
 obtain ⟨J, μ, hj, hround⟩ := h
 refine loop_rule_deep seat_ok seat_mixed ih lit_pool_Pool_Segment_L1 dec_pool_Pool_Segment_L1 dec_pool_Pool_Segment_L1_ok hc f J μ (Kr := fun e w => False) (Kx := fun id e w => match Nat.beq id 0 with | true => (dx_pool_Pool_Segment_L1_0 e fun f1 i_1 => f1 = f ∧ Q (.exit 0) [⟨5, .int .i64 i_1, none⟩] w) | false => False) ?_ ?_ ?_ s w a hj hrep
 ·intro e a w hr h
  exact h.elim
 ·intro id e a w hr h0
  (try dsimp only at h0)
  split at h0
  ·rename_i hid
   obtain rfl := Nat.eq_of_beq_eq_true hid
   unfold dx_pool_Pool_Segment_L1_0 at h0
   obtain ⟨p_1, g0, h1⟩ := oP_elim h0
   obtain ⟨atx_1, g1, h2⟩ := oI_elim h1
   obtain ⟨i_1, g5, h3⟩ := oI_elim h2
   obtain ⟨hf, hq⟩ := h3
   subst hf
   exact ⟨_, rep_less hr (by simp [g5]), hq⟩
  ·exact h0.elim
 ·intro s w hj
  have hb := hround s w hj
  rw [← hcc]
  have e1 := body_pool_Pool_Segment_L1 f s w (fun f1 s1 w1 => f1 = f ∧ J s1 w1 ∧ μ s1 w1 < μ s w) (fun f1 i_1 w1 => f1 = f ∧ Q (.exit 0) [⟨5, .int .i64 i_1, none⟩] w1)
  simp only [true_and] at e1
  exact cast e1 hb
theorem loops_pool_Pool_Segment : LoopOk Tryz.prog Tryz.f153.ntmps G_pool_Pool_Segment (codeOf Tryz.f153) := loopOk_list rfl ⟨ok_pool_Pool_Segment_L1, trivial⟩
theorem C_pool_Pool_Segment.of {p : Option Addr} {atx : Int} {w : World} {R : Int → World → Prop} (h : F_pool_Pool_Segment p atx w R) : C_pool_Pool_Segment p atx w R := ofS4 (Fm := F_pool_Pool_Segment p atx w) Tryz.func153 (by kernel_rfl) loops_pool_Pool_Segment rfl (fun _ => by kernel_rfl) h
def F_pool_segment_meets (sx : Option Addr) (atx : Int) (n : Int) (w : World) (R : Bool → World → Prop) : Prop :=
 C_pool_segment_place sx atx w fun t10 w1 =>
 NN sx fun a =>
 ∃ runsP runsN runsC, w1.cell? (a.add 1) = some (.slice runsP runsN runsC) ∧
 If (decide (t10 < (runsN : Int)))
 (NN sx fun a_1 =>
 ∃ runsP_1 runsN_1 runsC_1, w1.cell? (a_1.add 1) = some (.slice runsP_1 runsN_1 runsC_1) ∧
 0 ≤ t10 ∧ t10 < (runsN_1 : Int) ∧ NN runsP_1 fun a_2 =>
 ∃ At, w1.cell? ((a_2.add (t10.toNat * 2)).add 0) = some (.int .i64 At) ∧
 R (decide (At < (IntKind.i64.wrap (atx + n)))) w1)
 (R false w1)
theorem C_pool_segment_meets.of {sx : Option Addr} {atx : Int} {n : Int} {w : World} {R : Bool → World → Prop} (h : F_pool_segment_meets sx atx n w R) : C_pool_segment_meets sx atx n w R := ofS2 (Fm := F_pool_segment_meets sx atx n w) Tryz.func154 (by kernel_rfl) (L0 Tryz.f154) rfl (fun _ => by kernel_rfl) h
def F_sync_Once_Do (o : Option Addr) (fx : Value) (w : World) (R : World → Prop) : Prop :=
 NN o fun a =>
 C_sync_atomic_Bool_Load (some (a.add 0)) w fun t7 w1 =>
 If (!t7)
 (C_sync_Once_doSlow o fx w1 fun w1_1 =>
 R w1_1)
 (R w1)
theorem C_sync_Once_Do.of {o : Option Addr} {fx : Value} {w : World} {R : World → Prop} (h : F_sync_Once_Do o fx w R) : C_sync_Once_Do o fx w R := ofS1 (Fm := F_sync_Once_Do o fx w) Tryz.func156 (by kernel_rfl) (L0 Tryz.f156) rfl (fun _ => by kernel_rfl) h
structure S_atom_Table_begin_L1 where
 t10 : Int
def B_atom_Table_begin_L1 (t_1 : Option Addr) (t8P_1 : Option Addr) (t8N_1 : Nat) (t8C_1 : Nat) (t9 : Int) (s : S_atom_Table_begin_L1) (w : World) (Kn : S_atom_Table_begin_L1 → World → Prop) (Kx0 : World → Prop) : Prop :=
 If (decide (s.t10 < t9))
 (0 ≤ s.t10 ∧ s.t10 < (t8N_1 : Int) ∧ NN t8P_1 fun a_1 =>
 ∃ t14, w.cell? (a_1.add (s.t10.toNat * 1)) = some (.string t14) ∧
 NN t_1 fun a_2 =>
 ∃ lP lN lC, w.cell? (a_2.add 5) = some (.slice lP lN lC) ∧
 BSl Tryz.prog 187 1 [(0, .agg #[.string t14, .bool true, .bool false])] w fun t22P t22N t22C w1_3 =>
 App Tryz.prog #[187, 187] 187 #[.slice lP lN lC, .slice t22P t22N t22C] w1_3 fun t23P t23N t23C w1_4 =>
 NN t_1 fun a_3 =>
 St w1_4 ((a_3.add 5).add 0) (.slice t23P t23N t23C) fun w1_5 =>
 NN t_1 fun a_4 =>
 ∃ ids, w1_5.cell? (a_4.add 6) = some (.map ids) ∧
 MUp Tryz.prog 188 (.map ids) (.string t14) (.int .i64 s.t10) w1_5 fun w1_6 =>
 Kn ⟨(IntKind.i64.wrap (s.t10 + (1 : Int)))⟩ w1_6)
 (Kx0 w)
def F_atom_Table_begin_L1 (t_1 : Option Addr) (t8P_1 : Option Addr) (t8N_1 : Nat) (t8C_1 : Nat) (t9 : Int) (s : S_atom_Table_begin_L1) (w : World) (Kx0 : World → Prop) : Prop :=
 LoopS (fun s w Kn => B_atom_Table_begin_L1 t_1 t8P_1 t8N_1 t8C_1 t9 s w Kn Kx0) s w
def F_atom_Table_begin (t : Option Addr) (w : World) (R : World → Prop) : Prop :=
 New w (.map #[] 0) fun r w1 =>
 NN t fun a =>
 St w1 ((a.add 6).add 0) (.map (some r)) fun w1_1 =>
 C_atom_Reserved  w1_1 fun t8P t8N t8C w1_2 =>
 F_atom_Table_begin_L1 t t8P t8N t8C (t8N : Int) ⟨(0 : Int)⟩ w1_2
 (fun w1_7 =>
 R w1_7)
def lit_atom_Table_begin_L1 (f : (Option Addr) × (Option Addr) × Nat × Nat × Int) (s : S_atom_Table_begin_L1) : Env := [⟨0, .pointer f.1, none⟩, ⟨8, .slice f.2.1 f.2.2.1 f.2.2.2.1, none⟩, ⟨9, .int .i64 f.2.2.2.2, none⟩, ⟨10, .int .i64 s.t10, none⟩]
def dec_atom_Table_begin_L1 (e : Env) (K : ((Option Addr) × (Option Addr) × Nat × Nat × Int) → S_atom_Table_begin_L1 → Prop) : Prop :=
 oP e 0 fun t_1 =>
 oS e 8 fun t8P_1 t8N_1 t8C_1 =>
 oI e 9 .i64 fun t9 =>
 oI e 10 .i64 fun t10 =>
  K (t_1, t8P_1, t8N_1, t8C_1, t9) ⟨t10⟩
theorem dec_atom_Table_begin_L1_ok {N : Nat} (e : Env) (a : Act) (K : ((Option Addr) × (Option Addr) × Nat × Nat × Int) → S_atom_Table_begin_L1 → Prop) (hr : Rep N a e) (h0 : dec_atom_Table_begin_L1 e K) : ∃ f s, K f s ∧ Rep N a (lit_atom_Table_begin_L1 f s) := by
 unfold dec_atom_Table_begin_L1 at h0
 obtain ⟨t_1, g0, h1⟩ := oP_elim h0
 obtain ⟨t8P_1, t8N_1, t8C_1, g8, h2⟩ := oS_elim h1
 obtain ⟨t9, g9, h3⟩ := oI_elim h2
 obtain ⟨t10, g10, h4⟩ := oI_elim h3
 exact ⟨_, _, h4, rep_less hr (by simp [lit_atom_Table_begin_L1, g0, g8, g9, g10])⟩
def spec_atom_Table_begin_L1 (Q : Post) (e : Env) (w : World) : Prop :=
 dec_atom_Table_begin_L1 e fun f s => F_atom_Table_begin_L1 f.1 f.2.1 f.2.2.1 f.2.2.2.1 f.2.2.2.2 s w (fun w1 => Q (.exit 0) [] w1)
def G_atom_Table_begin : Gen where
 loop := lookL [([false, true, true], spec_atom_Table_begin_L1)]
 plan := fun _ => none
def dx_atom_Table_begin_L1_0 (e : Env) (K : ((Option Addr) × (Option Addr) × Nat × Nat × Int) → Prop) : Prop :=
 oP e 0 fun t_1 =>
 oS e 8 fun t8P_1 t8N_1 t8C_1 =>
 oI e 9 .i64 fun t9 =>
  K (t_1, t8P_1, t8N_1, t8C_1, t9)
theorem body_atom_Table_begin_L1 (f : (Option Addr) × (Option Addr) × Nat × Nat × Int) (s : S_atom_Table_begin_L1) (w : World) (Kn : ((Option Addr) × (Option Addr) × Nat × Nat × Int) → S_atom_Table_begin_L1 → World → Prop) (Kx0 : ((Option Addr) × (Option Addr) × Nat × Nat × Int) → World → Prop) :
  B_atom_Table_begin_L1 f.1 f.2.1 f.2.2.1 f.2.2.2.1 f.2.2.2.2 s w (fun s1 w1 => Kn f s1 w1) (fun w1 => Kx0 f w1) =
  den Tryz.prog Tryz.f157.ntmps G_atom_Table_begin (sub (codeOf Tryz.f157) [false, false, true, true]) [false, false, true, true] (roundQ (fun e w => dec_atom_Table_begin_L1 e fun f s => Kn f s w) (fun e w => False) (fun id e w => match Nat.beq id 0 with | true => dx_atom_Table_begin_L1_0 e fun f => Kx0 f w | false => False)) (lit_atom_Table_begin_L1 f s) w := by kernel_rfl
theorem ok_atom_Table_begin_L1 : OneOk Tryz.prog Tryz.f157.ntmps G_atom_Table_begin (codeOf Tryz.f157) [false, true, true] spec_atom_Table_begin_L1 := by
 intro c hc ih Q e w a hr h
 have hcc : sub (codeOf Tryz.f157) [false, false, true, true] = c := sub_of_codeAt hc
 obtain ⟨f, s, h, hrep⟩ := dec_atom_Table_begin_L1_ok e a _ hr h
 obtain ⟨J, μ, hj, hround⟩ := h
 refine loop_rule_deep seat_ok seat_mixed ih lit_atom_Table_begin_L1 dec_atom_Table_begin_L1 dec_atom_Table_begin_L1_ok hc f J μ (Kr := fun e w => False) (Kx := fun id e w => match Nat.beq id 0 with | true => (dx_atom_Table_begin_L1_0 e fun f1 => f1 = f ∧ Q (.exit 0) [] w) | false => False) ?_ ?_ ?_ s w a hj hrep
 ·intro e a w hr h
  exact h.elim
 ·intro id e a w hr h0
  (try dsimp only at h0)
  split at h0
  ·rename_i hid
   obtain rfl := Nat.eq_of_beq_eq_true hid
   unfold dx_atom_Table_begin_L1_0 at h0
   obtain ⟨t_1, g0, h1⟩ := oP_elim h0
   obtain ⟨t8P_1, t8N_1, t8C_1, g8, h2⟩ := oS_elim h1
   obtain ⟨t9, g9, h3⟩ := oI_elim h2
   obtain ⟨hf, hq⟩ := h3
   subst hf
   exact ⟨_, rep_less hr (by simp), hq⟩
  ·exact h0.elim
 ·intro s w hj
  have hb := hround s w hj
  rw [← hcc]
  have e1 := body_atom_Table_begin_L1 f s w (fun f1 s1 w1 => f1 = f ∧ J s1 w1 ∧ μ s1 w1 < μ s w) (fun f1 w1 => f1 = f ∧ Q (.exit 0) [] w1)
  simp only [true_and] at e1
  exact cast e1 hb
theorem loops_atom_Table_begin : LoopOk Tryz.prog Tryz.f157.ntmps G_atom_Table_begin (codeOf Tryz.f157) := loopOk_list rfl ⟨ok_atom_Table_begin_L1, trivial⟩
theorem C_atom_Table_begin.of {t : Option Addr} {w : World} {R : World → Prop} (h : F_atom_Table_begin t w R) : C_atom_Table_begin t w R := ofS1 (Fm := F_atom_Table_begin t w) Tryz.func157 (by kernel_rfl) loops_atom_Table_begin rfl (fun _ => by kernel_rfl) h
def F_room_Room_has (m : Option Addr) (i : Int) (w : World) (R : Int → World → Prop) : Prop :=
 If m.isNone
 (R (6 : Int) w)
 (If (decide (i < (0 : Int)))
 (R (4 : Int) w)
 (NN m fun a =>
 ∃ lP lN lC, w.cell? (a.add 0) = some (.slice lP lN lC) ∧
 If (decide (i ≥ (lN : Int)))
 (R (4 : Int) w)
 (R (0 : Int) w)))
theorem C_room_Room_has.of {m : Option Addr} {i : Int} {w : World} {R : Int → World → Prop} (h : F_room_Room_has m i w R) : C_room_Room_has m i w R := ofS4 (Fm := F_room_Room_has m i w) Tryz.func159 (by kernel_rfl) (L0 Tryz.f159) rfl (fun _ => by kernel_rfl) h
structure S_slices_IndexFunc__2_L1 where
 t8 : Int
def B_slices_IndexFunc__2_L1 (sP_1 : Option Addr) (sN_1 : Nat) (sC_1 : Nat) (fx_1 : Value) (t7 : Int) (s : S_slices_IndexFunc__2_L1) (w : World) (Kn : S_slices_IndexFunc__2_L1 → World → Prop) (Kx0 : World → Prop) (Kr : Int → World → Prop) : Prop :=
 If (decide (s.t8 < t7))
 (0 ≤ s.t8 ∧ s.t8 < (sN_1 : Int) ∧ NN sP_1 fun a =>
 ∃ t15, w.cell? (a.add (s.t8.toNat * 1)) = some (.int .u64 t15) ∧
 CallV Tryz.prog fx_1 [.int .u64 t15] w fun v w1 => ∃ t16 : Bool, v = (.bool t16) ∧
 If t16
 (Kr s.t8 w1)
 (Kn ⟨(IntKind.i64.wrap (s.t8 + (1 : Int)))⟩ w1))
 (Kx0 w)
def F_slices_IndexFunc__2_L1 (sP_1 : Option Addr) (sN_1 : Nat) (sC_1 : Nat) (fx_1 : Value) (t7 : Int) (s : S_slices_IndexFunc__2_L1) (w : World) (Kx0 : World → Prop) (Kr : Int → World → Prop) : Prop :=
 LoopS (fun s w Kn => B_slices_IndexFunc__2_L1 sP_1 sN_1 sC_1 fx_1 t7 s w Kn Kx0 Kr) s w
def F_slices_IndexFunc__2 (sP : Option Addr) (sN : Nat) (sC : Nat) (fx : Value) (w : World) (R : Int → World → Prop) : Prop :=
 F_slices_IndexFunc__2_L1 sP sN sC fx (sN : Int) ⟨(0 : Int)⟩ w
 (fun w1_1 =>
 R (-1) w1_1)
 (fun t4_1 w1_2 =>
 R t4_1 w1_2)
def lit_slices_IndexFunc__2_L1 (f : (Option Addr) × Nat × Nat × Value × Int) (s : S_slices_IndexFunc__2_L1) : Env := [⟨0, .slice f.1 f.2.1 f.2.2.1, none⟩, ⟨1, f.2.2.2.1, none⟩, ⟨7, .int .i64 f.2.2.2.2, none⟩, ⟨8, .int .i64 s.t8, none⟩]
def dec_slices_IndexFunc__2_L1 (e : Env) (K : ((Option Addr) × Nat × Nat × Value × Int) → S_slices_IndexFunc__2_L1 → Prop) : Prop :=
 oS e 0 fun sP_1 sN_1 sC_1 =>
 oV e 1 fun fx_1 =>
 oI e 7 .i64 fun t7 =>
 oI e 8 .i64 fun t8 =>
  K (sP_1, sN_1, sC_1, fx_1, t7) ⟨t8⟩
theorem dec_slices_IndexFunc__2_L1_ok {N : Nat} (e : Env) (a : Act) (K : ((Option Addr) × Nat × Nat × Value × Int) → S_slices_IndexFunc__2_L1 → Prop) (hr : Rep N a e) (h0 : dec_slices_IndexFunc__2_L1 e K) : ∃ f s, K f s ∧ Rep N a (lit_slices_IndexFunc__2_L1 f s) := by
 unfold dec_slices_IndexFunc__2_L1 at h0
 obtain ⟨sP_1, sN_1, sC_1, g0, h1⟩ := oS_elim h0
 obtain ⟨fx_1, g1, h2⟩ := oV_elim h1
 obtain ⟨t7, g7, h3⟩ := oI_elim h2
 obtain ⟨t8, g8, h4⟩ := oI_elim h3
 exact ⟨_, _, h4, rep_less hr (by simp [lit_slices_IndexFunc__2_L1, g0, g1, g7, g8])⟩
def spec_slices_IndexFunc__2_L1 (Q : Post) (e : Env) (w : World) : Prop :=
 dec_slices_IndexFunc__2_L1 e fun f s => F_slices_IndexFunc__2_L1 f.1 f.2.1 f.2.2.1 f.2.2.2.1 f.2.2.2.2 s w (fun w1 => Q (.exit 0) [] w1) (fun t4 w1 => Q .ret [⟨4, .int .i64 t4, none⟩] w1)
def G_slices_IndexFunc__2 : Gen where
 loop := lookL [([false, true, false, true], spec_slices_IndexFunc__2_L1)]
 plan := fun _ => none
def dx_slices_IndexFunc__2_L1_0 (e : Env) (K : ((Option Addr) × Nat × Nat × Value × Int) → Prop) : Prop :=
 oS e 0 fun sP_1 sN_1 sC_1 =>
 oV e 1 fun fx_1 =>
 oI e 7 .i64 fun t7 =>
  K (sP_1, sN_1, sC_1, fx_1, t7)
def dx_slices_IndexFunc__2_L1_ret (e : Env) (K : ((Option Addr) × Nat × Nat × Value × Int) → Int → Prop) : Prop :=
 oS e 0 fun sP_1 sN_1 sC_1 =>
 oV e 1 fun fx_1 =>
 oI e 7 .i64 fun t7 =>
 oI e 4 .i64 fun t4 =>
  K (sP_1, sN_1, sC_1, fx_1, t7) t4
theorem body_slices_IndexFunc__2_L1 (f : (Option Addr) × Nat × Nat × Value × Int) (s : S_slices_IndexFunc__2_L1) (w : World) (Kn : ((Option Addr) × Nat × Nat × Value × Int) → S_slices_IndexFunc__2_L1 → World → Prop) (Kx0 : ((Option Addr) × Nat × Nat × Value × Int) → World → Prop) (Kr : ((Option Addr) × Nat × Nat × Value × Int) → Int → World → Prop) :
  B_slices_IndexFunc__2_L1 f.1 f.2.1 f.2.2.1 f.2.2.2.1 f.2.2.2.2 s w (fun s1 w1 => Kn f s1 w1) (fun w1 => Kx0 f w1) (fun t4 w1 => Kr f t4 w1) =
  den Tryz.prog Tryz.f160.ntmps G_slices_IndexFunc__2 (sub (codeOf Tryz.f160) [false, false, true, false, true]) [false, false, true, false, true] (roundQ (fun e w => dec_slices_IndexFunc__2_L1 e fun f s => Kn f s w) (fun e w => dx_slices_IndexFunc__2_L1_ret e fun f t4 => Kr f t4 w) (fun id e w => match Nat.beq id 0 with | true => dx_slices_IndexFunc__2_L1_0 e fun f => Kx0 f w | false => False)) (lit_slices_IndexFunc__2_L1 f s) w := by kernel_rfl
theorem ok_slices_IndexFunc__2_L1 : OneOk Tryz.prog Tryz.f160.ntmps G_slices_IndexFunc__2 (codeOf Tryz.f160) [false, true, false, true] spec_slices_IndexFunc__2_L1 := by
 intro c hc ih Q e w a hr h
 have hcc : sub (codeOf Tryz.f160) [false, false, true, false, true] = c := sub_of_codeAt hc
 obtain ⟨f, s, h, hrep⟩ := dec_slices_IndexFunc__2_L1_ok e a _ hr h
 obtain ⟨J, μ, hj, hround⟩ := h
 refine loop_rule_deep seat_ok seat_mixed ih lit_slices_IndexFunc__2_L1 dec_slices_IndexFunc__2_L1 dec_slices_IndexFunc__2_L1_ok hc f J μ (Kr := fun e w => dx_slices_IndexFunc__2_L1_ret e fun f1 t4 => f1 = f ∧ Q .ret [⟨4, .int .i64 t4, none⟩] w) (Kx := fun id e w => match Nat.beq id 0 with | true => (dx_slices_IndexFunc__2_L1_0 e fun f1 => f1 = f ∧ Q (.exit 0) [] w) | false => False) ?_ ?_ ?_ s w a hj hrep
 ·intro e a w hr h0
  unfold dx_slices_IndexFunc__2_L1_ret at h0
  obtain ⟨sP_1, sN_1, sC_1, g0, h1⟩ := oS_elim h0
  obtain ⟨fx_1, g1, h2⟩ := oV_elim h1
  obtain ⟨t7, g7, h3⟩ := oI_elim h2
  obtain ⟨t4, g4, h4⟩ := oI_elim h3
  obtain ⟨hf, hq⟩ := h4
  subst hf
  exact ⟨_, rep_less hr (by simp [g4]), hq⟩
 ·intro id e a w hr h0
  (try dsimp only at h0)
  split at h0
  ·rename_i hid
   obtain rfl := Nat.eq_of_beq_eq_true hid
   unfold dx_slices_IndexFunc__2_L1_0 at h0
   obtain ⟨sP_1, sN_1, sC_1, g0, h1⟩ := oS_elim h0
   obtain ⟨fx_1, g1, h2⟩ := oV_elim h1
   obtain ⟨t7, g7, h3⟩ := oI_elim h2
   obtain ⟨hf, hq⟩ := h3
   subst hf
   exact ⟨_, rep_less hr (by simp), hq⟩
  ·exact h0.elim
 ·intro s w hj
  have hb := hround s w hj
  rw [← hcc]
  have e1 := body_slices_IndexFunc__2_L1 f s w (fun f1 s1 w1 => f1 = f ∧ J s1 w1 ∧ μ s1 w1 < μ s w) (fun f1 w1 => f1 = f ∧ Q (.exit 0) [] w1) (fun f1 t4 w1 => f1 = f ∧ Q .ret [⟨4, .int .i64 t4, none⟩] w1)
  simp only [true_and] at e1
  exact cast e1 hb
theorem loops_slices_IndexFunc__2 : LoopOk Tryz.prog Tryz.f160.ntmps G_slices_IndexFunc__2 (codeOf Tryz.f160) := loopOk_list rfl ⟨ok_slices_IndexFunc__2_L1, trivial⟩
theorem C_slices_IndexFunc__2.of {sP : Option Addr} {sN : Nat} {sC : Nat} {fx : Value} {w : World} {R : Int → World → Prop} (h : F_slices_IndexFunc__2 sP sN sC fx w R) : C_slices_IndexFunc__2 sP sN sC fx w R := ofS4 (Fm := F_slices_IndexFunc__2 sP sN sC fx w) Tryz.func160 (by kernel_rfl) loops_slices_IndexFunc__2 rfl (fun _ => by kernel_rfl) h
end Go.Proofs.YtdaenijbokialaaGreat
