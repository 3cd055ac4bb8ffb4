import Derived.Test.YtlndgaijekihiaaGenC
set_option maxRecDepth 100000
set_option linter.unusedVariables false
namespace Go.Proofs.Ytlndgaijekihiaa
open Go Go.D Go.Proofs
def F_cmp_Compare (x : ByteArray) (y : ByteArray) (w : World) (R : Int → World → Prop) : Prop :=
 C_cmp_isNaN x w fun t8 w1 =>
 C_cmp_isNaN y w1 fun t10 w1_1 =>
 If t8
 (If t10
 (R (0 : Int) w1_1)
 (R (-1) w1_1))
 (If t10
 (R (1 : Int) w1_1)
 (If (Op.bytesLess x.toList y.toList)
 (R (-1) w1_1)
 (If (!(Op.bytesLess x.toList y.toList || x.toList == y.toList))
 (R (1 : Int) w1_1)
 (R (0 : Int) w1_1))))
theorem C_cmp_Compare.of {x : ByteArray} {y : ByteArray} {w : World} {R : Int → World → Prop} (h : F_cmp_Compare x y w R) : C_cmp_Compare x y w R := ofS5 (Fm := F_cmp_Compare x y w) Try.func42 (by kernel_rfl) (L0 Try.f42) rfl (fun _ => by kernel_rfl) h
def F_cmp_Compare__2 (x : Int) (y : Int) (w : World) (R : Int → World → Prop) : Prop :=
 C_cmp_isNaN__2 x w fun t8 w1 =>
 C_cmp_isNaN__2 y w1 fun t10 w1_1 =>
 If t8
 (If t10
 (R (0 : Int) w1_1)
 (R (-1) w1_1))
 (If t10
 (R (1 : Int) w1_1)
 (If (decide (x < y))
 (R (-1) w1_1)
 (If (decide (x > y))
 (R (1 : Int) w1_1)
 (R (0 : Int) w1_1))))
theorem C_cmp_Compare__2.of {x : Int} {y : Int} {w : World} {R : Int → World → Prop} (h : F_cmp_Compare__2 x y w R) : C_cmp_Compare__2 x y w R := ofS5 (Fm := F_cmp_Compare__2 x y w) Try.func43 (by kernel_rfl) (L0 Try.f43) rfl (fun _ => by kernel_rfl) h
def F_ref06_Atom (sx : ByteArray) (w : World) (R : Int → Int → ByteArray → Option Addr → Nat → Nat → World → Prop) : Prop :=
 New w (.cells #[.int .i64 0, .int .i64 0, .string ⟨#[]⟩, .slice none 0 0] 31) fun r w1 =>
 St w1 (Addr.add ⟨r, 0, none⟩ 0) (.int .i64 3) fun w1_1 =>
 St w1_1 (Addr.add ⟨r, 0, none⟩ 1) (.int .i64 0) fun w1_2 =>
 St w1_2 (Addr.add ⟨r, 0, none⟩ 2) (.string sx) fun w1_3 =>
 St w1_3 (Addr.add ⟨r, 0, none⟩ 3) (.slice none 0 0) fun w1_4 =>
 ∃ r_1, w1_4.cell? (Addr.add ⟨r, 0, none⟩ 0) = some (.int .i64 r_1) ∧
 ∃ r_2, w1_4.cell? (Addr.add ⟨r, 0, none⟩ 1) = some (.int .i64 r_2) ∧
 ∃ r_3, w1_4.cell? (Addr.add ⟨r, 0, none⟩ 2) = some (.string r_3) ∧
 ∃ rP rN rC, w1_4.cell? (Addr.add ⟨r, 0, none⟩ 3) = some (.slice rP rN rC) ∧
 R r_1 r_2 r_3 rP rN rC w1_4
theorem C_ref06_Atom.of {sx : ByteArray} {w : World} {R : Int → Int → ByteArray → Option Addr → Nat → Nat → World → Prop} (h : F_ref06_Atom sx w R) : C_ref06_Atom sx w R := ofS7 (Fm := F_ref06_Atom sx w) Try.func44 (by kernel_rfl) (L0 Try.f44) rfl (fun _ => by kernel_rfl) h
def F_ref06_Large (t0 : Int) (t1 : Int) (t2 : ByteArray) (t3P : Option Addr) (t3N : Nat) (t3C : Nat) (w : World) (R : Bool → World → Prop) : Prop :=
 New w (.cells #[.int .i64 t0, .int .i64 t1, .string t2, .slice t3P t3N t3C] 31) fun r w1 =>
 New w1 (.cells #[.int .i64 0] 3) fun r_1 w1_1 =>
 St w1_1 (Addr.add ⟨r_1, 0, none⟩ 0) (.int .i64 0) fun w1_2 =>
 ∃ t40, w1_2.cell? (Addr.add ⟨r, 0, none⟩ 0) = some (.int .i64 t40) ∧
 ∃ t41, w1_2.cell? (Addr.add ⟨r, 0, none⟩ 1) = some (.int .i64 t41) ∧
 ∃ t42, w1_2.cell? (Addr.add ⟨r, 0, none⟩ 2) = some (.string t42) ∧
 ∃ t43P t43N t43C, w1_2.cell? (Addr.add ⟨r, 0, none⟩ 3) = some (.slice t43P t43N t43C) ∧
 C_ref06_large t40 t41 t42 t43P t43N t43C (0 : Int) (some ⟨r_1, 0, none⟩) w1_2 fun t5 w1_3 =>
 R t5 w1_3
theorem C_ref06_Large.of {t0 : Int} {t1 : Int} {t2 : ByteArray} {t3P : Option Addr} {t3N : Nat} {t3C : Nat} {w : World} {R : Bool → World → Prop} (h : F_ref06_Large t0 t1 t2 t3P t3N t3C w R) : C_ref06_Large t0 t1 t2 t3P t3N t3C w R := ofS2 (Fm := F_ref06_Large t0 t1 t2 t3P t3N t3C w) Try.func45 (by kernel_rfl) (L0 Try.f45) rfl (fun _ => by kernel_rfl) h
structure S_ref06_Size_L1 where
 n : Int
 i : Int
def B_ref06_Size_L1 (t : Addr) (s : S_ref06_Size_L1) (w : World) (Kn : S_ref06_Size_L1 → World → Prop) (Kx0 : Int → World → Prop) : Prop :=
 ∃ LP LN LC, w.cell? (t.add 3) = some (.slice LP LN LC) ∧
 If (decide (s.i < (LN : Int)))
 (∃ LP_1 LN_1 LC_1, w.cell? (t.add 3) = some (.slice LP_1 LN_1 LC_1) ∧
 0 ≤ s.i ∧ s.i < (LN_1 : Int) ∧ NN LP_1 fun a =>
 ∃ t170, w.cell? ((a.add (s.i.toNat * 4)).add 0) = some (.int .i64 t170) ∧
 ∃ t171, w.cell? ((a.add (s.i.toNat * 4)).add 1) = some (.int .i64 t171) ∧
 ∃ t172, w.cell? ((a.add (s.i.toNat * 4)).add 2) = some (.string t172) ∧
 ∃ t173P t173N t173C, w.cell? ((a.add (s.i.toNat * 4)).add 3) = some (.slice t173P t173N t173C) ∧
 C_ref06_Size t170 t171 t172 t173P t173N t173C w fun t18 w1_1 =>
 Kn ⟨(IntKind.i64.wrap (s.n + t18)), (IntKind.i64.wrap (s.i + (1 : Int)))⟩ w1_1)
 (Kx0 s.n w)
def F_ref06_Size_L1 (t : Addr) (s : S_ref06_Size_L1) (w : World) (Kx0 : Int → World → Prop) : Prop :=
 LoopS (fun s w Kn => B_ref06_Size_L1 t s w Kn Kx0) s w
def F_ref06_Size (t0 : Int) (t1 : Int) (t2 : ByteArray) (t3P : Option Addr) (t3N : Nat) (t3C : Nat) (w : World) (R : Int → World → Prop) : Prop :=
 New w (.cells #[.int .i64 t0, .int .i64 t1, .string t2, .slice t3P t3N t3C] 31) fun r w1 =>
 F_ref06_Size_L1 ⟨r, 0, none⟩ ⟨(1 : Int), (0 : Int)⟩ w1
 (fun n_2 w1_2 =>
 R n_2 w1_2)
def lit_ref06_Size_L1 (f : Addr) (s : S_ref06_Size_L1) : Env := [⟨1, .pointer (some f), none⟩, ⟨3, .int .i64 s.n, none⟩, ⟨4, .int .i64 s.i, none⟩]
def dec_ref06_Size_L1 (e : Env) (K : Addr → S_ref06_Size_L1 → Prop) : Prop :=
 oA e 1 fun t =>
 oI e 3 .i64 fun n =>
 oI e 4 .i64 fun i =>
  K (t) ⟨n, i⟩
theorem dec_ref06_Size_L1_ok {N : Nat} (e : Env) (a : Act) (K : Addr → S_ref06_Size_L1 → Prop) (hr : Rep N a e) (h0 : dec_ref06_Size_L1 e K) : ∃ f s, K f s ∧ Rep N a (lit_ref06_Size_L1 f s) := by
 unfold dec_ref06_Size_L1 at h0
 obtain ⟨t, g1, h1⟩ := oA_elim h0
 obtain ⟨n, g3, h2⟩ := oI_elim h1
 obtain ⟨i, g4, h3⟩ := oI_elim h2
 exact ⟨_, _, h3, rep_less hr (by simp [lit_ref06_Size_L1, g1, g3, g4])⟩
def spec_ref06_Size_L1 (Q : Post) (e : Env) (w : World) : Prop :=
 dec_ref06_Size_L1 e fun f s => F_ref06_Size_L1 f s w (fun n_1 w1 => Q (.exit 0) [⟨3, .int .i64 n_1, none⟩] w1)
def G_ref06_Size : Gen where
 loop := lookL [([false, true, false, true, true], spec_ref06_Size_L1)]
 plan := fun _ => none
def dx_ref06_Size_L1_0 (e : Env) (K : Addr → Int → Prop) : Prop :=
 oA e 1 fun t =>
 oI e 3 .i64 fun n_1 =>
  K (t) n_1
theorem body_ref06_Size_L1 (f : Addr) (s : S_ref06_Size_L1) (w : World) (Kn : Addr → S_ref06_Size_L1 → World → Prop) (Kx0 : Addr → Int → World → Prop) :
  B_ref06_Size_L1 f s w (fun s1 w1 => Kn f s1 w1) (fun n_1 w1 => Kx0 f n_1 w1) =
  den Try.prog Try.f46.ntmps G_ref06_Size (sub (codeOf Try.f46) [false, false, true, false, true, true]) [false, false, true, false, true, true] (roundQ (fun e w => dec_ref06_Size_L1 e fun f s => Kn f s w) (fun e w => False) (fun id e w => match Nat.beq id 0 with | true => dx_ref06_Size_L1_0 e fun f n_1 => Kx0 f n_1 w | false => False)) (lit_ref06_Size_L1 f s) w := by kernel_rfl
theorem ok_ref06_Size_L1 : OneOk Try.prog Try.f46.ntmps G_ref06_Size (codeOf Try.f46) [false, true, false, true, true] spec_ref06_Size_L1 := by
 intro c hc ih Q e w a hr h
 have hcc : sub (codeOf Try.f46) [false, false, true, false, true, true] = c := sub_of_codeAt hc
 obtain ⟨f, s, h, hrep⟩ := dec_ref06_Size_L1_ok e a _ hr h
 obtain ⟨J, μ, hj, hround⟩ := h
 refine loop_rule_deep seat_ok seat_mixed ih lit_ref06_Size_L1 dec_ref06_Size_L1 dec_ref06_Size_L1_ok hc f J μ (Kr := fun e w => False) (Kx := fun id e w => match Nat.beq id 0 with | true => (dx_ref06_Size_L1_0 e fun f1 n_1 => f1 = f ∧ Q (.exit 0) [⟨3, .int .i64 n_1, none⟩] w) | false => False) ?_ ?_ ?_ s w a hj hrep
 ·intro e a w hr h
  exact h.elim
 ·intro id e a w hr h0
  (try dsimp only at h0)
  split at h0
  ·rename_i hid
   obtain rfl := Nat.eq_of_beq_eq_true hid
   unfold dx_ref06_Size_L1_0 at h0
   obtain ⟨t, g1, h1⟩ := oA_elim h0
   obtain ⟨n_1, g3, h2⟩ := oI_elim h1
   obtain ⟨hf, hq⟩ := h2
   subst hf
   exact ⟨_, rep_less hr (by simp [g3]), hq⟩
  ·exact h0.elim
 ·intro s w hj
  have hb := hround s w hj
  rw [← hcc]
  have e1 := body_ref06_Size_L1 f s w (fun f1 s1 w1 => f1 = f ∧ J s1 w1 ∧ μ s1 w1 < μ s w) (fun f1 n_1 w1 => f1 = f ∧ Q (.exit 0) [⟨3, .int .i64 n_1, none⟩] w1)
  simp only [true_and] at e1
  exact cast e1 hb
theorem loops_ref06_Size : LoopOk Try.prog Try.f46.ntmps G_ref06_Size (codeOf Try.f46) := loopOk_list rfl ⟨ok_ref06_Size_L1, trivial⟩
theorem C_ref06_Size.of {t0 : Int} {t1 : Int} {t2 : ByteArray} {t3P : Option Addr} {t3N : Nat} {t3C : Nat} {w : World} {R : Int → World → Prop} (h : F_ref06_Size t0 t1 t2 t3P t3N t3C w R) : C_ref06_Size t0 t1 t2 t3P t3N t3C w R := ofS5 (Fm := F_ref06_Size t0 t1 t2 t3P t3N t3C w) Try.func46 (by kernel_rfl) loops_ref06_Size rfl (fun _ => by kernel_rfl) h
def F_ref06_Int (n : Int) (w : World) (R : Int → Int → ByteArray → Option Addr → Nat → Nat → World → Prop) : Prop :=
 New w (.cells #[.int .i64 0, .int .i64 0, .string ⟨#[]⟩, .slice none 0 0] 31) fun r w1 =>
 St w1 (Addr.add ⟨r, 0, none⟩ 0) (.int .i64 2) fun w1_1 =>
 St w1_1 (Addr.add ⟨r, 0, none⟩ 1) (.int .i64 n) fun w1_2 =>
 St w1_2 (Addr.add ⟨r, 0, none⟩ 2) (.string ⟨#[]⟩) fun w1_3 =>
 St w1_3 (Addr.add ⟨r, 0, none⟩ 3) (.slice none 0 0) fun w1_4 =>
 ∃ r_1, w1_4.cell? (Addr.add ⟨r, 0, none⟩ 0) = some (.int .i64 r_1) ∧
 ∃ r_2, w1_4.cell? (Addr.add ⟨r, 0, none⟩ 1) = some (.int .i64 r_2) ∧
 ∃ r_3, w1_4.cell? (Addr.add ⟨r, 0, none⟩ 2) = some (.string r_3) ∧
 ∃ rP rN rC, w1_4.cell? (Addr.add ⟨r, 0, none⟩ 3) = some (.slice rP rN rC) ∧
 R r_1 r_2 r_3 rP rN rC w1_4
theorem C_ref06_Int.of {n : Int} {w : World} {R : Int → Int → ByteArray → Option Addr → Nat → Nat → World → Prop} (h : F_ref06_Int n w R) : C_ref06_Int n w R := ofS7 (Fm := F_ref06_Int n w) Try.func47 (by kernel_rfl) (L0 Try.f47) rfl (fun _ => by kernel_rfl) h
def F_index_Table_Head (t : Option Addr) (k0x : Int) (k1x : ByteArray) (k2x : Int) (w : World) (R : Int → Bool → World → Prop) : Prop :=
 New w (.cells #[.int .i64 k0x, .string k1x, .int .i64 k2x] 37) fun r w1 =>
 C_index_Table_made t w1 fun t7 w1_1 =>
 If (!t7)
 (R (0 : Int) false w1_1)
 (NN t fun a =>
 ∃ first, (drw w1_1).cell? (a.add 3) = some (.int .i64 first) ∧
 ∃ t150, (drw w1_1).cell? (Addr.add ⟨r, 0, none⟩ 0) = some (.int .i64 t150) ∧
 ∃ t151, (drw w1_1).cell? (Addr.add ⟨r, 0, none⟩ 1) = some (.string t151) ∧
 ∃ t152, (drw w1_1).cell? (Addr.add ⟨r, 0, none⟩ 2) = some (.int .i64 t152) ∧
 C_index_Table_behind t (IntKind.i64.wrap (first - (1 : Int))) t150 t151 t152 (drw w1_1) fun t160 t161 w1_2 =>
 R t160 t161 w1_2)
def G_index_Table_Head : Gen where
 loop := lookL []
 plan := fun id =>
  bif Nat.beq id 3 then some ([0, 0, 2, 6, 14, 30, 0, 127, 255, 255, 1023, 2047], .take 0 (.take 1 (.take 2 (.take 3 (.take 4 (.take 5 (.take 6 (.take 7 (.take 8 (.take 9 (.take 10 (.take 11 .done)))))))))))) else none
theorem C_index_Table_Head.of {t : Option Addr} {k0x : Int} {k1x : ByteArray} {k2x : Int} {w : World} {R : Int → Bool → World → Prop} (h : F_index_Table_Head t k0x k1x k2x w R) : C_index_Table_Head t k0x k1x k2x w R := ofS9 (Fm := F_index_Table_Head t k0x k1x k2x w) Try.func48 (by kernel_rfl) (L1 G_index_Table_Head Try.f48 fun _ => rfl) rfl (fun _ => by kernel_rfl) h
structure S_base_Base_first_L1 where
 idx_1 : Int
 isx_1 : Bool
def B_base_Base_first_L1 (b_1 : Option Addr) (t_1 : Option Addr) (generation_1 : Int) (k : Addr) (s : S_base_Base_first_L1) (w : World) (Kn : S_base_Base_first_L1 → World → Prop) (Kx0 : Int → Bool → World → Prop) : Prop :=
 If s.isx_1
 (C_base_Base_Lives b_1 s.idx_1 generation_1 w fun t19 w1_1 =>
 If (!t19)
 (∃ t250, w1_1.cell? (k.add 0) = some (.int .i64 t250) ∧
 ∃ t251, w1_1.cell? (k.add 1) = some (.string t251) ∧
 ∃ t252, w1_1.cell? (k.add 2) = some (.int .i64 t252) ∧
 C_index_Table_Next t_1 s.idx_1 t250 t251 t252 w1_1 fun t260 t261 w1_2 =>
 Kn ⟨t260, t261⟩ w1_2)
 (Kx0 s.idx_1 s.isx_1 w1_1))
 (Kx0 s.idx_1 s.isx_1 w)
def F_base_Base_first_L1 (b_1 : Option Addr) (t_1 : Option Addr) (generation_1 : Int) (k : Addr) (s : S_base_Base_first_L1) (w : World) (Kx0 : Int → Bool → World → Prop) : Prop :=
 LoopS (fun s w Kn => B_base_Base_first_L1 b_1 t_1 generation_1 k s w Kn Kx0) s w
def F_base_Base_first (b : Option Addr) (t : Option Addr) (idx : Int) (isx : Bool) (k0x : Int) (k1x : ByteArray) (k2x : Int) (generation : Int) (w : World) (R : Int → Bool → World → Prop) : Prop :=
 New w (.cells #[.int .i64 k0x, .string k1x, .int .i64 k2x] 37) fun r w1 =>
 F_base_Base_first_L1 b t generation ⟨r, 0, none⟩ ⟨idx, isx⟩ w1
 (fun idx_3 isx_3 w1_3 =>
 R idx_3 isx_3 w1_3)
def lit_base_Base_first_L1 (f : (Option Addr) × (Option Addr) × Int × Addr) (s : S_base_Base_first_L1) : Env := [⟨0, .pointer f.1, none⟩, ⟨1, .pointer f.2.1, none⟩, ⟨5, .int .i64 f.2.2.1, none⟩, ⟨10, .pointer (some f.2.2.2), none⟩, ⟨2, .int .i64 s.idx_1, none⟩, ⟨3, .bool s.isx_1, none⟩]
def dec_base_Base_first_L1 (e : Env) (K : ((Option Addr) × (Option Addr) × Int × Addr) → S_base_Base_first_L1 → Prop) : Prop :=
 oP e 0 fun b_1 =>
 oP e 1 fun t_1 =>
 oI e 5 .i64 fun generation_1 =>
 oA e 10 fun k =>
 oI e 2 .i64 fun idx_1 =>
 oB e 3 fun isx_1 =>
  K (b_1, t_1, generation_1, k) ⟨idx_1, isx_1⟩
theorem dec_base_Base_first_L1_ok {N : Nat} (e : Env) (a : Act) (K : ((Option Addr) × (Option Addr) × Int × Addr) → S_base_Base_first_L1 → Prop) (hr : Rep N a e) (h0 : dec_base_Base_first_L1 e K) : ∃ f s, K f s ∧ Rep N a (lit_base_Base_first_L1 f s) := by
 unfold dec_base_Base_first_L1 at h0
 obtain ⟨b_1, g0, h1⟩ := oP_elim h0
 obtain ⟨t_1, g1, h2⟩ := oP_elim h1
 obtain ⟨generation_1, g5, h3⟩ := oI_elim h2
 obtain ⟨k, g10, h4⟩ := oA_elim h3
 obtain ⟨idx_1, g2, h5⟩ := oI_elim h4
 obtain ⟨isx_1, g3, h6⟩ := oB_elim h5
 exact ⟨_, _, h6, rep_less hr (by simp [lit_base_Base_first_L1, g0, g1, g5, g10, g2, g3])⟩
def spec_base_Base_first_L1 (Q : Post) (e : Env) (w : World) : Prop :=
 dec_base_Base_first_L1 e fun f s => F_base_Base_first_L1 f.1 f.2.1 f.2.2.1 f.2.2.2 s w (fun idx_2 isx_2 w1 => Q (.exit 0) [⟨2, .int .i64 idx_2, none⟩, ⟨3, .bool isx_2, none⟩] w1)
def G_base_Base_first : Gen where
 loop := lookL [([false, false, true], spec_base_Base_first_L1)]
 plan := fun _ => none
def dx_base_Base_first_L1_0 (e : Env) (K : ((Option Addr) × (Option Addr) × Int × Addr) → Int → Bool → Prop) : Prop :=
 oP e 0 fun b_1 =>
 oP e 1 fun t_1 =>
 oI e 5 .i64 fun generation_1 =>
 oA e 10 fun k =>
 oI e 2 .i64 fun idx_2 =>
 oB e 3 fun isx_2 =>
  K (b_1, t_1, generation_1, k) idx_2 isx_2
theorem body_base_Base_first_L1 (f : (Option Addr) × (Option Addr) × Int × Addr) (s : S_base_Base_first_L1) (w : World) (Kn : ((Option Addr) × (Option Addr) × Int × Addr) → S_base_Base_first_L1 → World → Prop) (Kx0 : ((Option Addr) × (Option Addr) × Int × Addr) → Int → Bool → World → Prop) :
  B_base_Base_first_L1 f.1 f.2.1 f.2.2.1 f.2.2.2 s w (fun s1 w1 => Kn f s1 w1) (fun idx_2 isx_2 w1 => Kx0 f idx_2 isx_2 w1) =
  den Try.prog Try.f49.ntmps G_base_Base_first (sub (codeOf Try.f49) [false, false, false, true]) [false, false, false, true] (roundQ (fun e w => dec_base_Base_first_L1 e fun f s => Kn f s w) (fun e w => False) (fun id e w => match Nat.beq id 0 with | true => dx_base_Base_first_L1_0 e fun f idx_2 isx_2 => Kx0 f idx_2 isx_2 w | false => False)) (lit_base_Base_first_L1 f s) w := by kernel_rfl
theorem ok_base_Base_first_L1 : OneOk Try.prog Try.f49.ntmps G_base_Base_first (codeOf Try.f49) [false, false, true] spec_base_Base_first_L1 := by
 intro c hc ih Q e w a hr h
 have hcc : sub (codeOf Try.f49) [false, false, false, true] = c := sub_of_codeAt hc
 obtain ⟨f, s, h, hrep⟩ := dec_base_Base_first_L1_ok e a _ hr h
 obtain ⟨J, μ, hj, hround⟩ := h
 refine loop_rule_deep seat_ok seat_mixed ih lit_base_Base_first_L1 dec_base_Base_first_L1 dec_base_Base_first_L1_ok hc f J μ (Kr := fun e w => False) (Kx := fun id e w => match Nat.beq id 0 with | true => (dx_base_Base_first_L1_0 e fun f1 idx_2 isx_2 => f1 = f ∧ Q (.exit 0) [⟨2, .int .i64 idx_2, none⟩, ⟨3, .bool isx_2, none⟩] w) | false => False) ?_ ?_ ?_ s w a hj hrep
 ·intro e a w hr h
  exact h.elim
 ·intro id e a w hr h0
  (try dsimp only at h0)
  split at h0
  ·rename_i hid
   obtain rfl := Nat.eq_of_beq_eq_true hid
   unfold dx_base_Base_first_L1_0 at h0
   obtain ⟨b_1, g0, h1⟩ := oP_elim h0
   obtain ⟨t_1, g1, h2⟩ := oP_elim h1
   obtain ⟨generation_1, g5, h3⟩ := oI_elim h2
   obtain ⟨k, g10, h4⟩ := oA_elim h3
   obtain ⟨idx_2, g2, h5⟩ := oI_elim h4
   obtain ⟨isx_2, g3, h6⟩ := oB_elim h5
   obtain ⟨hf, hq⟩ := h6
   subst hf
   exact ⟨_, rep_less hr (by simp [g2, g3]), hq⟩
  ·exact h0.elim
 ·intro s w hj
  have hb := hround s w hj
  rw [← hcc]
  have e1 := body_base_Base_first_L1 f s w (fun f1 s1 w1 => f1 = f ∧ J s1 w1 ∧ μ s1 w1 < μ s w) (fun f1 idx_2 isx_2 w1 => f1 = f ∧ Q (.exit 0) [⟨2, .int .i64 idx_2, none⟩, ⟨3, .bool isx_2, none⟩] w1)
  simp only [true_and] at e1
  exact cast e1 hb
theorem loops_base_Base_first : LoopOk Try.prog Try.f49.ntmps G_base_Base_first (codeOf Try.f49) := loopOk_list rfl ⟨ok_base_Base_first_L1, trivial⟩
theorem C_base_Base_first.of {b : Option Addr} {t : Option Addr} {idx : Int} {isx : Bool} {k0x : Int} {k1x : ByteArray} {k2x : Int} {generation : Int} {w : World} {R : Int → Bool → World → Prop} (h : F_base_Base_first b t idx isx k0x k1x k2x generation w R) : C_base_Base_first b t idx isx k0x k1x k2x generation w R := ofS9 (Fm := F_base_Base_first b t idx isx k0x k1x k2x generation w) Try.func49 (by kernel_rfl) loops_base_Base_first rfl (fun _ => by kernel_rfl) h
def F_base_Base_has_k1 (R : Bool → World → Prop) (w1_1 : World) : Prop :=
 R false w1_1
def F_base_Base_has (b : Option Addr) (idx : Int) (w : World) (R : Bool → World → Prop) : Prop :=
 C_base_Base_made b w fun t6 w1 =>
 If t6
 (If (decide (idx ≥ (0 : Int)))
 (NN b fun a =>
 ∃ lP lN lC, w1.cell? (a.add 2) = some (.slice lP lN lC) ∧
 If (decide (idx < (lN : Int)))
 (NN b fun a_1 =>
 ∃ lP_1 lN_1 lC_1, w1.cell? (a_1.add 2) = some (.slice lP_1 lN_1 lC_1) ∧
 0 ≤ idx ∧ idx < (lN_1 : Int) ∧ NN lP_1 fun a_2 =>
 ∃ isx, w1.cell? ((a_2.add (idx.toNat * 10)).add 9) = some (.bool isx) ∧
 R isx w1)
 (F_base_Base_has_k1 R w1))
 (F_base_Base_has_k1 R w1))
 (F_base_Base_has_k1 R w1)
theorem C_base_Base_has.of {b : Option Addr} {idx : Int} {w : World} {R : Bool → World → Prop} (h : F_base_Base_has b idx w R) : C_base_Base_has b idx w R := ofS2 (Fm := F_base_Base_has b idx w) Try.func50 (by kernel_rfl) (L0 Try.f50) rfl (fun _ => by kernel_rfl) h
def F_index_Table_Next (t : Option Addr) (after : Int) (k0x : Int) (k1x : ByteArray) (k2x : Int) (w : World) (R : Int → Bool → World → Prop) : Prop :=
 New w (.cells #[.int .i64 k0x, .string k1x, .int .i64 k2x] 37) fun r w1 =>
 C_index_Table_made t w1 fun t11 w1_1 =>
 If (!t11)
 (R (0 : Int) false w1_1)
 (NN t fun a =>
 ∃ atx, w1_1.cell? (a.add 2) = some (.map atx) ∧
 Run Try.prog (Instr.lookup 107 (.map atx) (.int .i64 after) true) w1_1 fun v w1_2 => ∃ t1900 : Int, ∃ t1901 : ByteArray, ∃ t1902 : Int, ∃ t1903 : Int, ∃ t191 : Bool, v = (.tuple #[.agg #[.int .i64 t1900, .string t1901, .int .i64 t1902, .int .i64 t1903], .bool t191]) ∧
 New w1_2 (.cells #[.int .i64 0, .string ⟨#[]⟩, .int .i64 0, .int .i64 0] 111) fun r_1 w1_3 =>
 St w1_3 (Addr.add ⟨r_1, 0, none⟩ 0) (.int .i64 t1900) fun w1_4 =>
 St w1_4 (Addr.add ⟨r_1, 0, none⟩ 1) (.string t1901) fun w1_5 =>
 St w1_5 (Addr.add ⟨r_1, 0, none⟩ 2) (.int .i64 t1902) fun w1_6 =>
 St w1_6 (Addr.add ⟨r_1, 0, none⟩ 3) (.int .i64 t1903) fun w1_7 =>
 If (!t191)
 (R (0 : Int) false w1_7)
 (∃ rank, w1_7.cell? (Addr.add ⟨r_1, 0, none⟩ 3) = some (.int .i64 rank) ∧
 ∃ t270, w1_7.cell? (Addr.add ⟨r, 0, none⟩ 0) = some (.int .i64 t270) ∧
 ∃ t271, w1_7.cell? (Addr.add ⟨r, 0, none⟩ 1) = some (.string t271) ∧
 ∃ t272, w1_7.cell? (Addr.add ⟨r, 0, none⟩ 2) = some (.int .i64 t272) ∧
 C_index_Table_behind t rank t270 t271 t272 w1_7 fun t280 t281 w1_8 =>
 R t280 t281 w1_8))
theorem C_index_Table_Next.of {t : Option Addr} {after : Int} {k0x : Int} {k1x : ByteArray} {k2x : Int} {w : World} {R : Int → Bool → World → Prop} (h : F_index_Table_Next t after k0x k1x k2x w R) : C_index_Table_Next t after k0x k1x k2x w R := ofS9 (Fm := F_index_Table_Next t after k0x k1x k2x w) Try.func51 (by kernel_rfl) (L0 Try.f51) rfl (fun _ => by kernel_rfl) h
def F_index_Table_made (t : Option Addr) (w : World) (R : Bool → World → Prop) : Prop :=
 If (!t.isNone)
 (NN t fun a =>
 ∃ rows, w.cell? (a.add 0) = some (.map rows) ∧
 R (!rows.isNone) w)
 (R false w)
theorem C_index_Table_made.of {t : Option Addr} {w : World} {R : Bool → World → Prop} (h : F_index_Table_made t w R) : C_index_Table_made t w R := ofS2 (Fm := F_index_Table_made t w) Try.func52 (by kernel_rfl) (L0 Try.f52) rfl (fun _ => by kernel_rfl) h
def F_index_key (k0x : Int) (k1x : ByteArray) (k2x : Int) (w : World) (R : Int → ByteArray → Int → World → Prop) : Prop :=
 New w (.cells #[.int .i64 k0x, .string k1x, .int .i64 k2x] 37) fun r w1 =>
 New w1 (.cells #[.int .i64 0, .string ⟨#[]⟩, .int .i64 0] 37) fun r_1 w1_1 =>
 ∃ Kind, w1_1.cell? (Addr.add ⟨r, 0, none⟩ 0) = some (.int .i64 Kind) ∧
 If (Kind == (0 : Int))
 (St w1_1 (Addr.add ⟨r_1, 0, none⟩ 0) (.int .i64 0) fun w1_2 =>
 St w1_2 (Addr.add ⟨r_1, 0, none⟩ 1) (.string ⟨#[]⟩) fun w1_3 =>
 St w1_3 (Addr.add ⟨r_1, 0, none⟩ 2) (.int .i64 0) fun w1_4 =>
 ∃ r_2, w1_4.cell? (Addr.add ⟨r_1, 0, none⟩ 0) = some (.int .i64 r_2) ∧
 ∃ r_3, w1_4.cell? (Addr.add ⟨r_1, 0, none⟩ 1) = some (.string r_3) ∧
 ∃ r_4, w1_4.cell? (Addr.add ⟨r_1, 0, none⟩ 2) = some (.int .i64 r_4) ∧
 R r_2 r_3 r_4 w1_4)
 (∃ t70, w1_1.cell? (Addr.add ⟨r, 0, none⟩ 0) = some (.int .i64 t70) ∧
 ∃ t71, w1_1.cell? (Addr.add ⟨r, 0, none⟩ 1) = some (.string t71) ∧
 ∃ t72, w1_1.cell? (Addr.add ⟨r, 0, none⟩ 2) = some (.int .i64 t72) ∧
 St w1_1 (Addr.add ⟨r_1, 0, none⟩ 0) (.int .i64 t70) fun w1_5 =>
 St w1_5 (Addr.add ⟨r_1, 0, none⟩ 1) (.string t71) fun w1_6 =>
 St w1_6 (Addr.add ⟨r_1, 0, none⟩ 2) (.int .i64 t72) fun w1_7 =>
 ∃ r_5, w1_7.cell? (Addr.add ⟨r_1, 0, none⟩ 0) = some (.int .i64 r_5) ∧
 ∃ r_6, w1_7.cell? (Addr.add ⟨r_1, 0, none⟩ 1) = some (.string r_6) ∧
 ∃ r_7, w1_7.cell? (Addr.add ⟨r_1, 0, none⟩ 2) = some (.int .i64 r_7) ∧
 R r_5 r_6 r_7 w1_7)
theorem C_index_key.of {k0x : Int} {k1x : ByteArray} {k2x : Int} {w : World} {R : Int → ByteArray → Int → World → Prop} (h : F_index_key k0x k1x k2x w R) : C_index_key k0x k1x k2x w R := ofS14 (Fm := F_index_key k0x k1x k2x w) Try.func53 (by kernel_rfl) (L0 Try.f53) rfl (fun _ => by kernel_rfl) h
def F_index_put_k1 (R : Option Addr → Nat → Nat → World → Prop) (t4P : Option Addr) (t4N : Nat) (t4C : Nat) (w1_7 : World) : Prop :=
 R t4P t4N t4C w1_7
def F_index_put (rP : Option Addr) (rN : Nat) (rC : Nat) (e0 : Int) (e1 : Int) (w : World) (R : Option Addr → Nat → Nat → World → Prop) : Prop :=
 New w (.cells #[.int .i64 e0, .int .i64 e1] 115) fun r w1 =>
 ∃ rank, (drw w1).cell? (Addr.add ⟨r, 0, none⟩ 0) = some (.int .i64 rank) ∧
 ∃ t100, (drw w1).cell? (Addr.add ⟨r, 0, none⟩ 0) = some (.int .i64 t100) ∧
 ∃ t101, (drw w1).cell? (Addr.add ⟨r, 0, none⟩ 1) = some (.int .i64 t101) ∧
 (C_index_row_place rP rN rC rank (drw w1) fun t9 w1_1 =>
 (∀ i_, i_ < 2 → w1_1.cell? (Addr.add ⟨r, 0, none⟩ i_) = (drw w1).cell? (Addr.add ⟨r, 0, none⟩ i_)) ∧
 BSl Try.prog 105 1 [(0, .agg #[.int .i64 t100, .int .i64 t101])] w1_1 fun t11P t11N t11C w1_2 =>
 C_slices_Insert rP rN rC t9 t11P t11N t11C w1_2 fun t12P t12N t12C w1_3 =>
 F_index_put_k1 R t12P t12N t12C w1_3) ∧
 (BSl Try.prog 105 1 [(0, .agg #[.int .i64 t100, .int .i64 t101])] (drw w1) fun t11P_1 t11N_1 t11C_1 w1_4 =>
 w1_4.cell? (Addr.add ⟨r, 0, none⟩ 0) = (drw w1).cell? (Addr.add ⟨r, 0, none⟩ 0) ∧
 C_index_row_place rP rN rC rank w1_4 fun t9_1 w1_5 =>
 C_slices_Insert rP rN rC t9_1 t11P_1 t11N_1 t11C_1 w1_5 fun t12P_1 t12N_1 t12C_1 w1_6 =>
 F_index_put_k1 R t12P_1 t12N_1 t12C_1 w1_6)
def G_index_put : Gen where
 loop := lookL []
 plan := fun id =>
  bif Nat.beq id 1 then some ([0, 0, 0, 4, 14, 0, 32, 127, 255], .take 0 (.take 1 (.take 2 (.take 3 (.take 5 (.both 4 (.take 6 (.take 7 (.take 8 .done))) 6 (.take 4 (.take 7 (.take 8 .done))))))))) else none
theorem C_index_put.of {rP : Option Addr} {rN : Nat} {rC : Nat} {e0 : Int} {e1 : Int} {w : World} {R : Option Addr → Nat → Nat → World → Prop} (h : F_index_put rP rN rC e0 e1 w R) : C_index_put rP rN rC e0 e1 w R := ofS6 (Fm := F_index_put rP rN rC e0 e1 w) Try.func54 (by kernel_rfl) (L1 G_index_put Try.f54 fun _ => rfl) rfl (fun _ => by kernel_rfl) h
def F_index_KeyOf (t0 : Int) (t1 : Int) (t2 : ByteArray) (t3P : Option Addr) (t3N : Nat) (t3C : Nat) (w : World) (R : Int → ByteArray → Int → World → Prop) : Prop :=
 New w (.cells #[.int .i64 t0, .int .i64 t1, .string t2, .slice t3P t3N t3C] 31) fun r w1 =>
 New w1 (.cells #[.int .i64 0, .string ⟨#[]⟩, .int .i64 0] 37) fun r_1 w1_1 =>
 ∃ Kind, w1_1.cell? (Addr.add ⟨r, 0, none⟩ 0) = some (.int .i64 Kind) ∧
 If (Kind == (2 : Int))
 (∃ N, w1_1.cell? (Addr.add ⟨r, 0, none⟩ 1) = some (.int .i64 N) ∧
 St w1_1 (Addr.add ⟨r_1, 0, none⟩ 0) (.int .i64 1) fun w1_2 =>
 St w1_2 (Addr.add ⟨r_1, 0, none⟩ 1) (.string ⟨#[]⟩) fun w1_3 =>
 St w1_3 (Addr.add ⟨r_1, 0, none⟩ 2) (.int .i64 N) fun w1_4 =>
 ∃ r_2, w1_4.cell? (Addr.add ⟨r_1, 0, none⟩ 0) = some (.int .i64 r_2) ∧
 ∃ r_3, w1_4.cell? (Addr.add ⟨r_1, 0, none⟩ 1) = some (.string r_3) ∧
 ∃ r_4, w1_4.cell? (Addr.add ⟨r_1, 0, none⟩ 2) = some (.int .i64 r_4) ∧
 R r_2 r_3 r_4 w1_4)
 (If (Kind == (3 : Int))
 (∃ S, w1_1.cell? (Addr.add ⟨r, 0, none⟩ 2) = some (.string S) ∧
 St w1_1 (Addr.add ⟨r_1, 0, none⟩ 0) (.int .i64 2) fun w1_5 =>
 St w1_5 (Addr.add ⟨r_1, 0, none⟩ 1) (.string S) fun w1_6 =>
 St w1_6 (Addr.add ⟨r_1, 0, none⟩ 2) (.int .i64 0) fun w1_7 =>
 ∃ r_5, w1_7.cell? (Addr.add ⟨r_1, 0, none⟩ 0) = some (.int .i64 r_5) ∧
 ∃ r_6, w1_7.cell? (Addr.add ⟨r_1, 0, none⟩ 1) = some (.string r_6) ∧
 ∃ r_7, w1_7.cell? (Addr.add ⟨r_1, 0, none⟩ 2) = some (.int .i64 r_7) ∧
 R r_5 r_6 r_7 w1_7)
 (If (Kind == (4 : Int))
 (∃ S_1, w1_1.cell? (Addr.add ⟨r, 0, none⟩ 2) = some (.string S_1) ∧
 ∃ LP LN LC, w1_1.cell? (Addr.add ⟨r, 0, none⟩ 3) = some (.slice LP LN LC) ∧
 St w1_1 (Addr.add ⟨r_1, 0, none⟩ 0) (.int .i64 3) fun w1_8 =>
 St w1_8 (Addr.add ⟨r_1, 0, none⟩ 1) (.string S_1) fun w1_9 =>
 St w1_9 (Addr.add ⟨r_1, 0, none⟩ 2) (.int .i64 (LN : Int)) fun w1_10 =>
 ∃ r_8, w1_10.cell? (Addr.add ⟨r_1, 0, none⟩ 0) = some (.int .i64 r_8) ∧
 ∃ r_9, w1_10.cell? (Addr.add ⟨r_1, 0, none⟩ 1) = some (.string r_9) ∧
 ∃ r_10, w1_10.cell? (Addr.add ⟨r_1, 0, none⟩ 2) = some (.int .i64 r_10) ∧
 R r_8 r_9 r_10 w1_10)
 (St w1_1 (Addr.add ⟨r_1, 0, none⟩ 0) (.int .i64 0) fun w1_11 =>
 St w1_11 (Addr.add ⟨r_1, 0, none⟩ 1) (.string ⟨#[]⟩) fun w1_12 =>
 St w1_12 (Addr.add ⟨r_1, 0, none⟩ 2) (.int .i64 0) fun w1_13 =>
 ∃ r_11, w1_13.cell? (Addr.add ⟨r_1, 0, none⟩ 0) = some (.int .i64 r_11) ∧
 ∃ r_12, w1_13.cell? (Addr.add ⟨r_1, 0, none⟩ 1) = some (.string r_12) ∧
 ∃ r_13, w1_13.cell? (Addr.add ⟨r_1, 0, none⟩ 2) = some (.int .i64 r_13) ∧
 R r_11 r_12 r_13 w1_13)))
theorem C_index_KeyOf.of {t0 : Int} {t1 : Int} {t2 : ByteArray} {t3P : Option Addr} {t3N : Nat} {t3C : Nat} {w : World} {R : Int → ByteArray → Int → World → Prop} (h : F_index_KeyOf t0 t1 t2 t3P t3N t3C w R) : C_index_KeyOf t0 t1 t2 t3P t3N t3C w R := ofS14 (Fm := F_index_KeyOf t0 t1 t2 t3P t3N t3C w) Try.func55 (by kernel_rfl) (L0 Try.f55) rfl (fun _ => by kernel_rfl) h
structure S_base_clone_L1 where
 t21 : Int
def B_base_clone_L1 (t2_1 : Addr) (u : Addr) (t19P : Option Addr) (t19N : Nat) (t19C : Nat) (t20 : Int) (s : S_base_clone_L1) (w : World) (Kn : S_base_clone_L1 → World → Prop) (Kx0 : World → Prop) : Prop :=
 If (decide (s.t21 < t20))
 (0 ≤ s.t21 ∧ s.t21 < (t19N : Int) ∧ NN t19P fun a =>
 ∃ t240, w.cell? ((a.add (s.t21.toNat * 4)).add 0) = some (.int .i64 t240) ∧
 ∃ t241, w.cell? ((a.add (s.t21.toNat * 4)).add 1) = some (.int .i64 t241) ∧
 ∃ t242, w.cell? ((a.add (s.t21.toNat * 4)).add 2) = some (.string t242) ∧
 ∃ t243P t243N t243C, w.cell? ((a.add (s.t21.toNat * 4)).add 3) = some (.slice t243P t243N t243C) ∧
 New w (.cells #[.int .i64 0, .int .i64 0, .string ⟨#[]⟩, .slice none 0 0] 31) fun r_6 w1_13 =>
 St w1_13 (Addr.add ⟨r_6, 0, none⟩ 0) (.int .i64 t240) fun w1_14 =>
 St w1_14 (Addr.add ⟨r_6, 0, none⟩ 1) (.int .i64 t241) fun w1_15 =>
 St w1_15 (Addr.add ⟨r_6, 0, none⟩ 2) (.string t242) fun w1_16 =>
 St w1_16 (Addr.add ⟨r_6, 0, none⟩ 3) (.slice t243P t243N t243C) fun w1_17 =>
 ∃ LP_1 LN_1 LC_1, (drw w1_17).cell? (u.add 3) = some (.slice LP_1 LN_1 LC_1) ∧
 ∃ t270, (drw w1_17).cell? (Addr.add ⟨r_6, 0, none⟩ 0) = some (.int .i64 t270) ∧
 ∃ t271, (drw w1_17).cell? (Addr.add ⟨r_6, 0, none⟩ 1) = some (.int .i64 t271) ∧
 ∃ t272, (drw w1_17).cell? (Addr.add ⟨r_6, 0, none⟩ 2) = some (.string t272) ∧
 ∃ t273P t273N t273C, (drw w1_17).cell? (Addr.add ⟨r_6, 0, none⟩ 3) = some (.slice t273P t273N t273C) ∧
 C_base_clone t270 t271 t272 t273P t273N t273C (drw w1_17) fun t280 t281 t282 t283P t283N t283C w1_18 =>
 w1_18.cell? (u.add 3) = (drw w1_17).cell? (u.add 3) ∧
 BSl Try.prog 29 1 [(0, .agg #[.int .i64 t280, .int .i64 t281, .string t282, .slice t283P t283N t283C])] w1_18 fun t29P t29N t29C w1_19 =>
 w1_19.cell? (u.add 3) = (drw w1_17).cell? (u.add 3) ∧
 App Try.prog #[29, 29] 29 #[.slice LP_1 LN_1 LC_1, .slice t29P t29N t29C] w1_19 fun t30P t30N t30C w1_20 =>
 St w1_20 ((u.add 3).add 0) (.slice t30P t30N t30C) fun w1_21 =>
 Kn ⟨(IntKind.i64.wrap (s.t21 + (1 : Int)))⟩ w1_21)
 (Kx0 w)
def F_base_clone_L1 (t2_1 : Addr) (u : Addr) (t19P : Option Addr) (t19N : Nat) (t19C : Nat) (t20 : Int) (s : S_base_clone_L1) (w : World) (Kx0 : World → Prop) : Prop :=
 LoopS (fun s w Kn => B_base_clone_L1 t2_1 u t19P t19N t19C t20 s w Kn Kx0) s w
def F_base_clone (t0 : Int) (t1 : Int) (t2 : ByteArray) (t3P : Option Addr) (t3N : Nat) (t3C : Nat) (w : World) (R : Int → Int → ByteArray → Option Addr → Nat → Nat → World → Prop) : Prop :=
 New w (.cells #[.int .i64 t0, .int .i64 t1, .string t2, .slice t3P t3N t3C] 31) fun r w1 =>
 New w1 (.cells #[.int .i64 0, .int .i64 0, .string ⟨#[]⟩, .slice none 0 0] 31) fun r_1 w1_1 =>
 ∃ t60, w1_1.cell? (Addr.add ⟨r, 0, none⟩ 0) = some (.int .i64 t60) ∧
 ∃ t61, w1_1.cell? (Addr.add ⟨r, 0, none⟩ 1) = some (.int .i64 t61) ∧
 ∃ t62, w1_1.cell? (Addr.add ⟨r, 0, none⟩ 2) = some (.string t62) ∧
 ∃ t63P t63N t63C, w1_1.cell? (Addr.add ⟨r, 0, none⟩ 3) = some (.slice t63P t63N t63C) ∧
 C_term_Check t60 t61 t62 t63P t63N t63C w1_1 fun t7 w1_2 =>
 If (t7 == (0 : Int))
 (∃ t90, w1_2.cell? (Addr.add ⟨r, 0, none⟩ 0) = some (.int .i64 t90) ∧
 ∃ t91, w1_2.cell? (Addr.add ⟨r, 0, none⟩ 1) = some (.int .i64 t91) ∧
 ∃ t92, w1_2.cell? (Addr.add ⟨r, 0, none⟩ 2) = some (.string t92) ∧
 ∃ t93P t93N t93C, w1_2.cell? (Addr.add ⟨r, 0, none⟩ 3) = some (.slice t93P t93N t93C) ∧
 C_term_Clone t90 t91 t92 t93P t93N t93C w1_2 fun t100 t101 t102 t103P t103N t103C w1_3 =>
 St w1_3 (Addr.add ⟨r_1, 0, none⟩ 0) (.int .i64 t100) fun w1_4 =>
 St w1_4 (Addr.add ⟨r_1, 0, none⟩ 1) (.int .i64 t101) fun w1_5 =>
 St w1_5 (Addr.add ⟨r_1, 0, none⟩ 2) (.string t102) fun w1_6 =>
 St w1_6 (Addr.add ⟨r_1, 0, none⟩ 3) (.slice t103P t103N t103C) fun w1_7 =>
 ∃ r_2, w1_7.cell? (Addr.add ⟨r_1, 0, none⟩ 0) = some (.int .i64 r_2) ∧
 ∃ r_3, w1_7.cell? (Addr.add ⟨r_1, 0, none⟩ 1) = some (.int .i64 r_3) ∧
 ∃ r_4, w1_7.cell? (Addr.add ⟨r_1, 0, none⟩ 2) = some (.string r_4) ∧
 ∃ rP rN rC, w1_7.cell? (Addr.add ⟨r_1, 0, none⟩ 3) = some (.slice rP rN rC) ∧
 R r_2 r_3 r_4 rP rN rC w1_7)
 (∃ Kind, w1_2.cell? (Addr.add ⟨r, 0, none⟩ 0) = some (.int .i64 Kind) ∧
 ∃ N, w1_2.cell? (Addr.add ⟨r, 0, none⟩ 1) = some (.int .i64 N) ∧
 ∃ S, w1_2.cell? (Addr.add ⟨r, 0, none⟩ 2) = some (.string S) ∧
 New w1_2 (.cells #[.int .i64 0, .int .i64 0, .string ⟨#[]⟩, .slice none 0 0] 31) fun r_5 w1_8 =>
 St w1_8 (Addr.add ⟨r_5, 0, none⟩ 0) (.int .i64 Kind) fun w1_9 =>
 St w1_9 (Addr.add ⟨r_5, 0, none⟩ 1) (.int .i64 N) fun w1_10 =>
 St w1_10 (Addr.add ⟨r_5, 0, none⟩ 2) (.string S) fun w1_11 =>
 St w1_11 (Addr.add ⟨r_5, 0, none⟩ 3) (.slice none 0 0) fun w1_12 =>
 ∃ LP LN LC, w1_12.cell? (Addr.add ⟨r, 0, none⟩ 3) = some (.slice LP LN LC) ∧
 F_base_clone_L1 ⟨r_1, 0, none⟩ ⟨r_5, 0, none⟩ LP LN LC (LN : Int) ⟨(0 : Int)⟩ w1_12
 (fun w1_22 =>
 ∃ t330, w1_22.cell? (Addr.add ⟨r_5, 0, none⟩ 0) = some (.int .i64 t330) ∧
 ∃ t331, w1_22.cell? (Addr.add ⟨r_5, 0, none⟩ 1) = some (.int .i64 t331) ∧
 ∃ t332, w1_22.cell? (Addr.add ⟨r_5, 0, none⟩ 2) = some (.string t332) ∧
 ∃ t333P t333N t333C, w1_22.cell? (Addr.add ⟨r_5, 0, none⟩ 3) = some (.slice t333P t333N t333C) ∧
 St w1_22 (Addr.add ⟨r_1, 0, none⟩ 0) (.int .i64 t330) fun w1_23 =>
 St w1_23 (Addr.add ⟨r_1, 0, none⟩ 1) (.int .i64 t331) fun w1_24 =>
 St w1_24 (Addr.add ⟨r_1, 0, none⟩ 2) (.string t332) fun w1_25 =>
 St w1_25 (Addr.add ⟨r_1, 0, none⟩ 3) (.slice t333P t333N t333C) fun w1_26 =>
 ∃ r_7, w1_26.cell? (Addr.add ⟨r_1, 0, none⟩ 0) = some (.int .i64 r_7) ∧
 ∃ r_8, w1_26.cell? (Addr.add ⟨r_1, 0, none⟩ 1) = some (.int .i64 r_8) ∧
 ∃ r_9, w1_26.cell? (Addr.add ⟨r_1, 0, none⟩ 2) = some (.string r_9) ∧
 ∃ rP_1 rN_1 rC_1, w1_26.cell? (Addr.add ⟨r_1, 0, none⟩ 3) = some (.slice rP_1 rN_1 rC_1) ∧
 R r_7 r_8 r_9 rP_1 rN_1 rC_1 w1_26))
def lit_base_clone_L1 (f : Addr × Addr × (Option Addr) × Nat × Nat × Int) (s : S_base_clone_L1) : Env := [⟨2, .pointer (some f.1), none⟩, ⟨3, .pointer (some f.2.1), none⟩, ⟨19, .slice f.2.2.1 f.2.2.2.1 f.2.2.2.2.1, none⟩, ⟨20, .int .i64 f.2.2.2.2.2, none⟩, ⟨21, .int .i64 s.t21, none⟩]
def dec_base_clone_L1 (e : Env) (K : (Addr × Addr × (Option Addr) × Nat × Nat × Int) → S_base_clone_L1 → Prop) : Prop :=
 oA e 2 fun t2_1 =>
 oA e 3 fun u =>
 oS e 19 fun t19P t19N t19C =>
 oI e 20 .i64 fun t20 =>
 oI e 21 .i64 fun t21 =>
  K (t2_1, u, t19P, t19N, t19C, t20) ⟨t21⟩
theorem dec_base_clone_L1_ok {N : Nat} (e : Env) (a : Act) (K : (Addr × Addr × (Option Addr) × Nat × Nat × Int) → S_base_clone_L1 → Prop) (hr : Rep N a e) (h0 : dec_base_clone_L1 e K) : ∃ f s, K f s ∧ Rep N a (lit_base_clone_L1 f s) := by
 unfold dec_base_clone_L1 at h0
 obtain ⟨t2_1, g2, h1⟩ := oA_elim h0
 obtain ⟨u, g3, h2⟩ := oA_elim h1
 obtain ⟨t19P, t19N, t19C, g19, h3⟩ := oS_elim h2
 obtain ⟨t20, g20, h4⟩ := oI_elim h3
 obtain ⟨t21, g21, h5⟩ := oI_elim h4
 exact ⟨_, _, h5, rep_less hr (by simp [lit_base_clone_L1, g2, g3, g19, g20, g21])⟩
def spec_base_clone_L1 (Q : Post) (e : Env) (w : World) : Prop :=
 dec_base_clone_L1 e fun f s => F_base_clone_L1 f.1 f.2.1 f.2.2.1 f.2.2.2.1 f.2.2.2.2.1 f.2.2.2.2.2 s w (fun w1 => Q (.exit 0) [⟨2, .pointer (some f.1), none⟩, ⟨3, .pointer (some f.2.1), none⟩] w1)
def G_base_clone : Gen where
 loop := lookL [([false, true, false, true, true, true], spec_base_clone_L1)]
 plan := fun id =>
  bif Nat.beq id 7 then some ([0, 1, 0, 4, 12, 31, 63, 127], .take 0 (.take 1 (.take 2 (.take 3 (.take 4 (.take 5 (.take 6 (.take 7 .done)))))))) else none
def dx_base_clone_L1_0 (e : Env) (K : (Addr × Addr × (Option Addr) × Nat × Nat × Int) → Prop) : Prop :=
 oA e 2 fun t2_1 =>
 oA e 3 fun u =>
 oS e 19 fun t19P t19N t19C =>
 oI e 20 .i64 fun t20 =>
  K (t2_1, u, t19P, t19N, t19C, t20)
theorem body_base_clone_L1 (f : Addr × Addr × (Option Addr) × Nat × Nat × Int) (s : S_base_clone_L1) (w : World) (Kn : (Addr × Addr × (Option Addr) × Nat × Nat × Int) → S_base_clone_L1 → World → Prop) (Kx0 : (Addr × Addr × (Option Addr) × Nat × Nat × Int) → World → Prop) :
  B_base_clone_L1 f.1 f.2.1 f.2.2.1 f.2.2.2.1 f.2.2.2.2.1 f.2.2.2.2.2 s w (fun s1 w1 => Kn f s1 w1) (fun w1 => Kx0 f w1) =
  den Try.prog Try.f56.ntmps G_base_clone (sub (codeOf Try.f56) [false, false, true, false, true, true, true]) [false, false, true, false, true, true, true] (roundQ (fun e w => dec_base_clone_L1 e fun f s => Kn f s w) (fun e w => False) (fun id e w => match Nat.beq id 0 with | true => dx_base_clone_L1_0 e fun f => Kx0 f w | false => False)) (lit_base_clone_L1 f s) w := by kernel_rfl
theorem ok_base_clone_L1 : OneOk Try.prog Try.f56.ntmps G_base_clone (codeOf Try.f56) [false, true, false, true, true, true] spec_base_clone_L1 := by
 intro c hc ih Q e w a hr h
 have hcc : sub (codeOf Try.f56) [false, false, true, false, true, true, true] = c := sub_of_codeAt hc
 obtain ⟨f, s, h, hrep⟩ := dec_base_clone_L1_ok e a _ hr h
 obtain ⟨J, μ, hj, hround⟩ := h
 refine loop_rule_deep seat_ok seat_mixed ih lit_base_clone_L1 dec_base_clone_L1 dec_base_clone_L1_ok hc f J μ (Kr := fun e w => False) (Kx := fun id e w => match Nat.beq id 0 with | true => (dx_base_clone_L1_0 e fun f1 => f1 = f ∧ Q (.exit 0) [⟨2, .pointer (some f.1), none⟩, ⟨3, .pointer (some f.2.1), none⟩] w) | false => False) ?_ ?_ ?_ s w a hj hrep
 ·intro e a w hr h
  exact h.elim
 ·intro id e a w hr h0
  (try dsimp only at h0)
  split at h0
  ·rename_i hid
   obtain rfl := Nat.eq_of_beq_eq_true hid
   unfold dx_base_clone_L1_0 at h0
   obtain ⟨t2_1, g2, h1⟩ := oA_elim h0
   obtain ⟨u, g3, h2⟩ := oA_elim h1
   obtain ⟨t19P, t19N, t19C, g19, h3⟩ := oS_elim h2
   obtain ⟨t20, g20, h4⟩ := oI_elim h3
   obtain ⟨hf, hq⟩ := h4
   subst hf
   exact ⟨_, rep_less hr (by simp [g2, g3]), hq⟩
  ·exact h0.elim
 ·intro s w hj
  have hb := hround s w hj
  rw [← hcc]
  have e1 := body_base_clone_L1 f s w (fun f1 s1 w1 => f1 = f ∧ J s1 w1 ∧ μ s1 w1 < μ s w) (fun f1 w1 => f1 = f ∧ Q (.exit 0) [⟨2, .pointer (some f.1), none⟩, ⟨3, .pointer (some f.2.1), none⟩] w1)
  simp only [true_and] at e1
  exact cast e1 hb
theorem loops_base_clone : LoopOk Try.prog Try.f56.ntmps G_base_clone (codeOf Try.f56) := loopOk_list rfl ⟨ok_base_clone_L1, trivial⟩
theorem C_base_clone.of {t0 : Int} {t1 : Int} {t2 : ByteArray} {t3P : Option Addr} {t3N : Nat} {t3C : Nat} {w : World} {R : Int → Int → ByteArray → Option Addr → Nat → Nat → World → Prop} (h : F_base_clone t0 t1 t2 t3P t3N t3C w R) : C_base_clone t0 t1 t2 t3P t3N t3C w R := ofS7 (Fm := F_base_clone t0 t1 t2 t3P t3N t3C w) Try.func56 (by kernel_rfl) loops_base_clone rfl (fun _ => by kernel_rfl) h
structure S_index_Table_All_L1 where
 outP : Option Addr
 outN : Nat
 outC : Nat
 idx : Int
 isx : Bool
def B_index_Table_All_L1 (t_1 : Option Addr) (k : Addr) (s : S_index_Table_All_L1) (w : World) (Kn : S_index_Table_All_L1 → World → Prop) (Kx0 : Option Addr → Nat → Nat → World → Prop) : Prop :=
 If s.isx
 (BSl Try.prog 47 1 [(0, .int .i64 s.idx)] w fun t17P t17N t17C w1_2 =>
 App Try.prog #[47, 47] 47 #[.slice s.outP s.outN s.outC, .slice t17P t17N t17C] w1_2 fun t18P t18N t18C w1_3 =>
 ∃ t220, w1_3.cell? (k.add 0) = some (.int .i64 t220) ∧
 ∃ t221, w1_3.cell? (k.add 1) = some (.string t221) ∧
 ∃ t222, w1_3.cell? (k.add 2) = some (.int .i64 t222) ∧
 C_index_Table_Next t_1 s.idx t220 t221 t222 w1_3 fun t230 t231 w1_4 =>
 Kn ⟨t18P, t18N, t18C, t230, t231⟩ w1_4)
 (Kx0 s.outP s.outN s.outC w)
def F_index_Table_All_L1 (t_1 : Option Addr) (k : Addr) (s : S_index_Table_All_L1) (w : World) (Kx0 : Option Addr → Nat → Nat → World → Prop) : Prop :=
 LoopS (fun s w Kn => B_index_Table_All_L1 t_1 k s w Kn Kx0) s w
def F_index_Table_All (t : Option Addr) (k0x : Int) (k1x : ByteArray) (k2x : Int) (w : World) (R : Option Addr → Nat → Nat → World → Prop) : Prop :=
 New w (.cells #[.int .i64 k0x, .string k1x, .int .i64 k2x] 37) fun r w1 =>
 ∃ t100, w1.cell? (Addr.add ⟨r, 0, none⟩ 0) = some (.int .i64 t100) ∧
 ∃ t101, w1.cell? (Addr.add ⟨r, 0, none⟩ 1) = some (.string t101) ∧
 ∃ t102, w1.cell? (Addr.add ⟨r, 0, none⟩ 2) = some (.int .i64 t102) ∧
 C_index_Table_Head t t100 t101 t102 w1 fun t110 t111 w1_1 =>
 F_index_Table_All_L1 t ⟨r, 0, none⟩ ⟨none, 0, 0, t110, t111⟩ w1_1
 (fun outP_2 outN_2 outC_2 w1_5 =>
 R outP_2 outN_2 outC_2 w1_5)
def lit_index_Table_All_L1 (f : (Option Addr) × Addr) (s : S_index_Table_All_L1) : Env := [⟨0, .pointer f.1, none⟩, ⟨3, .pointer (some f.2), none⟩, ⟨5, .slice s.outP s.outN s.outC, none⟩, ⟨6, .int .i64 s.idx, none⟩, ⟨7, .bool s.isx, none⟩]
def dec_index_Table_All_L1 (e : Env) (K : ((Option Addr) × Addr) → S_index_Table_All_L1 → Prop) : Prop :=
 oP e 0 fun t_1 =>
 oA e 3 fun k =>
 oS e 5 fun outP outN outC =>
 oI e 6 .i64 fun idx =>
 oB e 7 fun isx =>
  K (t_1, k) ⟨outP, outN, outC, idx, isx⟩
theorem dec_index_Table_All_L1_ok {N : Nat} (e : Env) (a : Act) (K : ((Option Addr) × Addr) → S_index_Table_All_L1 → Prop) (hr : Rep N a e) (h0 : dec_index_Table_All_L1 e K) : ∃ f s, K f s ∧ Rep N a (lit_index_Table_All_L1 f s) := by
 unfold dec_index_Table_All_L1 at h0
 obtain ⟨t_1, g0, h1⟩ := oP_elim h0
 obtain ⟨k, g3, h2⟩ := oA_elim h1
 obtain ⟨outP, outN, outC, g5, h3⟩ := oS_elim h2
 obtain ⟨idx, g6, h4⟩ := oI_elim h3
 obtain ⟨isx, g7, h5⟩ := oB_elim h4
 exact ⟨_, _, h5, rep_less hr (by simp [lit_index_Table_All_L1, g0, g3, g5, g6, g7])⟩
def spec_index_Table_All_L1 (Q : Post) (e : Env) (w : World) : Prop :=
 dec_index_Table_All_L1 e fun f s => F_index_Table_All_L1 f.1 f.2 s w (fun outP_1 outN_1 outC_1 w1 => Q (.exit 0) [⟨5, .slice outP_1 outN_1 outC_1, none⟩] w1)
def G_index_Table_All : Gen where
 loop := lookL [([false, false, true, true, true], spec_index_Table_All_L1)]
 plan := fun _ => none
def dx_index_Table_All_L1_0 (e : Env) (K : ((Option Addr) × Addr) → Option Addr → Nat → Nat → Prop) : Prop :=
 oP e 0 fun t_1 =>
 oA e 3 fun k =>
 oS e 5 fun outP_1 outN_1 outC_1 =>
  K (t_1, k) outP_1 outN_1 outC_1
theorem body_index_Table_All_L1 (f : (Option Addr) × Addr) (s : S_index_Table_All_L1) (w : World) (Kn : ((Option Addr) × Addr) → S_index_Table_All_L1 → World → Prop) (Kx0 : ((Option Addr) × Addr) → Option Addr → Nat → Nat → World → Prop) :
  B_index_Table_All_L1 f.1 f.2 s w (fun s1 w1 => Kn f s1 w1) (fun outP_1 outN_1 outC_1 w1 => Kx0 f outP_1 outN_1 outC_1 w1) =
  den Try.prog Try.f57.ntmps G_index_Table_All (sub (codeOf Try.f57) [false, false, false, true, true, true]) [false, false, false, true, true, true] (roundQ (fun e w => dec_index_Table_All_L1 e fun f s => Kn f s w) (fun e w => False) (fun id e w => match Nat.beq id 0 with | true => dx_index_Table_All_L1_0 e fun f outP_1 outN_1 outC_1 => Kx0 f outP_1 outN_1 outC_1 w | false => False)) (lit_index_Table_All_L1 f s) w := by kernel_rfl
theorem ok_index_Table_All_L1 : OneOk Try.prog Try.f57.ntmps G_index_Table_All (codeOf Try.f57) [false, false, true, true, true] spec_index_Table_All_L1 := by
 intro c hc ih Q e w a hr h
 have hcc : sub (codeOf Try.f57) [false, false, false, true, true, true] = c := sub_of_codeAt hc
 obtain ⟨f, s, h, hrep⟩ := dec_index_Table_All_L1_ok e a _ hr h
 obtain ⟨J, μ, hj, hround⟩ := h
 refine loop_rule_deep seat_ok seat_mixed ih lit_index_Table_All_L1 dec_index_Table_All_L1 dec_index_Table_All_L1_ok hc f J μ (Kr := fun e w => False) (Kx := fun id e w => match Nat.beq id 0 with | true => (dx_index_Table_All_L1_0 e fun f1 outP_1 outN_1 outC_1 => f1 = f ∧ Q (.exit 0) [⟨5, .slice outP_1 outN_1 outC_1, none⟩] w) | false => False) ?_ ?_ ?_ s w a hj hrep
 ·intro e a w hr h
  exact h.elim
 ·intro id e a w hr h0
  (try dsimp only at h0)
  split at h0
  ·rename_i hid
   obtain rfl := Nat.eq_of_beq_eq_true hid
   unfold dx_index_Table_All_L1_0 at h0
   obtain ⟨t_1, g0, h1⟩ := oP_elim h0
   obtain ⟨k, g3, h2⟩ := oA_elim h1
   obtain ⟨outP_1, outN_1, outC_1, g5, h3⟩ := oS_elim h2
   obtain ⟨hf, hq⟩ := h3
   subst hf
   exact ⟨_, rep_less hr (by simp [g5]), hq⟩
  ·exact h0.elim
 ·intro s w hj
  have hb := hround s w hj
  rw [← hcc]
  have e1 := body_index_Table_All_L1 f s w (fun f1 s1 w1 => f1 = f ∧ J s1 w1 ∧ μ s1 w1 < μ s w) (fun f1 outP_1 outN_1 outC_1 w1 => f1 = f ∧ Q (.exit 0) [⟨5, .slice outP_1 outN_1 outC_1, none⟩] w1)
  simp only [true_and] at e1
  exact cast e1 hb
theorem loops_index_Table_All : LoopOk Try.prog Try.f57.ntmps G_index_Table_All (codeOf Try.f57) := loopOk_list rfl ⟨ok_index_Table_All_L1, trivial⟩
theorem C_index_Table_All.of {t : Option Addr} {k0x : Int} {k1x : ByteArray} {k2x : Int} {w : World} {R : Option Addr → Nat → Nat → World → Prop} (h : F_index_Table_All t k0x k1x k2x w R) : C_index_Table_All t k0x k1x k2x w R := ofS6 (Fm := F_index_Table_All t k0x k1x k2x w) Try.func57 (by kernel_rfl) loops_index_Table_All rfl (fun _ => by kernel_rfl) h
def F_cmp_isNaN (x : ByteArray) (w : World) (R : Bool → World → Prop) : Prop :=
 R (!(x.toList == x.toList)) w
theorem C_cmp_isNaN.of {x : ByteArray} {w : World} {R : Bool → World → Prop} (h : F_cmp_isNaN x w R) : C_cmp_isNaN x w R := ofS2 (Fm := F_cmp_isNaN x w) Try.func60 (by kernel_rfl) (L0 Try.f60) rfl (fun _ => by kernel_rfl) h
def F_cmp_isNaN__2 (x : Int) (w : World) (R : Bool → World → Prop) : Prop :=
 R (x != x) w
theorem C_cmp_isNaN__2.of {x : Int} {w : World} {R : Bool → World → Prop} (h : F_cmp_isNaN__2 x w R) : C_cmp_isNaN__2 x w R := ofS2 (Fm := F_cmp_isNaN__2 x w) Try.func61 (by kernel_rfl) (L0 Try.f61) rfl (fun _ => by kernel_rfl) h
structure S_ref06_large_L1 where
 i : Int
def F_ref06_large_k1 (R : Bool → World → Prop) (w1_2 : World) : Prop :=
 R true w1_2
def B_ref06_large_L1 (depth_1 : Int) (n_1 : Option Addr) (t : Addr) (s : S_ref06_large_L1) (w : World) (Kn : S_ref06_large_L1 → World → Prop) (Kx0 : World → Prop) (Kr : Bool → World → Prop) : Prop :=
 ∃ LP_1 LN_1 LC_1, w.cell? (t.add 3) = some (.slice LP_1 LN_1 LC_1) ∧
 If (decide (s.i < (LN_1 : Int)))
 (∃ LP_2 LN_2 LC_2, w.cell? (t.add 3) = some (.slice LP_2 LN_2 LC_2) ∧
 0 ≤ s.i ∧ s.i < (LN_2 : Int) ∧ NN LP_2 fun a_3 =>
 ∃ t440, w.cell? ((a_3.add (s.i.toNat * 4)).add 0) = some (.int .i64 t440) ∧
 ∃ t441, w.cell? ((a_3.add (s.i.toNat * 4)).add 1) = some (.int .i64 t441) ∧
 ∃ t442, w.cell? ((a_3.add (s.i.toNat * 4)).add 2) = some (.string t442) ∧
 ∃ t443P t443N t443C, w.cell? ((a_3.add (s.i.toNat * 4)).add 3) = some (.slice t443P t443N t443C) ∧
 C_ref06_large t440 t441 t442 t443P t443N t443C (IntKind.i64.wrap (depth_1 + (1 : Int))) n_1 w fun t48 w1_3 =>
 If t48
 (Kr true w1_3)
 (Kn ⟨(IntKind.i64.wrap (s.i + (1 : Int)))⟩ w1_3))
 (Kx0 w)
def F_ref06_large_L1 (depth_1 : Int) (n_1 : Option Addr) (t : Addr) (s : S_ref06_large_L1) (w : World) (Kx0 : World → Prop) (Kr : Bool → World → Prop) : Prop :=
 LoopS (fun s w Kn => B_ref06_large_L1 depth_1 n_1 t s w Kn Kx0 Kr) s w
def F_ref06_large (t0 : Int) (t1 : Int) (t2 : ByteArray) (t3P : Option Addr) (t3N : Nat) (t3C : Nat) (depth : Int) (n : Option Addr) (w : World) (R : Bool → World → Prop) : Prop :=
 New w (.cells #[.int .i64 t0, .int .i64 t1, .string t2, .slice t3P t3N t3C] 31) fun r w1 =>
 NN n fun a =>
 ∃ t11, (drw w1).cell? a = some (.int .i64 t11) ∧
 ∃ S, (drw w1).cell? (Addr.add ⟨r, 0, none⟩ 2) = some (.string S) ∧
 (16 : Int) ≠ 0 ∧
 NN n fun a_1 =>
 St (drw w1) (a_1.add 0) (.int .i64 (IntKind.i64.wrap ((IntKind.i64.wrap (t11 + (1 : Int))) + (IntKind.i64.wrap ((S.size : Int).tdiv (16 : Int)))))) fun w1_1 =>
 NN n fun a_2 =>
 ∃ t21, w1_1.cell? a_2 = some (.int .i64 t21) ∧
 If (decide (t21 > (6000 : Int)))
 (F_ref06_large_k1 R w1_1)
 (If (decide (depth > (300 : Int)))
 (F_ref06_large_k1 R w1_1)
 (∃ LP LN LC, w1_1.cell? (Addr.add ⟨r, 0, none⟩ 3) = some (.slice LP LN LC) ∧
 If (decide ((LN : Int) > (100 : Int)))
 (R true w1_1)
 (F_ref06_large_L1 depth n ⟨r, 0, none⟩ ⟨(0 : Int)⟩ w1_1
 (fun w1_4 =>
 R false w1_4)
 (fun t6_1 w1_5 =>
 R t6_1 w1_5))))
def lit_ref06_large_L1 (f : Int × (Option Addr) × Addr) (s : S_ref06_large_L1) : Env := [⟨1, .int .i64 f.1, none⟩, ⟨2, .pointer f.2.1, none⟩, ⟨3, .pointer (some f.2.2), none⟩, ⟨7, .int .i64 s.i, none⟩]
def dec_ref06_large_L1 (e : Env) (K : (Int × (Option Addr) × Addr) → S_ref06_large_L1 → Prop) : Prop :=
 oI e 1 .i64 fun depth_1 =>
 oP e 2 fun n_1 =>
 oA e 3 fun t =>
 oI e 7 .i64 fun i =>
  K (depth_1, n_1, t) ⟨i⟩
theorem dec_ref06_large_L1_ok {N : Nat} (e : Env) (a : Act) (K : (Int × (Option Addr) × Addr) → S_ref06_large_L1 → Prop) (hr : Rep N a e) (h0 : dec_ref06_large_L1 e K) : ∃ f s, K f s ∧ Rep N a (lit_ref06_large_L1 f s) := by
 unfold dec_ref06_large_L1 at h0
 obtain ⟨depth_1, g1, h1⟩ := oI_elim h0
 obtain ⟨n_1, g2, h2⟩ := oP_elim h1
 obtain ⟨t, g3, h3⟩ := oA_elim h2
 obtain ⟨i, g7, h4⟩ := oI_elim h3
 exact ⟨_, _, h4, rep_less hr (by simp [lit_ref06_large_L1, g1, g2, g3, g7])⟩
def spec_ref06_large_L1 (Q : Post) (e : Env) (w : World) : Prop :=
 dec_ref06_large_L1 e fun f s => F_ref06_large_L1 f.1 f.2.1 f.2.2 s w (fun w1 => Q (.exit 0) [] w1) (fun t6 w1 => Q .ret [⟨6, .bool t6, none⟩] w1)
def G_ref06_large : Gen where
 loop := lookL [([false, true, false, true, true, true], spec_ref06_large_L1)]
 plan := fun id =>
  bif Nat.beq id 1 then some ([0, 0, 2, 6, 14, 0, 32, 96, 224, 510, 1023, 2047], .take 0 (.take 1 (.take 2 (.take 3 (.take 4 (.take 5 (.take 6 (.take 7 (.take 8 (.take 9 (.take 10 (.take 11 .done)))))))))))) else none
def dx_ref06_large_L1_0 (e : Env) (K : (Int × (Option Addr) × Addr) → Prop) : Prop :=
 oI e 1 .i64 fun depth_1 =>
 oP e 2 fun n_1 =>
 oA e 3 fun t =>
  K (depth_1, n_1, t)
def dx_ref06_large_L1_ret (e : Env) (K : (Int × (Option Addr) × Addr) → Bool → Prop) : Prop :=
 oI e 1 .i64 fun depth_1 =>
 oP e 2 fun n_1 =>
 oA e 3 fun t =>
 oB e 6 fun t6 =>
  K (depth_1, n_1, t) t6
theorem body_ref06_large_L1 (f : Int × (Option Addr) × Addr) (s : S_ref06_large_L1) (w : World) (Kn : (Int × (Option Addr) × Addr) → S_ref06_large_L1 → World → Prop) (Kx0 : (Int × (Option Addr) × Addr) → World → Prop) (Kr : (Int × (Option Addr) × Addr) → Bool → World → Prop) :
  B_ref06_large_L1 f.1 f.2.1 f.2.2 s w (fun s1 w1 => Kn f s1 w1) (fun w1 => Kx0 f w1) (fun t6 w1 => Kr f t6 w1) =
  den Try.prog Try.f62.ntmps G_ref06_large (sub (codeOf Try.f62) [false, false, true, false, true, true, true]) [false, false, true, false, true, true, true] (roundQ (fun e w => dec_ref06_large_L1 e fun f s => Kn f s w) (fun e w => dx_ref06_large_L1_ret e fun f t6 => Kr f t6 w) (fun id e w => match Nat.beq id 0 with | true => dx_ref06_large_L1_0 e fun f => Kx0 f w | false => False)) (lit_ref06_large_L1 f s) w := by kernel_rfl
theorem ok_ref06_large_L1 : OneOk Try.prog Try.f62.ntmps G_ref06_large (codeOf Try.f62) [false, true, false, true, true, true] spec_ref06_large_L1 := by
 intro c hc ih Q e w a hr h
 have hcc : sub (codeOf Try.f62) [false, false, true, false, true, true, true] = c := sub_of_codeAt hc
 obtain ⟨f, s, h, hrep⟩ := dec_ref06_large_L1_ok e a _ hr h
 obtain ⟨J, μ, hj, hround⟩ := h
 refine loop_rule_deep seat_ok seat_mixed ih lit_ref06_large_L1 dec_ref06_large_L1 dec_ref06_large_L1_ok hc f J μ (Kr := fun e w => dx_ref06_large_L1_ret e fun f1 t6 => f1 = f ∧ Q .ret [⟨6, .bool t6, none⟩] w) (Kx := fun id e w => match Nat.beq id 0 with | true => (dx_ref06_large_L1_0 e fun f1 => f1 = f ∧ Q (.exit 0) [] w) | false => False) ?_ ?_ ?_ s w a hj hrep
 ·intro e a w hr h0
  unfold dx_ref06_large_L1_ret at h0
  obtain ⟨depth_1, g1, h1⟩ := oI_elim h0
  obtain ⟨n_1, g2, h2⟩ := oP_elim h1
  obtain ⟨t, g3, h3⟩ := oA_elim h2
  obtain ⟨t6, g6, h4⟩ := oB_elim h3
  obtain ⟨hf, hq⟩ := h4
  subst hf
  exact ⟨_, rep_less hr (by simp [g6]), hq⟩
 ·intro id e a w hr h0
  (try dsimp only at h0)
  split at h0
  ·rename_i hid
   obtain rfl := Nat.eq_of_beq_eq_true hid
   unfold dx_ref06_large_L1_0 at h0
   obtain ⟨depth_1, g1, h1⟩ := oI_elim h0
   obtain ⟨n_1, g2, h2⟩ := oP_elim h1
   obtain ⟨t, g3, h3⟩ := oA_elim h2
   obtain ⟨hf, hq⟩ := h3
   subst hf
   exact ⟨_, rep_less hr (by simp), hq⟩
  ·exact h0.elim
 ·intro s w hj
  have hb := hround s w hj
  rw [← hcc]
  have e1 := body_ref06_large_L1 f s w (fun f1 s1 w1 => f1 = f ∧ J s1 w1 ∧ μ s1 w1 < μ s w) (fun f1 w1 => f1 = f ∧ Q (.exit 0) [] w1) (fun f1 t6 w1 => f1 = f ∧ Q .ret [⟨6, .bool t6, none⟩] w1)
  simp only [true_and] at e1
  exact cast e1 hb
theorem loops_ref06_large : LoopOk Try.prog Try.f62.ntmps G_ref06_large (codeOf Try.f62) := loopOk_list rfl ⟨ok_ref06_large_L1, trivial⟩
theorem C_ref06_large.of {t0 : Int} {t1 : Int} {t2 : ByteArray} {t3P : Option Addr} {t3N : Nat} {t3C : Nat} {depth : Int} {n : Option Addr} {w : World} {R : Bool → World → Prop} (h : F_ref06_large t0 t1 t2 t3P t3N t3C depth n w R) : C_ref06_large t0 t1 t2 t3P t3N t3C depth n w R := ofS2 (Fm := F_ref06_large t0 t1 t2 t3P t3N t3C depth n w) Try.func62 (by kernel_rfl) loops_ref06_large rfl (fun _ => by kernel_rfl) h
def F_index_Table_behind_k1 (R : Int → Bool → World → Prop) (a_2 : Addr) (w1_25 : World) : Prop :=
 ∃ idx_3, w1_25.cell? (a_2.add 1) = some (.int .i64 idx_3) ∧
 R idx_3 true w1_25
def F_index_Table_behind_k2 (t : Option Addr) (rank : Int) (R : Int → Bool → World → Prop) (a_2 : Addr) (isx : Bool) (w1_19 : World) : Prop :=
 NN t fun a_3 =>
 ∃ rows_1, w1_19.cell? (a_3.add 0) = some (.map rows_1) ∧
 Run Try.prog (Instr.lookup 104 (.map rows_1) (.agg #[.int .i64 0, .string ⟨#[]⟩, .int .i64 0]) false) w1_19 fun v_2 w1_20 => ∃ t46P t46N t46C, v_2 = (.slice t46P t46N t46C) ∧
 C_index_row_after t46P t46N t46C rank w1_20 fun t4800 t4801 t481 w1_21 =>
 New w1_21 (.cells #[.int .i64 0, .int .i64 0] 115) fun r_5 w1_22 =>
 St w1_22 (Addr.add ⟨r_5, 0, none⟩ 0) (.int .i64 t4800) fun w1_23 =>
 St w1_23 (Addr.add ⟨r_5, 0, none⟩ 1) (.int .i64 t4801) fun w1_24 =>
 If (!isx)
 (∃ idx_1, w1_24.cell? (Addr.add ⟨r_5, 0, none⟩ 1) = some (.int .i64 idx_1) ∧
 R idx_1 t481 w1_24)
 (If t481
 (∃ rank_1, w1_24.cell? (Addr.add ⟨r_5, 0, none⟩ 0) = some (.int .i64 rank_1) ∧
 ∃ rank_2, w1_24.cell? (a_2.add 0) = some (.int .i64 rank_2) ∧
 If (decide (rank_1 < rank_2))
 (∃ idx_2, w1_24.cell? (Addr.add ⟨r_5, 0, none⟩ 1) = some (.int .i64 idx_2) ∧
 R idx_2 t481 w1_24)
 (F_index_Table_behind_k1 R a_2 w1_24))
 (F_index_Table_behind_k1 R a_2 w1_24))
def F_index_Table_behind (t : Option Addr) (rank : Int) (k0x : Int) (k1x : ByteArray) (k2x : Int) (w : World) (R : Int → Bool → World → Prop) : Prop :=
 New w (.cells #[.int .i64 k0x, .string k1x, .int .i64 k2x] 37) fun r w1 =>
 ∃ Kind, w1.cell? (Addr.add ⟨r, 0, none⟩ 0) = some (.int .i64 Kind) ∧
 If (Kind == (0 : Int))
 (NN t fun a =>
 ∃ allP allN allC, w1.cell? (a.add 1) = some (.slice allP allN allC) ∧
 C_index_row_after allP allN allC rank w1 fun t2300 t2301 t231 w1_1 =>
 New w1_1 (.cells #[.int .i64 0, .int .i64 0] 115) fun r_1 w1_2 =>
 St w1_2 (Addr.add ⟨r_1, 0, none⟩ 0) (.int .i64 t2300) fun w1_3 =>
 St w1_3 (Addr.add ⟨r_1, 0, none⟩ 1) (.int .i64 t2301) fun w1_4 =>
 ∃ idx, w1_4.cell? (Addr.add ⟨r_1, 0, none⟩ 1) = some (.int .i64 idx) ∧
 R idx t231 w1_4)
 (NN t fun a_1 =>
 ∃ rows, (drw w1).cell? (a_1.add 0) = some (.map rows) ∧
 ∃ t340, (drw w1).cell? (Addr.add ⟨r, 0, none⟩ 0) = some (.int .i64 t340) ∧
 ∃ t341, (drw w1).cell? (Addr.add ⟨r, 0, none⟩ 1) = some (.string t341) ∧
 ∃ t342, (drw w1).cell? (Addr.add ⟨r, 0, none⟩ 2) = some (.int .i64 t342) ∧
 (Run Try.prog (Instr.lookup 104 (.map rows) (.agg #[.int .i64 t340, .string t341, .int .i64 t342]) false) (drw w1) fun v w1_5 => ∃ t35P t35N t35C, v = (.slice t35P t35N t35C) ∧
 (C_index_row_after t35P t35N t35C rank w1_5 fun t3700 t3701 t371 w1_6 =>
 New w1_6 (.cells #[.int .i64 0, .int .i64 0] 115) fun r_2 w1_7 =>
 St w1_7 (Addr.add ⟨r_2, 0, none⟩ 0) (.int .i64 t3700) fun w1_8 =>
 St w1_8 (Addr.add ⟨r_2, 0, none⟩ 1) (.int .i64 t3701) fun w1_9 =>
 F_index_Table_behind_k2 t rank R ⟨r_2, 0, none⟩ t371 w1_9) ∧
 (New w1_5 (.cells #[.int .i64 0, .int .i64 0] 115) fun r_3 w1_10 =>
 C_index_row_after t35P t35N t35C rank w1_10 fun t3700_1 t3701_1 t371_1 w1_11 =>
 St w1_11 (Addr.add ⟨r_3, 0, none⟩ 0) (.int .i64 t3700_1) fun w1_12 =>
 St w1_12 (Addr.add ⟨r_3, 0, none⟩ 1) (.int .i64 t3701_1) fun w1_13 =>
 F_index_Table_behind_k2 t rank R ⟨r_3, 0, none⟩ t371_1 w1_13)) ∧
 (New (drw w1) (.cells #[.int .i64 0, .int .i64 0] 115) fun r_4 w1_14 =>
 (∀ i_, i_ < 3 → w1_14.cell? (Addr.add ⟨r, 0, none⟩ i_) = (drw w1).cell? (Addr.add ⟨r, 0, none⟩ i_)) ∧
 w1_14.cell? (a_1.add 0) = (drw w1).cell? (a_1.add 0) ∧
 Run Try.prog (Instr.lookup 104 (.map rows) (.agg #[.int .i64 t340, .string t341, .int .i64 t342]) false) w1_14 fun v_1 w1_15 => ∃ t35P_1 t35N_1 t35C_1, v_1 = (.slice t35P_1 t35N_1 t35C_1) ∧
 C_index_row_after t35P_1 t35N_1 t35C_1 rank w1_15 fun t3700_2 t3701_2 t371_2 w1_16 =>
 St w1_16 (Addr.add ⟨r_4, 0, none⟩ 0) (.int .i64 t3700_2) fun w1_17 =>
 St w1_17 (Addr.add ⟨r_4, 0, none⟩ 1) (.int .i64 t3701_2) fun w1_18 =>
 F_index_Table_behind_k2 t rank R ⟨r_4, 0, none⟩ t371_2 w1_18))
def G_index_Table_behind : Gen where
 loop := lookL []
 plan := fun id =>
  bif Nat.beq id 4 then some ([0, 1, 3, 7, 0, 31, 0, 127, 255, 511, 511, 0, 3071, 8191], .take 0 (.take 1 (.take 2 (.take 3 (.take 4 (.take 6 (.both 5 (.both 7 (.take 8 (.take 9 (.take 10 (.take 11 (.take 12 (.take 13 .done)))))) 11 (.take 7 (.take 8 (.take 9 (.take 10 (.take 12 (.take 13 .done))))))) 11 (.take 5 (.take 7 (.take 8 (.take 9 (.take 10 (.take 12 (.take 13 .done)))))))))))))) else none
theorem C_index_Table_behind.of {t : Option Addr} {rank : Int} {k0x : Int} {k1x : ByteArray} {k2x : Int} {w : World} {R : Int → Bool → World → Prop} (h : F_index_Table_behind t rank k0x k1x k2x w R) : C_index_Table_behind t rank k0x k1x k2x w R := ofS9 (Fm := F_index_Table_behind t rank k0x k1x k2x w) Try.func63 (by kernel_rfl) (L1 G_index_Table_behind Try.f63 fun _ => rfl) rfl (fun _ => by kernel_rfl) h
end Go.Proofs.Ytlndgaijekihiaa
