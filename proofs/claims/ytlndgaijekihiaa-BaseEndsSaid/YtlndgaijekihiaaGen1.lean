import Derived.Test.YtlndgaijekihiaaGenC
set_option maxRecDepth 100000
set_option linter.unusedVariables false
namespace Go.Proofs.Ytlndgaijekihiaa
open Go Go.D Go.Proofs
structure S_law19_BaseEnds_L1 where
 wantP : Option Addr
 wantN : Nat
 wantC : Nat
 i : Int
def F_law19_BaseEnds_k1 (R : Bool → World → Prop) (w1_2 : World) : Prop :=
 C_law19_lives  w1_2 fun t28 w1_3 =>
 R t28 w1_3
def F_law19_BaseEnds_k2 (s : S_law19_BaseEnds_L1) (Kn : S_law19_BaseEnds_L1 → World → Prop) (wantP_2 : Option Addr) (wantN_2 : Nat) (wantC_2 : Nat) (w1_13 : World) : Prop :=
 Kn ⟨wantP_2, wantN_2, wantC_2, (IntKind.i64.wrap (s.i + (1 : Int)))⟩ w1_13
def B_law19_BaseEnds_L1 (lP_1 : Option Addr) (lN_1 : Nat) (lC_1 : Nat) (b : Option Addr) (s : S_law19_BaseEnds_L1) (w : World) (Kn : S_law19_BaseEnds_L1 → World → Prop) (Kx0 : Option Addr → Nat → Nat → World → Prop) (Kr : Bool → World → Prop) : Prop :=
 If (decide (s.i < (lN_1 : Int)))
 (0 ≤ s.i ∧ s.i < (lN_1 : Int) ∧ NN lP_1 fun a =>
 ∃ t44, (drw w).cell? (a.add (s.i.toNat * 1)) = some (.bool t44) ∧
 C_ref06_Var (0 : Int) (drw w) fun t370 t371 t372 t373P t373N t373C w1_5 =>
 w1_5.cell? (a.add (s.i.toNat * 1)) = (drw w).cell? (a.add (s.i.toNat * 1)) ∧
 BSl Try.prog 29 1 [(0, .agg #[.int .i64 t370, .int .i64 t371, .string t372, .slice t373P t373N t373C])] w1_5 fun t38P t38N t38C w1_6 =>
 w1_6.cell? (a.add (s.i.toNat * 1)) = (drw w).cell? (a.add (s.i.toNat * 1)) ∧
 C_ref06_Comp ⟨#[112]⟩ t38P t38N t38C w1_6 fun t390 t391 t392 t393P t393N t393C w1_7 =>
 w1_7.cell? (a.add (s.i.toNat * 1)) = (drw w).cell? (a.add (s.i.toNat * 1)) ∧
 C_base_Base_Add b t390 t391 t392 t393P t393N t393C none 0 0 (0 : Int) none 0 0 t44 w1_7 fun t450 t451 w1_8 =>
 If (t451 != (0 : Int))
 (Kr false w1_8)
 (If (t450 != s.i)
 (Kr false w1_8)
 (0 ≤ s.i ∧ s.i < (lN_1 : Int) ∧ NN lP_1 fun a_1 =>
 ∃ t58, w1_8.cell? (a_1.add (s.i.toNat * 1)) = some (.bool t58) ∧
 If t58
 (BSl Try.prog 47 1 [(0, .int .i64 t450)] w1_8 fun t60P t60N t60C w1_9 =>
 App Try.prog #[47, 47] 47 #[.slice t60P t60N t60C, .slice s.wantP s.wantN s.wantC] w1_9 fun t62P t62N t62C w1_10 =>
 F_law19_BaseEnds_k2 s Kn t62P t62N t62C w1_10)
 (BSl Try.prog 47 1 [(0, .int .i64 t450)] w1_8 fun t65P t65N t65C w1_11 =>
 App Try.prog #[47, 47] 47 #[.slice s.wantP s.wantN s.wantC, .slice t65P t65N t65C] w1_11 fun t66P t66N t66C w1_12 =>
 F_law19_BaseEnds_k2 s Kn t66P t66N t66C w1_12))))
 (Kx0 s.wantP s.wantN s.wantC w)
def F_law19_BaseEnds_L1 (lP_1 : Option Addr) (lN_1 : Nat) (lC_1 : Nat) (b : Option Addr) (s : S_law19_BaseEnds_L1) (w : World) (Kx0 : Option Addr → Nat → Nat → World → Prop) (Kr : Bool → World → Prop) : Prop :=
 LoopS (fun s w Kn => B_law19_BaseEnds_L1 lP_1 lN_1 lC_1 b s w Kn Kx0 Kr) s w
def F_law19_BaseEnds (lP : Option Addr) (lN : Nat) (lC : Nat) (w : World) (R : Bool → World → Prop) : Prop :=
 C_base_New (1000 : Int) w fun t100 t101 w1 =>
 C_law19_lives  w1 fun t13 w1_1 =>
 If (!t13)
 (F_law19_BaseEnds_k1 R w1_1)
 (If (t101 != (0 : Int))
 (F_law19_BaseEnds_k1 R w1_1)
 (If t100.isNone
 (F_law19_BaseEnds_k1 R w1_1)
 (If (decide ((lN : Int) > (100 : Int)))
 (C_law19_lives  w1_1 fun t28_1 w1_4 =>
 R t28_1 w1_4)
 (F_law19_BaseEnds_L1 lP lN lC t100 ⟨none, 0, 0, (0 : Int)⟩ w1_1
 (fun wantP_3 wantN_3 wantC_3 w1_14 =>
 C_base_Base_Generation t100 w1_14 fun t69 w1_16 =>
 C_law19_all t100 ⟨#[112]⟩ (1 : Int) t69 w1_16 fun t70P t70N t70C w1_17 =>
 C_ref15_SameInts t70P t70N t70C wantP_3 wantN_3 wantC_3 w1_17 fun t72 w1_18 =>
 If t72
 (C_base_Base_Generation t100 w1_18 fun t75 w1_19 =>
 R (t75 == (lN : Int)) w1_19)
 (R false w1_18))
 (fun t2_1 w1_15 =>
 R t2_1 w1_15)))))
def lit_law19_BaseEnds_L1 (f : (Option Addr) × Nat × Nat × (Option Addr)) (s : S_law19_BaseEnds_L1) : Env := [⟨0, .slice f.1 f.2.1 f.2.2.1, none⟩, ⟨3, .pointer f.2.2.2, none⟩, ⟨5, .slice s.wantP s.wantN s.wantC, none⟩, ⟨6, .int .i64 s.i, none⟩]
def dec_law19_BaseEnds_L1 (e : Env) (K : ((Option Addr) × Nat × Nat × (Option Addr)) → S_law19_BaseEnds_L1 → Prop) : Prop :=
 oS e 0 fun lP_1 lN_1 lC_1 =>
 oP e 3 fun b =>
 oS e 5 fun wantP wantN wantC =>
 oI e 6 .i64 fun i =>
  K (lP_1, lN_1, lC_1, b) ⟨wantP, wantN, wantC, i⟩
theorem dec_law19_BaseEnds_L1_ok {N : Nat} (e : Env) (a : Act) (K : ((Option Addr) × Nat × Nat × (Option Addr)) → S_law19_BaseEnds_L1 → Prop) (hr : Rep N a e) (h0 : dec_law19_BaseEnds_L1 e K) : ∃ f s, K f s ∧ Rep N a (lit_law19_BaseEnds_L1 f s) := by
 unfold dec_law19_BaseEnds_L1 at h0
 obtain ⟨lP_1, lN_1, lC_1, g0, h1⟩ := oS_elim h0
 obtain ⟨b, g3, h2⟩ := oP_elim h1
 obtain ⟨wantP, wantN, wantC, g5, h3⟩ := oS_elim h2
 obtain ⟨i, g6, h4⟩ := oI_elim h3
 exact ⟨_, _, h4, rep_less hr (by simp [lit_law19_BaseEnds_L1, g0, g3, g5, g6])⟩
def spec_law19_BaseEnds_L1 (Q : Post) (e : Env) (w : World) : Prop :=
 dec_law19_BaseEnds_L1 e fun f s => F_law19_BaseEnds_L1 f.1 f.2.1 f.2.2.1 f.2.2.2 s w (fun wantP_1 wantN_1 wantC_1 w1 => Q (.exit 0) [⟨0, .slice f.1 f.2.1 f.2.2.1, none⟩, ⟨3, .pointer f.2.2.2, none⟩, ⟨5, .slice wantP_1 wantN_1 wantC_1, none⟩] w1) (fun t2 w1 => Q .ret [⟨2, .bool t2, none⟩] w1)
def G_law19_BaseEnds : Gen where
 loop := lookL [([false, true, false, true, true, true, true], spec_law19_BaseEnds_L1)]
 plan := fun id =>
  bif Nat.beq id 8 then some ([0, 0, 2, 6, 14, 0, 0, 96, 224, 511, 1023, 2047, 2047, 4095, 16383], .take 0 (.take 5 (.take 6 (.take 7 (.take 8 (.take 1 (.take 2 (.take 3 (.take 4 (.take 9 (.take 10 (.take 11 (.take 12 (.take 13 (.take 14 .done))))))))))))))) else none
def dx_law19_BaseEnds_L1_0 (e : Env) (K : ((Option Addr) × Nat × Nat × (Option Addr)) → Option Addr → Nat → Nat → Prop) : Prop :=
 oS e 0 fun lP_1 lN_1 lC_1 =>
 oP e 3 fun b =>
 oS e 5 fun wantP_1 wantN_1 wantC_1 =>
  K (lP_1, lN_1, lC_1, b) wantP_1 wantN_1 wantC_1
def dx_law19_BaseEnds_L1_ret (e : Env) (K : ((Option Addr) × Nat × Nat × (Option Addr)) → Bool → Prop) : Prop :=
 oS e 0 fun lP_1 lN_1 lC_1 =>
 oP e 3 fun b =>
 oB e 2 fun t2 =>
  K (lP_1, lN_1, lC_1, b) t2
theorem body_law19_BaseEnds_L1 (f : (Option Addr) × Nat × Nat × (Option Addr)) (s : S_law19_BaseEnds_L1) (w : World) (Kn : ((Option Addr) × Nat × Nat × (Option Addr)) → S_law19_BaseEnds_L1 → World → Prop) (Kx0 : ((Option Addr) × Nat × Nat × (Option Addr)) → Option Addr → Nat → Nat → World → Prop) (Kr : ((Option Addr) × Nat × Nat × (Option Addr)) → Bool → World → Prop) :
  B_law19_BaseEnds_L1 f.1 f.2.1 f.2.2.1 f.2.2.2 s w (fun s1 w1 => Kn f s1 w1) (fun wantP_1 wantN_1 wantC_1 w1 => Kx0 f wantP_1 wantN_1 wantC_1 w1) (fun t2 w1 => Kr f t2 w1) =
  den Try.prog Try.f4.ntmps G_law19_BaseEnds (sub (codeOf Try.f4) [false, false, true, false, true, true, true, true]) [false, false, true, false, true, true, true, true] (roundQ (fun e w => dec_law19_BaseEnds_L1 e fun f s => Kn f s w) (fun e w => dx_law19_BaseEnds_L1_ret e fun f t2 => Kr f t2 w) (fun id e w => match Nat.beq id 0 with | true => dx_law19_BaseEnds_L1_0 e fun f wantP_1 wantN_1 wantC_1 => Kx0 f wantP_1 wantN_1 wantC_1 w | false => False)) (lit_law19_BaseEnds_L1 f s) w := by kernel_rfl
theorem ok_law19_BaseEnds_L1 : OneOk Try.prog Try.f4.ntmps G_law19_BaseEnds (codeOf Try.f4) [false, true, false, true, true, true, true] spec_law19_BaseEnds_L1 := by
 intro c hc ih Q e w a hr h
 have hcc : sub (codeOf Try.f4) [false, false, true, false, true, true, true, true] = c := sub_of_codeAt hc
 obtain ⟨f, s, h, hrep⟩ := dec_law19_BaseEnds_L1_ok e a _ hr h
 obtain ⟨J, μ, hj, hround⟩ := h
 refine loop_rule_deep seat_ok seat_mixed ih lit_law19_BaseEnds_L1 dec_law19_BaseEnds_L1 dec_law19_BaseEnds_L1_ok hc f J μ (Kr := fun e w => dx_law19_BaseEnds_L1_ret e fun f1 t2 => f1 = f ∧ Q .ret [⟨2, .bool t2, none⟩] w) (Kx := fun id e w => match Nat.beq id 0 with | true => (dx_law19_BaseEnds_L1_0 e fun f1 wantP_1 wantN_1 wantC_1 => f1 = f ∧ Q (.exit 0) [⟨0, .slice f.1 f.2.1 f.2.2.1, none⟩, ⟨3, .pointer f.2.2.2, none⟩, ⟨5, .slice wantP_1 wantN_1 wantC_1, none⟩] w) | false => False) ?_ ?_ ?_ s w a hj hrep
 ·intro e a w hr h0
  unfold dx_law19_BaseEnds_L1_ret at h0
  obtain ⟨lP_1, lN_1, lC_1, g0, h1⟩ := oS_elim h0
  obtain ⟨b, g3, h2⟩ := oP_elim h1
  obtain ⟨t2, g2, h3⟩ := oB_elim h2
  obtain ⟨hf, hq⟩ := h3
  subst hf
  exact ⟨_, rep_less hr (by simp [g2]), hq⟩
 ·intro id e a w hr h0
  (try dsimp only at h0)
  split at h0
  ·rename_i hid
   obtain rfl := Nat.eq_of_beq_eq_true hid
   unfold dx_law19_BaseEnds_L1_0 at h0
   obtain ⟨lP_1, lN_1, lC_1, g0, h1⟩ := oS_elim h0
   obtain ⟨b, g3, h2⟩ := oP_elim h1
   obtain ⟨wantP_1, wantN_1, wantC_1, g5, h3⟩ := oS_elim h2
   obtain ⟨hf, hq⟩ := h3
   subst hf
   exact ⟨_, rep_less hr (by simp [g0, g3, g5]), hq⟩
  ·exact h0.elim
 ·intro s w hj
  have hb := hround s w hj
  rw [← hcc]
  have e1 := body_law19_BaseEnds_L1 f s w (fun f1 s1 w1 => f1 = f ∧ J s1 w1 ∧ μ s1 w1 < μ s w) (fun f1 wantP_1 wantN_1 wantC_1 w1 => f1 = f ∧ Q (.exit 0) [⟨0, .slice f.1 f.2.1 f.2.2.1, none⟩, ⟨3, .pointer f.2.2.2, none⟩, ⟨5, .slice wantP_1 wantN_1 wantC_1, none⟩] w1) (fun f1 t2 w1 => f1 = f ∧ Q .ret [⟨2, .bool t2, none⟩] w1)
  simp only [true_and] at e1
  exact cast e1 hb
theorem loops_law19_BaseEnds : LoopOk Try.prog Try.f4.ntmps G_law19_BaseEnds (codeOf Try.f4) := loopOk_list rfl ⟨ok_law19_BaseEnds_L1, trivial⟩
theorem C_law19_BaseEnds.of {lP : Option Addr} {lN : Nat} {lC : Nat} {w : World} {R : Bool → World → Prop} (h : F_law19_BaseEnds lP lN lC w R) : C_law19_BaseEnds lP lN lC w R := ofS2 (Fm := F_law19_BaseEnds lP lN lC w) Try.func4 (by kernel_rfl) loops_law19_BaseEnds rfl (fun _ => by kernel_rfl) h
def F_law19_lives_k1 (R : Bool → World → Prop) (w1_36 : World) : Prop :=
 R false w1_36
def F_law19_lives (w : World) (R : Bool → World → Prop) : Prop :=
 C_base_New (3 : Int) w fun t210 t211 w1 =>
 If (t211 != (0 : Int))
 (R false w1)
 (If t210.isNone
 (R false w1)
 (C_law19_fact (1 : Int) w1 fun t320 t321 t322 t323P t323N t323C t324P t324N t324C t325 w1_1 =>
 BSl Try.prog 35 1 [(0, .agg #[.int .i64 25, .string ⟨#[]⟩, .int .i64 0, .int .i64 0, .int .i64 0])] w1_1 fun t34P t34N t34C w1_2 =>
 C_base_Base_Add t210 t320 t321 t322 t323P t323N t323C t324P t324N t324C t325 t34P t34N t34C false w1_2 fun t350 t351 w1_3 =>
 C_law19_fact (2 : Int) w1_3 fun t400 t401 t402 t403P t403N t403C t404P t404N t404C t405 w1_4 =>
 C_base_Base_Add t210 t400 t401 t402 t403P t403N t403C t404P t404N t404C t405 none 0 0 true w1_4 fun t410 t411 w1_5 =>
 C_base_Base_Kill t210 t350 w1_5 fun t46 w1_6 =>
 C_base_Base_Head t210 ⟨#[112]⟩ (1 : Int) (0 : Int) ⟨#[]⟩ (0 : Int) (2 : Int) w1_6 fun t500 t501 w1_7 =>
 C_base_Base_Next t210 t500 (0 : Int) ⟨#[]⟩ (0 : Int) (2 : Int) w1_7 fun t570 t571 w1_8 =>
 C_base_Base_Next t210 t500 (0 : Int) ⟨#[]⟩ (0 : Int) (3 : Int) w1_8 fun t640 t641 w1_9 =>
 C_base_Base_Clause t210 t410 w1_9 fun t7000 t7001 t7002 t7003P t7003N t7003C t7004P t7004N t7004C t7005 t701 w1_10 =>
 New w1_10 (.cells #[.int .i64 0, .int .i64 0, .string ⟨#[]⟩, .slice none 0 0, .slice none 0 0, .int .i64 0] 34) fun r w1_11 =>
 St w1_11 (Addr.add ⟨r, 0, none⟩ 0) (.int .i64 t7000) fun w1_12 =>
 St w1_12 (Addr.add ⟨r, 0, none⟩ 1) (.int .i64 t7001) fun w1_13 =>
 St w1_13 (Addr.add ⟨r, 0, none⟩ 2) (.string t7002) fun w1_14 =>
 St w1_14 (Addr.add ⟨r, 0, none⟩ 3) (.slice t7003P t7003N t7003C) fun w1_15 =>
 St w1_15 (Addr.add ⟨r, 0, none⟩ 4) (.slice t7004P t7004N t7004C) fun w1_16 =>
 St w1_16 (Addr.add ⟨r, 0, none⟩ 5) (.int .i64 t7005) fun w1_17 =>
 C_base_Base_At t210 t350 (0 : Int) w1_17 fun t7600 t7601 t7602 t7603 t7604 t761 w1_18 =>
 New w1_18 (.cells #[.int .i64 0, .string ⟨#[]⟩, .int .i64 0, .int .i64 0, .int .i64 0] 60) fun r_1 w1_19 =>
 St w1_19 (Addr.add ⟨r_1, 0, none⟩ 0) (.int .i64 t7600) fun w1_20 =>
 St w1_20 (Addr.add ⟨r_1, 0, none⟩ 1) (.string t7601) fun w1_21 =>
 St w1_21 (Addr.add ⟨r_1, 0, none⟩ 2) (.int .i64 t7602) fun w1_22 =>
 St w1_22 (Addr.add ⟨r_1, 0, none⟩ 3) (.int .i64 t7603) fun w1_23 =>
 St w1_23 (Addr.add ⟨r_1, 0, none⟩ 4) (.int .i64 t7604) fun w1_24 =>
 C_base_New (0 : Int) w1_24 fun t800 t801 w1_25 =>
 If (t350 == (0 : Int))
 (If (t351 == (0 : Int))
 (If (t410 == (1 : Int))
 (If (t411 == (0 : Int))
 (If (t46 == (0 : Int))
 (C_base_Base_Generation t210 (drw w1_25) fun t103 w1_26 =>
 If (t103 == (3 : Int))
 (If t501
 (If (t500 == t410)
 (If t571
 (If (t570 == t350)
 (If (!t641)
 (C_base_Base_Lives t210 t350 (2 : Int) w1_26 fun t129 w1_27 =>
 If t129
 (C_base_Base_Lives t210 t350 (3 : Int) w1_27 fun t134 w1_28 =>
 If (!t134)
 (C_base_Base_Known t210 ⟨#[112]⟩ (1 : Int) w1_28 fun t139 w1_29 =>
 If t139
 (C_base_Base_Known t210 ⟨#[112]⟩ (2 : Int) w1_29 fun t143 w1_30 =>
 If (!t143)
 (If (t701 == (0 : Int))
 (∃ Head0, w1_30.cell? ((Addr.add ⟨r, 0, none⟩ 0).add 0) = some (.int .i64 Head0) ∧
 ∃ Head1, w1_30.cell? ((Addr.add ⟨r, 0, none⟩ 0).add 1) = some (.int .i64 Head1) ∧
 ∃ Head2, w1_30.cell? ((Addr.add ⟨r, 0, none⟩ 0).add 2) = some (.string Head2) ∧
 ∃ Head3P Head3N Head3C, w1_30.cell? ((Addr.add ⟨r, 0, none⟩ 0).add 3) = some (.slice Head3P Head3N Head3C) ∧
 C_law19_fact (2 : Int) w1_30 fun t1530 t1531 t1532 t1533P t1533N t1533C t1534P t1534N t1534C t1535 w1_31 =>
 (∀ i_, i_ < 4 → w1_31.cell? ((Addr.add ⟨r, 0, none⟩ 0).add i_) = w1_30.cell? ((Addr.add ⟨r, 0, none⟩ 0).add i_)) ∧
 C_ref06_Exact Head0 Head1 Head2 Head3P Head3N Head3C t1530 t1531 t1532 t1533P t1533N t1533C w1_31 fun t155 w1_32 =>
 If t155
 (If t761
 (∃ Op, w1_32.cell? (Addr.add ⟨r_1, 0, none⟩ 0) = some (.int .i64 Op) ∧
 If (Op == (25 : Int))
 (C_base_Base_Size t210 t350 w1_32 fun t168 w1_33 =>
 If (t168 == (1 : Int))
 (C_base_Base_Preds t210 w1_33 fun t173P t173N t173C w1_34 =>
 If ((t173N : Int) == (1 : Int))
 (C_base_Base_Slots t210 w1_34 fun t179 w1_35 =>
 If (t179 == (2 : Int))
 (R (t801 == (1 : Int)) w1_35)
 (F_law19_lives_k1 R w1_35))
 (F_law19_lives_k1 R w1_34))
 (F_law19_lives_k1 R w1_33))
 (F_law19_lives_k1 R w1_32))
 (F_law19_lives_k1 R w1_32))
 (F_law19_lives_k1 R w1_32))
 (F_law19_lives_k1 R w1_30))
 (F_law19_lives_k1 R w1_30))
 (F_law19_lives_k1 R w1_29))
 (F_law19_lives_k1 R w1_28))
 (F_law19_lives_k1 R w1_27))
 (F_law19_lives_k1 R w1_26))
 (F_law19_lives_k1 R w1_26))
 (F_law19_lives_k1 R w1_26))
 (F_law19_lives_k1 R w1_26))
 (F_law19_lives_k1 R w1_26))
 (F_law19_lives_k1 R w1_26))
 (F_law19_lives_k1 R (drw w1_25)))
 (F_law19_lives_k1 R (drw w1_25)))
 (F_law19_lives_k1 R (drw w1_25)))
 (F_law19_lives_k1 R (drw w1_25)))
 (F_law19_lives_k1 R (drw w1_25))))
def G_law19_lives : Gen where
 loop := lookL []
 plan := fun id =>
  bif Nat.beq id 13 then some ([0, 1, 3, 7, 15, 31, 63, 127, 255, 511, 1023, 2047, 4095, 8191, 16383, 32767, 65535, 131071, 262143, 524287, 1048575, 2097151, 4194303, 8388607, 16777215, 33554431, 67108863, 134217727, 134217727, 536870911, 1073741823, 2147483647, 4294967295, 8589934591, 17179869183, 34359738367, 34359738367, 137438953471, 274877906943, 549755813887, 1099511627775, 2199023255551, 4398046511103, 8796093022207, 17592186044415, 17592186044415, 70368744177663, 140737488355327, 281474976710655, 562949953421311, 562949953421311, 2251799813685247, 4503599627370495, 9007199254740991, 18014398509481983, 36028797018963967, 72057594037927935, 144115188075855871, 288230376151711743, 576460752303423487, 1152921504606846975, 2305843009213693951, 4611686018427387903, 9223372036854775807, 18446744073709551615, 36893488147419103231, 73786976294838206463, 147573952589676412927, 295147905179352825855, 590295810358705651711, 295147905179352825855, 1475739525896764129279, 4722366482869645213695, 9444732965739290427391, 18889465931478580854783, 37778931862957161709567, 75557863725914323419135, 151115727451828646838271, 302231454903657293676543, 604462909807314587353087, 1208925819614629174706175, 2417851639229258349412351, 4835703278458516698824703, 9671406556917033397649407, 9671406556917033397649407, 38685626227668133590597631, 77371252455336267181195263, 154742504910672534362390527, 309485009821345068724781055, 618970019642690137449562111, 1237940039285380274899124223, 2475880078570760549798248447, 4951760157141521099596496895, 9903520314283042199192993791, 19807040628566084398385987583, 39614081257132168796771975167, 79228162514264337593543950335, 158456325028528675187087900671, 316912650057057350374175801343, 633825300114114700748351602687, 1267650600228229401496703205375, 2535301200456458802993406410751, 5070602400912917605986812821503, 10141204801825835211973625643007], .take 0 (.take 1 (.take 2 (.take 3 (.take 4 (.take 5 (.take 6 (.take 7 (.take 8 (.take 9 (.take 10 (.take 11 (.take 12 (.take 13 (.take 14 (.take 15 (.take 16 (.take 17 (.take 18 (.take 19 (.take 20 (.take 21 (.take 22 (.take 23 (.take 24 (.take 25 (.take 26 (.take 27 (.take 28 (.take 29 (.take 30 (.take 31 (.take 32 (.take 33 (.take 34 (.take 35 (.take 36 (.take 37 (.take 38 (.take 39 (.take 40 (.take 41 (.take 42 (.take 43 (.take 44 (.take 45 (.take 46 (.take 47 (.take 48 (.take 49 (.take 50 (.take 51 (.take 52 (.take 53 (.take 54 (.take 55 (.take 56 (.take 57 (.take 58 (.take 59 (.take 60 (.take 61 (.take 62 (.take 63 (.take 64 (.take 65 (.take 66 (.take 67 (.take 68 (.take 69 (.take 70 (.take 71 (.take 72 (.take 73 (.take 74 (.take 75 (.take 76 (.take 77 (.take 78 (.take 79 (.take 80 (.take 81 (.take 82 (.take 83 (.take 84 (.take 85 (.take 86 (.take 87 (.take 88 (.take 89 (.take 90 (.take 91 (.take 92 (.take 93 (.take 94 (.take 95 (.take 96 (.take 97 (.take 98 (.take 99 (.take 100 (.take 101 (.take 102 (.take 103 .done)))))))))))))))))))))))))))))))))))))))))))))))))))))))))))))))))))))))))))))))))))))))))))))))))))))))) else none
theorem C_law19_lives.of {w : World} {R : Bool → World → Prop} (h : F_law19_lives w R) : C_law19_lives w R := ofS2 (Fm := F_law19_lives w) Try.func6 (by kernel_rfl) (L1 G_law19_lives Try.f6 fun _ => rfl) rfl (fun _ => by kernel_rfl) h
end Go.Proofs.Ytlndgaijekihiaa
