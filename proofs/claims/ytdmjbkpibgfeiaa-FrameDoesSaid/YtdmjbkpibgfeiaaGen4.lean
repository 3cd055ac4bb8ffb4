/- The formulas of this seat's functions, held against the loaded program by the kernel. Printed by a program. -/
import Derived.Test.YtdmjbkpibgfeiaaGenC
set_option maxRecDepth 100000
set_option linter.unusedVariables false
namespace Go.Proofs.Ytdmjbkpibgfeiaa
open Go Go.D Go.Proofs

structure S_frame_Stack_Change_L2 where
  t26 : Int

structure S_frame_Stack_Change_L1 where
  t19 : Int

/-- One round. -/
def B_frame_Stack_Change_L2 (change_2 : Addr) (cx : Addr) (t17P_1 : Option Addr) (t17N_1 : Nat) (t17C_1 : Nat) (t18_1 : Int) (t19_1 : Int) (t24P : Option Addr) (t24N : Nat) (t24C : Nat) (t25 : Int) (s : S_frame_Stack_Change_L2) (w : World) (Kn : S_frame_Stack_Change_L2 → World → Prop) (Kx2 : World → Prop) : Prop :=
  If (decide ((s.t26 : Int) < t25))
  (0 ≤ (s.t26 : Int) ∧ (s.t26 : Int) < (t24N : Int) ∧ NN t24P fun a_2 =>
  ∃ t30 : Int, w.cell? (a_2.add ((s.t26 : Int).toNat * 1)) = some (.int .u64 t30) ∧
  ∃ ArgsP_1 : Option Addr, ∃ ArgsN_1 : Nat, ∃ ArgsC_1 : Nat, (drw w).cell? (cx.add 1) = some (.slice ArgsP_1 ArgsN_1 ArgsC_1) ∧
  ∃ t34 : Value, (drw w).cell? change_2 = some (t34) ∧
  CallV Try.prog t34 [.int .u64 t30] (drw w) fun v w1_14 => ∃ t36 : Int, v = (.int .u64 t36) ∧
  w1_14.cell? (cx.add 1) = (drw w).cell? (cx.add 1) ∧
  0 ≤ (s.t26 : Int) ∧ (s.t26 : Int) < (ArgsN_1 : Int) ∧ NN ArgsP_1 fun a_3 =>
  St w1_14 ((a_3.add ((s.t26 : Int).toNat * 1)).add 0) (.int .u64 t36) fun w1_15 =>
  Kn ⟨(IntKind.i64.wrap ((s.t26 : Int) + (1 : Int)))⟩ w1_15)
  (Kx2 w)

def F_frame_Stack_Change_L2 (change_2 : Addr) (cx : Addr) (t17P_1 : Option Addr) (t17N_1 : Nat) (t17C_1 : Nat) (t18_1 : Int) (t19_1 : Int) (t24P : Option Addr) (t24N : Nat) (t24C : Nat) (t25 : Int) (s : S_frame_Stack_Change_L2) (w : World) (Kx2 : World → Prop) : Prop :=
  LoopS (fun s w Kn => B_frame_Stack_Change_L2 change_2 cx t17P_1 t17N_1 t17C_1 t18_1 t19_1 t24P t24N t24C t25 s w Kn Kx2) s w

/-- One round. -/
def B_frame_Stack_Change_L1 (change_1 : Addr) (t17P : Option Addr) (t17N : Nat) (t17C : Nat) (t18 : Int) (s : S_frame_Stack_Change_L1) (w : World) (Kn : S_frame_Stack_Change_L1 → World → Prop) (Kx0 : World → Prop) : Prop :=
  If (decide ((s.t19 : Int) < t18))
  (0 ≤ (s.t19 : Int) ∧ (s.t19 : Int) < (t17N : Int) ∧ NN t17P fun a_1 =>
  ∃ t220 : Int, w.cell? ((a_1.add ((s.t19 : Int).toNat * 9)).add 0) = some (.int .i64 t220) ∧
  ∃ t221P : Option Addr, ∃ t221N : Nat, ∃ t221C : Nat, w.cell? ((a_1.add ((s.t19 : Int).toNat * 9)).add 1) = some (.slice t221P t221N t221C) ∧
  ∃ t222 : Int, w.cell? ((a_1.add ((s.t19 : Int).toNat * 9)).add 2) = some (.int .i64 t222) ∧
  ∃ t223 : Int, w.cell? ((a_1.add ((s.t19 : Int).toNat * 9)).add 3) = some (.int .i64 t223) ∧
  ∃ t224 : Int, w.cell? ((a_1.add ((s.t19 : Int).toNat * 9)).add 4) = some (.int .i64 t224) ∧
  ∃ t225 : Int, w.cell? ((a_1.add ((s.t19 : Int).toNat * 9)).add 5) = some (.int .i64 t225) ∧
  ∃ t226 : Int, w.cell? ((a_1.add ((s.t19 : Int).toNat * 9)).add 6) = some (.int .i64 t226) ∧
  ∃ t227 : Int, w.cell? ((a_1.add ((s.t19 : Int).toNat * 9)).add 7) = some (.int .i64 t227) ∧
  ∃ t228 : Int, w.cell? ((a_1.add ((s.t19 : Int).toNat * 9)).add 8) = some (.int .i64 t228) ∧
  New w (.cells #[.int .i64 0, .slice none 0 0, .int .i64 0, .int .i64 0, .int .i64 0, .int .i64 0, .int .i64 0, .int .i64 0, .int .i64 0] 34) fun r_2 w1_4 =>
  St w1_4 ((⟨r_2, 0, none⟩ : Addr).add 0) (.int .i64 t220) fun w1_5 =>
  St w1_5 ((⟨r_2, 0, none⟩ : Addr).add 1) (.slice t221P t221N t221C) fun w1_6 =>
  St w1_6 ((⟨r_2, 0, none⟩ : Addr).add 2) (.int .i64 t222) fun w1_7 =>
  St w1_7 ((⟨r_2, 0, none⟩ : Addr).add 3) (.int .i64 t223) fun w1_8 =>
  St w1_8 ((⟨r_2, 0, none⟩ : Addr).add 4) (.int .i64 t224) fun w1_9 =>
  St w1_9 ((⟨r_2, 0, none⟩ : Addr).add 5) (.int .i64 t225) fun w1_10 =>
  St w1_10 ((⟨r_2, 0, none⟩ : Addr).add 6) (.int .i64 t226) fun w1_11 =>
  St w1_11 ((⟨r_2, 0, none⟩ : Addr).add 7) (.int .i64 t227) fun w1_12 =>
  St w1_12 ((⟨r_2, 0, none⟩ : Addr).add 8) (.int .i64 t228) fun w1_13 =>
  ∃ ArgsP : Option Addr, ∃ ArgsN : Nat, ∃ ArgsC : Nat, w1_13.cell? ((⟨r_2, 0, none⟩ : Addr).add 1) = some (.slice ArgsP ArgsN ArgsC) ∧
  F_frame_Stack_Change_L2 change_1 ⟨r_2, 0, none⟩ t17P t17N t17C t18 (s.t19 : Int) ArgsP ArgsN ArgsC (ArgsN : Int) ⟨(0 : Int)⟩ w1_13
  (fun w1_16 =>
  Kn ⟨(IntKind.i64.wrap ((s.t19 : Int) + (1 : Int)))⟩ w1_16))
  (Kx0 w)

def F_frame_Stack_Change_L1 (change_1 : Addr) (t17P : Option Addr) (t17N : Nat) (t17C : Nat) (t18 : Int) (s : S_frame_Stack_Change_L1) (w : World) (Kx0 : World → Prop) : Prop :=
  LoopS (fun s w Kn => B_frame_Stack_Change_L1 change_1 t17P t17N t17C t18 s w Kn Kx0) s w

def F_frame_Stack_Change (sx : Option Addr) (change : Value) (w : World) (R : World → Prop) : Prop :=
  New w (.cells #[.pointer sx] 23) fun r w1 =>
  New w1 (.cells (Value.cells change) 61) fun r_1 w1_1 =>
  ∃ t8 : Option Addr, w1_1.cell? ⟨r, 0, none⟩ = some (.pointer t8) ∧
  C_frame_Stack_made t8 w1_1 fun t9 w1_2 =>
  If (!t9)
  (R w1_2)
  (∃ t11 : Option Addr, w1_2.cell? ⟨r, 0, none⟩ = some (.pointer t11) ∧
  C_frame_Stack_all t11 (.func (.func 62) #[] #[.pointer (some ⟨r, 0, none⟩), .pointer (some ⟨r_1, 0, none⟩)]) w1_2 fun w1_3 =>
  ∃ t14 : Option Addr, w1_3.cell? ⟨r, 0, none⟩ = some (.pointer t14) ∧
  NN t14 fun a =>
  ∃ lP : Option Addr, ∃ lN : Nat, ∃ lC : Nat, w1_3.cell? (a.add 2) = some (.slice lP lN lC) ∧
  F_frame_Stack_Change_L1 ⟨r_1, 0, none⟩ lP lN lC (lN : Int) ⟨(0 : Int)⟩ w1_3
  (fun w1_17 =>
  R w1_17))

def lit_frame_Stack_Change_L1 (f : Addr × (Option Addr) × Nat × Nat × Int) (s : S_frame_Stack_Change_L1) : Env := [⟨3, .pointer (some f.1), none⟩, ⟨17, .slice f.2.1 f.2.2.1 f.2.2.2.1, none⟩, ⟨18, .int .i64 f.2.2.2.2, none⟩, ⟨19, .int .i64 s.t19, none⟩]

def dec_frame_Stack_Change_L1 (e : Env) (K : (Addr × (Option Addr) × Nat × Nat × Int) → S_frame_Stack_Change_L1 → Prop) : Prop :=
  onV (getV e 3) fun u1 =>
  asA u1 fun change_1 =>
  onV (getV e 17) fun u2 =>
  asS u2 fun t17P t17N t17C =>
  onV (getV e 18) fun u3 =>
  asI .i64 u3 fun t18 =>
  onV (getV e 19) fun u4 =>
  asI .i64 u4 fun t19 =>
    K (change_1, t17P, t17N, t17C, t18) ⟨t19⟩

theorem dec_frame_Stack_Change_L1_ok {N : Nat} (e : Env) (a : Act) (K : (Addr × (Option Addr) × Nat × Nat × Int) → S_frame_Stack_Change_L1 → Prop) (hr : Rep N a e) (h0 : dec_frame_Stack_Change_L1 e K) : ∃ f s, K f s ∧ Rep N a (lit_frame_Stack_Change_L1 f s) := by
  unfold dec_frame_Stack_Change_L1 at h0
  obtain ⟨u1, g3, h1⟩ := onV_elim h0
  obtain ⟨change_1, rfl, h2⟩ := asA_elim h1
  obtain ⟨u2, g17, h3⟩ := onV_elim h2
  obtain ⟨t17P, t17N, t17C, rfl, h4⟩ := asS_elim h3
  obtain ⟨u3, g18, h5⟩ := onV_elim h4
  obtain ⟨t18, rfl, h6⟩ := asI_elim h5
  obtain ⟨u4, g19, h7⟩ := onV_elim h6
  obtain ⟨t19, rfl, h8⟩ := asI_elim h7
  exact ⟨_, _, h8, rep_less hr (by simp [lit_frame_Stack_Change_L1, g3, g17, g18, g19])⟩

def spec_frame_Stack_Change_L1 (Q : Post) (e : Env) (w : World) : Prop :=
  dec_frame_Stack_Change_L1 e fun f s => F_frame_Stack_Change_L1 f.1 f.2.1 f.2.2.1 f.2.2.2.1 f.2.2.2.2 s w (fun w1 => Q (.exit 0) [] w1)

def lit_frame_Stack_Change_L2 (f : Addr × Addr × (Option Addr) × Nat × Nat × Int × Int × (Option Addr) × Nat × Nat × Int) (s : S_frame_Stack_Change_L2) : Env := [⟨3, .pointer (some f.1), none⟩, ⟨5, .pointer (some f.2.1), none⟩, ⟨17, .slice f.2.2.1 f.2.2.2.1 f.2.2.2.2.1, none⟩, ⟨18, .int .i64 f.2.2.2.2.2.1, none⟩, ⟨19, .int .i64 f.2.2.2.2.2.2.1, none⟩, ⟨24, .slice f.2.2.2.2.2.2.2.1 f.2.2.2.2.2.2.2.2.1 f.2.2.2.2.2.2.2.2.2.1, none⟩, ⟨25, .int .i64 f.2.2.2.2.2.2.2.2.2.2, none⟩, ⟨26, .int .i64 s.t26, none⟩]

def dec_frame_Stack_Change_L2 (e : Env) (K : (Addr × Addr × (Option Addr) × Nat × Nat × Int × Int × (Option Addr) × Nat × Nat × Int) → S_frame_Stack_Change_L2 → Prop) : Prop :=
  onV (getV e 3) fun u1 =>
  asA u1 fun change_2 =>
  onV (getV e 5) fun u2 =>
  asA u2 fun cx =>
  onV (getV e 17) fun u3 =>
  asS u3 fun t17P_1 t17N_1 t17C_1 =>
  onV (getV e 18) fun u4 =>
  asI .i64 u4 fun t18_1 =>
  onV (getV e 19) fun u5 =>
  asI .i64 u5 fun t19_1 =>
  onV (getV e 24) fun u6 =>
  asS u6 fun t24P t24N t24C =>
  onV (getV e 25) fun u7 =>
  asI .i64 u7 fun t25 =>
  onV (getV e 26) fun u8 =>
  asI .i64 u8 fun t26 =>
    K (change_2, cx, t17P_1, t17N_1, t17C_1, t18_1, t19_1, t24P, t24N, t24C, t25) ⟨t26⟩

theorem dec_frame_Stack_Change_L2_ok {N : Nat} (e : Env) (a : Act) (K : (Addr × Addr × (Option Addr) × Nat × Nat × Int × Int × (Option Addr) × Nat × Nat × Int) → S_frame_Stack_Change_L2 → Prop) (hr : Rep N a e) (h0 : dec_frame_Stack_Change_L2 e K) : ∃ f s, K f s ∧ Rep N a (lit_frame_Stack_Change_L2 f s) := by
  unfold dec_frame_Stack_Change_L2 at h0
  obtain ⟨u1, g3, h1⟩ := onV_elim h0
  obtain ⟨change_2, rfl, h2⟩ := asA_elim h1
  obtain ⟨u2, g5, h3⟩ := onV_elim h2
  obtain ⟨cx, rfl, h4⟩ := asA_elim h3
  obtain ⟨u3, g17, h5⟩ := onV_elim h4
  obtain ⟨t17P_1, t17N_1, t17C_1, rfl, h6⟩ := asS_elim h5
  obtain ⟨u4, g18, h7⟩ := onV_elim h6
  obtain ⟨t18_1, rfl, h8⟩ := asI_elim h7
  obtain ⟨u5, g19, h9⟩ := onV_elim h8
  obtain ⟨t19_1, rfl, h10⟩ := asI_elim h9
  obtain ⟨u6, g24, h11⟩ := onV_elim h10
  obtain ⟨t24P, t24N, t24C, rfl, h12⟩ := asS_elim h11
  obtain ⟨u7, g25, h13⟩ := onV_elim h12
  obtain ⟨t25, rfl, h14⟩ := asI_elim h13
  obtain ⟨u8, g26, h15⟩ := onV_elim h14
  obtain ⟨t26, rfl, h16⟩ := asI_elim h15
  exact ⟨_, _, h16, rep_less hr (by simp [lit_frame_Stack_Change_L2, g3, g5, g17, g18, g19, g24, g25, g26])⟩

def spec_frame_Stack_Change_L2 (Q : Post) (e : Env) (w : World) : Prop :=
  dec_frame_Stack_Change_L2 e fun f s => F_frame_Stack_Change_L2 f.1 f.2.1 f.2.2.1 f.2.2.2.1 f.2.2.2.2.1 f.2.2.2.2.2.1 f.2.2.2.2.2.2.1 f.2.2.2.2.2.2.2.1 f.2.2.2.2.2.2.2.2.1 f.2.2.2.2.2.2.2.2.2.1 f.2.2.2.2.2.2.2.2.2.2 s w (fun w1 => Q (.exit 2) [⟨3, .pointer (some f.1), none⟩, ⟨17, .slice f.2.2.1 f.2.2.2.1 f.2.2.2.2.1, none⟩, ⟨18, .int .i64 f.2.2.2.2.2.1, none⟩, ⟨19, .int .i64 f.2.2.2.2.2.2.1, none⟩] w1)

def G_frame_Stack_Change : Gen where
  loop := lookL [([false, true, true, true, true], spec_frame_Stack_Change_L1), ([false, true, true, false, false, true, true, false, false, true, true, true, true], spec_frame_Stack_Change_L2)]
  plan := fun id =>
    bif Nat.beq id 9 then some ([0, 1, 0, 0, 0, 24, 63, 127], .take 0 (.take 1 (.take 2 (.take 3 (.take 4 (.take 5 (.take 6 (.take 7 .done)))))))) else none

def dx_frame_Stack_Change_L1_0 (e : Env) (K : (Addr × (Option Addr) × Nat × Nat × Int) → Prop) : Prop :=
  onV (getV e 3) fun u1 =>
  asA u1 fun change_1 =>
  onV (getV e 17) fun u2 =>
  asS u2 fun t17P t17N t17C =>
  onV (getV e 18) fun u3 =>
  asI .i64 u3 fun t18 =>
    K (change_1, t17P, t17N, t17C, t18)

theorem body_frame_Stack_Change_L1 (f : Addr × (Option Addr) × Nat × Nat × Int) (s : S_frame_Stack_Change_L1) (w : World) (Kn : (Addr × (Option Addr) × Nat × Nat × Int) → S_frame_Stack_Change_L1 → World → Prop) (Kx0 : (Addr × (Option Addr) × Nat × Nat × Int) → World → Prop) :
    B_frame_Stack_Change_L1 f.1 f.2.1 f.2.2.1 f.2.2.2.1 f.2.2.2.2 s w (fun s1 w1 => Kn f s1 w1) (fun w1 => Kx0 f w1) =
    den Try.prog Try.f27.ntmps G_frame_Stack_Change (sub (codeOf Try.f27) [false, false, true, true, true, true]) [false, false, true, true, true, true] (roundQ (fun e w => dec_frame_Stack_Change_L1 e fun f s => Kn f s w) (fun e w => False) (fun id e w => match Nat.beq id 0 with | true => dx_frame_Stack_Change_L1_0 e fun f => Kx0 f w | false => False)) (lit_frame_Stack_Change_L1 f s) w := by kernel_rfl

def dx_frame_Stack_Change_L2_2 (e : Env) (K : (Addr × Addr × (Option Addr) × Nat × Nat × Int × Int × (Option Addr) × Nat × Nat × Int) → Prop) : Prop :=
  onV (getV e 3) fun u1 =>
  asA u1 fun change_2 =>
  onV (getV e 5) fun u2 =>
  asA u2 fun cx =>
  onV (getV e 17) fun u3 =>
  asS u3 fun t17P_1 t17N_1 t17C_1 =>
  onV (getV e 18) fun u4 =>
  asI .i64 u4 fun t18_1 =>
  onV (getV e 19) fun u5 =>
  asI .i64 u5 fun t19_1 =>
  onV (getV e 24) fun u6 =>
  asS u6 fun t24P t24N t24C =>
  onV (getV e 25) fun u7 =>
  asI .i64 u7 fun t25 =>
    K (change_2, cx, t17P_1, t17N_1, t17C_1, t18_1, t19_1, t24P, t24N, t24C, t25)

theorem body_frame_Stack_Change_L2 (f : Addr × Addr × (Option Addr) × Nat × Nat × Int × Int × (Option Addr) × Nat × Nat × Int) (s : S_frame_Stack_Change_L2) (w : World) (Kn : (Addr × Addr × (Option Addr) × Nat × Nat × Int × Int × (Option Addr) × Nat × Nat × Int) → S_frame_Stack_Change_L2 → World → Prop) (Kx2 : (Addr × Addr × (Option Addr) × Nat × Nat × Int × Int × (Option Addr) × Nat × Nat × Int) → World → Prop) :
    B_frame_Stack_Change_L2 f.1 f.2.1 f.2.2.1 f.2.2.2.1 f.2.2.2.2.1 f.2.2.2.2.2.1 f.2.2.2.2.2.2.1 f.2.2.2.2.2.2.2.1 f.2.2.2.2.2.2.2.2.1 f.2.2.2.2.2.2.2.2.2.1 f.2.2.2.2.2.2.2.2.2.2 s w (fun s1 w1 => Kn f s1 w1) (fun w1 => Kx2 f w1) =
    den Try.prog Try.f27.ntmps G_frame_Stack_Change (sub (codeOf Try.f27) [false, false, true, true, false, false, true, true, false, false, true, true, true, true]) [false, false, true, true, false, false, true, true, false, false, true, true, true, true] (roundQ (fun e w => dec_frame_Stack_Change_L2 e fun f s => Kn f s w) (fun e w => False) (fun id e w => match Nat.beq id 2 with | true => dx_frame_Stack_Change_L2_2 e fun f => Kx2 f w | false => False)) (lit_frame_Stack_Change_L2 f s) w := by kernel_rfl

theorem ok_frame_Stack_Change_L1 : OneOk Try.prog Try.f27.ntmps G_frame_Stack_Change (codeOf Try.f27) [false, true, true, true, true] spec_frame_Stack_Change_L1 := by
  intro c hc ih Q e w a hr h
  have hcc : sub (codeOf Try.f27) [false, false, true, true, true, true] = c := sub_of_codeAt hc
  obtain ⟨f, s, h, hrep⟩ := dec_frame_Stack_Change_L1_ok e a _ hr h
  obtain ⟨J, μ, hj, hround⟩ := h
  refine loop_rule_deep seat_ok seat_mixed ih lit_frame_Stack_Change_L1 dec_frame_Stack_Change_L1 dec_frame_Stack_Change_L1_ok hc f J μ (Kr := fun e w => False) (Kx := fun id e w => match Nat.beq id 0 with | true => (dx_frame_Stack_Change_L1_0 e fun f1 => f1 = f ∧ Q (.exit 0) [] w) | false => False) ?_ ?_ ?_ s w a hj hrep
  · intro e a w hr h
    exact h.elim
  · intro id e a w hr h0
    (try dsimp only at h0)
    split at h0
    · rename_i hid
      obtain rfl := Nat.eq_of_beq_eq_true hid
      unfold dx_frame_Stack_Change_L1_0 at h0
      obtain ⟨u1, g3, h1⟩ := onV_elim h0
      obtain ⟨change_1, rfl, h2⟩ := asA_elim h1
      obtain ⟨u2, g17, h3⟩ := onV_elim h2
      obtain ⟨t17P, t17N, t17C, rfl, h4⟩ := asS_elim h3
      obtain ⟨u3, g18, h5⟩ := onV_elim h4
      obtain ⟨t18, rfl, h6⟩ := asI_elim h5
      obtain ⟨hf, hq⟩ := h6
      subst hf
      exact ⟨_, rep_less hr (by simp), hq⟩
    · exact h0.elim
  · intro s w hj
    have hb := hround s w hj
    rw [← hcc]
    have e1 := body_frame_Stack_Change_L1 f s w (fun f1 s1 w1 => f1 = f ∧ J s1 w1 ∧ μ s1 w1 < μ s w) (fun f1 w1 => f1 = f ∧ Q (.exit 0) [] w1)
    simp only [true_and] at e1
    exact cast e1 hb

theorem ok_frame_Stack_Change_L2 : OneOk Try.prog Try.f27.ntmps G_frame_Stack_Change (codeOf Try.f27) [false, true, true, false, false, true, true, false, false, true, true, true, true] spec_frame_Stack_Change_L2 := by
  intro c hc ih Q e w a hr h
  have hcc : sub (codeOf Try.f27) [false, false, true, true, false, false, true, true, false, false, true, true, true, true] = c := sub_of_codeAt hc
  obtain ⟨f, s, h, hrep⟩ := dec_frame_Stack_Change_L2_ok e a _ hr h
  obtain ⟨J, μ, hj, hround⟩ := h
  refine loop_rule_deep seat_ok seat_mixed ih lit_frame_Stack_Change_L2 dec_frame_Stack_Change_L2 dec_frame_Stack_Change_L2_ok hc f J μ (Kr := fun e w => False) (Kx := fun id e w => match Nat.beq id 2 with | true => (dx_frame_Stack_Change_L2_2 e fun f1 => f1 = f ∧ Q (.exit 2) [⟨3, .pointer (some f.1), none⟩, ⟨17, .slice f.2.2.1 f.2.2.2.1 f.2.2.2.2.1, none⟩, ⟨18, .int .i64 f.2.2.2.2.2.1, none⟩, ⟨19, .int .i64 f.2.2.2.2.2.2.1, none⟩] w) | false => False) ?_ ?_ ?_ s w a hj hrep
  · intro e a w hr h
    exact h.elim
  · intro id e a w hr h0
    (try dsimp only at h0)
    split at h0
    · rename_i hid
      obtain rfl := Nat.eq_of_beq_eq_true hid
      unfold dx_frame_Stack_Change_L2_2 at h0
      obtain ⟨u1, g3, h1⟩ := onV_elim h0
      obtain ⟨change_2, rfl, h2⟩ := asA_elim h1
      obtain ⟨u2, g5, h3⟩ := onV_elim h2
      obtain ⟨cx, rfl, h4⟩ := asA_elim h3
      obtain ⟨u3, g17, h5⟩ := onV_elim h4
      obtain ⟨t17P_1, t17N_1, t17C_1, rfl, h6⟩ := asS_elim h5
      obtain ⟨u4, g18, h7⟩ := onV_elim h6
      obtain ⟨t18_1, rfl, h8⟩ := asI_elim h7
      obtain ⟨u5, g19, h9⟩ := onV_elim h8
      obtain ⟨t19_1, rfl, h10⟩ := asI_elim h9
      obtain ⟨u6, g24, h11⟩ := onV_elim h10
      obtain ⟨t24P, t24N, t24C, rfl, h12⟩ := asS_elim h11
      obtain ⟨u7, g25, h13⟩ := onV_elim h12
      obtain ⟨t25, rfl, h14⟩ := asI_elim h13
      obtain ⟨hf, hq⟩ := h14
      subst hf
      exact ⟨_, rep_less hr (by simp [g3, g17, g18, g19]), hq⟩
    · exact h0.elim
  · intro s w hj
    have hb := hround s w hj
    rw [← hcc]
    have e1 := body_frame_Stack_Change_L2 f s w (fun f1 s1 w1 => f1 = f ∧ J s1 w1 ∧ μ s1 w1 < μ s w) (fun f1 w1 => f1 = f ∧ Q (.exit 2) [⟨3, .pointer (some f.1), none⟩, ⟨17, .slice f.2.2.1 f.2.2.2.1 f.2.2.2.2.1, none⟩, ⟨18, .int .i64 f.2.2.2.2.2.1, none⟩, ⟨19, .int .i64 f.2.2.2.2.2.2.1, none⟩] w1)
    simp only [true_and] at e1
    exact cast e1 hb

theorem loops_frame_Stack_Change : LoopOk Try.prog Try.f27.ntmps G_frame_Stack_Change (codeOf Try.f27) := loopOk_list rfl ⟨ok_frame_Stack_Change_L1, ⟨ok_frame_Stack_Change_L2, trivial⟩⟩

theorem den_frame_Stack_Change (sx : Option Addr) (change : Value) (w : World) (R : Value → World → Prop) :
    F_frame_Stack_Change sx change w (fun w1 => R (.tuple #[]) w1) = den Try.prog Try.f27.ntmps G_frame_Stack_Change (codeOf Try.f27) [] (postD Try.prog Try.f27.results.toList R) (entry [.pointer sx, change] 0) w := by kernel_rfl

theorem C_frame_Stack_Change.of {sx : Option Addr} {change : Value} {w : World} {R : World → Prop} (h : F_frame_Stack_Change sx change w R) : C_frame_Stack_Change sx change w R := by
  refine (calls_of_den (c := codeOf Try.f27) seat_ok seat_mixed Try.func27 (by kernel_rfl) loops_frame_Stack_Change (args := [.pointer sx, change]) rfl (R := fun v w1 => v = (.tuple #[] : Value) ∧ R w1) ?_).mono ?_
  · rw [← den_frame_Stack_Change]
    simpa using h
  · rintro en w1 ⟨v, he, rfl, h⟩
    exact ⟨he, h⟩

def F_law22_same (wx : Int) (w : World) (R : Int → World → Prop) : Prop :=
  R wx w

def G_law22_same : Gen where
  loop := lookL []
  plan := fun _ => none

theorem loops_law22_same : LoopOk Try.prog Try.f28.ntmps G_law22_same (codeOf Try.f28) := loopOk_none fun _ => rfl

theorem den_law22_same (wx : Int) (w : World) (R : Value → World → Prop) :
    F_law22_same wx w (fun r w1 => R (.int .u64 r) w1) = den Try.prog Try.f28.ntmps G_law22_same (codeOf Try.f28) [] (postD Try.prog Try.f28.results.toList R) (entry [.int .u64 wx] 0) w := by kernel_rfl

theorem C_law22_same.of {wx : Int} {w : World} {R : Int → World → Prop} (h : F_law22_same wx w R) : C_law22_same wx w R := by
  refine (calls_of_den (c := codeOf Try.f28) seat_ok seat_mixed Try.func28 (by kernel_rfl) loops_law22_same (args := [.int .u64 wx]) rfl (R := fun v w1 => ∃ (r : Int), v = (.int .u64 r : Value) ∧ R r w1) ?_).mono ?_
  · rw [← den_law22_same]
    have e : (fun r w1 => ∃ (r' : Int), (.int .u64 r : Value) = (.int .u64 r' : Value) ∧ R r' w1) = R := by
      funext r w1
      exact propext ⟨fun ⟨r', he, h⟩ => by first | (simp at he; simp_all) | (cases he; exact h), fun h => ⟨_, rfl, h⟩⟩
    simpa only [e] using h
  · rintro en w1 ⟨v, he, r, rfl, h⟩
    exact ⟨_, he, h⟩

def F_frame_Stack_Trim_k1 (R : Bool → World → Prop) (w1_4 : World) : Prop :=
  R false w1_4

def F_frame_Stack_Trim (sx : Option Addr) (n : Int) (w : World) (R : Bool → World → Prop) : Prop :=
  C_frame_Stack_Env sx w fun t6 w1 =>
  C_frame_Stack_kept2 sx w1 fun t8 w1_1 =>
  If (decide (t6 < t8))
  (F_frame_Stack_Trim_k1 R w1_1)
  (C_frame_Stack_Env sx w1_1 fun t12 w1_2 =>
  If (decide (t12 < (0 : Int)))
  (F_frame_Stack_Trim_k1 R w1_2)
  (If (decide (n < (0 : Int)))
  (F_frame_Stack_Trim_k1 R w1_2)
  (C_frame_Stack_Slots sx w1_2 fun t22 w1_3 =>
  If (decide (n > t22))
  (R false w1_3)
  (NN sx fun a =>
  ∃ env : Int, w1_3.cell? (a.add 1) = some (.int .i64 env) ∧
  C_frame_Stack_set sx (IntKind.i64.wrap (env + (3 : Int))) n w1_3 fun w1_5 =>
  R true w1_5))))

def G_frame_Stack_Trim : Gen where
  loop := lookL []
  plan := fun _ => none

theorem loops_frame_Stack_Trim : LoopOk Try.prog Try.f29.ntmps G_frame_Stack_Trim (codeOf Try.f29) := loopOk_none fun _ => rfl

theorem den_frame_Stack_Trim (sx : Option Addr) (n : Int) (w : World) (R : Value → World → Prop) :
    F_frame_Stack_Trim sx n w (fun r w1 => R (.bool r) w1) = den Try.prog Try.f29.ntmps G_frame_Stack_Trim (codeOf Try.f29) [] (postD Try.prog Try.f29.results.toList R) (entry [.pointer sx, .int .i64 n] 0) w := by kernel_rfl

theorem C_frame_Stack_Trim.of {sx : Option Addr} {n : Int} {w : World} {R : Bool → World → Prop} (h : F_frame_Stack_Trim sx n w R) : C_frame_Stack_Trim sx n w R := by
  refine (calls_of_den (c := codeOf Try.f29) seat_ok seat_mixed Try.func29 (by kernel_rfl) loops_frame_Stack_Trim (args := [.pointer sx, .int .i64 n]) rfl (R := fun v w1 => ∃ (r : Bool), v = (.bool r : Value) ∧ R r w1) ?_).mono ?_
  · rw [← den_frame_Stack_Trim]
    have e : (fun r w1 => ∃ (r' : Bool), (.bool r : Value) = (.bool r' : Value) ∧ R r' w1) = R := by
      funext r w1
      exact propext ⟨fun ⟨r', he, h⟩ => by first | (simp at he; simp_all) | (cases he; exact h), fun h => ⟨_, rfl, h⟩⟩
    simpa only [e] using h
  · rintro en w1 ⟨v, he, r, rfl, h⟩
    exact ⟨_, he, h⟩

def F_frame_Stack_Turn_k1 (R : Int → World → Prop) (t91 : Int) (w1_2 : World) : Prop :=
  R t91 w1_2

def F_frame_Stack_Turn (sx : Option Addr) (next : Int) (w : World) (R : Int → World → Prop) : Prop :=
  C_frame_Stack_last sx w fun t90 t91 w1 =>
  If (t91 == (0 : Int))
  (NN t90 fun a =>
  St w1 ((a.add 5).add 0) (.int .i64 next) fun w1_1 =>
  F_frame_Stack_Turn_k1 R t91 w1_1)
  (F_frame_Stack_Turn_k1 R t91 w1)

def G_frame_Stack_Turn : Gen where
  loop := lookL []
  plan := fun _ => none

theorem loops_frame_Stack_Turn : LoopOk Try.prog Try.f30.ntmps G_frame_Stack_Turn (codeOf Try.f30) := loopOk_none fun _ => rfl

theorem den_frame_Stack_Turn (sx : Option Addr) (next : Int) (w : World) (R : Value → World → Prop) :
    F_frame_Stack_Turn sx next w (fun r w1 => R (.int .i64 r) w1) = den Try.prog Try.f30.ntmps G_frame_Stack_Turn (codeOf Try.f30) [] (postD Try.prog Try.f30.results.toList R) (entry [.pointer sx, .int .i64 next] 0) w := by kernel_rfl

theorem C_frame_Stack_Turn.of {sx : Option Addr} {next : Int} {w : World} {R : Int → World → Prop} (h : F_frame_Stack_Turn sx next w R) : C_frame_Stack_Turn sx next w R := by
  refine (calls_of_den (c := codeOf Try.f30) seat_ok seat_mixed Try.func30 (by kernel_rfl) loops_frame_Stack_Turn (args := [.pointer sx, .int .i64 next]) rfl (R := fun v w1 => ∃ (r : Int), v = (.int .i64 r : Value) ∧ R r w1) ?_).mono ?_
  · rw [← den_frame_Stack_Turn]
    have e : (fun r w1 => ∃ (r' : Int), (.int .i64 r : Value) = (.int .i64 r' : Value) ∧ R r' w1) = R := by
      funext r w1
      exact propext ⟨fun ⟨r', he, h⟩ => by first | (simp at he; simp_all) | (cases he; exact h), fun h => ⟨_, rfl, h⟩⟩
    simpa only [e] using h
  · rintro en w1 ⟨v, he, r, rfl, h⟩
    exact ⟨_, he, h⟩

def F_room_New (limitx : Int) (w : World) (R : Option Addr → Int → World → Prop) : Prop :=
  If (decide (limitx < (0 : Int)))
  (R none (1 : Int) w)
  (If (decide (limitx > (1048576 : Int)))
  (R none (1 : Int) w)
  (New w (.cells #[.slice none 0 0, .int .i64 limitx, .int .i64 0] 99) fun r w1 =>
  R (some ⟨r, 0, none⟩) (0 : Int) w1))

def G_room_New : Gen where
  loop := lookL []
  plan := fun _ => none

theorem loops_room_New : LoopOk Try.prog Try.f31.ntmps G_room_New (codeOf Try.f31) := loopOk_none fun _ => rfl

theorem den_room_New (limitx : Int) (w : World) (R : Value → World → Prop) :
    F_room_New limitx w (fun r0 r1 w1 => R (.tuple #[.pointer r0, .int .i64 r1]) w1) = den Try.prog Try.f31.ntmps G_room_New (codeOf Try.f31) [] (postD Try.prog Try.f31.results.toList R) (entry [.int .i64 limitx] 0) w := by kernel_rfl

theorem C_room_New.of {limitx : Int} {w : World} {R : Option Addr → Int → World → Prop} (h : F_room_New limitx w R) : C_room_New limitx w R := by
  refine (calls_of_den (c := codeOf Try.f31) seat_ok seat_mixed Try.func31 (by kernel_rfl) loops_room_New (args := [.int .i64 limitx]) rfl (R := fun v w1 => ∃ (r0 : Option Addr) (r1 : Int), v = (.tuple #[.pointer r0, .int .i64 r1] : Value) ∧ R r0 r1 w1) ?_).mono ?_
  · rw [← den_room_New]
    have e : (fun r0 r1 w1 => ∃ (r0' : Option Addr) (r1' : Int), (.tuple #[.pointer r0, .int .i64 r1] : Value) = (.tuple #[.pointer r0', .int .i64 r1'] : Value) ∧ R r0' r1' w1) = R := by
      funext r0 r1 w1
      exact propext ⟨fun ⟨r0', r1', he, h⟩ => by first | (simp at he; simp_all) | (cases he; exact h), fun h => ⟨_, _, rfl, h⟩⟩
    simpa only [e] using h
  · rintro en w1 ⟨v, he, r0, r1, rfl, h⟩
    exact ⟨_, _, he, h⟩

def F_frame_Stack_made (sx : Option Addr) (w : World) (R : Bool → World → Prop) : Prop :=
  If (!sx.isNone)
  (NN sx fun a =>
  ∃ words : Option Addr, w.cell? (a.add 0) = some (.pointer words) ∧
  R (!words.isNone) w)
  (R false w)

def G_frame_Stack_made : Gen where
  loop := lookL []
  plan := fun _ => none

theorem loops_frame_Stack_made : LoopOk Try.prog Try.f32.ntmps G_frame_Stack_made (codeOf Try.f32) := loopOk_none fun _ => rfl

theorem den_frame_Stack_made (sx : Option Addr) (w : World) (R : Value → World → Prop) :
    F_frame_Stack_made sx w (fun r w1 => R (.bool r) w1) = den Try.prog Try.f32.ntmps G_frame_Stack_made (codeOf Try.f32) [] (postD Try.prog Try.f32.results.toList R) (entry [.pointer sx] 0) w := by kernel_rfl

theorem C_frame_Stack_made.of {sx : Option Addr} {w : World} {R : Bool → World → Prop} (h : F_frame_Stack_made sx w R) : C_frame_Stack_made sx w R := by
  refine (calls_of_den (c := codeOf Try.f32) seat_ok seat_mixed Try.func32 (by kernel_rfl) loops_frame_Stack_made (args := [.pointer sx]) rfl (R := fun v w1 => ∃ (r : Bool), v = (.bool r : Value) ∧ R r w1) ?_).mono ?_
  · rw [← den_frame_Stack_made]
    have e : (fun r w1 => ∃ (r' : Bool), (.bool r : Value) = (.bool r' : Value) ∧ R r' w1) = R := by
      funext r w1
      exact propext ⟨fun ⟨r', he, h⟩ => by first | (simp at he; simp_all) | (cases he; exact h), fun h => ⟨_, rfl, h⟩⟩
    simpa only [e] using h
  · rintro en w1 ⟨v, he, r, rfl, h⟩
    exact ⟨_, he, h⟩

def F_slices_Clone (sP : Option Addr) (sN : Nat) (sC : Nat) (w : World) (R : Option Addr → Nat → Nat → World → Prop) : Prop :=
  If sP.isNone
  (R none 0 0 w)
  (BSl Try.prog 32 0 [] w fun t5P t5N t5C w1 =>
  App Try.prog #[32, 32] 32 #[.slice t5P t5N t5C, .slice sP sN sC] w1 fun t7P t7N t7C w1_1 =>
  R t7P t7N t7C w1_1)

def G_slices_Clone : Gen where
  loop := lookL []
  plan := fun _ => none

theorem loops_slices_Clone : LoopOk Try.prog Try.f33.ntmps G_slices_Clone (codeOf Try.f33) := loopOk_none fun _ => rfl

theorem den_slices_Clone (sP : Option Addr) (sN : Nat) (sC : Nat) (w : World) (R : Value → World → Prop) :
    F_slices_Clone sP sN sC w (fun rP rN rC w1 => R (.slice rP rN rC) w1) = den Try.prog Try.f33.ntmps G_slices_Clone (codeOf Try.f33) [] (postD Try.prog Try.f33.results.toList R) (entry [.slice sP sN sC] 0) w := by kernel_rfl

theorem C_slices_Clone.of {sP : Option Addr} {sN : Nat} {sC : Nat} {w : World} {R : Option Addr → Nat → Nat → World → Prop} (h : F_slices_Clone sP sN sC w R) : C_slices_Clone sP sN sC w R := by
  refine (calls_of_den (c := codeOf Try.f33) seat_ok seat_mixed Try.func33 (by kernel_rfl) loops_slices_Clone (args := [.slice sP sN sC]) rfl (R := fun v w1 => ∃ (rP : Option Addr) (rN : Nat) (rC : Nat), v = (.slice rP rN rC : Value) ∧ R rP rN rC w1) ?_).mono ?_
  · rw [← den_slices_Clone]
    have e : (fun rP rN rC w1 => ∃ (rP' : Option Addr) (rN' : Nat) (rC' : Nat), (.slice rP rN rC : Value) = (.slice rP' rN' rC' : Value) ∧ R rP' rN' rC' w1) = R := by
      funext rP rN rC w1
      exact propext ⟨fun ⟨rP', rN', rC', he, h⟩ => by first | (simp at he; simp_all) | (cases he; exact h), fun h => ⟨_, _, _, rfl, h⟩⟩
    simpa only [e] using h
  · rintro en w1 ⟨v, he, rP, rN, rC, rfl, h⟩
    exact ⟨_, _, _, he, h⟩

def F_frame_Stack_top (sx : Option Addr) (w : World) (R : Int → World → Prop) : Prop :=
  NN sx fun a =>
  ∃ env : Int, w.cell? (a.add 1) = some (.int .i64 env) ∧
  If (decide (env < (0 : Int)))
  (C_frame_Stack_kept sx w fun t9 w1 =>
  R t9 w1)
  (NN sx fun a_1 =>
  ∃ env_1 : Int, (drw w).cell? (a_1.add 1) = some (.int .i64 env_1) ∧
  NN sx fun a_2 =>
  ∃ env_2 : Int, (drw w).cell? (a_2.add 1) = some (.int .i64 env_2) ∧
  C_frame_Stack_kept sx (drw w) fun t11 w1_1 =>
  w1_1.cell? (a_2.add 1) = (drw w).cell? (a_2.add 1) ∧
  w1_1.cell? (a_1.add 1) = (drw w).cell? (a_1.add 1) ∧
  C_frame_Stack_size sx env_2 w1_1 fun t22 w1_2 =>
  w1_2.cell? (a_1.add 1) = (drw w).cell? (a_1.add 1) ∧
  R (maxI t11 (IntKind.i64.wrap ((IntKind.i64.wrap (env_1 + (4 : Int))) + t22))) w1_2)

def G_frame_Stack_top : Gen where
  loop := lookL []
  plan := fun id =>
    bif Nat.beq id 3 then some ([0, 1, 0, 4, 12, 28, 60, 0, 0, 256, 768, 1792, 3971, 8191, 16383, 32767], .take 0 (.take 2 (.take 3 (.take 4 (.take 5 (.take 6 (.take 7 (.take 8 (.take 9 (.take 10 (.take 11 (.take 1 (.take 12 (.take 13 (.take 14 (.take 15 .done)))))))))))))))) else none

theorem loops_frame_Stack_top : LoopOk Try.prog Try.f34.ntmps G_frame_Stack_top (codeOf Try.f34) := loopOk_none fun _ => rfl

theorem den_frame_Stack_top (sx : Option Addr) (w : World) (R : Value → World → Prop) :
    F_frame_Stack_top sx w (fun r w1 => R (.int .i64 r) w1) = den Try.prog Try.f34.ntmps G_frame_Stack_top (codeOf Try.f34) [] (postD Try.prog Try.f34.results.toList R) (entry [.pointer sx] 0) w := by kernel_rfl

theorem C_frame_Stack_top.of {sx : Option Addr} {w : World} {R : Int → World → Prop} (h : F_frame_Stack_top sx w R) : C_frame_Stack_top sx w R := by
  refine (calls_of_den (c := codeOf Try.f34) seat_ok seat_mixed Try.func34 (by kernel_rfl) loops_frame_Stack_top (args := [.pointer sx]) rfl (R := fun v w1 => ∃ (r : Int), v = (.int .i64 r : Value) ∧ R r w1) ?_).mono ?_
  · rw [← den_frame_Stack_top]
    have e : (fun r w1 => ∃ (r' : Int), (.int .i64 r : Value) = (.int .i64 r' : Value) ∧ R r' w1) = R := by
      funext r w1
      exact propext ⟨fun ⟨r', he, h⟩ => by first | (simp at he; simp_all) | (cases he; exact h), fun h => ⟨_, rfl, h⟩⟩
    simpa only [e] using h
  · rintro en w1 ⟨v, he, r, rfl, h⟩
    exact ⟨_, he, h⟩

structure S_frame_Stack_all_L1 where
  startsP : Option Addr
  startsN : Nat
  startsC : Nat
  t21 : Int

structure S_frame_Stack_all_L3 where
  basex : Int

structure S_frame_Stack_all_L2 where
  t33 : Int

/-- One round. -/
def B_frame_Stack_all_L1 (sx_1 : Option Addr) (each_1 : Value) (seen : Option Nat) (t19P : Option Addr) (t19N : Nat) (t19C : Nat) (t20 : Int) (s : S_frame_Stack_all_L1) (w : World) (Kn : S_frame_Stack_all_L1 → World → Prop) (Kx0 : Option Addr → Nat → Nat → World → Prop) : Prop :=
  If (decide ((s.t21 : Int) < t20))
  (0 ≤ (s.t21 : Int) ∧ (s.t21 : Int) < (t19N : Int) ∧ NN t19P fun a_2 =>
  ∃ t240 : Int, w.cell? ((a_2.add ((s.t21 : Int).toNat * 9)).add 0) = some (.int .i64 t240) ∧
  ∃ t241P : Option Addr, ∃ t241N : Nat, ∃ t241C : Nat, w.cell? ((a_2.add ((s.t21 : Int).toNat * 9)).add 1) = some (.slice t241P t241N t241C) ∧
  ∃ t242 : Int, w.cell? ((a_2.add ((s.t21 : Int).toNat * 9)).add 2) = some (.int .i64 t242) ∧
  ∃ t243 : Int, w.cell? ((a_2.add ((s.t21 : Int).toNat * 9)).add 3) = some (.int .i64 t243) ∧
  ∃ t244 : Int, w.cell? ((a_2.add ((s.t21 : Int).toNat * 9)).add 4) = some (.int .i64 t244) ∧
  ∃ t245 : Int, w.cell? ((a_2.add ((s.t21 : Int).toNat * 9)).add 5) = some (.int .i64 t245) ∧
  ∃ t246 : Int, w.cell? ((a_2.add ((s.t21 : Int).toNat * 9)).add 6) = some (.int .i64 t246) ∧
  ∃ t247 : Int, w.cell? ((a_2.add ((s.t21 : Int).toNat * 9)).add 7) = some (.int .i64 t247) ∧
  ∃ t248 : Int, w.cell? ((a_2.add ((s.t21 : Int).toNat * 9)).add 8) = some (.int .i64 t248) ∧
  New w (.cells #[.int .i64 0, .slice none 0 0, .int .i64 0, .int .i64 0, .int .i64 0, .int .i64 0, .int .i64 0, .int .i64 0, .int .i64 0] 34) fun r_1 w1_2 =>
  St w1_2 ((⟨r_1, 0, none⟩ : Addr).add 0) (.int .i64 t240) fun w1_3 =>
  St w1_3 ((⟨r_1, 0, none⟩ : Addr).add 1) (.slice t241P t241N t241C) fun w1_4 =>
  St w1_4 ((⟨r_1, 0, none⟩ : Addr).add 2) (.int .i64 t242) fun w1_5 =>
  St w1_5 ((⟨r_1, 0, none⟩ : Addr).add 3) (.int .i64 t243) fun w1_6 =>
  St w1_6 ((⟨r_1, 0, none⟩ : Addr).add 4) (.int .i64 t244) fun w1_7 =>
  St w1_7 ((⟨r_1, 0, none⟩ : Addr).add 5) (.int .i64 t245) fun w1_8 =>
  St w1_8 ((⟨r_1, 0, none⟩ : Addr).add 6) (.int .i64 t246) fun w1_9 =>
  St w1_9 ((⟨r_1, 0, none⟩ : Addr).add 7) (.int .i64 t247) fun w1_10 =>
  St w1_10 ((⟨r_1, 0, none⟩ : Addr).add 8) (.int .i64 t248) fun w1_11 =>
  ∃ Env : Int, w1_11.cell? ((⟨r_1, 0, none⟩ : Addr).add 7) = some (.int .i64 Env) ∧
  BSl Try.prog 44 1 [(0, .int .i64 Env)] w1_11 fun t28P t28N t28C w1_12 =>
  App Try.prog #[44, 44] 44 #[.slice s.startsP s.startsN s.startsC, .slice t28P t28N t28C] w1_12 fun t29P t29N t29C w1_13 =>
  Kn ⟨t29P, t29N, t29C, (IntKind.i64.wrap ((s.t21 : Int) + (1 : Int)))⟩ w1_13)
  (Kx0 s.startsP s.startsN s.startsC w)

def F_frame_Stack_all_L1 (sx_1 : Option Addr) (each_1 : Value) (seen : Option Nat) (t19P : Option Addr) (t19N : Nat) (t19C : Nat) (t20 : Int) (s : S_frame_Stack_all_L1) (w : World) (Kx0 : Option Addr → Nat → Nat → World → Prop) : Prop :=
  LoopS (fun s w Kn => B_frame_Stack_all_L1 sx_1 each_1 seen t19P t19N t19C t20 s w Kn Kx0) s w

/-- One round. -/
def B_frame_Stack_all_L3 (sx_3 : Option Addr) (each_3 : Value) (seen_2 : Option Nat) (t31P_1 : Option Addr) (t31N_1 : Nat) (t31C_1 : Nat) (t32_1 : Int) (t33_1 : Int) (s : S_frame_Stack_all_L3) (w : World) (Kn : S_frame_Stack_all_L3 → World → Prop) (Kx4 : World → Prop) (Kr : World → Prop) : Prop :=
  If (decide ((s.basex : Int) ≥ (0 : Int)))
  (Run Try.prog (Instr.lookup 100 (.map seen_2) (.int .i64 s.basex) false) w fun v w1_15 => ∃ t42 : Bool, v = (.bool t42) ∧
  If (!t42)
  (MUp Try.prog 100 (.map seen_2) (.int .i64 s.basex) (.bool true) w1_15 fun w1_16 =>
  CallV Try.prog each_3 [.int .i64 s.basex] w1_16 fun v_1 w1_17 => ∃ t52 : Bool, v_1 = (.bool t52) ∧
  If (!t52)
  (Kr w1_17)
  (C_frame_Stack_prev sx_3 (s.basex : Int) w1_17 fun t47 w1_18 =>
  Kn ⟨t47⟩ w1_18))
  (Kx4 w1_15))
  (Kx4 w)

def F_frame_Stack_all_L3 (sx_3 : Option Addr) (each_3 : Value) (seen_2 : Option Nat) (t31P_1 : Option Addr) (t31N_1 : Nat) (t31C_1 : Nat) (t32_1 : Int) (t33_1 : Int) (s : S_frame_Stack_all_L3) (w : World) (Kx4 : World → Prop) (Kr : World → Prop) : Prop :=
  LoopS (fun s w Kn => B_frame_Stack_all_L3 sx_3 each_3 seen_2 t31P_1 t31N_1 t31C_1 t32_1 t33_1 s w Kn Kx4 Kr) s w

/-- One round. -/
def B_frame_Stack_all_L2 (sx_2 : Option Addr) (each_2 : Value) (seen_1 : Option Nat) (t31P : Option Addr) (t31N : Nat) (t31C : Nat) (t32 : Int) (s : S_frame_Stack_all_L2) (w : World) (Kn : S_frame_Stack_all_L2 → World → Prop) (Kx2 : World → Prop) (Kr : World → Prop) : Prop :=
  If (decide ((s.t33 : Int) < t32))
  (0 ≤ (s.t33 : Int) ∧ (s.t33 : Int) < (t31N : Int) ∧ NN t31P fun a_3 =>
  ∃ t36 : Int, w.cell? (a_3.add ((s.t33 : Int).toNat * 1)) = some (.int .i64 t36) ∧
  F_frame_Stack_all_L3 sx_2 each_2 seen_1 t31P t31N t31C t32 (s.t33 : Int) ⟨t36⟩ w
  (fun w1_19 =>
  Kn ⟨(IntKind.i64.wrap ((s.t33 : Int) + (1 : Int)))⟩ w1_19)
  (fun w1_20 =>
  Kr w1_20))
  (Kx2 w)

def F_frame_Stack_all_L2 (sx_2 : Option Addr) (each_2 : Value) (seen_1 : Option Nat) (t31P : Option Addr) (t31N : Nat) (t31C : Nat) (t32 : Int) (s : S_frame_Stack_all_L2) (w : World) (Kx2 : World → Prop) (Kr : World → Prop) : Prop :=
  LoopS (fun s w Kn => B_frame_Stack_all_L2 sx_2 each_2 seen_1 t31P t31N t31C t32 s w Kn Kx2 Kr) s w

def F_frame_Stack_all (sx : Option Addr) (each : Value) (w : World) (R : World → Prop) : Prop :=
  New w (.map #[] 0) fun r w1 =>
  NN sx fun a =>
  ∃ env : Int, w1.cell? (a.add 1) = some (.int .i64 env) ∧
  BSl Try.prog 44 1 [(0, .int .i64 env)] w1 fun t15P t15N t15C w1_1 =>
  NN sx fun a_1 =>
  ∃ lP : Option Addr, ∃ lN : Nat, ∃ lC : Nat, w1_1.cell? (a_1.add 2) = some (.slice lP lN lC) ∧
  F_frame_Stack_all_L1 sx each (some r) lP lN lC (lN : Int) ⟨t15P, t15N, t15C, (0 : Int)⟩ w1_1
  (fun startsP_2 startsN_2 startsC_2 w1_14 =>
  F_frame_Stack_all_L2 sx each (some r) startsP_2 startsN_2 startsC_2 (startsN_2 : Int) ⟨(0 : Int)⟩ w1_14
  (fun w1_21 =>
  R w1_21)
  (fun w1_22 =>
  R w1_22))

def lit_frame_Stack_all_L1 (f : (Option Addr) × Value × (Option Nat) × (Option Addr) × Nat × Nat × Int) (s : S_frame_Stack_all_L1) : Env := [⟨0, .pointer f.1, none⟩, ⟨1, f.2.1, none⟩, ⟨4, .map f.2.2.1, none⟩, ⟨19, .slice f.2.2.2.1 f.2.2.2.2.1 f.2.2.2.2.2.1, none⟩, ⟨20, .int .i64 f.2.2.2.2.2.2, none⟩, ⟨5, .slice s.startsP s.startsN s.startsC, none⟩, ⟨21, .int .i64 s.t21, none⟩]

def dec_frame_Stack_all_L1 (e : Env) (K : ((Option Addr) × Value × (Option Nat) × (Option Addr) × Nat × Nat × Int) → S_frame_Stack_all_L1 → Prop) : Prop :=
  onV (getV e 0) fun u1 =>
  asP u1 fun sx_1 =>
  onV (getV e 1) fun u2 =>
  asV u2 fun each_1 =>
  onV (getV e 4) fun u3 =>
  asM u3 fun seen =>
  onV (getV e 19) fun u4 =>
  asS u4 fun t19P t19N t19C =>
  onV (getV e 20) fun u5 =>
  asI .i64 u5 fun t20 =>
  onV (getV e 5) fun u6 =>
  asS u6 fun startsP startsN startsC =>
  onV (getV e 21) fun u7 =>
  asI .i64 u7 fun t21 =>
    K (sx_1, each_1, seen, t19P, t19N, t19C, t20) ⟨startsP, startsN, startsC, t21⟩

theorem dec_frame_Stack_all_L1_ok {N : Nat} (e : Env) (a : Act) (K : ((Option Addr) × Value × (Option Nat) × (Option Addr) × Nat × Nat × Int) → S_frame_Stack_all_L1 → Prop) (hr : Rep N a e) (h0 : dec_frame_Stack_all_L1 e K) : ∃ f s, K f s ∧ Rep N a (lit_frame_Stack_all_L1 f s) := by
  unfold dec_frame_Stack_all_L1 at h0
  obtain ⟨u1, g0, h1⟩ := onV_elim h0
  obtain ⟨sx_1, rfl, h2⟩ := asP_elim h1
  obtain ⟨u2, g1, h3⟩ := onV_elim h2
  obtain ⟨each_1, rfl, h4⟩ := asV_elim h3
  obtain ⟨u3, g4, h5⟩ := onV_elim h4
  obtain ⟨seen, rfl, h6⟩ := asM_elim h5
  obtain ⟨u4, g19, h7⟩ := onV_elim h6
  obtain ⟨t19P, t19N, t19C, rfl, h8⟩ := asS_elim h7
  obtain ⟨u5, g20, h9⟩ := onV_elim h8
  obtain ⟨t20, rfl, h10⟩ := asI_elim h9
  obtain ⟨u6, g5, h11⟩ := onV_elim h10
  obtain ⟨startsP, startsN, startsC, rfl, h12⟩ := asS_elim h11
  obtain ⟨u7, g21, h13⟩ := onV_elim h12
  obtain ⟨t21, rfl, h14⟩ := asI_elim h13
  exact ⟨_, _, h14, rep_less hr (by simp [lit_frame_Stack_all_L1, g0, g1, g4, g19, g20, g5, g21])⟩

def spec_frame_Stack_all_L1 (Q : Post) (e : Env) (w : World) : Prop :=
  dec_frame_Stack_all_L1 e fun f s => F_frame_Stack_all_L1 f.1 f.2.1 f.2.2.1 f.2.2.2.1 f.2.2.2.2.1 f.2.2.2.2.2.1 f.2.2.2.2.2.2 s w (fun startsP_1 startsN_1 startsC_1 w1 => Q (.exit 0) [⟨0, .pointer f.1, none⟩, ⟨1, f.2.1, none⟩, ⟨4, .map f.2.2.1, none⟩, ⟨5, .slice startsP_1 startsN_1 startsC_1, none⟩] w1)

def lit_frame_Stack_all_L2 (f : (Option Addr) × Value × (Option Nat) × (Option Addr) × Nat × Nat × Int) (s : S_frame_Stack_all_L2) : Env := [⟨0, .pointer f.1, none⟩, ⟨1, f.2.1, none⟩, ⟨4, .map f.2.2.1, none⟩, ⟨31, .slice f.2.2.2.1 f.2.2.2.2.1 f.2.2.2.2.2.1, none⟩, ⟨32, .int .i64 f.2.2.2.2.2.2, none⟩, ⟨33, .int .i64 s.t33, none⟩]

def dec_frame_Stack_all_L2 (e : Env) (K : ((Option Addr) × Value × (Option Nat) × (Option Addr) × Nat × Nat × Int) → S_frame_Stack_all_L2 → Prop) : Prop :=
  onV (getV e 0) fun u1 =>
  asP u1 fun sx_2 =>
  onV (getV e 1) fun u2 =>
  asV u2 fun each_2 =>
  onV (getV e 4) fun u3 =>
  asM u3 fun seen_1 =>
  onV (getV e 31) fun u4 =>
  asS u4 fun t31P t31N t31C =>
  onV (getV e 32) fun u5 =>
  asI .i64 u5 fun t32 =>
  onV (getV e 33) fun u6 =>
  asI .i64 u6 fun t33 =>
    K (sx_2, each_2, seen_1, t31P, t31N, t31C, t32) ⟨t33⟩

theorem dec_frame_Stack_all_L2_ok {N : Nat} (e : Env) (a : Act) (K : ((Option Addr) × Value × (Option Nat) × (Option Addr) × Nat × Nat × Int) → S_frame_Stack_all_L2 → Prop) (hr : Rep N a e) (h0 : dec_frame_Stack_all_L2 e K) : ∃ f s, K f s ∧ Rep N a (lit_frame_Stack_all_L2 f s) := by
  unfold dec_frame_Stack_all_L2 at h0
  obtain ⟨u1, g0, h1⟩ := onV_elim h0
  obtain ⟨sx_2, rfl, h2⟩ := asP_elim h1
  obtain ⟨u2, g1, h3⟩ := onV_elim h2
  obtain ⟨each_2, rfl, h4⟩ := asV_elim h3
  obtain ⟨u3, g4, h5⟩ := onV_elim h4
  obtain ⟨seen_1, rfl, h6⟩ := asM_elim h5
  obtain ⟨u4, g31, h7⟩ := onV_elim h6
  obtain ⟨t31P, t31N, t31C, rfl, h8⟩ := asS_elim h7
  obtain ⟨u5, g32, h9⟩ := onV_elim h8
  obtain ⟨t32, rfl, h10⟩ := asI_elim h9
  obtain ⟨u6, g33, h11⟩ := onV_elim h10
  obtain ⟨t33, rfl, h12⟩ := asI_elim h11
  exact ⟨_, _, h12, rep_less hr (by simp [lit_frame_Stack_all_L2, g0, g1, g4, g31, g32, g33])⟩

def spec_frame_Stack_all_L2 (Q : Post) (e : Env) (w : World) : Prop :=
  dec_frame_Stack_all_L2 e fun f s => F_frame_Stack_all_L2 f.1 f.2.1 f.2.2.1 f.2.2.2.1 f.2.2.2.2.1 f.2.2.2.2.2.1 f.2.2.2.2.2.2 s w (fun w1 => Q (.exit 2) [] w1) (fun w1 => Q .ret [] w1)

def lit_frame_Stack_all_L3 (f : (Option Addr) × Value × (Option Nat) × (Option Addr) × Nat × Nat × Int × Int) (s : S_frame_Stack_all_L3) : Env := [⟨0, .pointer f.1, none⟩, ⟨1, f.2.1, none⟩, ⟨4, .map f.2.2.1, none⟩, ⟨31, .slice f.2.2.2.1 f.2.2.2.2.1 f.2.2.2.2.2.1, none⟩, ⟨32, .int .i64 f.2.2.2.2.2.2.1, none⟩, ⟨33, .int .i64 f.2.2.2.2.2.2.2, none⟩, ⟨9, .int .i64 s.basex, none⟩]

def dec_frame_Stack_all_L3 (e : Env) (K : ((Option Addr) × Value × (Option Nat) × (Option Addr) × Nat × Nat × Int × Int) → S_frame_Stack_all_L3 → Prop) : Prop :=
  onV (getV e 0) fun u1 =>
  asP u1 fun sx_3 =>
  onV (getV e 1) fun u2 =>
  asV u2 fun each_3 =>
  onV (getV e 4) fun u3 =>
  asM u3 fun seen_2 =>
  onV (getV e 31) fun u4 =>
  asS u4 fun t31P_1 t31N_1 t31C_1 =>
  onV (getV e 32) fun u5 =>
  asI .i64 u5 fun t32_1 =>
  onV (getV e 33) fun u6 =>
  asI .i64 u6 fun t33_1 =>
  onV (getV e 9) fun u7 =>
  asI .i64 u7 fun basex =>
    K (sx_3, each_3, seen_2, t31P_1, t31N_1, t31C_1, t32_1, t33_1) ⟨basex⟩

theorem dec_frame_Stack_all_L3_ok {N : Nat} (e : Env) (a : Act) (K : ((Option Addr) × Value × (Option Nat) × (Option Addr) × Nat × Nat × Int × Int) → S_frame_Stack_all_L3 → Prop) (hr : Rep N a e) (h0 : dec_frame_Stack_all_L3 e K) : ∃ f s, K f s ∧ Rep N a (lit_frame_Stack_all_L3 f s) := by
  unfold dec_frame_Stack_all_L3 at h0
  obtain ⟨u1, g0, h1⟩ := onV_elim h0
  obtain ⟨sx_3, rfl, h2⟩ := asP_elim h1
  obtain ⟨u2, g1, h3⟩ := onV_elim h2
  obtain ⟨each_3, rfl, h4⟩ := asV_elim h3
  obtain ⟨u3, g4, h5⟩ := onV_elim h4
  obtain ⟨seen_2, rfl, h6⟩ := asM_elim h5
  obtain ⟨u4, g31, h7⟩ := onV_elim h6
  obtain ⟨t31P_1, t31N_1, t31C_1, rfl, h8⟩ := asS_elim h7
  obtain ⟨u5, g32, h9⟩ := onV_elim h8
  obtain ⟨t32_1, rfl, h10⟩ := asI_elim h9
  obtain ⟨u6, g33, h11⟩ := onV_elim h10
  obtain ⟨t33_1, rfl, h12⟩ := asI_elim h11
  obtain ⟨u7, g9, h13⟩ := onV_elim h12
  obtain ⟨basex, rfl, h14⟩ := asI_elim h13
  exact ⟨_, _, h14, rep_less hr (by simp [lit_frame_Stack_all_L3, g0, g1, g4, g31, g32, g33, g9])⟩

def spec_frame_Stack_all_L3 (Q : Post) (e : Env) (w : World) : Prop :=
  dec_frame_Stack_all_L3 e fun f s => F_frame_Stack_all_L3 f.1 f.2.1 f.2.2.1 f.2.2.2.1 f.2.2.2.2.1 f.2.2.2.2.2.1 f.2.2.2.2.2.2.1 f.2.2.2.2.2.2.2 s w (fun w1 => Q (.exit 4) [⟨0, .pointer f.1, none⟩, ⟨1, f.2.1, none⟩, ⟨4, .map f.2.2.1, none⟩, ⟨31, .slice f.2.2.2.1 f.2.2.2.2.1 f.2.2.2.2.2.1, none⟩, ⟨32, .int .i64 f.2.2.2.2.2.2.1, none⟩, ⟨33, .int .i64 f.2.2.2.2.2.2.2, none⟩] w1) (fun w1 => Q .ret [⟨0, .pointer f.1, none⟩, ⟨1, f.2.1, none⟩, ⟨4, .map f.2.2.1, none⟩, ⟨31, .slice f.2.2.2.1 f.2.2.2.2.1 f.2.2.2.2.2.1, none⟩, ⟨32, .int .i64 f.2.2.2.2.2.2.1, none⟩] w1)

def G_frame_Stack_all : Gen where
  loop := lookL [([false, true, false, true, true], spec_frame_Stack_all_L1), ([false, true, true, true, true], spec_frame_Stack_all_L2), ([false, true, false, false, true, true, false, false, true, true, true, true], spec_frame_Stack_all_L3)]
  plan := fun _ => none

def dx_frame_Stack_all_L1_0 (e : Env) (K : ((Option Addr) × Value × (Option Nat) × (Option Addr) × Nat × Nat × Int) → Option Addr → Nat → Nat → Prop) : Prop :=
  onV (getV e 0) fun u1 =>
  asP u1 fun sx_1 =>
  onV (getV e 1) fun u2 =>
  asV u2 fun each_1 =>
  onV (getV e 4) fun u3 =>
  asM u3 fun seen =>
  onV (getV e 19) fun u4 =>
  asS u4 fun t19P t19N t19C =>
  onV (getV e 20) fun u5 =>
  asI .i64 u5 fun t20 =>
  onV (getV e 5) fun u6 =>
  asS u6 fun startsP_1 startsN_1 startsC_1 =>
    K (sx_1, each_1, seen, t19P, t19N, t19C, t20) startsP_1 startsN_1 startsC_1

theorem body_frame_Stack_all_L1 (f : (Option Addr) × Value × (Option Nat) × (Option Addr) × Nat × Nat × Int) (s : S_frame_Stack_all_L1) (w : World) (Kn : ((Option Addr) × Value × (Option Nat) × (Option Addr) × Nat × Nat × Int) → S_frame_Stack_all_L1 → World → Prop) (Kx0 : ((Option Addr) × Value × (Option Nat) × (Option Addr) × Nat × Nat × Int) → Option Addr → Nat → Nat → World → Prop) :
    B_frame_Stack_all_L1 f.1 f.2.1 f.2.2.1 f.2.2.2.1 f.2.2.2.2.1 f.2.2.2.2.2.1 f.2.2.2.2.2.2 s w (fun s1 w1 => Kn f s1 w1) (fun startsP_1 startsN_1 startsC_1 w1 => Kx0 f startsP_1 startsN_1 startsC_1 w1) =
    den Try.prog Try.f35.ntmps G_frame_Stack_all (sub (codeOf Try.f35) [false, false, true, false, true, true]) [false, false, true, false, true, true] (roundQ (fun e w => dec_frame_Stack_all_L1 e fun f s => Kn f s w) (fun e w => False) (fun id e w => match Nat.beq id 0 with | true => dx_frame_Stack_all_L1_0 e fun f startsP_1 startsN_1 startsC_1 => Kx0 f startsP_1 startsN_1 startsC_1 w | false => False)) (lit_frame_Stack_all_L1 f s) w := by kernel_rfl

def dx_frame_Stack_all_L2_2 (e : Env) (K : ((Option Addr) × Value × (Option Nat) × (Option Addr) × Nat × Nat × Int) → Prop) : Prop :=
  onV (getV e 0) fun u1 =>
  asP u1 fun sx_2 =>
  onV (getV e 1) fun u2 =>
  asV u2 fun each_2 =>
  onV (getV e 4) fun u3 =>
  asM u3 fun seen_1 =>
  onV (getV e 31) fun u4 =>
  asS u4 fun t31P t31N t31C =>
  onV (getV e 32) fun u5 =>
  asI .i64 u5 fun t32 =>
    K (sx_2, each_2, seen_1, t31P, t31N, t31C, t32)

def dx_frame_Stack_all_L2_ret (e : Env) (K : ((Option Addr) × Value × (Option Nat) × (Option Addr) × Nat × Nat × Int) → Prop) : Prop :=
  onV (getV e 0) fun u1 =>
  asP u1 fun sx_2 =>
  onV (getV e 1) fun u2 =>
  asV u2 fun each_2 =>
  onV (getV e 4) fun u3 =>
  asM u3 fun seen_1 =>
  onV (getV e 31) fun u4 =>
  asS u4 fun t31P t31N t31C =>
  onV (getV e 32) fun u5 =>
  asI .i64 u5 fun t32 =>
    K (sx_2, each_2, seen_1, t31P, t31N, t31C, t32)

theorem body_frame_Stack_all_L2 (f : (Option Addr) × Value × (Option Nat) × (Option Addr) × Nat × Nat × Int) (s : S_frame_Stack_all_L2) (w : World) (Kn : ((Option Addr) × Value × (Option Nat) × (Option Addr) × Nat × Nat × Int) → S_frame_Stack_all_L2 → World → Prop) (Kx2 : ((Option Addr) × Value × (Option Nat) × (Option Addr) × Nat × Nat × Int) → World → Prop) (Kr : ((Option Addr) × Value × (Option Nat) × (Option Addr) × Nat × Nat × Int) → World → Prop) :
    B_frame_Stack_all_L2 f.1 f.2.1 f.2.2.1 f.2.2.2.1 f.2.2.2.2.1 f.2.2.2.2.2.1 f.2.2.2.2.2.2 s w (fun s1 w1 => Kn f s1 w1) (fun w1 => Kx2 f w1) (fun w1 => Kr f w1) =
    den Try.prog Try.f35.ntmps G_frame_Stack_all (sub (codeOf Try.f35) [false, false, true, true, true, true]) [false, false, true, true, true, true] (roundQ (fun e w => dec_frame_Stack_all_L2 e fun f s => Kn f s w) (fun e w => dx_frame_Stack_all_L2_ret e fun f => Kr f w) (fun id e w => match Nat.beq id 2 with | true => dx_frame_Stack_all_L2_2 e fun f => Kx2 f w | false => False)) (lit_frame_Stack_all_L2 f s) w := by kernel_rfl

def dx_frame_Stack_all_L3_4 (e : Env) (K : ((Option Addr) × Value × (Option Nat) × (Option Addr) × Nat × Nat × Int × Int) → Prop) : Prop :=
  onV (getV e 0) fun u1 =>
  asP u1 fun sx_3 =>
  onV (getV e 1) fun u2 =>
  asV u2 fun each_3 =>
  onV (getV e 4) fun u3 =>
  asM u3 fun seen_2 =>
  onV (getV e 31) fun u4 =>
  asS u4 fun t31P_1 t31N_1 t31C_1 =>
  onV (getV e 32) fun u5 =>
  asI .i64 u5 fun t32_1 =>
  onV (getV e 33) fun u6 =>
  asI .i64 u6 fun t33_1 =>
    K (sx_3, each_3, seen_2, t31P_1, t31N_1, t31C_1, t32_1, t33_1)

def dx_frame_Stack_all_L3_ret (e : Env) (K : ((Option Addr) × Value × (Option Nat) × (Option Addr) × Nat × Nat × Int × Int) → Prop) : Prop :=
  onV (getV e 0) fun u1 =>
  asP u1 fun sx_3 =>
  onV (getV e 1) fun u2 =>
  asV u2 fun each_3 =>
  onV (getV e 4) fun u3 =>
  asM u3 fun seen_2 =>
  onV (getV e 31) fun u4 =>
  asS u4 fun t31P_1 t31N_1 t31C_1 =>
  onV (getV e 32) fun u5 =>
  asI .i64 u5 fun t32_1 =>
  onV (getV e 33) fun u6 =>
  asI .i64 u6 fun t33_1 =>
    K (sx_3, each_3, seen_2, t31P_1, t31N_1, t31C_1, t32_1, t33_1)

theorem body_frame_Stack_all_L3 (f : (Option Addr) × Value × (Option Nat) × (Option Addr) × Nat × Nat × Int × Int) (s : S_frame_Stack_all_L3) (w : World) (Kn : ((Option Addr) × Value × (Option Nat) × (Option Addr) × Nat × Nat × Int × Int) → S_frame_Stack_all_L3 → World → Prop) (Kx4 : ((Option Addr) × Value × (Option Nat) × (Option Addr) × Nat × Nat × Int × Int) → World → Prop) (Kr : ((Option Addr) × Value × (Option Nat) × (Option Addr) × Nat × Nat × Int × Int) → World → Prop) :
    B_frame_Stack_all_L3 f.1 f.2.1 f.2.2.1 f.2.2.2.1 f.2.2.2.2.1 f.2.2.2.2.2.1 f.2.2.2.2.2.2.1 f.2.2.2.2.2.2.2 s w (fun s1 w1 => Kn f s1 w1) (fun w1 => Kx4 f w1) (fun w1 => Kr f w1) =
    den Try.prog Try.f35.ntmps G_frame_Stack_all (sub (codeOf Try.f35) [false, false, true, false, false, true, true, false, false, true, true, true, true]) [false, false, true, false, false, true, true, false, false, true, true, true, true] (roundQ (fun e w => dec_frame_Stack_all_L3 e fun f s => Kn f s w) (fun e w => dx_frame_Stack_all_L3_ret e fun f => Kr f w) (fun id e w => match Nat.beq id 4 with | true => dx_frame_Stack_all_L3_4 e fun f => Kx4 f w | false => False)) (lit_frame_Stack_all_L3 f s) w := by kernel_rfl

theorem ok_frame_Stack_all_L1 : OneOk Try.prog Try.f35.ntmps G_frame_Stack_all (codeOf Try.f35) [false, true, false, true, true] spec_frame_Stack_all_L1 := by
  intro c hc ih Q e w a hr h
  have hcc : sub (codeOf Try.f35) [false, false, true, false, true, true] = c := sub_of_codeAt hc
  obtain ⟨f, s, h, hrep⟩ := dec_frame_Stack_all_L1_ok e a _ hr h
  obtain ⟨J, μ, hj, hround⟩ := h
  refine loop_rule_deep seat_ok seat_mixed ih lit_frame_Stack_all_L1 dec_frame_Stack_all_L1 dec_frame_Stack_all_L1_ok hc f J μ (Kr := fun e w => False) (Kx := fun id e w => match Nat.beq id 0 with | true => (dx_frame_Stack_all_L1_0 e fun f1 startsP_1 startsN_1 startsC_1 => f1 = f ∧ Q (.exit 0) [⟨0, .pointer f.1, none⟩, ⟨1, f.2.1, none⟩, ⟨4, .map f.2.2.1, none⟩, ⟨5, .slice startsP_1 startsN_1 startsC_1, none⟩] w) | false => False) ?_ ?_ ?_ s w a hj hrep
  · intro e a w hr h
    exact h.elim
  · intro id e a w hr h0
    (try dsimp only at h0)
    split at h0
    · rename_i hid
      obtain rfl := Nat.eq_of_beq_eq_true hid
      unfold dx_frame_Stack_all_L1_0 at h0
      obtain ⟨u1, g0, h1⟩ := onV_elim h0
      obtain ⟨sx_1, rfl, h2⟩ := asP_elim h1
      obtain ⟨u2, g1, h3⟩ := onV_elim h2
      obtain ⟨each_1, rfl, h4⟩ := asV_elim h3
      obtain ⟨u3, g4, h5⟩ := onV_elim h4
      obtain ⟨seen, rfl, h6⟩ := asM_elim h5
      obtain ⟨u4, g19, h7⟩ := onV_elim h6
      obtain ⟨t19P, t19N, t19C, rfl, h8⟩ := asS_elim h7
      obtain ⟨u5, g20, h9⟩ := onV_elim h8
      obtain ⟨t20, rfl, h10⟩ := asI_elim h9
      obtain ⟨u6, g5, h11⟩ := onV_elim h10
      obtain ⟨startsP_1, startsN_1, startsC_1, rfl, h12⟩ := asS_elim h11
      obtain ⟨hf, hq⟩ := h12
      subst hf
      exact ⟨_, rep_less hr (by simp [g0, g1, g4, g5]), hq⟩
    · exact h0.elim
  · intro s w hj
    have hb := hround s w hj
    rw [← hcc]
    have e1 := body_frame_Stack_all_L1 f s w (fun f1 s1 w1 => f1 = f ∧ J s1 w1 ∧ μ s1 w1 < μ s w) (fun f1 startsP_1 startsN_1 startsC_1 w1 => f1 = f ∧ Q (.exit 0) [⟨0, .pointer f.1, none⟩, ⟨1, f.2.1, none⟩, ⟨4, .map f.2.2.1, none⟩, ⟨5, .slice startsP_1 startsN_1 startsC_1, none⟩] w1)
    simp only [true_and] at e1
    exact cast e1 hb

theorem ok_frame_Stack_all_L2 : OneOk Try.prog Try.f35.ntmps G_frame_Stack_all (codeOf Try.f35) [false, true, true, true, true] spec_frame_Stack_all_L2 := by
  intro c hc ih Q e w a hr h
  have hcc : sub (codeOf Try.f35) [false, false, true, true, true, true] = c := sub_of_codeAt hc
  obtain ⟨f, s, h, hrep⟩ := dec_frame_Stack_all_L2_ok e a _ hr h
  obtain ⟨J, μ, hj, hround⟩ := h
  refine loop_rule_deep seat_ok seat_mixed ih lit_frame_Stack_all_L2 dec_frame_Stack_all_L2 dec_frame_Stack_all_L2_ok hc f J μ (Kr := fun e w => dx_frame_Stack_all_L2_ret e fun f1 => f1 = f ∧ Q .ret [] w) (Kx := fun id e w => match Nat.beq id 2 with | true => (dx_frame_Stack_all_L2_2 e fun f1 => f1 = f ∧ Q (.exit 2) [] w) | false => False) ?_ ?_ ?_ s w a hj hrep
  · intro e a w hr h0
    unfold dx_frame_Stack_all_L2_ret at h0
    obtain ⟨u1, g0, h1⟩ := onV_elim h0
    obtain ⟨sx_2, rfl, h2⟩ := asP_elim h1
    obtain ⟨u2, g1, h3⟩ := onV_elim h2
    obtain ⟨each_2, rfl, h4⟩ := asV_elim h3
    obtain ⟨u3, g4, h5⟩ := onV_elim h4
    obtain ⟨seen_1, rfl, h6⟩ := asM_elim h5
    obtain ⟨u4, g31, h7⟩ := onV_elim h6
    obtain ⟨t31P, t31N, t31C, rfl, h8⟩ := asS_elim h7
    obtain ⟨u5, g32, h9⟩ := onV_elim h8
    obtain ⟨t32, rfl, h10⟩ := asI_elim h9
    obtain ⟨hf, hq⟩ := h10
    subst hf
    exact ⟨_, rep_less hr (by simp), hq⟩
  · intro id e a w hr h0
    (try dsimp only at h0)
    split at h0
    · rename_i hid
      obtain rfl := Nat.eq_of_beq_eq_true hid
      unfold dx_frame_Stack_all_L2_2 at h0
      obtain ⟨u1, g0, h1⟩ := onV_elim h0
      obtain ⟨sx_2, rfl, h2⟩ := asP_elim h1
      obtain ⟨u2, g1, h3⟩ := onV_elim h2
      obtain ⟨each_2, rfl, h4⟩ := asV_elim h3
      obtain ⟨u3, g4, h5⟩ := onV_elim h4
      obtain ⟨seen_1, rfl, h6⟩ := asM_elim h5
      obtain ⟨u4, g31, h7⟩ := onV_elim h6
      obtain ⟨t31P, t31N, t31C, rfl, h8⟩ := asS_elim h7
      obtain ⟨u5, g32, h9⟩ := onV_elim h8
      obtain ⟨t32, rfl, h10⟩ := asI_elim h9
      obtain ⟨hf, hq⟩ := h10
      subst hf
      exact ⟨_, rep_less hr (by simp), hq⟩
    · exact h0.elim
  · intro s w hj
    have hb := hround s w hj
    rw [← hcc]
    have e1 := body_frame_Stack_all_L2 f s w (fun f1 s1 w1 => f1 = f ∧ J s1 w1 ∧ μ s1 w1 < μ s w) (fun f1 w1 => f1 = f ∧ Q (.exit 2) [] w1) (fun f1 w1 => f1 = f ∧ Q .ret [] w1)
    simp only [true_and] at e1
    exact cast e1 hb

theorem ok_frame_Stack_all_L3 : OneOk Try.prog Try.f35.ntmps G_frame_Stack_all (codeOf Try.f35) [false, true, false, false, true, true, false, false, true, true, true, true] spec_frame_Stack_all_L3 := by
  intro c hc ih Q e w a hr h
  have hcc : sub (codeOf Try.f35) [false, false, true, false, false, true, true, false, false, true, true, true, true] = c := sub_of_codeAt hc
  obtain ⟨f, s, h, hrep⟩ := dec_frame_Stack_all_L3_ok e a _ hr h
  obtain ⟨J, μ, hj, hround⟩ := h
  refine loop_rule_deep seat_ok seat_mixed ih lit_frame_Stack_all_L3 dec_frame_Stack_all_L3 dec_frame_Stack_all_L3_ok hc f J μ (Kr := fun e w => dx_frame_Stack_all_L3_ret e fun f1 => f1 = f ∧ Q .ret [⟨0, .pointer f.1, none⟩, ⟨1, f.2.1, none⟩, ⟨4, .map f.2.2.1, none⟩, ⟨31, .slice f.2.2.2.1 f.2.2.2.2.1 f.2.2.2.2.2.1, none⟩, ⟨32, .int .i64 f.2.2.2.2.2.2.1, none⟩] w) (Kx := fun id e w => match Nat.beq id 4 with | true => (dx_frame_Stack_all_L3_4 e fun f1 => f1 = f ∧ Q (.exit 4) [⟨0, .pointer f.1, none⟩, ⟨1, f.2.1, none⟩, ⟨4, .map f.2.2.1, none⟩, ⟨31, .slice f.2.2.2.1 f.2.2.2.2.1 f.2.2.2.2.2.1, none⟩, ⟨32, .int .i64 f.2.2.2.2.2.2.1, none⟩, ⟨33, .int .i64 f.2.2.2.2.2.2.2, none⟩] w) | false => False) ?_ ?_ ?_ s w a hj hrep
  · intro e a w hr h0
    unfold dx_frame_Stack_all_L3_ret at h0
    obtain ⟨u1, g0, h1⟩ := onV_elim h0
    obtain ⟨sx_3, rfl, h2⟩ := asP_elim h1
    obtain ⟨u2, g1, h3⟩ := onV_elim h2
    obtain ⟨each_3, rfl, h4⟩ := asV_elim h3
    obtain ⟨u3, g4, h5⟩ := onV_elim h4
    obtain ⟨seen_2, rfl, h6⟩ := asM_elim h5
    obtain ⟨u4, g31, h7⟩ := onV_elim h6
    obtain ⟨t31P_1, t31N_1, t31C_1, rfl, h8⟩ := asS_elim h7
    obtain ⟨u5, g32, h9⟩ := onV_elim h8
    obtain ⟨t32_1, rfl, h10⟩ := asI_elim h9
    obtain ⟨u6, g33, h11⟩ := onV_elim h10
    obtain ⟨t33_1, rfl, h12⟩ := asI_elim h11
    obtain ⟨hf, hq⟩ := h12
    subst hf
    exact ⟨_, rep_less hr (by simp [g0, g1, g4, g31, g32]), hq⟩
  · intro id e a w hr h0
    (try dsimp only at h0)
    split at h0
    · rename_i hid
      obtain rfl := Nat.eq_of_beq_eq_true hid
      unfold dx_frame_Stack_all_L3_4 at h0
      obtain ⟨u1, g0, h1⟩ := onV_elim h0
      obtain ⟨sx_3, rfl, h2⟩ := asP_elim h1
      obtain ⟨u2, g1, h3⟩ := onV_elim h2
      obtain ⟨each_3, rfl, h4⟩ := asV_elim h3
      obtain ⟨u3, g4, h5⟩ := onV_elim h4
      obtain ⟨seen_2, rfl, h6⟩ := asM_elim h5
      obtain ⟨u4, g31, h7⟩ := onV_elim h6
      obtain ⟨t31P_1, t31N_1, t31C_1, rfl, h8⟩ := asS_elim h7
      obtain ⟨u5, g32, h9⟩ := onV_elim h8
      obtain ⟨t32_1, rfl, h10⟩ := asI_elim h9
      obtain ⟨u6, g33, h11⟩ := onV_elim h10
      obtain ⟨t33_1, rfl, h12⟩ := asI_elim h11
      obtain ⟨hf, hq⟩ := h12
      subst hf
      exact ⟨_, rep_less hr (by simp [g0, g1, g4, g31, g32, g33]), hq⟩
    · exact h0.elim
  · intro s w hj
    have hb := hround s w hj
    rw [← hcc]
    have e1 := body_frame_Stack_all_L3 f s w (fun f1 s1 w1 => f1 = f ∧ J s1 w1 ∧ μ s1 w1 < μ s w) (fun f1 w1 => f1 = f ∧ Q (.exit 4) [⟨0, .pointer f.1, none⟩, ⟨1, f.2.1, none⟩, ⟨4, .map f.2.2.1, none⟩, ⟨31, .slice f.2.2.2.1 f.2.2.2.2.1 f.2.2.2.2.2.1, none⟩, ⟨32, .int .i64 f.2.2.2.2.2.2.1, none⟩, ⟨33, .int .i64 f.2.2.2.2.2.2.2, none⟩] w1) (fun f1 w1 => f1 = f ∧ Q .ret [⟨0, .pointer f.1, none⟩, ⟨1, f.2.1, none⟩, ⟨4, .map f.2.2.1, none⟩, ⟨31, .slice f.2.2.2.1 f.2.2.2.2.1 f.2.2.2.2.2.1, none⟩, ⟨32, .int .i64 f.2.2.2.2.2.2.1, none⟩] w1)
    simp only [true_and] at e1
    exact cast e1 hb

theorem loops_frame_Stack_all : LoopOk Try.prog Try.f35.ntmps G_frame_Stack_all (codeOf Try.f35) := loopOk_list rfl ⟨ok_frame_Stack_all_L1, ⟨ok_frame_Stack_all_L2, ⟨ok_frame_Stack_all_L3, trivial⟩⟩⟩

theorem den_frame_Stack_all (sx : Option Addr) (each : Value) (w : World) (R : Value → World → Prop) :
    F_frame_Stack_all sx each w (fun w1 => R (.tuple #[]) w1) = den Try.prog Try.f35.ntmps G_frame_Stack_all (codeOf Try.f35) [] (postD Try.prog Try.f35.results.toList R) (entry [.pointer sx, each] 0) w := by kernel_rfl

theorem C_frame_Stack_all.of {sx : Option Addr} {each : Value} {w : World} {R : World → Prop} (h : F_frame_Stack_all sx each w R) : C_frame_Stack_all sx each w R := by
  refine (calls_of_den (c := codeOf Try.f35) seat_ok seat_mixed Try.func35 (by kernel_rfl) loops_frame_Stack_all (args := [.pointer sx, each]) rfl (R := fun v w1 => v = (.tuple #[] : Value) ∧ R w1) ?_).mono ?_
  · rw [← den_frame_Stack_all]
    simpa using h
  · rintro en w1 ⟨v, he, rfl, h⟩
    exact ⟨he, h⟩

end Go.Proofs.Ytdmjbkpibgfeiaa
