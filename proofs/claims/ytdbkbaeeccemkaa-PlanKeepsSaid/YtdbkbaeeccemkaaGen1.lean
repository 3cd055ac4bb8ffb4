/- The formulas of this seat's functions, held against the loaded program by the kernel. Printed by a program. -/
import Derived.Test.YtdbkbaeeccemkaaGenC
set_option maxRecDepth 100000
set_option linter.unusedVariables false
namespace Go.Proofs.Ytdbkbaeeccemkaa
open Go Go.D Go.Proofs

def F_gosem_cut_init (w : World) (R : World → Prop) : Prop :=
  CallX Try.prog 1 [] w fun v w1 => v = (.tuple #[]) ∧
  R w1

def G_gosem_cut_init : Gen where
  loop := lookL []
  plan := fun _ => none

theorem loops_gosem_cut_init : LoopOk Try.prog Try.f2.ntmps G_gosem_cut_init (codeOf Try.f2) := loopOk_none fun _ => rfl

theorem C_gosem_cut_init.of {w : World} {R : World → Prop} (h : F_gosem_cut_init w R) : C_gosem_cut_init w R := ofS1 (Fm := F_gosem_cut_init w) Try.func2 (by kernel_rfl) loops_gosem_cut_init rfl (fun _ => by kernel_rfl) h

structure S_law15_PlanLives_L1 where
  mostx : Int
  i : Int

def F_law15_PlanLives_k1 (R : Bool → World → Prop) (w1_14 : World) : Prop :=
  R true w1_14

/-- One round. -/
def B_law15_PlanLives_L1 (p : Addr) (s : S_law15_PlanLives_L1) (w : World) (Kn : S_law15_PlanLives_L1 → World → Prop) (Kx0 : Int → World → Prop) (Kr : Bool → World → Prop) : Prop :=
  ∃ LiveP : Option Addr, ∃ LiveN : Nat, ∃ LiveC : Nat, w.cell? (p.add 3) = some (.slice LiveP LiveN LiveC) ∧
  If (decide ((s.i : Int) < (LiveN : Int)))
  (∃ LiveP_1 : Option Addr, ∃ LiveN_1 : Nat, ∃ LiveC_1 : Nat, w.cell? (p.add 3) = some (.slice LiveP_1 LiveN_1 LiveC_1) ∧
  0 ≤ (s.i : Int) ∧ (s.i : Int) < (LiveN_1 : Int) ∧ NN LiveP_1 fun a =>
  ∃ t36 : Int, w.cell? (a.add ((s.i : Int).toNat * 1)) = some (.int .i64 t36) ∧
  If (decide (t36 < (0 : Int)))
  (Kr false w)
  (∃ LiveP_2 : Option Addr, ∃ LiveN_2 : Nat, ∃ LiveC_2 : Nat, w.cell? (p.add 3) = some (.slice LiveP_2 LiveN_2 LiveC_2) ∧
  0 ≤ (s.i : Int) ∧ (s.i : Int) < (LiveN_2 : Int) ∧ NN LiveP_2 fun a_1 =>
  ∃ t43 : Int, w.cell? (a_1.add ((s.i : Int).toNat * 1)) = some (.int .i64 t43) ∧
  If (decide (t43 > (s.mostx : Int)))
  (Kr false w)
  (∃ LiveP_3 : Option Addr, ∃ LiveN_3 : Nat, ∃ LiveC_3 : Nat, w.cell? (p.add 3) = some (.slice LiveP_3 LiveN_3 LiveC_3) ∧
  0 ≤ (s.i : Int) ∧ (s.i : Int) < (LiveN_3 : Int) ∧ NN LiveP_3 fun a_2 =>
  ∃ t51 : Int, w.cell? (a_2.add ((s.i : Int).toNat * 1)) = some (.int .i64 t51) ∧
  Kn ⟨t51, (IntKind.i64.wrap ((s.i : Int) + (1 : Int)))⟩ w)))
  (Kx0 (s.mostx : Int) w)

def F_law15_PlanLives_L1 (p : Addr) (s : S_law15_PlanLives_L1) (w : World) (Kx0 : Int → World → Prop) (Kr : Bool → World → Prop) : Prop :=
  LoopS (fun s w Kn => B_law15_PlanLives_L1 p s w Kn Kx0 Kr) s w

def F_law15_PlanLives (c0 : Int) (c1 : Int) (c2 : ByteArray) (c3P : Option Addr) (c3N : Nat) (c3C : Nat) (c4P : Option Addr) (c4N : Nat) (c4C : Nat) (c5 : Int) (w : World) (R : Bool → World → Prop) : Prop :=
  New w (.cells #[.int .i64 c0, .int .i64 c1, .string c2, .slice c3P c3N c3C, .slice c4P c4N c4C, .int .i64 c5] 27) fun r w1 =>
  ∃ t70 : Int, w1.cell? ((⟨r, 0, none⟩ : Addr).add 0) = some (.int .i64 t70) ∧
  ∃ t71 : Int, w1.cell? ((⟨r, 0, none⟩ : Addr).add 1) = some (.int .i64 t71) ∧
  ∃ t72 : ByteArray, w1.cell? ((⟨r, 0, none⟩ : Addr).add 2) = some (.string t72) ∧
  ∃ t73P : Option Addr, ∃ t73N : Nat, ∃ t73C : Nat, w1.cell? ((⟨r, 0, none⟩ : Addr).add 3) = some (.slice t73P t73N t73C) ∧
  ∃ t74P : Option Addr, ∃ t74N : Nat, ∃ t74C : Nat, w1.cell? ((⟨r, 0, none⟩ : Addr).add 4) = some (.slice t74P t74N t74C) ∧
  ∃ t75 : Int, w1.cell? ((⟨r, 0, none⟩ : Addr).add 5) = some (.int .i64 t75) ∧
  C_ref15_Large t70 t71 t72 t73P t73N t73C t74P t74N t74C t75 w1 fun t8 w1_1 =>
  If t8
  (C_law15_lives  w1_1 fun t9 w1_2 =>
  R t9 w1_2)
  (∃ t110 : Int, w1_1.cell? ((⟨r, 0, none⟩ : Addr).add 0) = some (.int .i64 t110) ∧
  ∃ t111 : Int, w1_1.cell? ((⟨r, 0, none⟩ : Addr).add 1) = some (.int .i64 t111) ∧
  ∃ t112 : ByteArray, w1_1.cell? ((⟨r, 0, none⟩ : Addr).add 2) = some (.string t112) ∧
  ∃ t113P : Option Addr, ∃ t113N : Nat, ∃ t113C : Nat, w1_1.cell? ((⟨r, 0, none⟩ : Addr).add 3) = some (.slice t113P t113N t113C) ∧
  ∃ t114P : Option Addr, ∃ t114N : Nat, ∃ t114C : Nat, w1_1.cell? ((⟨r, 0, none⟩ : Addr).add 4) = some (.slice t114P t114N t114C) ∧
  ∃ t115 : Int, w1_1.cell? ((⟨r, 0, none⟩ : Addr).add 5) = some (.int .i64 t115) ∧
  C_plan_Of t110 t111 t112 t113P t113N t113C t114P t114N t114C t115 w1_1 fun t1200 t1201P t1201N t1201C t1202 t1203P t1203N t1203C t121 w1_3 =>
  New w1_3 (.cells #[.bool false, .slice none 0 0, .int .i64 0, .slice none 0 0] 32) fun r_1 w1_4 =>
  St w1_4 ((⟨r_1, 0, none⟩ : Addr).add 0) (.bool t1200) fun w1_5 =>
  St w1_5 ((⟨r_1, 0, none⟩ : Addr).add 1) (.slice t1201P t1201N t1201C) fun w1_6 =>
  St w1_6 ((⟨r_1, 0, none⟩ : Addr).add 2) (.int .i64 t1202) fun w1_7 =>
  St w1_7 ((⟨r_1, 0, none⟩ : Addr).add 3) (.slice t1203P t1203N t1203C) fun w1_8 =>
  C_law15_lives  w1_8 fun t15 w1_9 =>
  If (!t15)
  (C_law15_lives  w1_9 fun t21 w1_10 =>
  R t21 w1_10)
  (If (t121 != (0 : Int))
  (C_law15_lives  w1_9 fun t21_1 w1_11 =>
  R t21_1 w1_11)
  (∃ SlotsP : Option Addr, ∃ SlotsN : Nat, ∃ SlotsC : Nat, w1_9.cell? ((⟨r_1, 0, none⟩ : Addr).add 1) = some (.slice SlotsP SlotsN SlotsC) ∧
  F_law15_PlanLives_L1 ⟨r_1, 0, none⟩ ⟨(SlotsN : Int), (0 : Int)⟩ w1_9
  (fun mostx_2 w1_12 =>
  ∃ LiveP_4 : Option Addr, ∃ LiveN_4 : Nat, ∃ LiveC_4 : Nat, w1_12.cell? ((⟨r_1, 0, none⟩ : Addr).add 3) = some (.slice LiveP_4 LiveN_4 LiveC_4) ∧
  If ((LiveN_4 : Int) == (0 : Int))
  (F_law15_PlanLives_k1 R w1_12)
  (If (decide (mostx_2 ≤ (1 : Int)))
  (If (mostx_2 == (0 : Int))
  (F_law15_PlanLives_k1 R w1_12)
  (∃ Level : Int, w1_12.cell? ((⟨r_1, 0, none⟩ : Addr).add 2) = some (.int .i64 Level) ∧
  R (Level == (1 : Int)) w1_12))
  (R false w1_12)))
  (fun t2_1 w1_13 =>
  R t2_1 w1_13))))

def lit_law15_PlanLives_L1 (f : Addr) (s : S_law15_PlanLives_L1) : Env := [⟨3, .pointer (some f), none⟩, ⟨5, .int .i64 s.mostx, none⟩, ⟨6, .int .i64 s.i, none⟩]

def dec_law15_PlanLives_L1 (e : Env) (K : Addr → S_law15_PlanLives_L1 → Prop) : Prop :=
  oA e 3 fun p =>
  oI e 5 .i64 fun mostx =>
  oI e 6 .i64 fun i =>
    K (p) ⟨mostx, i⟩

theorem dec_law15_PlanLives_L1_ok {N : Nat} (e : Env) (a : Act) (K : Addr → S_law15_PlanLives_L1 → Prop) (hr : Rep N a e) (h0 : dec_law15_PlanLives_L1 e K) : ∃ f s, K f s ∧ Rep N a (lit_law15_PlanLives_L1 f s) := by
  unfold dec_law15_PlanLives_L1 at h0
  obtain ⟨p, g3, h1⟩ := oA_elim h0
  obtain ⟨mostx, g5, h2⟩ := oI_elim h1
  obtain ⟨i, g6, h3⟩ := oI_elim h2
  exact ⟨_, _, h3, rep_less hr (by simp [lit_law15_PlanLives_L1, g3, g5, g6])⟩

def spec_law15_PlanLives_L1 (Q : Post) (e : Env) (w : World) : Prop :=
  dec_law15_PlanLives_L1 e fun f s => F_law15_PlanLives_L1 f s w (fun mostx_1 w1 => Q (.exit 0) [⟨3, .pointer (some f), none⟩, ⟨5, .int .i64 mostx_1, none⟩] w1) (fun t2 w1 => Q .ret [⟨2, .bool t2, none⟩] w1)

def G_law15_PlanLives : Gen where
  loop := lookL [([false, true, false, true, true, true, true, true], spec_law15_PlanLives_L1)]
  plan := fun _ => none

def dx_law15_PlanLives_L1_0 (e : Env) (K : Addr → Int → Prop) : Prop :=
  oA e 3 fun p =>
  oI e 5 .i64 fun mostx_1 =>
    K (p) mostx_1

def dx_law15_PlanLives_L1_ret (e : Env) (K : Addr → Bool → Prop) : Prop :=
  oA e 3 fun p =>
  oB e 2 fun t2 =>
    K (p) t2

theorem body_law15_PlanLives_L1 (f : Addr) (s : S_law15_PlanLives_L1) (w : World) (Kn : Addr → S_law15_PlanLives_L1 → World → Prop) (Kx0 : Addr → Int → World → Prop) (Kr : Addr → Bool → World → Prop) :
    B_law15_PlanLives_L1 f s w (fun s1 w1 => Kn f s1 w1) (fun mostx_1 w1 => Kx0 f mostx_1 w1) (fun t2 w1 => Kr f t2 w1) =
    den Try.prog Try.f3.ntmps G_law15_PlanLives (sub (codeOf Try.f3) [false, false, true, false, true, true, true, true, true]) [false, false, true, false, true, true, true, true, true] (roundQ (fun e w => dec_law15_PlanLives_L1 e fun f s => Kn f s w) (fun e w => dx_law15_PlanLives_L1_ret e fun f t2 => Kr f t2 w) (fun id e w => match Nat.beq id 0 with | true => dx_law15_PlanLives_L1_0 e fun f mostx_1 => Kx0 f mostx_1 w | false => False)) (lit_law15_PlanLives_L1 f s) w := by kernel_rfl

theorem ok_law15_PlanLives_L1 : OneOk Try.prog Try.f3.ntmps G_law15_PlanLives (codeOf Try.f3) [false, true, false, true, true, true, true, true] spec_law15_PlanLives_L1 := by
  intro c hc ih Q e w a hr h
  have hcc : sub (codeOf Try.f3) [false, false, true, false, true, true, true, true, true] = c := sub_of_codeAt hc
  obtain ⟨f, s, h, hrep⟩ := dec_law15_PlanLives_L1_ok e a _ hr h
  obtain ⟨J, μ, hj, hround⟩ := h
  refine loop_rule_deep seat_ok seat_mixed ih lit_law15_PlanLives_L1 dec_law15_PlanLives_L1 dec_law15_PlanLives_L1_ok hc f J μ (Kr := fun e w => dx_law15_PlanLives_L1_ret e fun f1 t2 => f1 = f ∧ Q .ret [⟨2, .bool t2, none⟩] w) (Kx := fun id e w => match Nat.beq id 0 with | true => (dx_law15_PlanLives_L1_0 e fun f1 mostx_1 => f1 = f ∧ Q (.exit 0) [⟨3, .pointer (some f), none⟩, ⟨5, .int .i64 mostx_1, none⟩] w) | false => False) ?_ ?_ ?_ s w a hj hrep
  · intro e a w hr h0
    unfold dx_law15_PlanLives_L1_ret at h0
    obtain ⟨p, g3, h1⟩ := oA_elim h0
    obtain ⟨t2, g2, h2⟩ := oB_elim h1
    obtain ⟨hf, hq⟩ := h2
    subst hf
    exact ⟨_, rep_less hr (by simp [g2]), hq⟩
  · intro id e a w hr h0
    (try dsimp only at h0)
    split at h0
    · rename_i hid
      obtain rfl := Nat.eq_of_beq_eq_true hid
      unfold dx_law15_PlanLives_L1_0 at h0
      obtain ⟨p, g3, h1⟩ := oA_elim h0
      obtain ⟨mostx_1, g5, h2⟩ := oI_elim h1
      obtain ⟨hf, hq⟩ := h2
      subst hf
      exact ⟨_, rep_less hr (by simp [g3, g5]), hq⟩
    · exact h0.elim
  · intro s w hj
    have hb := hround s w hj
    rw [← hcc]
    have e1 := body_law15_PlanLives_L1 f s w (fun f1 s1 w1 => f1 = f ∧ J s1 w1 ∧ μ s1 w1 < μ s w) (fun f1 mostx_1 w1 => f1 = f ∧ Q (.exit 0) [⟨3, .pointer (some f), none⟩, ⟨5, .int .i64 mostx_1, none⟩] w1) (fun f1 t2 w1 => f1 = f ∧ Q .ret [⟨2, .bool t2, none⟩] w1)
    simp only [true_and] at e1
    exact cast e1 hb

theorem loops_law15_PlanLives : LoopOk Try.prog Try.f3.ntmps G_law15_PlanLives (codeOf Try.f3) := loopOk_list rfl ⟨ok_law15_PlanLives_L1, trivial⟩

theorem C_law15_PlanLives.of {c0 : Int} {c1 : Int} {c2 : ByteArray} {c3P : Option Addr} {c3N : Nat} {c3C : Nat} {c4P : Option Addr} {c4N : Nat} {c4C : Nat} {c5 : Int} {w : World} {R : Bool → World → Prop} (h : F_law15_PlanLives c0 c1 c2 c3P c3N c3C c4P c4N c4C c5 w R) : C_law15_PlanLives c0 c1 c2 c3P c3N c3C c4P c4N c4C c5 w R := ofS2 (Fm := F_law15_PlanLives c0 c1 c2 c3P c3N c3C c4P c4N c4C c5 w) Try.func3 (by kernel_rfl) loops_law15_PlanLives rfl (fun _ => by kernel_rfl) h

structure S_law15_PlanKeeps_L2 where
  i : Int

structure S_law15_PlanKeeps_L1 where
  metP : Option Addr
  metN : Nat
  metC : Nat
  gx : Int

def F_law15_PlanKeeps_k2 (s : S_law15_PlanKeeps_L2) (Kn : S_law15_PlanKeeps_L2 → World → Prop) (w1_19 : World) : Prop :=
  Kn ⟨(IntKind.i64.wrap ((s.i : Int) + (1 : Int)))⟩ w1_19

def F_law15_PlanKeeps_k1 (s : S_law15_PlanKeeps_L2) (Kn : S_law15_PlanKeeps_L2 → World → Prop) (w1_18 : World) : Prop :=
  F_law15_PlanKeeps_k2 s Kn w1_18

def F_law15_PlanKeeps_k3 (s : S_law15_PlanKeeps_L1) (Kn : S_law15_PlanKeeps_L1 → World → Prop) (metP_2 : Option Addr) (metN_2 : Nat) (metC_2 : Nat) (w1_23 : World) : Prop :=
  Kn ⟨metP_2, metN_2, metC_2, (IntKind.i64.wrap ((s.gx : Int) + (1 : Int)))⟩ w1_23

/-- One round. -/
def B_law15_PlanKeeps_L2 (cx_1 : Addr) (p_1 : Addr) (metP_1 : Option Addr) (metN_1 : Nat) (metC_1 : Nat) (gx_1 : Int) (vP : Option Addr) (vN : Nat) (vC : Nat) (k : Int) (s : S_law15_PlanKeeps_L2) (w : World) (Kn : S_law15_PlanKeeps_L2 → World → Prop) (Kx2 : World → Prop) (Kr : Bool → World → Prop) : Prop :=
  If (decide ((s.i : Int) < (vN : Int)))
  (If (decide (k > (0 : Int)))
  (0 ≤ (s.i : Int) ∧ (s.i : Int) < (vN : Int) ∧ NN vP fun a_2 =>
  ∃ t65 : Int, (drw w).cell? (a_2.add ((s.i : Int).toNat * 1)) = some (.int .i64 t65) ∧
  C_law15_has metP_1 metN_1 metC_1 t65 (drw w) fun t66 w1_15 =>
  If t66
  (∃ SlotsP : Option Addr, ∃ SlotsN : Nat, ∃ SlotsC : Nat, w1_15.cell? (p_1.add 1) = some (.slice SlotsP SlotsN SlotsC) ∧
  0 ≤ (s.i : Int) ∧ (s.i : Int) < (vN : Int) ∧ NN vP fun a_3 =>
  ∃ t74 : Int, w1_15.cell? (a_3.add ((s.i : Int).toNat * 1)) = some (.int .i64 t74) ∧
  C_law15_has SlotsP SlotsN SlotsC t74 w1_15 fun t75 w1_16 =>
  If (!t75)
  (∃ t780 : Int, (drw w1_16).cell? (cx_1.add 0) = some (.int .i64 t780) ∧
  ∃ t781 : Int, (drw w1_16).cell? (cx_1.add 1) = some (.int .i64 t781) ∧
  ∃ t782 : ByteArray, (drw w1_16).cell? (cx_1.add 2) = some (.string t782) ∧
  ∃ t783P : Option Addr, ∃ t783N : Nat, ∃ t783C : Nat, (drw w1_16).cell? (cx_1.add 3) = some (.slice t783P t783N t783C) ∧
  ∃ t784P : Option Addr, ∃ t784N : Nat, ∃ t784C : Nat, (drw w1_16).cell? (cx_1.add 4) = some (.slice t784P t784N t784C) ∧
  ∃ t785 : Int, (drw w1_16).cell? (cx_1.add 5) = some (.int .i64 t785) ∧
  0 ≤ (s.i : Int) ∧ (s.i : Int) < (vN : Int) ∧ NN vP fun a_4 =>
  ∃ t83 : Int, (drw w1_16).cell? (a_4.add ((s.i : Int).toNat * 1)) = some (.int .i64 t83) ∧
  C_law15_ahead t780 t781 t782 t783P t783N t783C t784P t784N t784C t785 gx_1 t83 (drw w1_16) fun t84 w1_17 =>
  If t84
  (Kr false w1_17)
  (F_law15_PlanKeeps_k2 s Kn w1_17))
  (F_law15_PlanKeeps_k2 s Kn w1_16))
  (F_law15_PlanKeeps_k1 s Kn w1_15))
  (F_law15_PlanKeeps_k1 s Kn (drw w)))
  (Kx2 w)

def F_law15_PlanKeeps_L2 (cx_1 : Addr) (p_1 : Addr) (metP_1 : Option Addr) (metN_1 : Nat) (metC_1 : Nat) (gx_1 : Int) (vP : Option Addr) (vN : Nat) (vC : Nat) (k : Int) (s : S_law15_PlanKeeps_L2) (w : World) (Kx2 : World → Prop) (Kr : Bool → World → Prop) : Prop :=
  LoopS (fun s w Kn => B_law15_PlanKeeps_L2 cx_1 p_1 metP_1 metN_1 metC_1 gx_1 vP vN vC k s w Kn Kx2 Kr) s w

/-- One round. -/
def B_law15_PlanKeeps_L1 (cx : Addr) (p : Addr) (s : S_law15_PlanKeeps_L1) (w : World) (Kn : S_law15_PlanKeeps_L1 → World → Prop) (Kx0 : World → Prop) (Kr : Bool → World → Prop) : Prop :=
  ∃ GoalsP : Option Addr, ∃ GoalsN : Nat, ∃ GoalsC : Nat, w.cell? (cx.add 4) = some (.slice GoalsP GoalsN GoalsC) ∧
  If (decide ((s.gx : Int) < (GoalsN : Int)))
  (∃ GoalsP_1 : Option Addr, ∃ GoalsN_1 : Nat, ∃ GoalsC_1 : Nat, w.cell? (cx.add 4) = some (.slice GoalsP_1 GoalsN_1 GoalsC_1) ∧
  0 ≤ (s.gx : Int) ∧ (s.gx : Int) < (GoalsN_1 : Int) ∧ NN GoalsP_1 fun a =>
  ∃ Kind : Int, w.cell? ((a.add ((s.gx : Int).toNat * 5)).add 0) = some (.int .i64 Kind) ∧
  If (Kind == (2 : Int))
  (F_law15_PlanKeeps_k3 s Kn s.metP s.metN s.metC w)
  (∃ GoalsP_2 : Option Addr, ∃ GoalsN_2 : Nat, ∃ GoalsC_2 : Nat, w.cell? (cx.add 4) = some (.slice GoalsP_2 GoalsN_2 GoalsC_2) ∧
  0 ≤ (s.gx : Int) ∧ (s.gx : Int) < (GoalsN_2 : Int) ∧ NN GoalsP_2 fun a_1 =>
  ∃ Term0 : Int, w.cell? (((a_1.add ((s.gx : Int).toNat * 5)).add 1).add 0) = some (.int .i64 Term0) ∧
  ∃ Term1 : Int, w.cell? (((a_1.add ((s.gx : Int).toNat * 5)).add 1).add 1) = some (.int .i64 Term1) ∧
  ∃ Term2 : ByteArray, w.cell? (((a_1.add ((s.gx : Int).toNat * 5)).add 1).add 2) = some (.string Term2) ∧
  ∃ Term3P : Option Addr, ∃ Term3N : Nat, ∃ Term3C : Nat, w.cell? (((a_1.add ((s.gx : Int).toNat * 5)).add 1).add 3) = some (.slice Term3P Term3N Term3C) ∧
  C_ref06_Vars Term0 Term1 Term2 Term3P Term3N Term3C w fun t48P t48N t48C w1_13 =>
  ∃ t490 : Int, w1_13.cell? (cx.add 0) = some (.int .i64 t490) ∧
  ∃ t491 : Int, w1_13.cell? (cx.add 1) = some (.int .i64 t491) ∧
  ∃ t492 : ByteArray, w1_13.cell? (cx.add 2) = some (.string t492) ∧
  ∃ t493P : Option Addr, ∃ t493N : Nat, ∃ t493C : Nat, w1_13.cell? (cx.add 3) = some (.slice t493P t493N t493C) ∧
  ∃ t494P : Option Addr, ∃ t494N : Nat, ∃ t494C : Nat, w1_13.cell? (cx.add 4) = some (.slice t494P t494N t494C) ∧
  ∃ t495 : Int, w1_13.cell? (cx.add 5) = some (.int .i64 t495) ∧
  C_plan_Chunk t490 t491 t492 t493P t493N t493C t494P t494N t494C t495 (s.gx : Int) w1_13 fun t51 w1_14 =>
  F_law15_PlanKeeps_L2 cx p s.metP s.metN s.metC (s.gx : Int) t48P t48N t48C t51 ⟨(0 : Int)⟩ w1_14
  (fun w1_20 =>
  App Try.prog #[30, 30] 30 #[.slice s.metP s.metN s.metC, .slice t48P t48N t48C] w1_20 fun t87P t87N t87C w1_22 =>
  F_law15_PlanKeeps_k3 s Kn t87P t87N t87C w1_22)
  (fun t2_2 w1_21 =>
  Kr t2_2 w1_21)))
  (Kx0 w)

def F_law15_PlanKeeps_L1 (cx : Addr) (p : Addr) (s : S_law15_PlanKeeps_L1) (w : World) (Kx0 : World → Prop) (Kr : Bool → World → Prop) : Prop :=
  LoopS (fun s w Kn => B_law15_PlanKeeps_L1 cx p s w Kn Kx0 Kr) s w

def F_law15_PlanKeeps (c0 : Int) (c1 : Int) (c2 : ByteArray) (c3P : Option Addr) (c3N : Nat) (c3C : Nat) (c4P : Option Addr) (c4N : Nat) (c4C : Nat) (c5 : Int) (w : World) (R : Bool → World → Prop) : Prop :=
  New w (.cells #[.int .i64 c0, .int .i64 c1, .string c2, .slice c3P c3N c3C, .slice c4P c4N c4C, .int .i64 c5] 27) fun r w1 =>
  ∃ t100 : Int, w1.cell? ((⟨r, 0, none⟩ : Addr).add 0) = some (.int .i64 t100) ∧
  ∃ t101 : Int, w1.cell? ((⟨r, 0, none⟩ : Addr).add 1) = some (.int .i64 t101) ∧
  ∃ t102 : ByteArray, w1.cell? ((⟨r, 0, none⟩ : Addr).add 2) = some (.string t102) ∧
  ∃ t103P : Option Addr, ∃ t103N : Nat, ∃ t103C : Nat, w1.cell? ((⟨r, 0, none⟩ : Addr).add 3) = some (.slice t103P t103N t103C) ∧
  ∃ t104P : Option Addr, ∃ t104N : Nat, ∃ t104C : Nat, w1.cell? ((⟨r, 0, none⟩ : Addr).add 4) = some (.slice t104P t104N t104C) ∧
  ∃ t105 : Int, w1.cell? ((⟨r, 0, none⟩ : Addr).add 5) = some (.int .i64 t105) ∧
  C_ref15_Large t100 t101 t102 t103P t103N t103C t104P t104N t104C t105 w1 fun t11 w1_1 =>
  If t11
  (C_law15_lives  w1_1 fun t12 w1_2 =>
  R t12 w1_2)
  (∃ t140 : Int, w1_1.cell? ((⟨r, 0, none⟩ : Addr).add 0) = some (.int .i64 t140) ∧
  ∃ t141 : Int, w1_1.cell? ((⟨r, 0, none⟩ : Addr).add 1) = some (.int .i64 t141) ∧
  ∃ t142 : ByteArray, w1_1.cell? ((⟨r, 0, none⟩ : Addr).add 2) = some (.string t142) ∧
  ∃ t143P : Option Addr, ∃ t143N : Nat, ∃ t143C : Nat, w1_1.cell? ((⟨r, 0, none⟩ : Addr).add 3) = some (.slice t143P t143N t143C) ∧
  ∃ t144P : Option Addr, ∃ t144N : Nat, ∃ t144C : Nat, w1_1.cell? ((⟨r, 0, none⟩ : Addr).add 4) = some (.slice t144P t144N t144C) ∧
  ∃ t145 : Int, w1_1.cell? ((⟨r, 0, none⟩ : Addr).add 5) = some (.int .i64 t145) ∧
  C_plan_Of t140 t141 t142 t143P t143N t143C t144P t144N t144C t145 w1_1 fun t1500 t1501P t1501N t1501C t1502 t1503P t1503N t1503C t151 w1_3 =>
  New w1_3 (.cells #[.bool false, .slice none 0 0, .int .i64 0, .slice none 0 0] 32) fun r_1 w1_4 =>
  St w1_4 ((⟨r_1, 0, none⟩ : Addr).add 0) (.bool t1500) fun w1_5 =>
  St w1_5 ((⟨r_1, 0, none⟩ : Addr).add 1) (.slice t1501P t1501N t1501C) fun w1_6 =>
  St w1_6 ((⟨r_1, 0, none⟩ : Addr).add 2) (.int .i64 t1502) fun w1_7 =>
  St w1_7 ((⟨r_1, 0, none⟩ : Addr).add 3) (.slice t1503P t1503N t1503C) fun w1_8 =>
  C_law15_lives  w1_8 fun t18 w1_9 =>
  If (!t18)
  (C_law15_lives  w1_9 fun t24 w1_10 =>
  R t24 w1_10)
  (If (t151 != (0 : Int))
  (C_law15_lives  w1_9 fun t24_1 w1_11 =>
  R t24_1 w1_11)
  (∃ Head0 : Int, w1_9.cell? (((⟨r, 0, none⟩ : Addr).add 0).add 0) = some (.int .i64 Head0) ∧
  ∃ Head1 : Int, w1_9.cell? (((⟨r, 0, none⟩ : Addr).add 0).add 1) = some (.int .i64 Head1) ∧
  ∃ Head2 : ByteArray, w1_9.cell? (((⟨r, 0, none⟩ : Addr).add 0).add 2) = some (.string Head2) ∧
  ∃ Head3P : Option Addr, ∃ Head3N : Nat, ∃ Head3C : Nat, w1_9.cell? (((⟨r, 0, none⟩ : Addr).add 0).add 3) = some (.slice Head3P Head3N Head3C) ∧
  C_ref06_Vars Head0 Head1 Head2 Head3P Head3N Head3C w1_9 fun t27P t27N t27C w1_12 =>
  F_law15_PlanKeeps_L1 ⟨r, 0, none⟩ ⟨r_1, 0, none⟩ ⟨t27P, t27N, t27C, (0 : Int)⟩ w1_12
  (fun w1_24 =>
  R true w1_24)
  (fun t2_3 w1_25 =>
  R t2_3 w1_25))))

def lit_law15_PlanKeeps_L1 (f : Addr × Addr) (s : S_law15_PlanKeeps_L1) : Env := [⟨1, .pointer (some f.1), none⟩, ⟨3, .pointer (some f.2), none⟩, ⟨5, .slice s.metP s.metN s.metC, none⟩, ⟨6, .int .i64 s.gx, none⟩]

def dec_law15_PlanKeeps_L1 (e : Env) (K : (Addr × Addr) → S_law15_PlanKeeps_L1 → Prop) : Prop :=
  oA e 1 fun cx =>
  oA e 3 fun p =>
  oS e 5 fun metP metN metC =>
  oI e 6 .i64 fun gx =>
    K (cx, p) ⟨metP, metN, metC, gx⟩

theorem dec_law15_PlanKeeps_L1_ok {N : Nat} (e : Env) (a : Act) (K : (Addr × Addr) → S_law15_PlanKeeps_L1 → Prop) (hr : Rep N a e) (h0 : dec_law15_PlanKeeps_L1 e K) : ∃ f s, K f s ∧ Rep N a (lit_law15_PlanKeeps_L1 f s) := by
  unfold dec_law15_PlanKeeps_L1 at h0
  obtain ⟨cx, g1, h1⟩ := oA_elim h0
  obtain ⟨p, g3, h2⟩ := oA_elim h1
  obtain ⟨metP, metN, metC, g5, h3⟩ := oS_elim h2
  obtain ⟨gx, g6, h4⟩ := oI_elim h3
  exact ⟨_, _, h4, rep_less hr (by simp [lit_law15_PlanKeeps_L1, g1, g3, g5, g6])⟩

def spec_law15_PlanKeeps_L1 (Q : Post) (e : Env) (w : World) : Prop :=
  dec_law15_PlanKeeps_L1 e fun f s => F_law15_PlanKeeps_L1 f.1 f.2 s w (fun w1 => Q (.exit 0) [] w1) (fun t2 w1 => Q .ret [⟨2, .bool t2, none⟩] w1)

def lit_law15_PlanKeeps_L2 (f : Addr × Addr × (Option Addr) × Nat × Nat × Int × (Option Addr) × Nat × Nat × Int) (s : S_law15_PlanKeeps_L2) : Env := [⟨1, .pointer (some f.1), none⟩, ⟨3, .pointer (some f.2.1), none⟩, ⟨5, .slice f.2.2.1 f.2.2.2.1 f.2.2.2.2.1, none⟩, ⟨6, .int .i64 f.2.2.2.2.2.1, none⟩, ⟨7, .slice f.2.2.2.2.2.2.1 f.2.2.2.2.2.2.2.1 f.2.2.2.2.2.2.2.2.1, none⟩, ⟨8, .int .i64 f.2.2.2.2.2.2.2.2.2, none⟩, ⟨9, .int .i64 s.i, none⟩]

def dec_law15_PlanKeeps_L2 (e : Env) (K : (Addr × Addr × (Option Addr) × Nat × Nat × Int × (Option Addr) × Nat × Nat × Int) → S_law15_PlanKeeps_L2 → Prop) : Prop :=
  oA e 1 fun cx_1 =>
  oA e 3 fun p_1 =>
  oS e 5 fun metP_1 metN_1 metC_1 =>
  oI e 6 .i64 fun gx_1 =>
  oS e 7 fun vP vN vC =>
  oI e 8 .i64 fun k =>
  oI e 9 .i64 fun i =>
    K (cx_1, p_1, metP_1, metN_1, metC_1, gx_1, vP, vN, vC, k) ⟨i⟩

theorem dec_law15_PlanKeeps_L2_ok {N : Nat} (e : Env) (a : Act) (K : (Addr × Addr × (Option Addr) × Nat × Nat × Int × (Option Addr) × Nat × Nat × Int) → S_law15_PlanKeeps_L2 → Prop) (hr : Rep N a e) (h0 : dec_law15_PlanKeeps_L2 e K) : ∃ f s, K f s ∧ Rep N a (lit_law15_PlanKeeps_L2 f s) := by
  unfold dec_law15_PlanKeeps_L2 at h0
  obtain ⟨cx_1, g1, h1⟩ := oA_elim h0
  obtain ⟨p_1, g3, h2⟩ := oA_elim h1
  obtain ⟨metP_1, metN_1, metC_1, g5, h3⟩ := oS_elim h2
  obtain ⟨gx_1, g6, h4⟩ := oI_elim h3
  obtain ⟨vP, vN, vC, g7, h5⟩ := oS_elim h4
  obtain ⟨k, g8, h6⟩ := oI_elim h5
  obtain ⟨i, g9, h7⟩ := oI_elim h6
  exact ⟨_, _, h7, rep_less hr (by simp [lit_law15_PlanKeeps_L2, g1, g3, g5, g6, g7, g8, g9])⟩

def spec_law15_PlanKeeps_L2 (Q : Post) (e : Env) (w : World) : Prop :=
  dec_law15_PlanKeeps_L2 e fun f s => F_law15_PlanKeeps_L2 f.1 f.2.1 f.2.2.1 f.2.2.2.1 f.2.2.2.2.1 f.2.2.2.2.2.1 f.2.2.2.2.2.2.1 f.2.2.2.2.2.2.2.1 f.2.2.2.2.2.2.2.2.1 f.2.2.2.2.2.2.2.2.2 s w (fun w1 => Q (.exit 2) [⟨1, .pointer (some f.1), none⟩, ⟨3, .pointer (some f.2.1), none⟩, ⟨5, .slice f.2.2.1 f.2.2.2.1 f.2.2.2.2.1, none⟩, ⟨6, .int .i64 f.2.2.2.2.2.1, none⟩, ⟨7, .slice f.2.2.2.2.2.2.1 f.2.2.2.2.2.2.2.1 f.2.2.2.2.2.2.2.2.1, none⟩] w1) (fun t2_1 w1 => Q .ret [⟨1, .pointer (some f.1), none⟩, ⟨3, .pointer (some f.2.1), none⟩, ⟨2, .bool t2_1, none⟩] w1)

def G_law15_PlanKeeps : Gen where
  loop := lookL [([false, true, false, true, true, true, true, true], spec_law15_PlanKeeps_L1), ([false, true, false, true, true, true, false, false, true, false, false, true, false, true, true, true, true, true], spec_law15_PlanKeeps_L2)]
  plan := fun id =>
    bif Nat.beq id 16 then some ([0, 1, 3, 7, 7, 7, 55, 119, 255, 511, 1023, 2047, 4095, 2047, 2047, 26623, 59391, 131071, 262143, 524287], .take 0 (.take 1 (.take 2 (.take 3 (.take 4 (.take 5 (.take 6 (.take 7 (.take 8 (.take 9 (.take 10 (.take 11 (.take 12 (.take 13 (.take 14 (.take 15 (.take 16 (.take 17 (.take 18 (.take 19 .done)))))))))))))))))))) else
    bif Nat.beq id 17 then some ([0, 0, 0, 0, 12, 28, 63], .take 0 (.take 1 (.take 2 (.take 3 (.take 4 (.take 5 (.take 6 .done))))))) else none

def dx_law15_PlanKeeps_L1_0 (e : Env) (K : (Addr × Addr) → Prop) : Prop :=
  oA e 1 fun cx =>
  oA e 3 fun p =>
    K (cx, p)

def dx_law15_PlanKeeps_L1_ret (e : Env) (K : (Addr × Addr) → Bool → Prop) : Prop :=
  oA e 1 fun cx =>
  oA e 3 fun p =>
  oB e 2 fun t2 =>
    K (cx, p) t2

theorem body_law15_PlanKeeps_L1 (f : Addr × Addr) (s : S_law15_PlanKeeps_L1) (w : World) (Kn : (Addr × Addr) → S_law15_PlanKeeps_L1 → World → Prop) (Kx0 : (Addr × Addr) → World → Prop) (Kr : (Addr × Addr) → Bool → World → Prop) :
    B_law15_PlanKeeps_L1 f.1 f.2 s w (fun s1 w1 => Kn f s1 w1) (fun w1 => Kx0 f w1) (fun t2 w1 => Kr f t2 w1) =
    den Try.prog Try.f4.ntmps G_law15_PlanKeeps (sub (codeOf Try.f4) [false, false, true, false, true, true, true, true, true]) [false, false, true, false, true, true, true, true, true] (roundQ (fun e w => dec_law15_PlanKeeps_L1 e fun f s => Kn f s w) (fun e w => dx_law15_PlanKeeps_L1_ret e fun f t2 => Kr f t2 w) (fun id e w => match Nat.beq id 0 with | true => dx_law15_PlanKeeps_L1_0 e fun f => Kx0 f w | false => False)) (lit_law15_PlanKeeps_L1 f s) w := by kernel_rfl

def dx_law15_PlanKeeps_L2_2 (e : Env) (K : (Addr × Addr × (Option Addr) × Nat × Nat × Int × (Option Addr) × Nat × Nat × Int) → Prop) : Prop :=
  oA e 1 fun cx_1 =>
  oA e 3 fun p_1 =>
  oS e 5 fun metP_1 metN_1 metC_1 =>
  oI e 6 .i64 fun gx_1 =>
  oS e 7 fun vP vN vC =>
  oI e 8 .i64 fun k =>
    K (cx_1, p_1, metP_1, metN_1, metC_1, gx_1, vP, vN, vC, k)

def dx_law15_PlanKeeps_L2_ret (e : Env) (K : (Addr × Addr × (Option Addr) × Nat × Nat × Int × (Option Addr) × Nat × Nat × Int) → Bool → Prop) : Prop :=
  oA e 1 fun cx_1 =>
  oA e 3 fun p_1 =>
  oS e 5 fun metP_1 metN_1 metC_1 =>
  oI e 6 .i64 fun gx_1 =>
  oS e 7 fun vP vN vC =>
  oI e 8 .i64 fun k =>
  oB e 2 fun t2_1 =>
    K (cx_1, p_1, metP_1, metN_1, metC_1, gx_1, vP, vN, vC, k) t2_1

theorem body_law15_PlanKeeps_L2 (f : Addr × Addr × (Option Addr) × Nat × Nat × Int × (Option Addr) × Nat × Nat × Int) (s : S_law15_PlanKeeps_L2) (w : World) (Kn : (Addr × Addr × (Option Addr) × Nat × Nat × Int × (Option Addr) × Nat × Nat × Int) → S_law15_PlanKeeps_L2 → World → Prop) (Kx2 : (Addr × Addr × (Option Addr) × Nat × Nat × Int × (Option Addr) × Nat × Nat × Int) → World → Prop) (Kr : (Addr × Addr × (Option Addr) × Nat × Nat × Int × (Option Addr) × Nat × Nat × Int) → Bool → World → Prop) :
    B_law15_PlanKeeps_L2 f.1 f.2.1 f.2.2.1 f.2.2.2.1 f.2.2.2.2.1 f.2.2.2.2.2.1 f.2.2.2.2.2.2.1 f.2.2.2.2.2.2.2.1 f.2.2.2.2.2.2.2.2.1 f.2.2.2.2.2.2.2.2.2 s w (fun s1 w1 => Kn f s1 w1) (fun w1 => Kx2 f w1) (fun t2_1 w1 => Kr f t2_1 w1) =
    den Try.prog Try.f4.ntmps G_law15_PlanKeeps (sub (codeOf Try.f4) [false, false, true, false, true, true, true, false, false, true, false, false, true, false, true, true, true, true, true]) [false, false, true, false, true, true, true, false, false, true, false, false, true, false, true, true, true, true, true] (roundQ (fun e w => dec_law15_PlanKeeps_L2 e fun f s => Kn f s w) (fun e w => dx_law15_PlanKeeps_L2_ret e fun f t2_1 => Kr f t2_1 w) (fun id e w => match Nat.beq id 2 with | true => dx_law15_PlanKeeps_L2_2 e fun f => Kx2 f w | false => False)) (lit_law15_PlanKeeps_L2 f s) w := by kernel_rfl

theorem ok_law15_PlanKeeps_L1 : OneOk Try.prog Try.f4.ntmps G_law15_PlanKeeps (codeOf Try.f4) [false, true, false, true, true, true, true, true] spec_law15_PlanKeeps_L1 := by
  intro c hc ih Q e w a hr h
  have hcc : sub (codeOf Try.f4) [false, false, true, false, true, true, true, true, true] = c := sub_of_codeAt hc
  obtain ⟨f, s, h, hrep⟩ := dec_law15_PlanKeeps_L1_ok e a _ hr h
  obtain ⟨J, μ, hj, hround⟩ := h
  refine loop_rule_deep seat_ok seat_mixed ih lit_law15_PlanKeeps_L1 dec_law15_PlanKeeps_L1 dec_law15_PlanKeeps_L1_ok hc f J μ (Kr := fun e w => dx_law15_PlanKeeps_L1_ret e fun f1 t2 => f1 = f ∧ Q .ret [⟨2, .bool t2, none⟩] w) (Kx := fun id e w => match Nat.beq id 0 with | true => (dx_law15_PlanKeeps_L1_0 e fun f1 => f1 = f ∧ Q (.exit 0) [] w) | false => False) ?_ ?_ ?_ s w a hj hrep
  · intro e a w hr h0
    unfold dx_law15_PlanKeeps_L1_ret at h0
    obtain ⟨cx, g1, h1⟩ := oA_elim h0
    obtain ⟨p, g3, h2⟩ := oA_elim h1
    obtain ⟨t2, g2, h3⟩ := oB_elim h2
    obtain ⟨hf, hq⟩ := h3
    subst hf
    exact ⟨_, rep_less hr (by simp [g2]), hq⟩
  · intro id e a w hr h0
    (try dsimp only at h0)
    split at h0
    · rename_i hid
      obtain rfl := Nat.eq_of_beq_eq_true hid
      unfold dx_law15_PlanKeeps_L1_0 at h0
      obtain ⟨cx, g1, h1⟩ := oA_elim h0
      obtain ⟨p, g3, h2⟩ := oA_elim h1
      obtain ⟨hf, hq⟩ := h2
      subst hf
      exact ⟨_, rep_less hr (by simp), hq⟩
    · exact h0.elim
  · intro s w hj
    have hb := hround s w hj
    rw [← hcc]
    have e1 := body_law15_PlanKeeps_L1 f s w (fun f1 s1 w1 => f1 = f ∧ J s1 w1 ∧ μ s1 w1 < μ s w) (fun f1 w1 => f1 = f ∧ Q (.exit 0) [] w1) (fun f1 t2 w1 => f1 = f ∧ Q .ret [⟨2, .bool t2, none⟩] w1)
    simp only [true_and] at e1
    exact cast e1 hb

theorem ok_law15_PlanKeeps_L2 : OneOk Try.prog Try.f4.ntmps G_law15_PlanKeeps (codeOf Try.f4) [false, true, false, true, true, true, false, false, true, false, false, true, false, true, true, true, true, true] spec_law15_PlanKeeps_L2 := by
  intro c hc ih Q e w a hr h
  have hcc : sub (codeOf Try.f4) [false, false, true, false, true, true, true, false, false, true, false, false, true, false, true, true, true, true, true] = c := sub_of_codeAt hc
  obtain ⟨f, s, h, hrep⟩ := dec_law15_PlanKeeps_L2_ok e a _ hr h
  obtain ⟨J, μ, hj, hround⟩ := h
  refine loop_rule_deep seat_ok seat_mixed ih lit_law15_PlanKeeps_L2 dec_law15_PlanKeeps_L2 dec_law15_PlanKeeps_L2_ok hc f J μ (Kr := fun e w => dx_law15_PlanKeeps_L2_ret e fun f1 t2_1 => f1 = f ∧ Q .ret [⟨1, .pointer (some f.1), none⟩, ⟨3, .pointer (some f.2.1), none⟩, ⟨2, .bool t2_1, none⟩] w) (Kx := fun id e w => match Nat.beq id 2 with | true => (dx_law15_PlanKeeps_L2_2 e fun f1 => f1 = f ∧ Q (.exit 2) [⟨1, .pointer (some f.1), none⟩, ⟨3, .pointer (some f.2.1), none⟩, ⟨5, .slice f.2.2.1 f.2.2.2.1 f.2.2.2.2.1, none⟩, ⟨6, .int .i64 f.2.2.2.2.2.1, none⟩, ⟨7, .slice f.2.2.2.2.2.2.1 f.2.2.2.2.2.2.2.1 f.2.2.2.2.2.2.2.2.1, none⟩] w) | false => False) ?_ ?_ ?_ s w a hj hrep
  · intro e a w hr h0
    unfold dx_law15_PlanKeeps_L2_ret at h0
    obtain ⟨cx_1, g1, h1⟩ := oA_elim h0
    obtain ⟨p_1, g3, h2⟩ := oA_elim h1
    obtain ⟨metP_1, metN_1, metC_1, g5, h3⟩ := oS_elim h2
    obtain ⟨gx_1, g6, h4⟩ := oI_elim h3
    obtain ⟨vP, vN, vC, g7, h5⟩ := oS_elim h4
    obtain ⟨k, g8, h6⟩ := oI_elim h5
    obtain ⟨t2_1, g2, h7⟩ := oB_elim h6
    obtain ⟨hf, hq⟩ := h7
    subst hf
    exact ⟨_, rep_less hr (by simp [g1, g3, g2]), hq⟩
  · intro id e a w hr h0
    (try dsimp only at h0)
    split at h0
    · rename_i hid
      obtain rfl := Nat.eq_of_beq_eq_true hid
      unfold dx_law15_PlanKeeps_L2_2 at h0
      obtain ⟨cx_1, g1, h1⟩ := oA_elim h0
      obtain ⟨p_1, g3, h2⟩ := oA_elim h1
      obtain ⟨metP_1, metN_1, metC_1, g5, h3⟩ := oS_elim h2
      obtain ⟨gx_1, g6, h4⟩ := oI_elim h3
      obtain ⟨vP, vN, vC, g7, h5⟩ := oS_elim h4
      obtain ⟨k, g8, h6⟩ := oI_elim h5
      obtain ⟨hf, hq⟩ := h6
      subst hf
      exact ⟨_, rep_less hr (by simp [g1, g3, g5, g6, g7]), hq⟩
    · exact h0.elim
  · intro s w hj
    have hb := hround s w hj
    rw [← hcc]
    have e1 := body_law15_PlanKeeps_L2 f s w (fun f1 s1 w1 => f1 = f ∧ J s1 w1 ∧ μ s1 w1 < μ s w) (fun f1 w1 => f1 = f ∧ Q (.exit 2) [⟨1, .pointer (some f.1), none⟩, ⟨3, .pointer (some f.2.1), none⟩, ⟨5, .slice f.2.2.1 f.2.2.2.1 f.2.2.2.2.1, none⟩, ⟨6, .int .i64 f.2.2.2.2.2.1, none⟩, ⟨7, .slice f.2.2.2.2.2.2.1 f.2.2.2.2.2.2.2.1 f.2.2.2.2.2.2.2.2.1, none⟩] w1) (fun f1 t2_1 w1 => f1 = f ∧ Q .ret [⟨1, .pointer (some f.1), none⟩, ⟨3, .pointer (some f.2.1), none⟩, ⟨2, .bool t2_1, none⟩] w1)
    simp only [true_and] at e1
    exact cast e1 hb

theorem loops_law15_PlanKeeps : LoopOk Try.prog Try.f4.ntmps G_law15_PlanKeeps (codeOf Try.f4) := loopOk_list rfl ⟨ok_law15_PlanKeeps_L1, ⟨ok_law15_PlanKeeps_L2, trivial⟩⟩

theorem C_law15_PlanKeeps.of {c0 : Int} {c1 : Int} {c2 : ByteArray} {c3P : Option Addr} {c3N : Nat} {c3C : Nat} {c4P : Option Addr} {c4N : Nat} {c4C : Nat} {c5 : Int} {w : World} {R : Bool → World → Prop} (h : F_law15_PlanKeeps c0 c1 c2 c3P c3N c3C c4P c4N c4C c5 w R) : C_law15_PlanKeeps c0 c1 c2 c3P c3N c3C c4P c4N c4C c5 w R := ofS2 (Fm := F_law15_PlanKeeps c0 c1 c2 c3P c3N c3C c4P c4N c4C c5 w) Try.func4 (by kernel_rfl) loops_law15_PlanKeeps rfl (fun _ => by kernel_rfl) h

structure S_ref15_Large_L1 where
  n : Int
  i : Int

/-- One round. -/
def B_ref15_Large_L1 (cx : Addr) (s : S_ref15_Large_L1) (w : World) (Kn : S_ref15_Large_L1 → World → Prop) (Kx0 : World → Prop) (Kr : Bool → World → Prop) : Prop :=
  ∃ GoalsP_1 : Option Addr, ∃ GoalsN_1 : Nat, ∃ GoalsC_1 : Nat, w.cell? (cx.add 4) = some (.slice GoalsP_1 GoalsN_1 GoalsC_1) ∧
  If (decide ((s.i : Int) < (GoalsN_1 : Int)))
  (∃ GoalsP_2 : Option Addr, ∃ GoalsN_2 : Nat, ∃ GoalsC_2 : Nat, w.cell? (cx.add 4) = some (.slice GoalsP_2 GoalsN_2 GoalsC_2) ∧
  0 ≤ (s.i : Int) ∧ (s.i : Int) < (GoalsN_2 : Int) ∧ NN GoalsP_2 fun a =>
  ∃ Term0 : Int, w.cell? (((a.add ((s.i : Int).toNat * 5)).add 1).add 0) = some (.int .i64 Term0) ∧
  ∃ Term1 : Int, w.cell? (((a.add ((s.i : Int).toNat * 5)).add 1).add 1) = some (.int .i64 Term1) ∧
  ∃ Term2 : ByteArray, w.cell? (((a.add ((s.i : Int).toNat * 5)).add 1).add 2) = some (.string Term2) ∧
  ∃ Term3P : Option Addr, ∃ Term3N : Nat, ∃ Term3C : Nat, w.cell? (((a.add ((s.i : Int).toNat * 5)).add 1).add 3) = some (.slice Term3P Term3N Term3C) ∧
  C_ref06_Large Term0 Term1 Term2 Term3P Term3N Term3C w fun t30 w1_3 =>
  If t30
  (Kr true w1_3)
  (∃ GoalsP_3 : Option Addr, ∃ GoalsN_3 : Nat, ∃ GoalsC_3 : Nat, w1_3.cell? (cx.add 4) = some (.slice GoalsP_3 GoalsN_3 GoalsC_3) ∧
  0 ≤ (s.i : Int) ∧ (s.i : Int) < (GoalsN_3 : Int) ∧ NN GoalsP_3 fun a_1 =>
  ∃ Term0_1 : Int, w1_3.cell? (((a_1.add ((s.i : Int).toNat * 5)).add 1).add 0) = some (.int .i64 Term0_1) ∧
  ∃ Term1_1 : Int, w1_3.cell? (((a_1.add ((s.i : Int).toNat * 5)).add 1).add 1) = some (.int .i64 Term1_1) ∧
  ∃ Term2_1 : ByteArray, w1_3.cell? (((a_1.add ((s.i : Int).toNat * 5)).add 1).add 2) = some (.string Term2_1) ∧
  ∃ Term3P_1 : Option Addr, ∃ Term3N_1 : Nat, ∃ Term3C_1 : Nat, w1_3.cell? (((a_1.add ((s.i : Int).toNat * 5)).add 1).add 3) = some (.slice Term3P_1 Term3N_1 Term3C_1) ∧
  C_ref06_Size Term0_1 Term1_1 Term2_1 Term3P_1 Term3N_1 Term3C_1 w1_3 fun t38 w1_4 =>
  If (decide ((IntKind.i64.wrap ((s.n : Int) + t38)) > (8000 : Int)))
  (Kr true w1_4)
  (Kn ⟨(IntKind.i64.wrap ((s.n : Int) + t38)), (IntKind.i64.wrap ((s.i : Int) + (1 : Int)))⟩ w1_4)))
  (Kx0 w)

def F_ref15_Large_L1 (cx : Addr) (s : S_ref15_Large_L1) (w : World) (Kx0 : World → Prop) (Kr : Bool → World → Prop) : Prop :=
  LoopS (fun s w Kn => B_ref15_Large_L1 cx s w Kn Kx0 Kr) s w

def F_ref15_Large (c0 : Int) (c1 : Int) (c2 : ByteArray) (c3P : Option Addr) (c3N : Nat) (c3C : Nat) (c4P : Option Addr) (c4N : Nat) (c4C : Nat) (c5 : Int) (w : World) (R : Bool → World → Prop) : Prop :=
  New w (.cells #[.int .i64 c0, .int .i64 c1, .string c2, .slice c3P c3N c3C, .slice c4P c4N c4C, .int .i64 c5] 27) fun r w1 =>
  ∃ Head0 : Int, w1.cell? (((⟨r, 0, none⟩ : Addr).add 0).add 0) = some (.int .i64 Head0) ∧
  ∃ Head1 : Int, w1.cell? (((⟨r, 0, none⟩ : Addr).add 0).add 1) = some (.int .i64 Head1) ∧
  ∃ Head2 : ByteArray, w1.cell? (((⟨r, 0, none⟩ : Addr).add 0).add 2) = some (.string Head2) ∧
  ∃ Head3P : Option Addr, ∃ Head3N : Nat, ∃ Head3C : Nat, w1.cell? (((⟨r, 0, none⟩ : Addr).add 0).add 3) = some (.slice Head3P Head3N Head3C) ∧
  C_ref06_Large Head0 Head1 Head2 Head3P Head3N Head3C w1 fun t7 w1_1 =>
  If t7
  (R true w1_1)
  (∃ GoalsP : Option Addr, ∃ GoalsN : Nat, ∃ GoalsC : Nat, w1_1.cell? ((⟨r, 0, none⟩ : Addr).add 4) = some (.slice GoalsP GoalsN GoalsC) ∧
  If (decide ((GoalsN : Int) > (80 : Int)))
  (R true w1_1)
  (∃ Head0_1 : Int, w1_1.cell? (((⟨r, 0, none⟩ : Addr).add 0).add 0) = some (.int .i64 Head0_1) ∧
  ∃ Head1_1 : Int, w1_1.cell? (((⟨r, 0, none⟩ : Addr).add 0).add 1) = some (.int .i64 Head1_1) ∧
  ∃ Head2_1 : ByteArray, w1_1.cell? (((⟨r, 0, none⟩ : Addr).add 0).add 2) = some (.string Head2_1) ∧
  ∃ Head3P_1 : Option Addr, ∃ Head3N_1 : Nat, ∃ Head3C_1 : Nat, w1_1.cell? (((⟨r, 0, none⟩ : Addr).add 0).add 3) = some (.slice Head3P_1 Head3N_1 Head3C_1) ∧
  C_ref06_Size Head0_1 Head1_1 Head2_1 Head3P_1 Head3N_1 Head3C_1 w1_1 fun t16 w1_2 =>
  F_ref15_Large_L1 ⟨r, 0, none⟩ ⟨t16, (0 : Int)⟩ w1_2
  (fun w1_5 =>
  R false w1_5)
  (fun t2_1 w1_6 =>
  R t2_1 w1_6)))

def lit_ref15_Large_L1 (f : Addr) (s : S_ref15_Large_L1) : Env := [⟨1, .pointer (some f), none⟩, ⟨3, .int .i64 s.n, none⟩, ⟨4, .int .i64 s.i, none⟩]

def dec_ref15_Large_L1 (e : Env) (K : Addr → S_ref15_Large_L1 → Prop) : Prop :=
  oA e 1 fun cx =>
  oI e 3 .i64 fun n =>
  oI e 4 .i64 fun i =>
    K (cx) ⟨n, i⟩

theorem dec_ref15_Large_L1_ok {N : Nat} (e : Env) (a : Act) (K : Addr → S_ref15_Large_L1 → Prop) (hr : Rep N a e) (h0 : dec_ref15_Large_L1 e K) : ∃ f s, K f s ∧ Rep N a (lit_ref15_Large_L1 f s) := by
  unfold dec_ref15_Large_L1 at h0
  obtain ⟨cx, g1, h1⟩ := oA_elim h0
  obtain ⟨n, g3, h2⟩ := oI_elim h1
  obtain ⟨i, g4, h3⟩ := oI_elim h2
  exact ⟨_, _, h3, rep_less hr (by simp [lit_ref15_Large_L1, g1, g3, g4])⟩

def spec_ref15_Large_L1 (Q : Post) (e : Env) (w : World) : Prop :=
  dec_ref15_Large_L1 e fun f s => F_ref15_Large_L1 f s w (fun w1 => Q (.exit 0) [] w1) (fun t2 w1 => Q .ret [⟨2, .bool t2, none⟩] w1)

def G_ref15_Large : Gen where
  loop := lookL [([false, true, false, true, true, true], spec_ref15_Large_L1)]
  plan := fun _ => none

def dx_ref15_Large_L1_0 (e : Env) (K : Addr → Prop) : Prop :=
  oA e 1 fun cx =>
    K (cx)

def dx_ref15_Large_L1_ret (e : Env) (K : Addr → Bool → Prop) : Prop :=
  oA e 1 fun cx =>
  oB e 2 fun t2 =>
    K (cx) t2

theorem body_ref15_Large_L1 (f : Addr) (s : S_ref15_Large_L1) (w : World) (Kn : Addr → S_ref15_Large_L1 → World → Prop) (Kx0 : Addr → World → Prop) (Kr : Addr → Bool → World → Prop) :
    B_ref15_Large_L1 f s w (fun s1 w1 => Kn f s1 w1) (fun w1 => Kx0 f w1) (fun t2 w1 => Kr f t2 w1) =
    den Try.prog Try.f5.ntmps G_ref15_Large (sub (codeOf Try.f5) [false, false, true, false, true, true, true]) [false, false, true, false, true, true, true] (roundQ (fun e w => dec_ref15_Large_L1 e fun f s => Kn f s w) (fun e w => dx_ref15_Large_L1_ret e fun f t2 => Kr f t2 w) (fun id e w => match Nat.beq id 0 with | true => dx_ref15_Large_L1_0 e fun f => Kx0 f w | false => False)) (lit_ref15_Large_L1 f s) w := by kernel_rfl

theorem ok_ref15_Large_L1 : OneOk Try.prog Try.f5.ntmps G_ref15_Large (codeOf Try.f5) [false, true, false, true, true, true] spec_ref15_Large_L1 := by
  intro c hc ih Q e w a hr h
  have hcc : sub (codeOf Try.f5) [false, false, true, false, true, true, true] = c := sub_of_codeAt hc
  obtain ⟨f, s, h, hrep⟩ := dec_ref15_Large_L1_ok e a _ hr h
  obtain ⟨J, μ, hj, hround⟩ := h
  refine loop_rule_deep seat_ok seat_mixed ih lit_ref15_Large_L1 dec_ref15_Large_L1 dec_ref15_Large_L1_ok hc f J μ (Kr := fun e w => dx_ref15_Large_L1_ret e fun f1 t2 => f1 = f ∧ Q .ret [⟨2, .bool t2, none⟩] w) (Kx := fun id e w => match Nat.beq id 0 with | true => (dx_ref15_Large_L1_0 e fun f1 => f1 = f ∧ Q (.exit 0) [] w) | false => False) ?_ ?_ ?_ s w a hj hrep
  · intro e a w hr h0
    unfold dx_ref15_Large_L1_ret at h0
    obtain ⟨cx, g1, h1⟩ := oA_elim h0
    obtain ⟨t2, g2, h2⟩ := oB_elim h1
    obtain ⟨hf, hq⟩ := h2
    subst hf
    exact ⟨_, rep_less hr (by simp [g2]), hq⟩
  · intro id e a w hr h0
    (try dsimp only at h0)
    split at h0
    · rename_i hid
      obtain rfl := Nat.eq_of_beq_eq_true hid
      unfold dx_ref15_Large_L1_0 at h0
      obtain ⟨cx, g1, h1⟩ := oA_elim h0
      obtain ⟨hf, hq⟩ := h1
      subst hf
      exact ⟨_, rep_less hr (by simp), hq⟩
    · exact h0.elim
  · intro s w hj
    have hb := hround s w hj
    rw [← hcc]
    have e1 := body_ref15_Large_L1 f s w (fun f1 s1 w1 => f1 = f ∧ J s1 w1 ∧ μ s1 w1 < μ s w) (fun f1 w1 => f1 = f ∧ Q (.exit 0) [] w1) (fun f1 t2 w1 => f1 = f ∧ Q .ret [⟨2, .bool t2, none⟩] w1)
    simp only [true_and] at e1
    exact cast e1 hb

theorem loops_ref15_Large : LoopOk Try.prog Try.f5.ntmps G_ref15_Large (codeOf Try.f5) := loopOk_list rfl ⟨ok_ref15_Large_L1, trivial⟩

theorem C_ref15_Large.of {c0 : Int} {c1 : Int} {c2 : ByteArray} {c3P : Option Addr} {c3N : Nat} {c3C : Nat} {c4P : Option Addr} {c4N : Nat} {c4C : Nat} {c5 : Int} {w : World} {R : Bool → World → Prop} (h : F_ref15_Large c0 c1 c2 c3P c3N c3C c4P c4N c4C c5 w R) : C_ref15_Large c0 c1 c2 c3P c3N c3C c4P c4N c4C c5 w R := ofS2 (Fm := F_ref15_Large c0 c1 c2 c3P c3N c3C c4P c4N c4C c5 w) Try.func5 (by kernel_rfl) loops_ref15_Large rfl (fun _ => by kernel_rfl) h

def F_law15_lives_k1 (R : Bool → World → Prop) (w1_41 : World) : Prop :=
  R false w1_41

def F_law15_lives (w : World) (R : Bool → World → Prop) : Prop :=
  C_law15_One  w fun t90 t91 t92 t93P t93N t93C t94P t94N t94C t95 w1 =>
  C_plan_Of t90 t91 t92 t93P t93N t93C t94P t94N t94C t95 w1 fun t1000 t1001P t1001N t1001C t1002 t1003P t1003N t1003C t101 w1_1 =>
  New w1_1 (.cells #[.bool false, .slice none 0 0, .int .i64 0, .slice none 0 0] 32) fun r w1_2 =>
  St w1_2 ((⟨r, 0, none⟩ : Addr).add 0) (.bool t1000) fun w1_3 =>
  St w1_3 ((⟨r, 0, none⟩ : Addr).add 1) (.slice t1001P t1001N t1001C) fun w1_4 =>
  St w1_4 ((⟨r, 0, none⟩ : Addr).add 2) (.int .i64 t1002) fun w1_5 =>
  St w1_5 ((⟨r, 0, none⟩ : Addr).add 3) (.slice t1003P t1003N t1003C) fun w1_6 =>
  C_ref06_Atom ⟨#[97]⟩ w1_6 fun t140 t141 t142 t143P t143N t143C w1_7 =>
  C_law15_call ⟨#[98]⟩ none 0 0 w1_7 fun t150 t151 t152 t153 t154P t154N t154C w1_8 =>
  C_ref06_Atom ⟨#[33]⟩ w1_8 fun t160 t161 t162 t163P t163N t163C w1_9 =>
  BSl Try.prog 25 2 [(0, .agg #[.int .i64 t150, .int .i64 t151, .int .i64 t152, .string t153, .slice t154P t154N t154C]), (1, .agg #[.int .i64 2, .int .i64 t160, .int .i64 t161, .string t162, .slice t163P t163N t163C])] w1_9 fun t18P t18N t18C w1_10 =>
  C_plan_Of t140 t141 t142 t143P t143N t143C t18P t18N t18C (0 : Int) w1_10 fun t2000 t2001P t2001N t2001C t2002 t2003P t2003N t2003C t201 w1_11 =>
  New w1_11 (.cells #[.bool false, .slice none 0 0, .int .i64 0, .slice none 0 0] 32) fun r_1 w1_12 =>
  St w1_12 ((⟨r_1, 0, none⟩ : Addr).add 0) (.bool t2000) fun w1_13 =>
  St w1_13 ((⟨r_1, 0, none⟩ : Addr).add 1) (.slice t2001P t2001N t2001C) fun w1_14 =>
  St w1_14 ((⟨r_1, 0, none⟩ : Addr).add 2) (.int .i64 t2002) fun w1_15 =>
  St w1_15 ((⟨r_1, 0, none⟩ : Addr).add 3) (.slice t2003P t2003N t2003C) fun w1_16 =>
  C_plan_Of (0 : Int) (0 : Int) ⟨#[]⟩ none 0 0 none 0 0 (0 : Int) w1_16 fun t2500 t2501P t2501N t2501C t2502 t2503P t2503N t2503C t251 w1_17 =>
  New w1_17 (.cells #[.bool false, .slice none 0 0, .int .i64 0, .slice none 0 0] 32) fun r_2 w1_18 =>
  St w1_18 ((⟨r_2, 0, none⟩ : Addr).add 0) (.bool t2500) fun w1_19 =>
  St w1_19 ((⟨r_2, 0, none⟩ : Addr).add 1) (.slice t2501P t2501N t2501C) fun w1_20 =>
  St w1_20 ((⟨r_2, 0, none⟩ : Addr).add 2) (.int .i64 t2502) fun w1_21 =>
  St w1_21 ((⟨r_2, 0, none⟩ : Addr).add 3) (.slice t2503P t2503N t2503C) fun w1_22 =>
  C_law15_One  w1_22 fun t280 t281 t282 t283P t283N t283C t284P t284N t284C t285 w1_23 =>
  C_plan_Permanent t280 t281 t282 t283P t283N t283C t284P t284N t284C t285 w1_23 fun t29P t29N t29C w1_24 =>
  If (t101 == (0 : Int))
  (∃ Env : Bool, w1_24.cell? ((⟨r, 0, none⟩ : Addr).add 0) = some (.bool Env) ∧
  If Env
  (∃ SlotsP : Option Addr, ∃ SlotsN : Nat, ∃ SlotsC : Nat, w1_24.cell? ((⟨r, 0, none⟩ : Addr).add 1) = some (.slice SlotsP SlotsN SlotsC) ∧
  BSl Try.prog 30 2 [(0, .int .i64 1), (1, .int .i64 2)] w1_24 fun t39P t39N t39C w1_25 =>
  C_ref15_SameInts SlotsP SlotsN SlotsC t39P t39N t39C w1_25 fun t40 w1_26 =>
  If t40
  (∃ LiveP : Option Addr, ∃ LiveN : Nat, ∃ LiveC : Nat, w1_26.cell? ((⟨r, 0, none⟩ : Addr).add 3) = some (.slice LiveP LiveN LiveC) ∧
  BSl Try.prog 30 3 [(0, .int .i64 2), (1, .int .i64 1), (2, .int .i64 0)] w1_26 fun t45P t45N t45C w1_27 =>
  C_ref15_SameInts LiveP LiveN LiveC t45P t45N t45C w1_27 fun t46 w1_28 =>
  If t46
  (∃ Level : Int, w1_28.cell? ((⟨r, 0, none⟩ : Addr).add 2) = some (.int .i64 Level) ∧
  If (Level == (0 : Int))
  (If (t201 == (0 : Int))
  (∃ Level_1 : Int, w1_28.cell? ((⟨r_1, 0, none⟩ : Addr).add 2) = some (.int .i64 Level_1) ∧
  If (Level_1 == (1 : Int))
  (∃ SlotsP_1 : Option Addr, ∃ SlotsN_1 : Nat, ∃ SlotsC_1 : Nat, w1_28.cell? ((⟨r_1, 0, none⟩ : Addr).add 1) = some (.slice SlotsP_1 SlotsN_1 SlotsC_1) ∧
  BSl Try.prog 30 1 [(0, .int .i64 (-1))] w1_28 fun t65P t65N t65C w1_29 =>
  C_ref15_SameInts SlotsP_1 SlotsN_1 SlotsC_1 t65P t65N t65C w1_29 fun t66 w1_30 =>
  If t66
  (∃ LiveP_1 : Option Addr, ∃ LiveN_1 : Nat, ∃ LiveC_1 : Nat, w1_30.cell? ((⟨r_1, 0, none⟩ : Addr).add 3) = some (.slice LiveP_1 LiveN_1 LiveC_1) ∧
  BSl Try.prog 30 1 [(0, .int .i64 1)] w1_30 fun t71P t71N t71C w1_31 =>
  C_ref15_SameInts LiveP_1 LiveN_1 LiveC_1 t71P t71N t71C w1_31 fun t72 w1_32 =>
  If t72
  (If (t251 == (60 : Int))
  (BSl Try.prog 30 2 [(0, .int .i64 1), (1, .int .i64 2)] w1_32 fun t80P t80N t80C w1_33 =>
  C_ref15_SameInts t29P t29N t29C t80P t80N t80C w1_33 fun t81 w1_34 =>
  If t81
  (C_law15_One  w1_34 fun t840 t841 t842 t843P t843N t843C t844P t844N t844C t845 w1_35 =>
  C_plan_Calls t840 t841 t842 t843P t843N t843C t844P t844N t844C t845 w1_35 fun t85 w1_36 =>
  If (t85 == (3 : Int))
  (C_law15_One  w1_36 fun t890 t891 t892 t893P t893N t893C t894P t894N t894C t895 w1_37 =>
  C_plan_Chunk t890 t891 t892 t893P t893N t893C t894P t894N t894C t895 (2 : Int) w1_37 fun t90_1 w1_38 =>
  If (t90_1 == (2 : Int))
  (C_law15_One  w1_38 fun t940 t941 t942 t943P t943N t943C t944P t944N t944C t945 w1_39 =>
  C_plan_Chunk t940 t941 t942 t943P t943N t943C t944P t944N t944C t945 (3 : Int) w1_39 fun t95_1 w1_40 =>
  R (t95_1 == (-1)) w1_40)
  (F_law15_lives_k1 R w1_38))
  (F_law15_lives_k1 R w1_36))
  (F_law15_lives_k1 R w1_34))
  (F_law15_lives_k1 R w1_32))
  (F_law15_lives_k1 R w1_32))
  (F_law15_lives_k1 R w1_30))
  (F_law15_lives_k1 R w1_28))
  (F_law15_lives_k1 R w1_28))
  (F_law15_lives_k1 R w1_28))
  (F_law15_lives_k1 R w1_28))
  (F_law15_lives_k1 R w1_26))
  (F_law15_lives_k1 R w1_24))
  (F_law15_lives_k1 R w1_24)

def G_law15_lives : Gen where
  loop := lookL []
  plan := fun _ => none

theorem loops_law15_lives : LoopOk Try.prog Try.f6.ntmps G_law15_lives (codeOf Try.f6) := loopOk_none fun _ => rfl

theorem C_law15_lives.of {w : World} {R : Bool → World → Prop} (h : F_law15_lives w R) : C_law15_lives w R := ofS2 (Fm := F_law15_lives w) Try.func6 (by kernel_rfl) loops_law15_lives rfl (fun _ => by kernel_rfl) h

structure S_plan_Of_L1 where
  t33 : Int

structure S_plan_Of_L2 where
  t53 : Int

def F_plan_Of_k1 (s : S_plan_Of_L1) (Kn : S_plan_Of_L1 → World → Prop) (w1_26 : World) : Prop :=
  Kn ⟨(IntKind.i64.wrap ((s.t33 : Int) + (1 : Int)))⟩ w1_26

def F_plan_Of_k2 (s : S_plan_Of_L2) (Kn : S_plan_Of_L2 → World → Prop) (p_1 : Addr) (n_2 : Int) (w1_31 : World) : Prop :=
  ∃ LiveP : Option Addr, ∃ LiveN : Nat, ∃ LiveC : Nat, w1_31.cell? (p_1.add 3) = some (.slice LiveP LiveN LiveC) ∧
  BSl Try.prog 30 1 [(0, .int .i64 n_2)] w1_31 fun t66P t66N t66C w1_32 =>
  App Try.prog #[30, 30] 30 #[.slice LiveP LiveN LiveC, .slice t66P t66N t66C] w1_32 fun t67P t67N t67C w1_33 =>
  St w1_33 ((p_1.add 3).add 0) (.slice t67P t67N t67C) fun w1_34 =>
  Kn ⟨(IntKind.i64.wrap ((s.t53 : Int) + (1 : Int)))⟩ w1_34

def F_plan_Of_k3 (R : Bool → Option Addr → Nat → Nat → Int → Option Addr → Nat → Nat → Int → World → Prop) (r_1 : Nat) (r_6 : Nat) (w1_40 : World) : Prop :=
  ∃ t940 : Bool, w1_40.cell? ((⟨r_6, 0, none⟩ : Addr).add 0) = some (.bool t940) ∧
  ∃ t941P : Option Addr, ∃ t941N : Nat, ∃ t941C : Nat, w1_40.cell? ((⟨r_6, 0, none⟩ : Addr).add 1) = some (.slice t941P t941N t941C) ∧
  ∃ t942 : Int, w1_40.cell? ((⟨r_6, 0, none⟩ : Addr).add 2) = some (.int .i64 t942) ∧
  ∃ t943P : Option Addr, ∃ t943N : Nat, ∃ t943C : Nat, w1_40.cell? ((⟨r_6, 0, none⟩ : Addr).add 3) = some (.slice t943P t943N t943C) ∧
  St w1_40 ((⟨r_1, 0, none⟩ : Addr).add 0) (.bool t940) fun w1_41 =>
  St w1_41 ((⟨r_1, 0, none⟩ : Addr).add 1) (.slice t941P t941N t941C) fun w1_42 =>
  St w1_42 ((⟨r_1, 0, none⟩ : Addr).add 2) (.int .i64 t942) fun w1_43 =>
  St w1_43 ((⟨r_1, 0, none⟩ : Addr).add 3) (.slice t943P t943N t943C) fun w1_44 =>
  ∃ r_9 : Bool, w1_44.cell? ((⟨r_1, 0, none⟩ : Addr).add 0) = some (.bool r_9) ∧
  ∃ rP_4 : Option Addr, ∃ rN_4 : Nat, ∃ rC_4 : Nat, w1_44.cell? ((⟨r_1, 0, none⟩ : Addr).add 1) = some (.slice rP_4 rN_4 rC_4) ∧
  ∃ r_10 : Int, w1_44.cell? ((⟨r_1, 0, none⟩ : Addr).add 2) = some (.int .i64 r_10) ∧
  ∃ rP_5 : Option Addr, ∃ rN_5 : Nat, ∃ rC_5 : Nat, w1_44.cell? ((⟨r_1, 0, none⟩ : Addr).add 3) = some (.slice rP_5 rN_5 rC_5) ∧
  R r_9 rP_4 rN_4 rC_4 r_10 rP_5 rN_5 rC_5 (0 : Int) w1_44

/-- One round. -/
def B_plan_Of_L1 (cx : Addr) (t2 : Addr) (calls : Int) (lP : Option Addr) (lN : Nat) (lC : Nat) (p : Addr) (t31P : Option Addr) (t31N : Nat) (t31C : Nat) (t32 : Int) (s : S_plan_Of_L1) (w : World) (Kn : S_plan_Of_L1 → World → Prop) (Kx0 : World → Prop) : Prop :=
  If (decide ((s.t33 : Int) < t32))
  (0 ≤ (s.t33 : Int) ∧ (s.t33 : Int) < (t31N : Int) ∧ NN t31P fun a =>
  ∃ t370 : Int, w.cell? ((a.add ((s.t33 : Int).toNat * 3)).add 0) = some (.int .i64 t370) ∧
  ∃ t371 : Int, w.cell? ((a.add ((s.t33 : Int).toNat * 3)).add 1) = some (.int .i64 t371) ∧
  ∃ t372 : Int, w.cell? ((a.add ((s.t33 : Int).toNat * 3)).add 2) = some (.int .i64 t372) ∧
  New w (.cells #[.int .i64 0, .int .i64 0, .int .i64 0] 58) fun r_7 w1_18 =>
  St w1_18 ((⟨r_7, 0, none⟩ : Addr).add 0) (.int .i64 t370) fun w1_19 =>
  St w1_19 ((⟨r_7, 0, none⟩ : Addr).add 1) (.int .i64 t371) fun w1_20 =>
  St w1_20 ((⟨r_7, 0, none⟩ : Addr).add 2) (.int .i64 t372) fun w1_21 =>
  ∃ SlotsP : Option Addr, ∃ SlotsN : Nat, ∃ SlotsC : Nat, w1_21.cell? (p.add 1) = some (.slice SlotsP SlotsN SlotsC) ∧
  ∃ n : Int, w1_21.cell? ((⟨r_7, 0, none⟩ : Addr).add 0) = some (.int .i64 n) ∧
  BSl Try.prog 30 1 [(0, .int .i64 n)] w1_21 fun t42P t42N t42C w1_22 =>
  App Try.prog #[30, 30] 30 #[.slice SlotsP SlotsN SlotsC, .slice t42P t42N t42C] w1_22 fun t43P t43N t43C w1_23 =>
  St w1_23 ((p.add 1).add 0) (.slice t43P t43N t43C) fun w1_24 =>
  ∃ n_1 : Int, w1_24.cell? ((⟨r_7, 0, none⟩ : Addr).add 0) = some (.int .i64 n_1) ∧
  If (n_1 == (-1))
  (St w1_24 ((p.add 2).add 0) (.int .i64 (IntKind.i64.wrap ((s.t33 : Int) + (1 : Int)))) fun w1_25 =>
  F_plan_Of_k1 s Kn w1_25)
  (F_plan_Of_k1 s Kn w1_24))
  (Kx0 w)

def F_plan_Of_L1 (cx : Addr) (t2 : Addr) (calls : Int) (lP : Option Addr) (lN : Nat) (lC : Nat) (p : Addr) (t31P : Option Addr) (t31N : Nat) (t31C : Nat) (t32 : Int) (s : S_plan_Of_L1) (w : World) (Kx0 : World → Prop) : Prop :=
  LoopS (fun s w Kn => B_plan_Of_L1 cx t2 calls lP lN lC p t31P t31N t31C t32 s w Kn Kx0) s w

/-- One round. -/
def B_plan_Of_L2 (cx_1 : Addr) (t2_1 : Addr) (calls_1 : Int) (lP_1 : Option Addr) (lN_1 : Nat) (lC_1 : Nat) (p_1 : Addr) (t52 : Int) (s : S_plan_Of_L2) (w : World) (Kn : S_plan_Of_L2 → World → Prop) (Kx2 : World → Prop) : Prop :=
  If (decide ((s.t53 : Int) < t52))
  (New w (.cells #[.int .i64 0] 3) fun r_8 w1_28 =>
  St w1_28 ((⟨r_8, 0, none⟩ : Addr).add 0) (.int .i64 s.t53) fun w1_29 =>
  C_slices_IndexFunc lP_1 lN_1 lC_1 (.func (.func 24) #[] #[.pointer (some ⟨r_8, 0, none⟩)]) w1_29 fun t58 w1_30 =>
  If (decide (t58 < (0 : Int)))
  (F_plan_Of_k2 s Kn p_1 (lN_1 : Int) w1_30)
  (F_plan_Of_k2 s Kn p_1 t58 w1_30))
  (Kx2 w)

def F_plan_Of_L2 (cx_1 : Addr) (t2_1 : Addr) (calls_1 : Int) (lP_1 : Option Addr) (lN_1 : Nat) (lC_1 : Nat) (p_1 : Addr) (t52 : Int) (s : S_plan_Of_L2) (w : World) (Kx2 : World → Prop) : Prop :=
  LoopS (fun s w Kn => B_plan_Of_L2 cx_1 t2_1 calls_1 lP_1 lN_1 lC_1 p_1 t52 s w Kn Kx2) s w

def F_plan_Of (c0 : Int) (c1 : Int) (c2 : ByteArray) (c3P : Option Addr) (c3N : Nat) (c3C : Nat) (c4P : Option Addr) (c4N : Nat) (c4C : Nat) (c5 : Int) (w : World) (R : Bool → Option Addr → Nat → Nat → Int → Option Addr → Nat → Nat → Int → World → Prop) : Prop :=
  New w (.cells #[.int .i64 c0, .int .i64 c1, .string c2, .slice c3P c3N c3C, .slice c4P c4N c4C, .int .i64 c5] 27) fun r w1 =>
  New w1 (.cells #[.bool false, .slice none 0 0, .int .i64 0, .slice none 0 0] 32) fun r_1 w1_1 =>
  ∃ t130 : Int, w1_1.cell? ((⟨r, 0, none⟩ : Addr).add 0) = some (.int .i64 t130) ∧
  ∃ t131 : Int, w1_1.cell? ((⟨r, 0, none⟩ : Addr).add 1) = some (.int .i64 t131) ∧
  ∃ t132 : ByteArray, w1_1.cell? ((⟨r, 0, none⟩ : Addr).add 2) = some (.string t132) ∧
  ∃ t133P : Option Addr, ∃ t133N : Nat, ∃ t133C : Nat, w1_1.cell? ((⟨r, 0, none⟩ : Addr).add 3) = some (.slice t133P t133N t133C) ∧
  ∃ t134P : Option Addr, ∃ t134N : Nat, ∃ t134C : Nat, w1_1.cell? ((⟨r, 0, none⟩ : Addr).add 4) = some (.slice t134P t134N t134C) ∧
  ∃ t135 : Int, w1_1.cell? ((⟨r, 0, none⟩ : Addr).add 5) = some (.int .i64 t135) ∧
  C_plan_may t130 t131 t132 t133P t133N t133C t134P t134N t134C t135 w1_1 fun t14 w1_2 =>
  If (t14 != (0 : Int))
  (St w1_2 ((⟨r_1, 0, none⟩ : Addr).add 0) (.bool false) fun w1_3 =>
  St w1_3 ((⟨r_1, 0, none⟩ : Addr).add 1) (.slice none 0 0) fun w1_4 =>
  St w1_4 ((⟨r_1, 0, none⟩ : Addr).add 2) (.int .i64 0) fun w1_5 =>
  St w1_5 ((⟨r_1, 0, none⟩ : Addr).add 3) (.slice none 0 0) fun w1_6 =>
  ∃ r_2 : Bool, w1_6.cell? ((⟨r_1, 0, none⟩ : Addr).add 0) = some (.bool r_2) ∧
  ∃ rP : Option Addr, ∃ rN : Nat, ∃ rC : Nat, w1_6.cell? ((⟨r_1, 0, none⟩ : Addr).add 1) = some (.slice rP rN rC) ∧
  ∃ r_3 : Int, w1_6.cell? ((⟨r_1, 0, none⟩ : Addr).add 2) = some (.int .i64 r_3) ∧
  ∃ rP_1 : Option Addr, ∃ rN_1 : Nat, ∃ rC_1 : Nat, w1_6.cell? ((⟨r_1, 0, none⟩ : Addr).add 3) = some (.slice rP_1 rN_1 rC_1) ∧
  R r_2 rP rN rC r_3 rP_1 rN_1 rC_1 t14 w1_6)
  (∃ t200 : Int, w1_2.cell? ((⟨r, 0, none⟩ : Addr).add 0) = some (.int .i64 t200) ∧
  ∃ t201 : Int, w1_2.cell? ((⟨r, 0, none⟩ : Addr).add 1) = some (.int .i64 t201) ∧
  ∃ t202 : ByteArray, w1_2.cell? ((⟨r, 0, none⟩ : Addr).add 2) = some (.string t202) ∧
  ∃ t203P : Option Addr, ∃ t203N : Nat, ∃ t203C : Nat, w1_2.cell? ((⟨r, 0, none⟩ : Addr).add 3) = some (.slice t203P t203N t203C) ∧
  ∃ t204P : Option Addr, ∃ t204N : Nat, ∃ t204C : Nat, w1_2.cell? ((⟨r, 0, none⟩ : Addr).add 4) = some (.slice t204P t204N t204C) ∧
  ∃ t205 : Int, w1_2.cell? ((⟨r, 0, none⟩ : Addr).add 5) = some (.int .i64 t205) ∧
  C_plan_gather t200 t201 t202 t203P t203N t203C t204P t204N t204C t205 w1_2 fun t210 t211 w1_7 =>
  C_plan_spans_slots t210 w1_7 fun t25P t25N t25C w1_8 =>
  If (decide ((t25N : Int) > (64 : Int)))
  (St w1_8 ((⟨r_1, 0, none⟩ : Addr).add 0) (.bool false) fun w1_9 =>
  St w1_9 ((⟨r_1, 0, none⟩ : Addr).add 1) (.slice none 0 0) fun w1_10 =>
  St w1_10 ((⟨r_1, 0, none⟩ : Addr).add 2) (.int .i64 0) fun w1_11 =>
  St w1_11 ((⟨r_1, 0, none⟩ : Addr).add 3) (.slice none 0 0) fun w1_12 =>
  ∃ r_4 : Bool, w1_12.cell? ((⟨r_1, 0, none⟩ : Addr).add 0) = some (.bool r_4) ∧
  ∃ rP_2 : Option Addr, ∃ rN_2 : Nat, ∃ rC_2 : Nat, w1_12.cell? ((⟨r_1, 0, none⟩ : Addr).add 1) = some (.slice rP_2 rN_2 rC_2) ∧
  ∃ r_5 : Int, w1_12.cell? ((⟨r_1, 0, none⟩ : Addr).add 2) = some (.int .i64 r_5) ∧
  ∃ rP_3 : Option Addr, ∃ rN_3 : Nat, ∃ rC_3 : Nat, w1_12.cell? ((⟨r_1, 0, none⟩ : Addr).add 3) = some (.slice rP_3 rN_3 rC_3) ∧
  R r_4 rP_2 rN_2 rC_2 r_5 rP_3 rN_3 rC_3 (62 : Int) w1_12)
  (New w1_8 (.cells #[.bool false, .slice none 0 0, .int .i64 0, .slice none 0 0] 32) fun r_6 w1_13 =>
  St w1_13 ((⟨r_6, 0, none⟩ : Addr).add 0) (.bool false) fun w1_14 =>
  St w1_14 ((⟨r_6, 0, none⟩ : Addr).add 1) (.slice none 0 0) fun w1_15 =>
  St w1_15 ((⟨r_6, 0, none⟩ : Addr).add 2) (.int .i64 0) fun w1_16 =>
  St w1_16 ((⟨r_6, 0, none⟩ : Addr).add 3) (.slice none 0 0) fun w1_17 =>
  F_plan_Of_L1 ⟨r, 0, none⟩ ⟨r_1, 0, none⟩ t211 t25P t25N t25C ⟨r_6, 0, none⟩ t25P t25N t25C (t25N : Int) ⟨(0 : Int)⟩ w1_17
  (fun w1_27 =>
  F_plan_Of_L2 ⟨r, 0, none⟩ ⟨r_1, 0, none⟩ t211 t25P t25N t25C ⟨r_6, 0, none⟩ t211 ⟨(0 : Int)⟩ w1_27
  (fun w1_35 =>
  If (decide (t211 ≥ (2 : Int)))
  (St w1_35 (((⟨r_6, 0, none⟩ : Addr).add 0).add 0) (.bool true) fun w1_36 =>
  F_plan_Of_k3 R r_1 r_6 w1_36)
  (∃ Level : Int, w1_35.cell? ((⟨r_6, 0, none⟩ : Addr).add 2) = some (.int .i64 Level) ∧
  If (decide (Level > (0 : Int)))
  (St w1_35 (((⟨r_6, 0, none⟩ : Addr).add 0).add 0) (.bool true) fun w1_37 =>
  F_plan_Of_k3 R r_1 r_6 w1_37)
  (If (t211 == (1 : Int))
  (∃ GoalsP : Option Addr, ∃ GoalsN : Nat, ∃ GoalsC : Nat, w1_35.cell? ((⟨r, 0, none⟩ : Addr).add 4) = some (.slice GoalsP GoalsN GoalsC) ∧
  ∃ GoalsP_1 : Option Addr, ∃ GoalsN_1 : Nat, ∃ GoalsC_1 : Nat, w1_35.cell? ((⟨r, 0, none⟩ : Addr).add 4) = some (.slice GoalsP_1 GoalsN_1 GoalsC_1) ∧
  0 ≤ (IntKind.i64.wrap ((GoalsN_1 : Int) - (1 : Int))) ∧ (IntKind.i64.wrap ((GoalsN_1 : Int) - (1 : Int))) < (GoalsN : Int) ∧ NN GoalsP fun a_1 =>
  ∃ Kind : Int, w1_35.cell? ((a_1.add ((IntKind.i64.wrap ((GoalsN_1 : Int) - (1 : Int))).toNat * 5)).add 0) = some (.int .i64 Kind) ∧
  St w1_35 (((⟨r_6, 0, none⟩ : Addr).add 0).add 0) (.bool (Kind == (2 : Int))) fun w1_38 =>
  F_plan_Of_k3 R r_1 r_6 w1_38)
  (St w1_35 (((⟨r_6, 0, none⟩ : Addr).add 0).add 0) (.bool false) fun w1_39 =>
  F_plan_Of_k3 R r_1 r_6 w1_39)))))))

def lit_plan_Of_L1 (f : Addr × Addr × Int × (Option Addr) × Nat × Nat × Addr × (Option Addr) × Nat × Nat × Int) (s : S_plan_Of_L1) : Env := [⟨1, .pointer (some f.1), none⟩, ⟨2, .pointer (some f.2.1), none⟩, ⟨6, .int .i64 f.2.2.1, none⟩, ⟨7, .slice f.2.2.2.1 f.2.2.2.2.1 f.2.2.2.2.2.1, none⟩, ⟨8, .pointer (some f.2.2.2.2.2.2.1), none⟩, ⟨31, .slice f.2.2.2.2.2.2.2.1 f.2.2.2.2.2.2.2.2.1 f.2.2.2.2.2.2.2.2.2.1, none⟩, ⟨32, .int .i64 f.2.2.2.2.2.2.2.2.2.2, none⟩, ⟨33, .int .i64 s.t33, none⟩]

def dec_plan_Of_L1 (e : Env) (K : (Addr × Addr × Int × (Option Addr) × Nat × Nat × Addr × (Option Addr) × Nat × Nat × Int) → S_plan_Of_L1 → Prop) : Prop :=
  oA e 1 fun cx =>
  oA e 2 fun t2 =>
  oI e 6 .i64 fun calls =>
  oS e 7 fun lP lN lC =>
  oA e 8 fun p =>
  oS e 31 fun t31P t31N t31C =>
  oI e 32 .i64 fun t32 =>
  oI e 33 .i64 fun t33 =>
    K (cx, t2, calls, lP, lN, lC, p, t31P, t31N, t31C, t32) ⟨t33⟩

theorem dec_plan_Of_L1_ok {N : Nat} (e : Env) (a : Act) (K : (Addr × Addr × Int × (Option Addr) × Nat × Nat × Addr × (Option Addr) × Nat × Nat × Int) → S_plan_Of_L1 → Prop) (hr : Rep N a e) (h0 : dec_plan_Of_L1 e K) : ∃ f s, K f s ∧ Rep N a (lit_plan_Of_L1 f s) := by
  unfold dec_plan_Of_L1 at h0
  obtain ⟨cx, g1, h1⟩ := oA_elim h0
  obtain ⟨t2, g2, h2⟩ := oA_elim h1
  obtain ⟨calls, g6, h3⟩ := oI_elim h2
  obtain ⟨lP, lN, lC, g7, h4⟩ := oS_elim h3
  obtain ⟨p, g8, h5⟩ := oA_elim h4
  obtain ⟨t31P, t31N, t31C, g31, h6⟩ := oS_elim h5
  obtain ⟨t32, g32, h7⟩ := oI_elim h6
  obtain ⟨t33, g33, h8⟩ := oI_elim h7
  exact ⟨_, _, h8, rep_less hr (by simp [lit_plan_Of_L1, g1, g2, g6, g7, g8, g31, g32, g33])⟩

def spec_plan_Of_L1 (Q : Post) (e : Env) (w : World) : Prop :=
  dec_plan_Of_L1 e fun f s => F_plan_Of_L1 f.1 f.2.1 f.2.2.1 f.2.2.2.1 f.2.2.2.2.1 f.2.2.2.2.2.1 f.2.2.2.2.2.2.1 f.2.2.2.2.2.2.2.1 f.2.2.2.2.2.2.2.2.1 f.2.2.2.2.2.2.2.2.2.1 f.2.2.2.2.2.2.2.2.2.2 s w (fun w1 => Q (.exit 0) [⟨1, .pointer (some f.1), none⟩, ⟨2, .pointer (some f.2.1), none⟩, ⟨6, .int .i64 f.2.2.1, none⟩, ⟨7, .slice f.2.2.2.1 f.2.2.2.2.1 f.2.2.2.2.2.1, none⟩, ⟨8, .pointer (some f.2.2.2.2.2.2.1), none⟩] w1)

def lit_plan_Of_L2 (f : Addr × Addr × Int × (Option Addr) × Nat × Nat × Addr × Int) (s : S_plan_Of_L2) : Env := [⟨1, .pointer (some f.1), none⟩, ⟨2, .pointer (some f.2.1), none⟩, ⟨6, .int .i64 f.2.2.1, none⟩, ⟨7, .slice f.2.2.2.1 f.2.2.2.2.1 f.2.2.2.2.2.1, none⟩, ⟨8, .pointer (some f.2.2.2.2.2.2.1), none⟩, ⟨52, .int .i64 f.2.2.2.2.2.2.2, none⟩, ⟨53, .int .i64 s.t53, none⟩]

def dec_plan_Of_L2 (e : Env) (K : (Addr × Addr × Int × (Option Addr) × Nat × Nat × Addr × Int) → S_plan_Of_L2 → Prop) : Prop :=
  oA e 1 fun cx_1 =>
  oA e 2 fun t2_1 =>
  oI e 6 .i64 fun calls_1 =>
  oS e 7 fun lP_1 lN_1 lC_1 =>
  oA e 8 fun p_1 =>
  oI e 52 .i64 fun t52 =>
  oI e 53 .i64 fun t53 =>
    K (cx_1, t2_1, calls_1, lP_1, lN_1, lC_1, p_1, t52) ⟨t53⟩

theorem dec_plan_Of_L2_ok {N : Nat} (e : Env) (a : Act) (K : (Addr × Addr × Int × (Option Addr) × Nat × Nat × Addr × Int) → S_plan_Of_L2 → Prop) (hr : Rep N a e) (h0 : dec_plan_Of_L2 e K) : ∃ f s, K f s ∧ Rep N a (lit_plan_Of_L2 f s) := by
  unfold dec_plan_Of_L2 at h0
  obtain ⟨cx_1, g1, h1⟩ := oA_elim h0
  obtain ⟨t2_1, g2, h2⟩ := oA_elim h1
  obtain ⟨calls_1, g6, h3⟩ := oI_elim h2
  obtain ⟨lP_1, lN_1, lC_1, g7, h4⟩ := oS_elim h3
  obtain ⟨p_1, g8, h5⟩ := oA_elim h4
  obtain ⟨t52, g52, h6⟩ := oI_elim h5
  obtain ⟨t53, g53, h7⟩ := oI_elim h6
  exact ⟨_, _, h7, rep_less hr (by simp [lit_plan_Of_L2, g1, g2, g6, g7, g8, g52, g53])⟩

def spec_plan_Of_L2 (Q : Post) (e : Env) (w : World) : Prop :=
  dec_plan_Of_L2 e fun f s => F_plan_Of_L2 f.1 f.2.1 f.2.2.1 f.2.2.2.1 f.2.2.2.2.1 f.2.2.2.2.2.1 f.2.2.2.2.2.2.1 f.2.2.2.2.2.2.2 s w (fun w1 => Q (.exit 2) [⟨1, .pointer (some f.1), none⟩, ⟨2, .pointer (some f.2.1), none⟩, ⟨6, .int .i64 f.2.2.1, none⟩, ⟨8, .pointer (some f.2.2.2.2.2.2.1), none⟩] w1)

def G_plan_Of : Gen where
  loop := lookL [([false, true, false, true, true, true, true, true, true], spec_plan_Of_L1), ([false, true, false, true, true, true, true, true, true, true], spec_plan_Of_L2)]
  plan := fun _ => none

def dx_plan_Of_L1_0 (e : Env) (K : (Addr × Addr × Int × (Option Addr) × Nat × Nat × Addr × (Option Addr) × Nat × Nat × Int) → Prop) : Prop :=
  oA e 1 fun cx =>
  oA e 2 fun t2 =>
  oI e 6 .i64 fun calls =>
  oS e 7 fun lP lN lC =>
  oA e 8 fun p =>
  oS e 31 fun t31P t31N t31C =>
  oI e 32 .i64 fun t32 =>
    K (cx, t2, calls, lP, lN, lC, p, t31P, t31N, t31C, t32)

theorem body_plan_Of_L1 (f : Addr × Addr × Int × (Option Addr) × Nat × Nat × Addr × (Option Addr) × Nat × Nat × Int) (s : S_plan_Of_L1) (w : World) (Kn : (Addr × Addr × Int × (Option Addr) × Nat × Nat × Addr × (Option Addr) × Nat × Nat × Int) → S_plan_Of_L1 → World → Prop) (Kx0 : (Addr × Addr × Int × (Option Addr) × Nat × Nat × Addr × (Option Addr) × Nat × Nat × Int) → World → Prop) :
    B_plan_Of_L1 f.1 f.2.1 f.2.2.1 f.2.2.2.1 f.2.2.2.2.1 f.2.2.2.2.2.1 f.2.2.2.2.2.2.1 f.2.2.2.2.2.2.2.1 f.2.2.2.2.2.2.2.2.1 f.2.2.2.2.2.2.2.2.2.1 f.2.2.2.2.2.2.2.2.2.2 s w (fun s1 w1 => Kn f s1 w1) (fun w1 => Kx0 f w1) =
    den Try.prog Try.f7.ntmps G_plan_Of (sub (codeOf Try.f7) [false, false, true, false, true, true, true, true, true, true]) [false, false, true, false, true, true, true, true, true, true] (roundQ (fun e w => dec_plan_Of_L1 e fun f s => Kn f s w) (fun e w => False) (fun id e w => match Nat.beq id 0 with | true => dx_plan_Of_L1_0 e fun f => Kx0 f w | false => False)) (lit_plan_Of_L1 f s) w := by kernel_rfl

def dx_plan_Of_L2_2 (e : Env) (K : (Addr × Addr × Int × (Option Addr) × Nat × Nat × Addr × Int) → Prop) : Prop :=
  oA e 1 fun cx_1 =>
  oA e 2 fun t2_1 =>
  oI e 6 .i64 fun calls_1 =>
  oS e 7 fun lP_1 lN_1 lC_1 =>
  oA e 8 fun p_1 =>
  oI e 52 .i64 fun t52 =>
    K (cx_1, t2_1, calls_1, lP_1, lN_1, lC_1, p_1, t52)

theorem body_plan_Of_L2 (f : Addr × Addr × Int × (Option Addr) × Nat × Nat × Addr × Int) (s : S_plan_Of_L2) (w : World) (Kn : (Addr × Addr × Int × (Option Addr) × Nat × Nat × Addr × Int) → S_plan_Of_L2 → World → Prop) (Kx2 : (Addr × Addr × Int × (Option Addr) × Nat × Nat × Addr × Int) → World → Prop) :
    B_plan_Of_L2 f.1 f.2.1 f.2.2.1 f.2.2.2.1 f.2.2.2.2.1 f.2.2.2.2.2.1 f.2.2.2.2.2.2.1 f.2.2.2.2.2.2.2 s w (fun s1 w1 => Kn f s1 w1) (fun w1 => Kx2 f w1) =
    den Try.prog Try.f7.ntmps G_plan_Of (sub (codeOf Try.f7) [false, false, true, false, true, true, true, true, true, true, true]) [false, false, true, false, true, true, true, true, true, true, true] (roundQ (fun e w => dec_plan_Of_L2 e fun f s => Kn f s w) (fun e w => False) (fun id e w => match Nat.beq id 2 with | true => dx_plan_Of_L2_2 e fun f => Kx2 f w | false => False)) (lit_plan_Of_L2 f s) w := by kernel_rfl

theorem ok_plan_Of_L1 : OneOk Try.prog Try.f7.ntmps G_plan_Of (codeOf Try.f7) [false, true, false, true, true, true, true, true, true] spec_plan_Of_L1 := by
  intro c hc ih Q e w a hr h
  have hcc : sub (codeOf Try.f7) [false, false, true, false, true, true, true, true, true, true] = c := sub_of_codeAt hc
  obtain ⟨f, s, h, hrep⟩ := dec_plan_Of_L1_ok e a _ hr h
  obtain ⟨J, μ, hj, hround⟩ := h
  refine loop_rule_deep seat_ok seat_mixed ih lit_plan_Of_L1 dec_plan_Of_L1 dec_plan_Of_L1_ok hc f J μ (Kr := fun e w => False) (Kx := fun id e w => match Nat.beq id 0 with | true => (dx_plan_Of_L1_0 e fun f1 => f1 = f ∧ Q (.exit 0) [⟨1, .pointer (some f.1), none⟩, ⟨2, .pointer (some f.2.1), none⟩, ⟨6, .int .i64 f.2.2.1, none⟩, ⟨7, .slice f.2.2.2.1 f.2.2.2.2.1 f.2.2.2.2.2.1, none⟩, ⟨8, .pointer (some f.2.2.2.2.2.2.1), none⟩] w) | false => False) ?_ ?_ ?_ s w a hj hrep
  · intro e a w hr h
    exact h.elim
  · intro id e a w hr h0
    (try dsimp only at h0)
    split at h0
    · rename_i hid
      obtain rfl := Nat.eq_of_beq_eq_true hid
      unfold dx_plan_Of_L1_0 at h0
      obtain ⟨cx, g1, h1⟩ := oA_elim h0
      obtain ⟨t2, g2, h2⟩ := oA_elim h1
      obtain ⟨calls, g6, h3⟩ := oI_elim h2
      obtain ⟨lP, lN, lC, g7, h4⟩ := oS_elim h3
      obtain ⟨p, g8, h5⟩ := oA_elim h4
      obtain ⟨t31P, t31N, t31C, g31, h6⟩ := oS_elim h5
      obtain ⟨t32, g32, h7⟩ := oI_elim h6
      obtain ⟨hf, hq⟩ := h7
      subst hf
      exact ⟨_, rep_less hr (by simp [g1, g2, g6, g7, g8]), hq⟩
    · exact h0.elim
  · intro s w hj
    have hb := hround s w hj
    rw [← hcc]
    have e1 := body_plan_Of_L1 f s w (fun f1 s1 w1 => f1 = f ∧ J s1 w1 ∧ μ s1 w1 < μ s w) (fun f1 w1 => f1 = f ∧ Q (.exit 0) [⟨1, .pointer (some f.1), none⟩, ⟨2, .pointer (some f.2.1), none⟩, ⟨6, .int .i64 f.2.2.1, none⟩, ⟨7, .slice f.2.2.2.1 f.2.2.2.2.1 f.2.2.2.2.2.1, none⟩, ⟨8, .pointer (some f.2.2.2.2.2.2.1), none⟩] w1)
    simp only [true_and] at e1
    exact cast e1 hb

theorem ok_plan_Of_L2 : OneOk Try.prog Try.f7.ntmps G_plan_Of (codeOf Try.f7) [false, true, false, true, true, true, true, true, true, true] spec_plan_Of_L2 := by
  intro c hc ih Q e w a hr h
  have hcc : sub (codeOf Try.f7) [false, false, true, false, true, true, true, true, true, true, true] = c := sub_of_codeAt hc
  obtain ⟨f, s, h, hrep⟩ := dec_plan_Of_L2_ok e a _ hr h
  obtain ⟨J, μ, hj, hround⟩ := h
  refine loop_rule_deep seat_ok seat_mixed ih lit_plan_Of_L2 dec_plan_Of_L2 dec_plan_Of_L2_ok hc f J μ (Kr := fun e w => False) (Kx := fun id e w => match Nat.beq id 2 with | true => (dx_plan_Of_L2_2 e fun f1 => f1 = f ∧ Q (.exit 2) [⟨1, .pointer (some f.1), none⟩, ⟨2, .pointer (some f.2.1), none⟩, ⟨6, .int .i64 f.2.2.1, none⟩, ⟨8, .pointer (some f.2.2.2.2.2.2.1), none⟩] w) | false => False) ?_ ?_ ?_ s w a hj hrep
  · intro e a w hr h
    exact h.elim
  · intro id e a w hr h0
    (try dsimp only at h0)
    split at h0
    · rename_i hid
      obtain rfl := Nat.eq_of_beq_eq_true hid
      unfold dx_plan_Of_L2_2 at h0
      obtain ⟨cx_1, g1, h1⟩ := oA_elim h0
      obtain ⟨t2_1, g2, h2⟩ := oA_elim h1
      obtain ⟨calls_1, g6, h3⟩ := oI_elim h2
      obtain ⟨lP_1, lN_1, lC_1, g7, h4⟩ := oS_elim h3
      obtain ⟨p_1, g8, h5⟩ := oA_elim h4
      obtain ⟨t52, g52, h6⟩ := oI_elim h5
      obtain ⟨hf, hq⟩ := h6
      subst hf
      exact ⟨_, rep_less hr (by simp [g1, g2, g6, g8]), hq⟩
    · exact h0.elim
  · intro s w hj
    have hb := hround s w hj
    rw [← hcc]
    have e1 := body_plan_Of_L2 f s w (fun f1 s1 w1 => f1 = f ∧ J s1 w1 ∧ μ s1 w1 < μ s w) (fun f1 w1 => f1 = f ∧ Q (.exit 2) [⟨1, .pointer (some f.1), none⟩, ⟨2, .pointer (some f.2.1), none⟩, ⟨6, .int .i64 f.2.2.1, none⟩, ⟨8, .pointer (some f.2.2.2.2.2.2.1), none⟩] w1)
    simp only [true_and] at e1
    exact cast e1 hb

theorem loops_plan_Of : LoopOk Try.prog Try.f7.ntmps G_plan_Of (codeOf Try.f7) := loopOk_list rfl ⟨ok_plan_Of_L1, ⟨ok_plan_Of_L2, trivial⟩⟩

theorem C_plan_Of.of {c0 : Int} {c1 : Int} {c2 : ByteArray} {c3P : Option Addr} {c3N : Nat} {c3C : Nat} {c4P : Option Addr} {c4N : Nat} {c4C : Nat} {c5 : Int} {w : World} {R : Bool → Option Addr → Nat → Nat → Int → Option Addr → Nat → Nat → Int → World → Prop} (h : F_plan_Of c0 c1 c2 c3P c3N c3C c4P c4N c4C c5 w R) : C_plan_Of c0 c1 c2 c3P c3N c3C c4P c4N c4C c5 w R := ofS3 (Fm := F_plan_Of c0 c1 c2 c3P c3N c3C c4P c4N c4C c5 w) Try.func7 (by kernel_rfl) loops_plan_Of rfl (fun _ => by kernel_rfl) h

end Go.Proofs.Ytdbkbaeeccemkaa
