/- The formulas of this seat's functions, held against the loaded program by the kernel. Printed by a program. -/
import Derived.Test.YtggbmakfifllnaaDoorGenC
set_option maxRecDepth 100000
set_option linter.unusedVariables false
namespace Go.Proofs.YtggbmakfifllnaaDoor
open Go Go.D Go.Proofs

structure S_script_EncodeRun_L1 where
  t24 : Int

/-- One round. -/
def B_script_EncodeRun_L1 (x : Addr) (wx : Addr) (t22P : Option Addr) (t22N : Nat) (t22C : Nat) (t23 : Int) (s : S_script_EncodeRun_L1) (w : World) (Kn : S_script_EncodeRun_L1 → World → Prop) (Kx0 : World → Prop) : Prop :=
  If (decide ((s.t24 : Int) < t23))
  (0 ≤ (s.t24 : Int) ∧ (s.t24 : Int) < (t22N : Int) ∧ NN t22P fun a =>
  ∃ t270 : Int, w.cell? ((a.add ((s.t24 : Int).toNat * 2)).add 0) = some (.int .i64 t270) ∧
  ∃ t271 : ByteArray, w.cell? ((a.add ((s.t24 : Int).toNat * 2)).add 1) = some (.string t271) ∧
  New w (.cells #[.int .i64 0, .string ⟨#[]⟩] 45) fun r_2 w1_4 =>
  St w1_4 ((⟨r_2, 0, none⟩ : Addr).add 0) (.int .i64 t270) fun w1_5 =>
  St w1_5 ((⟨r_2, 0, none⟩ : Addr).add 1) (.string t271) fun w1_6 =>
  ∃ Kind : Int, w1_6.cell? ((⟨r_2, 0, none⟩ : Addr).add 0) = some (.int .i64 Kind) ∧
  BSl Tryd.prog 24 1 [(0, .int .i64 Kind)] w1_6 fun t31P t31N t31C w1_7 =>
  C_script_writer_numbers (some wx) t31P t31N t31C w1_7 fun w1_8 =>
  ∃ Text : ByteArray, w1_8.cell? ((⟨r_2, 0, none⟩ : Addr).add 1) = some (.string Text) ∧
  C_script_writer_text (some wx) Text w1_8 fun w1_9 =>
  Kn ⟨(IntKind.i64.wrap ((s.t24 : Int) + (1 : Int)))⟩ w1_9)
  (Kx0 w)

def F_script_EncodeRun_L1 (x : Addr) (wx : Addr) (t22P : Option Addr) (t22N : Nat) (t22C : Nat) (t23 : Int) (s : S_script_EncodeRun_L1) (w : World) (Kx0 : World → Prop) : Prop :=
  LoopS (fun s w Kn => B_script_EncodeRun_L1 x wx t22P t22N t22C t23 s w Kn Kx0) s w

def F_script_EncodeRun (x0 : Int) (x1P : Option Addr) (x1N : Nat) (x1C : Nat) (x2 : Int) (x3 : Int) (x4 : Int) (x5 : Int) (w : World) (R : Option Addr → Nat → Nat → Int → World → Prop) : Prop :=
  New w (.cells #[.int .i64 x0, .slice x1P x1N x1C, .int .i64 x2, .int .i64 x3, .int .i64 x4, .int .i64 x5] 43) fun r w1 =>
  ∃ EventsP : Option Addr, ∃ EventsN : Nat, ∃ EventsC : Nat, w1.cell? ((⟨r, 0, none⟩ : Addr).add 1) = some (.slice EventsP EventsN EventsC) ∧
  New w1 (.cells #[.slice none 0 0, .bool (decide ((EventsN : Int) > (10000 : Int)))] 57) fun r_1 w1_1 =>
  ∃ Tag : Int, w1_1.cell? ((⟨r, 0, none⟩ : Addr).add 0) = some (.int .i64 Tag) ∧
  ∃ EventsP_1 : Option Addr, ∃ EventsN_1 : Nat, ∃ EventsC_1 : Nat, w1_1.cell? ((⟨r, 0, none⟩ : Addr).add 1) = some (.slice EventsP_1 EventsN_1 EventsC_1) ∧
  BSl Tryd.prog 24 2 [(0, .int .i64 Tag), (1, .int .i64 (EventsN_1 : Int))] w1_1 fun t19P t19N t19C w1_2 =>
  C_script_writer_numbers (some ⟨r_1, 0, none⟩) t19P t19N t19C w1_2 fun w1_3 =>
  ∃ EventsP_2 : Option Addr, ∃ EventsN_2 : Nat, ∃ EventsC_2 : Nat, w1_3.cell? ((⟨r, 0, none⟩ : Addr).add 1) = some (.slice EventsP_2 EventsN_2 EventsC_2) ∧
  F_script_EncodeRun_L1 ⟨r, 0, none⟩ ⟨r_1, 0, none⟩ EventsP_2 EventsN_2 EventsC_2 (EventsN_2 : Int) ⟨(0 : Int)⟩ w1_3
  (fun w1_10 =>
  ∃ Steps : Int, w1_10.cell? ((⟨r, 0, none⟩ : Addr).add 2) = some (.int .i64 Steps) ∧
  ∃ Wrong : Int, w1_10.cell? ((⟨r, 0, none⟩ : Addr).add 3) = some (.int .i64 Wrong) ∧
  ∃ Part : Int, w1_10.cell? ((⟨r, 0, none⟩ : Addr).add 4) = some (.int .i64 Part) ∧
  ∃ At : Int, w1_10.cell? ((⟨r, 0, none⟩ : Addr).add 5) = some (.int .i64 At) ∧
  BSl Tryd.prog 24 4 [(0, .int .i64 Steps), (1, .int .i64 Wrong), (2, .int .i64 Part), (3, .int .i64 At)] w1_10 fun t47P t47N t47C w1_11 =>
  C_script_writer_numbers (some ⟨r_1, 0, none⟩) t47P t47N t47C w1_11 fun w1_12 =>
  C_script_writer_done (some ⟨r_1, 0, none⟩) w1_12 fun t500P t500N t500C t501 w1_13 =>
  R t500P t500N t500C t501 w1_13)

def lit_script_EncodeRun_L1 (f : Addr × Addr × (Option Addr) × Nat × Nat × Int) (s : S_script_EncodeRun_L1) : Env := [⟨1, .pointer (some f.1), none⟩, ⟨4, .pointer (some f.2.1), none⟩, ⟨22, .slice f.2.2.1 f.2.2.2.1 f.2.2.2.2.1, none⟩, ⟨23, .int .i64 f.2.2.2.2.2, none⟩, ⟨24, .int .i64 s.t24, none⟩]

def dec_script_EncodeRun_L1 (e : Env) (K : (Addr × Addr × (Option Addr) × Nat × Nat × Int) → S_script_EncodeRun_L1 → Prop) : Prop :=
  onV (getV e 1) fun u1 =>
  asA u1 fun x =>
  onV (getV e 4) fun u2 =>
  asA u2 fun wx =>
  onV (getV e 22) fun u3 =>
  asS u3 fun t22P t22N t22C =>
  onV (getV e 23) fun u4 =>
  asI .i64 u4 fun t23 =>
  onV (getV e 24) fun u5 =>
  asI .i64 u5 fun t24 =>
    K (x, wx, t22P, t22N, t22C, t23) ⟨t24⟩

theorem dec_script_EncodeRun_L1_ok {N : Nat} (e : Env) (a : Act) (K : (Addr × Addr × (Option Addr) × Nat × Nat × Int) → S_script_EncodeRun_L1 → Prop) (hr : Rep N a e) (h0 : dec_script_EncodeRun_L1 e K) : ∃ f s, K f s ∧ Rep N a (lit_script_EncodeRun_L1 f s) := by
  unfold dec_script_EncodeRun_L1 at h0
  obtain ⟨u1, g1, h1⟩ := onV_elim h0
  obtain ⟨x, rfl, h2⟩ := asA_elim h1
  obtain ⟨u2, g4, h3⟩ := onV_elim h2
  obtain ⟨wx, rfl, h4⟩ := asA_elim h3
  obtain ⟨u3, g22, h5⟩ := onV_elim h4
  obtain ⟨t22P, t22N, t22C, rfl, h6⟩ := asS_elim h5
  obtain ⟨u4, g23, h7⟩ := onV_elim h6
  obtain ⟨t23, rfl, h8⟩ := asI_elim h7
  obtain ⟨u5, g24, h9⟩ := onV_elim h8
  obtain ⟨t24, rfl, h10⟩ := asI_elim h9
  exact ⟨_, _, h10, rep_less hr (by simp [lit_script_EncodeRun_L1, g1, g4, g22, g23, g24])⟩

def spec_script_EncodeRun_L1 (Q : Post) (e : Env) (w : World) : Prop :=
  dec_script_EncodeRun_L1 e fun f s => F_script_EncodeRun_L1 f.1 f.2.1 f.2.2.1 f.2.2.2.1 f.2.2.2.2.1 f.2.2.2.2.2 s w (fun w1 => Q (.exit 0) [⟨1, .pointer (some f.1), none⟩, ⟨4, .pointer (some f.2.1), none⟩] w1)

def G_script_EncodeRun : Gen where
  loop := lookL [([false, true, false, true, true, true], spec_script_EncodeRun_L1)]
  plan := fun _ => none

def dx_script_EncodeRun_L1_0 (e : Env) (K : (Addr × Addr × (Option Addr) × Nat × Nat × Int) → Prop) : Prop :=
  onV (getV e 1) fun u1 =>
  asA u1 fun x =>
  onV (getV e 4) fun u2 =>
  asA u2 fun wx =>
  onV (getV e 22) fun u3 =>
  asS u3 fun t22P t22N t22C =>
  onV (getV e 23) fun u4 =>
  asI .i64 u4 fun t23 =>
    K (x, wx, t22P, t22N, t22C, t23)

theorem body_script_EncodeRun_L1 (f : Addr × Addr × (Option Addr) × Nat × Nat × Int) (s : S_script_EncodeRun_L1) (w : World) (Kn : (Addr × Addr × (Option Addr) × Nat × Nat × Int) → S_script_EncodeRun_L1 → World → Prop) (Kx0 : (Addr × Addr × (Option Addr) × Nat × Nat × Int) → World → Prop) :
    B_script_EncodeRun_L1 f.1 f.2.1 f.2.2.1 f.2.2.2.1 f.2.2.2.2.1 f.2.2.2.2.2 s w (fun s1 w1 => Kn f s1 w1) (fun w1 => Kx0 f w1) =
    den Tryd.prog Tryd.f14.ntmps G_script_EncodeRun (sub (codeOf Tryd.f14) [false, false, true, false, true, true, true]) [false, false, true, false, true, true, true] (roundQ (fun e w => dec_script_EncodeRun_L1 e fun f s => Kn f s w) (fun e w => False) (fun id e w => match Nat.beq id 0 with | true => dx_script_EncodeRun_L1_0 e fun f => Kx0 f w | false => False)) (lit_script_EncodeRun_L1 f s) w := by kernel_rfl

theorem ok_script_EncodeRun_L1 : OneOk Tryd.prog Tryd.f14.ntmps G_script_EncodeRun (codeOf Tryd.f14) [false, true, false, true, true, true] spec_script_EncodeRun_L1 := by
  intro c hc ih Q e w a hr h
  have hcc : sub (codeOf Tryd.f14) [false, false, true, false, true, true, true] = c := sub_of_codeAt hc
  obtain ⟨f, s, h, hrep⟩ := dec_script_EncodeRun_L1_ok e a _ hr h
  obtain ⟨J, μ, hj, hround⟩ := h
  refine loop_rule_deep seat_ok seat_mixed ih lit_script_EncodeRun_L1 dec_script_EncodeRun_L1 dec_script_EncodeRun_L1_ok hc f J μ (Kr := fun e w => False) (Kx := fun id e w => match Nat.beq id 0 with | true => (dx_script_EncodeRun_L1_0 e fun f1 => f1 = f ∧ Q (.exit 0) [⟨1, .pointer (some f.1), none⟩, ⟨4, .pointer (some f.2.1), none⟩] w) | false => False) ?_ ?_ ?_ s w a hj hrep
  · intro e a w hr h
    exact h.elim
  · intro id e a w hr h0
    (try dsimp only at h0)
    split at h0
    · rename_i hid
      obtain rfl := Nat.eq_of_beq_eq_true hid
      unfold dx_script_EncodeRun_L1_0 at h0
      obtain ⟨u1, g1, h1⟩ := onV_elim h0
      obtain ⟨x, rfl, h2⟩ := asA_elim h1
      obtain ⟨u2, g4, h3⟩ := onV_elim h2
      obtain ⟨wx, rfl, h4⟩ := asA_elim h3
      obtain ⟨u3, g22, h5⟩ := onV_elim h4
      obtain ⟨t22P, t22N, t22C, rfl, h6⟩ := asS_elim h5
      obtain ⟨u4, g23, h7⟩ := onV_elim h6
      obtain ⟨t23, rfl, h8⟩ := asI_elim h7
      obtain ⟨hf, hq⟩ := h8
      subst hf
      exact ⟨_, rep_less hr (by simp [g1, g4]), hq⟩
    · exact h0.elim
  · intro s w hj
    have hb := hround s w hj
    rw [← hcc]
    have e1 := body_script_EncodeRun_L1 f s w (fun f1 s1 w1 => f1 = f ∧ J s1 w1 ∧ μ s1 w1 < μ s w) (fun f1 w1 => f1 = f ∧ Q (.exit 0) [⟨1, .pointer (some f.1), none⟩, ⟨4, .pointer (some f.2.1), none⟩] w1)
    simp only [true_and] at e1
    exact cast e1 hb

theorem loops_script_EncodeRun : LoopOk Tryd.prog Tryd.f14.ntmps G_script_EncodeRun (codeOf Tryd.f14) := loopOk_list rfl ⟨ok_script_EncodeRun_L1, trivial⟩

theorem den_script_EncodeRun (x0 : Int) (x1P : Option Addr) (x1N : Nat) (x1C : Nat) (x2 : Int) (x3 : Int) (x4 : Int) (x5 : Int) (w : World) (R : Value → World → Prop) :
    F_script_EncodeRun x0 x1P x1N x1C x2 x3 x4 x5 w (fun r0P r0N r0C r1 w1 => R (.tuple #[.slice r0P r0N r0C, .int .i64 r1]) w1) = den Tryd.prog Tryd.f14.ntmps G_script_EncodeRun (codeOf Tryd.f14) [] (postD Tryd.prog Tryd.f14.results.toList R) (entry [.agg #[.int .i64 x0, .slice x1P x1N x1C, .int .i64 x2, .int .i64 x3, .int .i64 x4, .int .i64 x5]] 0) w := by kernel_rfl

theorem C_script_EncodeRun.of {x0 : Int} {x1P : Option Addr} {x1N : Nat} {x1C : Nat} {x2 : Int} {x3 : Int} {x4 : Int} {x5 : Int} {w : World} {R : Option Addr → Nat → Nat → Int → World → Prop} (h : F_script_EncodeRun x0 x1P x1N x1C x2 x3 x4 x5 w R) : C_script_EncodeRun x0 x1P x1N x1C x2 x3 x4 x5 w R := by
  refine (calls_of_den (c := codeOf Tryd.f14) seat_ok seat_mixed Tryd.func14 (by kernel_rfl) loops_script_EncodeRun (args := [.agg #[.int .i64 x0, .slice x1P x1N x1C, .int .i64 x2, .int .i64 x3, .int .i64 x4, .int .i64 x5]]) rfl (R := fun v w1 => ∃ (r0P : Option Addr) (r0N : Nat) (r0C : Nat) (r1 : Int), v = (.tuple #[.slice r0P r0N r0C, .int .i64 r1] : Value) ∧ R r0P r0N r0C r1 w1) ?_).mono ?_
  · rw [← den_script_EncodeRun]
    have e : (fun r0P r0N r0C r1 w1 => ∃ (r0P' : Option Addr) (r0N' : Nat) (r0C' : Nat) (r1' : Int), (.tuple #[.slice r0P r0N r0C, .int .i64 r1] : Value) = (.tuple #[.slice r0P' r0N' r0C', .int .i64 r1'] : Value) ∧ R r0P' r0N' r0C' r1' w1) = R := by
      funext r0P r0N r0C r1 w1
      exact propext ⟨fun ⟨r0P', r0N', r0C', r1', he, h⟩ => by first | (simp at he; simp_all) | (cases he; exact h), fun h => ⟨_, _, _, _, rfl, h⟩⟩
    simpa only [e] using h
  · rintro en w1 ⟨v, he, r0P, r0N, r0C, r1, rfl, h⟩
    exact ⟨_, _, _, _, he, h⟩

structure S_ref27_EncodeRun_L1 where
  outP : Option Addr
  outN : Nat
  outC : Nat
  i : Int

structure S_ref27_EncodeRun_L2 where
  outP_3 : Option Addr
  outN_3 : Nat
  outC_3 : Nat
  i_1 : Int

/-- One round. -/
def B_ref27_EncodeRun_L1 (x : Addr) (s : S_ref27_EncodeRun_L1) (w : World) (Kn : S_ref27_EncodeRun_L1 → World → Prop) (Kx0 : Option Addr → Nat → Nat → World → Prop) (Kr : Option Addr → Nat → Nat → Bool → World → Prop) : Prop :=
  ∃ EventsP_2 : Option Addr, ∃ EventsN_2 : Nat, ∃ EventsC_2 : Nat, w.cell? (x.add 1) = some (.slice EventsP_2 EventsN_2 EventsC_2) ∧
  If (decide ((s.i : Int) < (EventsN_2 : Int)))
  (∃ EventsP_3 : Option Addr, ∃ EventsN_3 : Nat, ∃ EventsC_3 : Nat, w.cell? (x.add 1) = some (.slice EventsP_3 EventsN_3 EventsC_3) ∧
  0 ≤ (s.i : Int) ∧ (s.i : Int) < (EventsN_3 : Int) ∧ NN EventsP_3 fun a =>
  ∃ Text : ByteArray, w.cell? ((a.add ((s.i : Int).toNat * 2)).add 1) = some (.string Text) ∧
  If (decide ((Text.size : Int) > (65536 : Int)))
  (Kr none 0 0 false w)
  (∃ EventsP_4 : Option Addr, ∃ EventsN_4 : Nat, ∃ EventsC_4 : Nat, (drw w).cell? (x.add 1) = some (.slice EventsP_4 EventsN_4 EventsC_4) ∧
  0 ≤ (s.i : Int) ∧ (s.i : Int) < (EventsN_4 : Int) ∧ NN EventsP_4 fun a_1 =>
  ∃ Kind : Int, (drw w).cell? ((a_1.add ((s.i : Int).toNat * 2)).add 0) = some (.int .i64 Kind) ∧
  ∃ EventsP_5 : Option Addr, ∃ EventsN_5 : Nat, ∃ EventsC_5 : Nat, (drw w).cell? (x.add 1) = some (.slice EventsP_5 EventsN_5 EventsC_5) ∧
  0 ≤ (s.i : Int) ∧ (s.i : Int) < (EventsN_5 : Int) ∧ NN EventsP_5 fun a_2 =>
  ∃ Text_1 : ByteArray, (drw w).cell? ((a_2.add ((s.i : Int).toNat * 2)).add 1) = some (.string Text_1) ∧
  C_ref27_number Kind (drw w) fun t42P t42N t42C w1_4 =>
  w1_4.cell? ((a_2.add ((s.i : Int).toNat * 2)).add 1) = (drw w).cell? ((a_2.add ((s.i : Int).toNat * 2)).add 1) ∧
  w1_4.cell? (x.add 1) = (drw w).cell? (x.add 1) ∧
  App Tryd.prog #[28, 28] 28 #[.slice s.outP s.outN s.outC, .slice t42P t42N t42C] w1_4 fun t43P t43N t43C w1_5 =>
  w1_5.cell? ((a_2.add ((s.i : Int).toNat * 2)).add 1) = (drw w).cell? ((a_2.add ((s.i : Int).toNat * 2)).add 1) ∧
  w1_5.cell? (x.add 1) = (drw w).cell? (x.add 1) ∧
  C_ref27_text Text_1 w1_5 fun t50P t50N t50C w1_6 =>
  App Tryd.prog #[28, 28] 28 #[.slice t43P t43N t43C, .slice t50P t50N t50C] w1_6 fun t51P t51N t51C w1_7 =>
  Kn ⟨t51P, t51N, t51C, (IntKind.i64.wrap ((s.i : Int) + (1 : Int)))⟩ w1_7))
  (Kx0 s.outP s.outN s.outC w)

def F_ref27_EncodeRun_L1 (x : Addr) (s : S_ref27_EncodeRun_L1) (w : World) (Kx0 : Option Addr → Nat → Nat → World → Prop) (Kr : Option Addr → Nat → Nat → Bool → World → Prop) : Prop :=
  LoopS (fun s w Kn => B_ref27_EncodeRun_L1 x s w Kn Kx0 Kr) s w

/-- One round. -/
def B_ref27_EncodeRun_L2 (lP : Option Addr) (lN : Nat) (lC : Nat) (s : S_ref27_EncodeRun_L2) (w : World) (Kn : S_ref27_EncodeRun_L2 → World → Prop) (Kx2 : Option Addr → Nat → Nat → World → Prop) : Prop :=
  If (decide ((s.i_1 : Int) < (lN : Int)))
  (0 ≤ (s.i_1 : Int) ∧ (s.i_1 : Int) < (lN : Int) ∧ NN lP fun a_3 =>
  ∃ t71 : Int, w.cell? (a_3.add ((s.i_1 : Int).toNat * 1)) = some (.int .i64 t71) ∧
  C_ref27_number t71 w fun t72P t72N t72C w1_11 =>
  App Tryd.prog #[28, 28] 28 #[.slice s.outP_3 s.outN_3 s.outC_3, .slice t72P t72N t72C] w1_11 fun t73P t73N t73C w1_12 =>
  Kn ⟨t73P, t73N, t73C, (IntKind.i64.wrap ((s.i_1 : Int) + (1 : Int)))⟩ w1_12)
  (Kx2 s.outP_3 s.outN_3 s.outC_3 w)

def F_ref27_EncodeRun_L2 (lP : Option Addr) (lN : Nat) (lC : Nat) (s : S_ref27_EncodeRun_L2) (w : World) (Kx2 : Option Addr → Nat → Nat → World → Prop) : Prop :=
  LoopS (fun s w Kn => B_ref27_EncodeRun_L2 lP lN lC s w Kn Kx2) s w

def F_ref27_EncodeRun (x0 : Int) (x1P : Option Addr) (x1N : Nat) (x1C : Nat) (x2 : Int) (x3 : Int) (x4 : Int) (x5 : Int) (w : World) (R : Option Addr → Nat → Nat → Bool → World → Prop) : Prop :=
  New w (.cells #[.int .i64 x0, .slice x1P x1N x1C, .int .i64 x2, .int .i64 x3, .int .i64 x4, .int .i64 x5] 43) fun r w1 =>
  ∃ EventsP : Option Addr, ∃ EventsN : Nat, ∃ EventsC : Nat, w1.cell? ((⟨r, 0, none⟩ : Addr).add 1) = some (.slice EventsP EventsN EventsC) ∧
  If (decide ((EventsN : Int) > (10000 : Int)))
  (R none 0 0 false w1)
  (∃ Tag : Int, (drw w1).cell? ((⟨r, 0, none⟩ : Addr).add 0) = some (.int .i64 Tag) ∧
  ∃ EventsP_1 : Option Addr, ∃ EventsN_1 : Nat, ∃ EventsC_1 : Nat, (drw w1).cell? ((⟨r, 0, none⟩ : Addr).add 1) = some (.slice EventsP_1 EventsN_1 EventsC_1) ∧
  C_ref27_number Tag (drw w1) fun t14P t14N t14C w1_1 =>
  w1_1.cell? ((⟨r, 0, none⟩ : Addr).add 1) = (drw w1).cell? ((⟨r, 0, none⟩ : Addr).add 1) ∧
  C_ref27_number (EventsN_1 : Int) w1_1 fun t18P t18N t18C w1_2 =>
  App Tryd.prog #[28, 28] 28 #[.slice t14P t14N t14C, .slice t18P t18N t18C] w1_2 fun t19P t19N t19C w1_3 =>
  F_ref27_EncodeRun_L1 ⟨r, 0, none⟩ ⟨t19P, t19N, t19C, (0 : Int)⟩ w1_3
  (fun outP_2 outN_2 outC_2 w1_8 =>
  ∃ Steps : Int, w1_8.cell? ((⟨r, 0, none⟩ : Addr).add 2) = some (.int .i64 Steps) ∧
  ∃ Wrong : Int, w1_8.cell? ((⟨r, 0, none⟩ : Addr).add 3) = some (.int .i64 Wrong) ∧
  ∃ Part : Int, w1_8.cell? ((⟨r, 0, none⟩ : Addr).add 4) = some (.int .i64 Part) ∧
  ∃ At : Int, w1_8.cell? ((⟨r, 0, none⟩ : Addr).add 5) = some (.int .i64 At) ∧
  BSl Tryd.prog 24 4 [(0, .int .i64 Steps), (1, .int .i64 Wrong), (2, .int .i64 Part), (3, .int .i64 At)] w1_8 fun t60P t60N t60C w1_10 =>
  F_ref27_EncodeRun_L2 t60P t60N t60C ⟨outP_2, outN_2, outC_2, (0 : Int)⟩ w1_10
  (fun outP_5 outN_5 outC_5 w1_13 =>
  R outP_5 outN_5 outC_5 true w1_13))
  (fun t2P_1 t2N_1 t2C_1 t3_1 w1_9 =>
  R t2P_1 t2N_1 t2C_1 t3_1 w1_9))

def lit_ref27_EncodeRun_L1 (f : Addr) (s : S_ref27_EncodeRun_L1) : Env := [⟨1, .pointer (some f), none⟩, ⟨4, .slice s.outP s.outN s.outC, none⟩, ⟨5, .int .i64 s.i, none⟩]

def dec_ref27_EncodeRun_L1 (e : Env) (K : Addr → S_ref27_EncodeRun_L1 → Prop) : Prop :=
  onV (getV e 1) fun u1 =>
  asA u1 fun x =>
  onV (getV e 4) fun u2 =>
  asS u2 fun outP outN outC =>
  onV (getV e 5) fun u3 =>
  asI .i64 u3 fun i =>
    K (x) ⟨outP, outN, outC, i⟩

theorem dec_ref27_EncodeRun_L1_ok {N : Nat} (e : Env) (a : Act) (K : Addr → S_ref27_EncodeRun_L1 → Prop) (hr : Rep N a e) (h0 : dec_ref27_EncodeRun_L1 e K) : ∃ f s, K f s ∧ Rep N a (lit_ref27_EncodeRun_L1 f s) := by
  unfold dec_ref27_EncodeRun_L1 at h0
  obtain ⟨u1, g1, h1⟩ := onV_elim h0
  obtain ⟨x, rfl, h2⟩ := asA_elim h1
  obtain ⟨u2, g4, h3⟩ := onV_elim h2
  obtain ⟨outP, outN, outC, rfl, h4⟩ := asS_elim h3
  obtain ⟨u3, g5, h5⟩ := onV_elim h4
  obtain ⟨i, rfl, h6⟩ := asI_elim h5
  exact ⟨_, _, h6, rep_less hr (by simp [lit_ref27_EncodeRun_L1, g1, g4, g5])⟩

def spec_ref27_EncodeRun_L1 (Q : Post) (e : Env) (w : World) : Prop :=
  dec_ref27_EncodeRun_L1 e fun f s => F_ref27_EncodeRun_L1 f s w (fun outP_1 outN_1 outC_1 w1 => Q (.exit 0) [⟨1, .pointer (some f), none⟩, ⟨4, .slice outP_1 outN_1 outC_1, none⟩] w1) (fun t2P t2N t2C t3 w1 => Q .ret [⟨2, .slice t2P t2N t2C, none⟩, ⟨3, .bool t3, none⟩] w1)

def lit_ref27_EncodeRun_L2 (f : (Option Addr) × Nat × Nat) (s : S_ref27_EncodeRun_L2) : Env := [⟨6, .slice f.1 f.2.1 f.2.2, none⟩, ⟨4, .slice s.outP_3 s.outN_3 s.outC_3, none⟩, ⟨7, .int .i64 s.i_1, none⟩]

def dec_ref27_EncodeRun_L2 (e : Env) (K : ((Option Addr) × Nat × Nat) → S_ref27_EncodeRun_L2 → Prop) : Prop :=
  onV (getV e 6) fun u1 =>
  asS u1 fun lP lN lC =>
  onV (getV e 4) fun u2 =>
  asS u2 fun outP_3 outN_3 outC_3 =>
  onV (getV e 7) fun u3 =>
  asI .i64 u3 fun i_1 =>
    K (lP, lN, lC) ⟨outP_3, outN_3, outC_3, i_1⟩

theorem dec_ref27_EncodeRun_L2_ok {N : Nat} (e : Env) (a : Act) (K : ((Option Addr) × Nat × Nat) → S_ref27_EncodeRun_L2 → Prop) (hr : Rep N a e) (h0 : dec_ref27_EncodeRun_L2 e K) : ∃ f s, K f s ∧ Rep N a (lit_ref27_EncodeRun_L2 f s) := by
  unfold dec_ref27_EncodeRun_L2 at h0
  obtain ⟨u1, g6, h1⟩ := onV_elim h0
  obtain ⟨lP, lN, lC, rfl, h2⟩ := asS_elim h1
  obtain ⟨u2, g4, h3⟩ := onV_elim h2
  obtain ⟨outP_3, outN_3, outC_3, rfl, h4⟩ := asS_elim h3
  obtain ⟨u3, g7, h5⟩ := onV_elim h4
  obtain ⟨i_1, rfl, h6⟩ := asI_elim h5
  exact ⟨_, _, h6, rep_less hr (by simp [lit_ref27_EncodeRun_L2, g6, g4, g7])⟩

def spec_ref27_EncodeRun_L2 (Q : Post) (e : Env) (w : World) : Prop :=
  dec_ref27_EncodeRun_L2 e fun f s => F_ref27_EncodeRun_L2 f.1 f.2.1 f.2.2 s w (fun outP_4 outN_4 outC_4 w1 => Q (.exit 2) [⟨4, .slice outP_4 outN_4 outC_4, none⟩] w1)

def G_ref27_EncodeRun : Gen where
  loop := lookL [([false, true, false, true, true, true], spec_ref27_EncodeRun_L1), ([false, true, false, true, true, true, true, true], spec_ref27_EncodeRun_L2)]
  plan := fun id =>
    bif Nat.beq id 3 then some ([0, 1, 3, 0, 8, 24, 63, 127, 255], .take 0 (.take 1 (.take 3 (.take 4 (.take 5 (.take 2 (.take 6 (.take 7 (.take 8 .done))))))))) else
    bif Nat.beq id 9 then some ([0, 0, 2, 0, 14, 30, 62, 126, 255, 0, 512, 0, 3584, 7680, 15872, 32767, 65535, 131071], .take 0 (.take 1 (.take 2 (.take 3 (.take 4 (.take 5 (.take 6 (.take 9 (.take 10 (.take 11 (.take 12 (.take 13 (.take 14 (.take 7 (.take 8 (.take 15 (.take 16 (.take 17 .done)))))))))))))))))) else none

def dx_ref27_EncodeRun_L1_0 (e : Env) (K : Addr → Option Addr → Nat → Nat → Prop) : Prop :=
  onV (getV e 1) fun u1 =>
  asA u1 fun x =>
  onV (getV e 4) fun u2 =>
  asS u2 fun outP_1 outN_1 outC_1 =>
    K (x) outP_1 outN_1 outC_1

def dx_ref27_EncodeRun_L1_ret (e : Env) (K : Addr → Option Addr → Nat → Nat → Bool → Prop) : Prop :=
  onV (getV e 1) fun u1 =>
  asA u1 fun x =>
  onV (getV e 2) fun u2 =>
  asS u2 fun t2P t2N t2C =>
  onV (getV e 3) fun u3 =>
  asB u3 fun t3 =>
    K (x) t2P t2N t2C t3

theorem body_ref27_EncodeRun_L1 (f : Addr) (s : S_ref27_EncodeRun_L1) (w : World) (Kn : Addr → S_ref27_EncodeRun_L1 → World → Prop) (Kx0 : Addr → Option Addr → Nat → Nat → World → Prop) (Kr : Addr → Option Addr → Nat → Nat → Bool → World → Prop) :
    B_ref27_EncodeRun_L1 f s w (fun s1 w1 => Kn f s1 w1) (fun outP_1 outN_1 outC_1 w1 => Kx0 f outP_1 outN_1 outC_1 w1) (fun t2P t2N t2C t3 w1 => Kr f t2P t2N t2C t3 w1) =
    den Tryd.prog Tryd.f15.ntmps G_ref27_EncodeRun (sub (codeOf Tryd.f15) [false, false, true, false, true, true, true]) [false, false, true, false, true, true, true] (roundQ (fun e w => dec_ref27_EncodeRun_L1 e fun f s => Kn f s w) (fun e w => dx_ref27_EncodeRun_L1_ret e fun f t2P t2N t2C t3 => Kr f t2P t2N t2C t3 w) (fun id e w => match Nat.beq id 0 with | true => dx_ref27_EncodeRun_L1_0 e fun f outP_1 outN_1 outC_1 => Kx0 f outP_1 outN_1 outC_1 w | false => False)) (lit_ref27_EncodeRun_L1 f s) w := by kernel_rfl

def dx_ref27_EncodeRun_L2_2 (e : Env) (K : ((Option Addr) × Nat × Nat) → Option Addr → Nat → Nat → Prop) : Prop :=
  onV (getV e 6) fun u1 =>
  asS u1 fun lP lN lC =>
  onV (getV e 4) fun u2 =>
  asS u2 fun outP_4 outN_4 outC_4 =>
    K (lP, lN, lC) outP_4 outN_4 outC_4

theorem body_ref27_EncodeRun_L2 (f : (Option Addr) × Nat × Nat) (s : S_ref27_EncodeRun_L2) (w : World) (Kn : ((Option Addr) × Nat × Nat) → S_ref27_EncodeRun_L2 → World → Prop) (Kx2 : ((Option Addr) × Nat × Nat) → Option Addr → Nat → Nat → World → Prop) :
    B_ref27_EncodeRun_L2 f.1 f.2.1 f.2.2 s w (fun s1 w1 => Kn f s1 w1) (fun outP_4 outN_4 outC_4 w1 => Kx2 f outP_4 outN_4 outC_4 w1) =
    den Tryd.prog Tryd.f15.ntmps G_ref27_EncodeRun (sub (codeOf Tryd.f15) [false, false, true, false, true, true, true, true, true]) [false, false, true, false, true, true, true, true, true] (roundQ (fun e w => dec_ref27_EncodeRun_L2 e fun f s => Kn f s w) (fun e w => False) (fun id e w => match Nat.beq id 2 with | true => dx_ref27_EncodeRun_L2_2 e fun f outP_4 outN_4 outC_4 => Kx2 f outP_4 outN_4 outC_4 w | false => False)) (lit_ref27_EncodeRun_L2 f s) w := by kernel_rfl

theorem ok_ref27_EncodeRun_L1 : OneOk Tryd.prog Tryd.f15.ntmps G_ref27_EncodeRun (codeOf Tryd.f15) [false, true, false, true, true, true] spec_ref27_EncodeRun_L1 := by
  intro c hc ih Q e w a hr h
  have hcc : sub (codeOf Tryd.f15) [false, false, true, false, true, true, true] = c := sub_of_codeAt hc
  obtain ⟨f, s, h, hrep⟩ := dec_ref27_EncodeRun_L1_ok e a _ hr h
  obtain ⟨J, μ, hj, hround⟩ := h
  refine loop_rule_deep seat_ok seat_mixed ih lit_ref27_EncodeRun_L1 dec_ref27_EncodeRun_L1 dec_ref27_EncodeRun_L1_ok hc f J μ (Kr := fun e w => dx_ref27_EncodeRun_L1_ret e fun f1 t2P t2N t2C t3 => f1 = f ∧ Q .ret [⟨2, .slice t2P t2N t2C, none⟩, ⟨3, .bool t3, none⟩] w) (Kx := fun id e w => match Nat.beq id 0 with | true => (dx_ref27_EncodeRun_L1_0 e fun f1 outP_1 outN_1 outC_1 => f1 = f ∧ Q (.exit 0) [⟨1, .pointer (some f), none⟩, ⟨4, .slice outP_1 outN_1 outC_1, none⟩] w) | false => False) ?_ ?_ ?_ s w a hj hrep
  · intro e a w hr h0
    unfold dx_ref27_EncodeRun_L1_ret at h0
    obtain ⟨u1, g1, h1⟩ := onV_elim h0
    obtain ⟨x, rfl, h2⟩ := asA_elim h1
    obtain ⟨u2, g2, h3⟩ := onV_elim h2
    obtain ⟨t2P, t2N, t2C, rfl, h4⟩ := asS_elim h3
    obtain ⟨u3, g3, h5⟩ := onV_elim h4
    obtain ⟨t3, rfl, h6⟩ := asB_elim h5
    obtain ⟨hf, hq⟩ := h6
    subst hf
    exact ⟨_, rep_less hr (by simp [g2, g3]), hq⟩
  · intro id e a w hr h0
    (try dsimp only at h0)
    split at h0
    · rename_i hid
      obtain rfl := Nat.eq_of_beq_eq_true hid
      unfold dx_ref27_EncodeRun_L1_0 at h0
      obtain ⟨u1, g1, h1⟩ := onV_elim h0
      obtain ⟨x, rfl, h2⟩ := asA_elim h1
      obtain ⟨u2, g4, h3⟩ := onV_elim h2
      obtain ⟨outP_1, outN_1, outC_1, rfl, h4⟩ := asS_elim h3
      obtain ⟨hf, hq⟩ := h4
      subst hf
      exact ⟨_, rep_less hr (by simp [g1, g4]), hq⟩
    · exact h0.elim
  · intro s w hj
    have hb := hround s w hj
    rw [← hcc]
    have e1 := body_ref27_EncodeRun_L1 f s w (fun f1 s1 w1 => f1 = f ∧ J s1 w1 ∧ μ s1 w1 < μ s w) (fun f1 outP_1 outN_1 outC_1 w1 => f1 = f ∧ Q (.exit 0) [⟨1, .pointer (some f), none⟩, ⟨4, .slice outP_1 outN_1 outC_1, none⟩] w1) (fun f1 t2P t2N t2C t3 w1 => f1 = f ∧ Q .ret [⟨2, .slice t2P t2N t2C, none⟩, ⟨3, .bool t3, none⟩] w1)
    simp only [true_and] at e1
    exact cast e1 hb

theorem ok_ref27_EncodeRun_L2 : OneOk Tryd.prog Tryd.f15.ntmps G_ref27_EncodeRun (codeOf Tryd.f15) [false, true, false, true, true, true, true, true] spec_ref27_EncodeRun_L2 := by
  intro c hc ih Q e w a hr h
  have hcc : sub (codeOf Tryd.f15) [false, false, true, false, true, true, true, true, true] = c := sub_of_codeAt hc
  obtain ⟨f, s, h, hrep⟩ := dec_ref27_EncodeRun_L2_ok e a _ hr h
  obtain ⟨J, μ, hj, hround⟩ := h
  refine loop_rule_deep seat_ok seat_mixed ih lit_ref27_EncodeRun_L2 dec_ref27_EncodeRun_L2 dec_ref27_EncodeRun_L2_ok hc f J μ (Kr := fun e w => False) (Kx := fun id e w => match Nat.beq id 2 with | true => (dx_ref27_EncodeRun_L2_2 e fun f1 outP_4 outN_4 outC_4 => f1 = f ∧ Q (.exit 2) [⟨4, .slice outP_4 outN_4 outC_4, none⟩] w) | false => False) ?_ ?_ ?_ s w a hj hrep
  · intro e a w hr h
    exact h.elim
  · intro id e a w hr h0
    (try dsimp only at h0)
    split at h0
    · rename_i hid
      obtain rfl := Nat.eq_of_beq_eq_true hid
      unfold dx_ref27_EncodeRun_L2_2 at h0
      obtain ⟨u1, g6, h1⟩ := onV_elim h0
      obtain ⟨lP, lN, lC, rfl, h2⟩ := asS_elim h1
      obtain ⟨u2, g4, h3⟩ := onV_elim h2
      obtain ⟨outP_4, outN_4, outC_4, rfl, h4⟩ := asS_elim h3
      obtain ⟨hf, hq⟩ := h4
      subst hf
      exact ⟨_, rep_less hr (by simp [g4]), hq⟩
    · exact h0.elim
  · intro s w hj
    have hb := hround s w hj
    rw [← hcc]
    have e1 := body_ref27_EncodeRun_L2 f s w (fun f1 s1 w1 => f1 = f ∧ J s1 w1 ∧ μ s1 w1 < μ s w) (fun f1 outP_4 outN_4 outC_4 w1 => f1 = f ∧ Q (.exit 2) [⟨4, .slice outP_4 outN_4 outC_4, none⟩] w1)
    simp only [true_and] at e1
    exact cast e1 hb

theorem loops_ref27_EncodeRun : LoopOk Tryd.prog Tryd.f15.ntmps G_ref27_EncodeRun (codeOf Tryd.f15) := loopOk_list rfl ⟨ok_ref27_EncodeRun_L1, ⟨ok_ref27_EncodeRun_L2, trivial⟩⟩

theorem den_ref27_EncodeRun (x0 : Int) (x1P : Option Addr) (x1N : Nat) (x1C : Nat) (x2 : Int) (x3 : Int) (x4 : Int) (x5 : Int) (w : World) (R : Value → World → Prop) :
    F_ref27_EncodeRun x0 x1P x1N x1C x2 x3 x4 x5 w (fun r0P r0N r0C r1 w1 => R (.tuple #[.slice r0P r0N r0C, .bool r1]) w1) = den Tryd.prog Tryd.f15.ntmps G_ref27_EncodeRun (codeOf Tryd.f15) [] (postD Tryd.prog Tryd.f15.results.toList R) (entry [.agg #[.int .i64 x0, .slice x1P x1N x1C, .int .i64 x2, .int .i64 x3, .int .i64 x4, .int .i64 x5]] 0) w := by kernel_rfl

theorem C_ref27_EncodeRun.of {x0 : Int} {x1P : Option Addr} {x1N : Nat} {x1C : Nat} {x2 : Int} {x3 : Int} {x4 : Int} {x5 : Int} {w : World} {R : Option Addr → Nat → Nat → Bool → World → Prop} (h : F_ref27_EncodeRun x0 x1P x1N x1C x2 x3 x4 x5 w R) : C_ref27_EncodeRun x0 x1P x1N x1C x2 x3 x4 x5 w R := by
  refine (calls_of_den (c := codeOf Tryd.f15) seat_ok seat_mixed Tryd.func15 (by kernel_rfl) loops_ref27_EncodeRun (args := [.agg #[.int .i64 x0, .slice x1P x1N x1C, .int .i64 x2, .int .i64 x3, .int .i64 x4, .int .i64 x5]]) rfl (R := fun v w1 => ∃ (r0P : Option Addr) (r0N : Nat) (r0C : Nat) (r1 : Bool), v = (.tuple #[.slice r0P r0N r0C, .bool r1] : Value) ∧ R r0P r0N r0C r1 w1) ?_).mono ?_
  · rw [← den_ref27_EncodeRun]
    have e : (fun r0P r0N r0C r1 w1 => ∃ (r0P' : Option Addr) (r0N' : Nat) (r0C' : Nat) (r1' : Bool), (.tuple #[.slice r0P r0N r0C, .bool r1] : Value) = (.tuple #[.slice r0P' r0N' r0C', .bool r1'] : Value) ∧ R r0P' r0N' r0C' r1' w1) = R := by
      funext r0P r0N r0C r1 w1
      exact propext ⟨fun ⟨r0P', r0N', r0C', r1', he, h⟩ => by first | (simp at he; simp_all) | (cases he; exact h), fun h => ⟨_, _, _, _, rfl, h⟩⟩
    simpa only [e] using h
  · rintro en w1 ⟨v, he, r0P, r0N, r0C, r1, rfl, h⟩
    exact ⟨_, _, _, _, he, h⟩

structure S_script_Listing_L1 where
  t9 : Int

/-- One round. -/
def B_script_Listing_L1 (x : Addr) (wx : Addr) (t7P : Option Addr) (t7N : Nat) (t7C : Nat) (t8 : Int) (s : S_script_Listing_L1) (w : World) (Kn : S_script_Listing_L1 → World → Prop) (Kx0 : World → Prop) : Prop :=
  If (decide ((s.t9 : Int) < t8))
  (0 ≤ (s.t9 : Int) ∧ (s.t9 : Int) < (t7N : Int) ∧ NN t7P fun a =>
  ∃ t120 : Int, w.cell? ((a.add ((s.t9 : Int).toNat * 2)).add 0) = some (.int .i64 t120) ∧
  ∃ t121 : ByteArray, w.cell? ((a.add ((s.t9 : Int).toNat * 2)).add 1) = some (.string t121) ∧
  New w (.cells #[.int .i64 0, .string ⟨#[]⟩] 45) fun r_2 w1_2 =>
  St w1_2 ((⟨r_2, 0, none⟩ : Addr).add 0) (.int .i64 t120) fun w1_3 =>
  St w1_3 ((⟨r_2, 0, none⟩ : Addr).add 1) (.string t121) fun w1_4 =>
  ∃ t130 : Int, w1_4.cell? ((⟨r_2, 0, none⟩ : Addr).add 0) = some (.int .i64 t130) ∧
  ∃ t131 : ByteArray, w1_4.cell? ((⟨r_2, 0, none⟩ : Addr).add 1) = some (.string t131) ∧
  C_script_line t130 t131 w1_4 fun t14 w1_5 =>
  ((t14.size + (⟨#[10]⟩ : ByteArray).size : Nat) : Int) ≤ IntKind.i64.max ∧
  C_strings_Builder_WriteString (some wx) (t14 ++ (⟨#[10]⟩ : ByteArray)) w1_5 fun t160 t161 w1_6 =>
  Kn ⟨(IntKind.i64.wrap ((s.t9 : Int) + (1 : Int)))⟩ w1_6)
  (Kx0 w)

def F_script_Listing_L1 (x : Addr) (wx : Addr) (t7P : Option Addr) (t7N : Nat) (t7C : Nat) (t8 : Int) (s : S_script_Listing_L1) (w : World) (Kx0 : World → Prop) : Prop :=
  LoopS (fun s w Kn => B_script_Listing_L1 x wx t7P t7N t7C t8 s w Kn Kx0) s w

def F_script_Listing (x0 : Int) (x1P : Option Addr) (x1N : Nat) (x1C : Nat) (x2 : Int) (x3 : Int) (x4 : Int) (x5 : Int) (w : World) (R : ByteArray → World → Prop) : Prop :=
  New w (.cells #[.int .i64 x0, .slice x1P x1N x1C, .int .i64 x2, .int .i64 x3, .int .i64 x4, .int .i64 x5] 43) fun r w1 =>
  New w1 (.cells #[.pointer none, .slice none 0 0] 76) fun r_1 w1_1 =>
  ∃ EventsP : Option Addr, ∃ EventsN : Nat, ∃ EventsC : Nat, w1_1.cell? ((⟨r, 0, none⟩ : Addr).add 1) = some (.slice EventsP EventsN EventsC) ∧
  F_script_Listing_L1 ⟨r, 0, none⟩ ⟨r_1, 0, none⟩ EventsP EventsN EventsC (EventsN : Int) ⟨(0 : Int)⟩ w1_1
  (fun w1_7 =>
  ∃ Tag : Int, w1_7.cell? ((⟨r, 0, none⟩ : Addr).add 0) = some (.int .i64 Tag) ∧
  C_script_end Tag w1_7 fun t20 w1_8 =>
  ((t20.size + (⟨#[10]⟩ : ByteArray).size : Nat) : Int) ≤ IntKind.i64.max ∧
  C_strings_Builder_WriteString (some ⟨r_1, 0, none⟩) (t20 ++ (⟨#[10]⟩ : ByteArray)) w1_8 fun t220 t221 w1_9 =>
  C_strings_Builder_String (some ⟨r_1, 0, none⟩) w1_9 fun t23 w1_10 =>
  R t23 w1_10)

def lit_script_Listing_L1 (f : Addr × Addr × (Option Addr) × Nat × Nat × Int) (s : S_script_Listing_L1) : Env := [⟨1, .pointer (some f.1), none⟩, ⟨3, .pointer (some f.2.1), none⟩, ⟨7, .slice f.2.2.1 f.2.2.2.1 f.2.2.2.2.1, none⟩, ⟨8, .int .i64 f.2.2.2.2.2, none⟩, ⟨9, .int .i64 s.t9, none⟩]

def dec_script_Listing_L1 (e : Env) (K : (Addr × Addr × (Option Addr) × Nat × Nat × Int) → S_script_Listing_L1 → Prop) : Prop :=
  onV (getV e 1) fun u1 =>
  asA u1 fun x =>
  onV (getV e 3) fun u2 =>
  asA u2 fun wx =>
  onV (getV e 7) fun u3 =>
  asS u3 fun t7P t7N t7C =>
  onV (getV e 8) fun u4 =>
  asI .i64 u4 fun t8 =>
  onV (getV e 9) fun u5 =>
  asI .i64 u5 fun t9 =>
    K (x, wx, t7P, t7N, t7C, t8) ⟨t9⟩

theorem dec_script_Listing_L1_ok {N : Nat} (e : Env) (a : Act) (K : (Addr × Addr × (Option Addr) × Nat × Nat × Int) → S_script_Listing_L1 → Prop) (hr : Rep N a e) (h0 : dec_script_Listing_L1 e K) : ∃ f s, K f s ∧ Rep N a (lit_script_Listing_L1 f s) := by
  unfold dec_script_Listing_L1 at h0
  obtain ⟨u1, g1, h1⟩ := onV_elim h0
  obtain ⟨x, rfl, h2⟩ := asA_elim h1
  obtain ⟨u2, g3, h3⟩ := onV_elim h2
  obtain ⟨wx, rfl, h4⟩ := asA_elim h3
  obtain ⟨u3, g7, h5⟩ := onV_elim h4
  obtain ⟨t7P, t7N, t7C, rfl, h6⟩ := asS_elim h5
  obtain ⟨u4, g8, h7⟩ := onV_elim h6
  obtain ⟨t8, rfl, h8⟩ := asI_elim h7
  obtain ⟨u5, g9, h9⟩ := onV_elim h8
  obtain ⟨t9, rfl, h10⟩ := asI_elim h9
  exact ⟨_, _, h10, rep_less hr (by simp [lit_script_Listing_L1, g1, g3, g7, g8, g9])⟩

def spec_script_Listing_L1 (Q : Post) (e : Env) (w : World) : Prop :=
  dec_script_Listing_L1 e fun f s => F_script_Listing_L1 f.1 f.2.1 f.2.2.1 f.2.2.2.1 f.2.2.2.2.1 f.2.2.2.2.2 s w (fun w1 => Q (.exit 0) [⟨1, .pointer (some f.1), none⟩, ⟨3, .pointer (some f.2.1), none⟩] w1)

def G_script_Listing : Gen where
  loop := lookL [([false, true, false, true, true], spec_script_Listing_L1)]
  plan := fun _ => none

def dx_script_Listing_L1_0 (e : Env) (K : (Addr × Addr × (Option Addr) × Nat × Nat × Int) → Prop) : Prop :=
  onV (getV e 1) fun u1 =>
  asA u1 fun x =>
  onV (getV e 3) fun u2 =>
  asA u2 fun wx =>
  onV (getV e 7) fun u3 =>
  asS u3 fun t7P t7N t7C =>
  onV (getV e 8) fun u4 =>
  asI .i64 u4 fun t8 =>
    K (x, wx, t7P, t7N, t7C, t8)

theorem body_script_Listing_L1 (f : Addr × Addr × (Option Addr) × Nat × Nat × Int) (s : S_script_Listing_L1) (w : World) (Kn : (Addr × Addr × (Option Addr) × Nat × Nat × Int) → S_script_Listing_L1 → World → Prop) (Kx0 : (Addr × Addr × (Option Addr) × Nat × Nat × Int) → World → Prop) :
    B_script_Listing_L1 f.1 f.2.1 f.2.2.1 f.2.2.2.1 f.2.2.2.2.1 f.2.2.2.2.2 s w (fun s1 w1 => Kn f s1 w1) (fun w1 => Kx0 f w1) =
    den Tryd.prog Tryd.f16.ntmps G_script_Listing (sub (codeOf Tryd.f16) [false, false, true, false, true, true]) [false, false, true, false, true, true] (roundQ (fun e w => dec_script_Listing_L1 e fun f s => Kn f s w) (fun e w => False) (fun id e w => match Nat.beq id 0 with | true => dx_script_Listing_L1_0 e fun f => Kx0 f w | false => False)) (lit_script_Listing_L1 f s) w := by kernel_rfl

theorem ok_script_Listing_L1 : OneOk Tryd.prog Tryd.f16.ntmps G_script_Listing (codeOf Tryd.f16) [false, true, false, true, true] spec_script_Listing_L1 := by
  intro c hc ih Q e w a hr h
  have hcc : sub (codeOf Tryd.f16) [false, false, true, false, true, true] = c := sub_of_codeAt hc
  obtain ⟨f, s, h, hrep⟩ := dec_script_Listing_L1_ok e a _ hr h
  obtain ⟨J, μ, hj, hround⟩ := h
  refine loop_rule_deep seat_ok seat_mixed ih lit_script_Listing_L1 dec_script_Listing_L1 dec_script_Listing_L1_ok hc f J μ (Kr := fun e w => False) (Kx := fun id e w => match Nat.beq id 0 with | true => (dx_script_Listing_L1_0 e fun f1 => f1 = f ∧ Q (.exit 0) [⟨1, .pointer (some f.1), none⟩, ⟨3, .pointer (some f.2.1), none⟩] w) | false => False) ?_ ?_ ?_ s w a hj hrep
  · intro e a w hr h
    exact h.elim
  · intro id e a w hr h0
    (try dsimp only at h0)
    split at h0
    · rename_i hid
      obtain rfl := Nat.eq_of_beq_eq_true hid
      unfold dx_script_Listing_L1_0 at h0
      obtain ⟨u1, g1, h1⟩ := onV_elim h0
      obtain ⟨x, rfl, h2⟩ := asA_elim h1
      obtain ⟨u2, g3, h3⟩ := onV_elim h2
      obtain ⟨wx, rfl, h4⟩ := asA_elim h3
      obtain ⟨u3, g7, h5⟩ := onV_elim h4
      obtain ⟨t7P, t7N, t7C, rfl, h6⟩ := asS_elim h5
      obtain ⟨u4, g8, h7⟩ := onV_elim h6
      obtain ⟨t8, rfl, h8⟩ := asI_elim h7
      obtain ⟨hf, hq⟩ := h8
      subst hf
      exact ⟨_, rep_less hr (by simp [g1, g3]), hq⟩
    · exact h0.elim
  · intro s w hj
    have hb := hround s w hj
    rw [← hcc]
    have e1 := body_script_Listing_L1 f s w (fun f1 s1 w1 => f1 = f ∧ J s1 w1 ∧ μ s1 w1 < μ s w) (fun f1 w1 => f1 = f ∧ Q (.exit 0) [⟨1, .pointer (some f.1), none⟩, ⟨3, .pointer (some f.2.1), none⟩] w1)
    simp only [true_and] at e1
    exact cast e1 hb

theorem loops_script_Listing : LoopOk Tryd.prog Tryd.f16.ntmps G_script_Listing (codeOf Tryd.f16) := loopOk_list rfl ⟨ok_script_Listing_L1, trivial⟩

theorem den_script_Listing (x0 : Int) (x1P : Option Addr) (x1N : Nat) (x1C : Nat) (x2 : Int) (x3 : Int) (x4 : Int) (x5 : Int) (w : World) (R : Value → World → Prop) :
    F_script_Listing x0 x1P x1N x1C x2 x3 x4 x5 w (fun r w1 => R (.string r) w1) = den Tryd.prog Tryd.f16.ntmps G_script_Listing (codeOf Tryd.f16) [] (postD Tryd.prog Tryd.f16.results.toList R) (entry [.agg #[.int .i64 x0, .slice x1P x1N x1C, .int .i64 x2, .int .i64 x3, .int .i64 x4, .int .i64 x5]] 0) w := by kernel_rfl

theorem C_script_Listing.of {x0 : Int} {x1P : Option Addr} {x1N : Nat} {x1C : Nat} {x2 : Int} {x3 : Int} {x4 : Int} {x5 : Int} {w : World} {R : ByteArray → World → Prop} (h : F_script_Listing x0 x1P x1N x1C x2 x3 x4 x5 w R) : C_script_Listing x0 x1P x1N x1C x2 x3 x4 x5 w R := by
  refine (calls_of_den (c := codeOf Tryd.f16) seat_ok seat_mixed Tryd.func16 (by kernel_rfl) loops_script_Listing (args := [.agg #[.int .i64 x0, .slice x1P x1N x1C, .int .i64 x2, .int .i64 x3, .int .i64 x4, .int .i64 x5]]) rfl (R := fun v w1 => ∃ (r : ByteArray), v = (.string r : Value) ∧ R r w1) ?_).mono ?_
  · rw [← den_script_Listing]
    have e : (fun r w1 => ∃ (r' : ByteArray), (.string r : Value) = (.string r' : Value) ∧ R r' w1) = R := by
      funext r w1
      exact propext ⟨fun ⟨r', he, h⟩ => by first | (simp at he; simp_all) | (cases he; exact h), fun h => ⟨_, rfl, h⟩⟩
    simpa only [e] using h
  · rintro en w1 ⟨v, he, r, rfl, h⟩
    exact ⟨_, he, h⟩

structure S_ref27_Listing_L1 where
  out : ByteArray
  i : Int

def F_ref27_Listing_k1 (s : S_ref27_Listing_L1) (Kn : S_ref27_Listing_L1 → World → Prop) (out_2 : ByteArray) (w1_2 : World) : Prop :=
  Kn ⟨out_2, (IntKind.i64.wrap ((s.i : Int) + (1 : Int)))⟩ w1_2

/-- One round. -/
def B_ref27_Listing_L1 (x : Addr) (s : S_ref27_Listing_L1) (w : World) (Kn : S_ref27_Listing_L1 → World → Prop) (Kx0 : ByteArray → World → Prop) : Prop :=
  ∃ EventsP : Option Addr, ∃ EventsN : Nat, ∃ EventsC : Nat, w.cell? (x.add 1) = some (.slice EventsP EventsN EventsC) ∧
  If (decide ((s.i : Int) < (EventsN : Int)))
  (∃ EventsP_1 : Option Addr, ∃ EventsN_1 : Nat, ∃ EventsC_1 : Nat, w.cell? (x.add 1) = some (.slice EventsP_1 EventsN_1 EventsC_1) ∧
  0 ≤ (s.i : Int) ∧ (s.i : Int) < (EventsN_1 : Int) ∧ NN EventsP_1 fun a =>
  ∃ Text : ByteArray, w.cell? ((a.add ((s.i : Int).toNat * 2)).add 1) = some (.string Text) ∧
  C_ref08_Quote Text w fun t20 w1_1 =>
  ∃ EventsP_2 : Option Addr, ∃ EventsN_2 : Nat, ∃ EventsC_2 : Nat, w1_1.cell? (x.add 1) = some (.slice EventsP_2 EventsN_2 EventsC_2) ∧
  0 ≤ (s.i : Int) ∧ (s.i : Int) < (EventsN_2 : Int) ∧ NN EventsP_2 fun a_1 =>
  ∃ Kind : Int, w1_1.cell? ((a_1.add ((s.i : Int).toNat * 2)).add 0) = some (.int .i64 Kind) ∧
  If (Kind == (1 : Int))
  (((s.out.size + (⟨#[97, 110, 115, 119, 101, 114, 32]⟩ : ByteArray).size : Nat) : Int) ≤ IntKind.i64.max ∧
  (((s.out ++ (⟨#[97, 110, 115, 119, 101, 114, 32]⟩ : ByteArray)).size + t20.size : Nat) : Int) ≤ IntKind.i64.max ∧
  ((((s.out ++ (⟨#[97, 110, 115, 119, 101, 114, 32]⟩ : ByteArray)) ++ t20).size + (⟨#[10]⟩ : ByteArray).size : Nat) : Int) ≤ IntKind.i64.max ∧
  F_ref27_Listing_k1 s Kn (((s.out ++ (⟨#[97, 110, 115, 119, 101, 114, 32]⟩ : ByteArray)) ++ t20) ++ (⟨#[10]⟩ : ByteArray)) w1_1)
  (If (Kind == (2 : Int))
  (((s.out.size + (⟨#[119, 114, 105, 116, 101, 32]⟩ : ByteArray).size : Nat) : Int) ≤ IntKind.i64.max ∧
  (((s.out ++ (⟨#[119, 114, 105, 116, 101, 32]⟩ : ByteArray)).size + t20.size : Nat) : Int) ≤ IntKind.i64.max ∧
  ((((s.out ++ (⟨#[119, 114, 105, 116, 101, 32]⟩ : ByteArray)) ++ t20).size + (⟨#[10]⟩ : ByteArray).size : Nat) : Int) ≤ IntKind.i64.max ∧
  F_ref27_Listing_k1 s Kn (((s.out ++ (⟨#[119, 114, 105, 116, 101, 32]⟩ : ByteArray)) ++ t20) ++ (⟨#[10]⟩ : ByteArray)) w1_1)
  (If (Kind == (3 : Int))
  (((s.out.size + (⟨#[98, 97, 108, 108, 32]⟩ : ByteArray).size : Nat) : Int) ≤ IntKind.i64.max ∧
  (((s.out ++ (⟨#[98, 97, 108, 108, 32]⟩ : ByteArray)).size + t20.size : Nat) : Int) ≤ IntKind.i64.max ∧
  ((((s.out ++ (⟨#[98, 97, 108, 108, 32]⟩ : ByteArray)) ++ t20).size + (⟨#[10]⟩ : ByteArray).size : Nat) : Int) ≤ IntKind.i64.max ∧
  F_ref27_Listing_k1 s Kn (((s.out ++ (⟨#[98, 97, 108, 108, 32]⟩ : ByteArray)) ++ t20) ++ (⟨#[10]⟩ : ByteArray)) w1_1)
  (If (Kind == (4 : Int))
  (((s.out.size + (⟨#[110, 111, 10]⟩ : ByteArray).size : Nat) : Int) ≤ IntKind.i64.max ∧
  F_ref27_Listing_k1 s Kn (s.out ++ (⟨#[110, 111, 10]⟩ : ByteArray)) w1_1)
  (If (Kind == (5 : Int))
  (((s.out.size + (⟨#[104, 97, 108, 116, 10]⟩ : ByteArray).size : Nat) : Int) ≤ IntKind.i64.max ∧
  F_ref27_Listing_k1 s Kn (s.out ++ (⟨#[104, 97, 108, 116, 10]⟩ : ByteArray)) w1_1)
  (((s.out.size + (⟨#[111, 100, 100, 10]⟩ : ByteArray).size : Nat) : Int) ≤ IntKind.i64.max ∧
  F_ref27_Listing_k1 s Kn (s.out ++ (⟨#[111, 100, 100, 10]⟩ : ByteArray)) w1_1))))))
  (Kx0 s.out w)

def F_ref27_Listing_L1 (x : Addr) (s : S_ref27_Listing_L1) (w : World) (Kx0 : ByteArray → World → Prop) : Prop :=
  LoopS (fun s w Kn => B_ref27_Listing_L1 x s w Kn Kx0) s w

def F_ref27_Listing (x0 : Int) (x1P : Option Addr) (x1N : Nat) (x1C : Nat) (x2 : Int) (x3 : Int) (x4 : Int) (x5 : Int) (w : World) (R : ByteArray → World → Prop) : Prop :=
  New w (.cells #[.int .i64 x0, .slice x1P x1N x1C, .int .i64 x2, .int .i64 x3, .int .i64 x4, .int .i64 x5] 43) fun r w1 =>
  F_ref27_Listing_L1 ⟨r, 0, none⟩ ⟨⟨#[]⟩, (0 : Int)⟩ w1
  (fun out_3 w1_3 =>
  BSl Tryd.prog 84 7 [(0, .string ⟨#[111, 100, 100]⟩), (1, .string ⟨#[97, 114, 103, 117, 109, 101, 110, 116]⟩), (2, .string ⟨#[115, 121, 110, 116, 97, 120]⟩), (3, .string ⟨#[99, 108, 97, 117, 115, 101]⟩), (4, .string ⟨#[100, 111, 110, 101]⟩), (5, .string ⟨#[115, 116, 101, 112, 115]⟩), (6, .string ⟨#[102, 117, 108, 108]⟩)] w1_3 fun t58P t58N t58C w1_4 =>
  ∃ Tag : Int, w1_4.cell? ((⟨r, 0, none⟩ : Addr).add 0) = some (.int .i64 Tag) ∧
  If (decide (Tag < (1 : Int)))
  (((out_3.size + (⟨#[111, 100, 100, 10]⟩ : ByteArray).size : Nat) : Int) ≤ IntKind.i64.max ∧
  R (out_3 ++ (⟨#[111, 100, 100, 10]⟩ : ByteArray)) w1_4)
  (∃ Tag_1 : Int, w1_4.cell? ((⟨r, 0, none⟩ : Addr).add 0) = some (.int .i64 Tag_1) ∧
  If (decide (Tag_1 > (6 : Int)))
  (((out_3.size + (⟨#[111, 100, 100, 10]⟩ : ByteArray).size : Nat) : Int) ≤ IntKind.i64.max ∧
  R (out_3 ++ (⟨#[111, 100, 100, 10]⟩ : ByteArray)) w1_4)
  (∃ Tag_2 : Int, w1_4.cell? ((⟨r, 0, none⟩ : Addr).add 0) = some (.int .i64 Tag_2) ∧
  0 ≤ Tag_2 ∧ Tag_2 < (t58N : Int) ∧ NN t58P fun a_2 =>
  ∃ t74 : ByteArray, w1_4.cell? (a_2.add (Tag_2.toNat * 1)) = some (.string t74) ∧
  ((out_3.size + t74.size : Nat) : Int) ≤ IntKind.i64.max ∧
  (((out_3 ++ t74).size + (⟨#[10]⟩ : ByteArray).size : Nat) : Int) ≤ IntKind.i64.max ∧
  R ((out_3 ++ t74) ++ (⟨#[10]⟩ : ByteArray)) w1_4)))

def lit_ref27_Listing_L1 (f : Addr) (s : S_ref27_Listing_L1) : Env := [⟨1, .pointer (some f), none⟩, ⟨3, .string s.out, none⟩, ⟨4, .int .i64 s.i, none⟩]

def dec_ref27_Listing_L1 (e : Env) (K : Addr → S_ref27_Listing_L1 → Prop) : Prop :=
  onV (getV e 1) fun u1 =>
  asA u1 fun x =>
  onV (getV e 3) fun u2 =>
  asT u2 fun out =>
  onV (getV e 4) fun u3 =>
  asI .i64 u3 fun i =>
    K (x) ⟨out, i⟩

theorem dec_ref27_Listing_L1_ok {N : Nat} (e : Env) (a : Act) (K : Addr → S_ref27_Listing_L1 → Prop) (hr : Rep N a e) (h0 : dec_ref27_Listing_L1 e K) : ∃ f s, K f s ∧ Rep N a (lit_ref27_Listing_L1 f s) := by
  unfold dec_ref27_Listing_L1 at h0
  obtain ⟨u1, g1, h1⟩ := onV_elim h0
  obtain ⟨x, rfl, h2⟩ := asA_elim h1
  obtain ⟨u2, g3, h3⟩ := onV_elim h2
  obtain ⟨out, rfl, h4⟩ := asT_elim h3
  obtain ⟨u3, g4, h5⟩ := onV_elim h4
  obtain ⟨i, rfl, h6⟩ := asI_elim h5
  exact ⟨_, _, h6, rep_less hr (by simp [lit_ref27_Listing_L1, g1, g3, g4])⟩

def spec_ref27_Listing_L1 (Q : Post) (e : Env) (w : World) : Prop :=
  dec_ref27_Listing_L1 e fun f s => F_ref27_Listing_L1 f s w (fun out_1 w1 => Q (.exit 0) [⟨1, .pointer (some f), none⟩, ⟨3, .string out_1, none⟩] w1)

def G_ref27_Listing : Gen where
  loop := lookL [([false, true, false, true, true], spec_ref27_Listing_L1)]
  plan := fun _ => none

def dx_ref27_Listing_L1_0 (e : Env) (K : Addr → ByteArray → Prop) : Prop :=
  onV (getV e 1) fun u1 =>
  asA u1 fun x =>
  onV (getV e 3) fun u2 =>
  asT u2 fun out_1 =>
    K (x) out_1

theorem body_ref27_Listing_L1 (f : Addr) (s : S_ref27_Listing_L1) (w : World) (Kn : Addr → S_ref27_Listing_L1 → World → Prop) (Kx0 : Addr → ByteArray → World → Prop) :
    B_ref27_Listing_L1 f s w (fun s1 w1 => Kn f s1 w1) (fun out_1 w1 => Kx0 f out_1 w1) =
    den Tryd.prog Tryd.f17.ntmps G_ref27_Listing (sub (codeOf Tryd.f17) [false, false, true, false, true, true]) [false, false, true, false, true, true] (roundQ (fun e w => dec_ref27_Listing_L1 e fun f s => Kn f s w) (fun e w => False) (fun id e w => match Nat.beq id 0 with | true => dx_ref27_Listing_L1_0 e fun f out_1 => Kx0 f out_1 w | false => False)) (lit_ref27_Listing_L1 f s) w := by kernel_rfl

theorem ok_ref27_Listing_L1 : OneOk Tryd.prog Tryd.f17.ntmps G_ref27_Listing (codeOf Tryd.f17) [false, true, false, true, true] spec_ref27_Listing_L1 := by
  intro c hc ih Q e w a hr h
  have hcc : sub (codeOf Tryd.f17) [false, false, true, false, true, true] = c := sub_of_codeAt hc
  obtain ⟨f, s, h, hrep⟩ := dec_ref27_Listing_L1_ok e a _ hr h
  obtain ⟨J, μ, hj, hround⟩ := h
  refine loop_rule_deep seat_ok seat_mixed ih lit_ref27_Listing_L1 dec_ref27_Listing_L1 dec_ref27_Listing_L1_ok hc f J μ (Kr := fun e w => False) (Kx := fun id e w => match Nat.beq id 0 with | true => (dx_ref27_Listing_L1_0 e fun f1 out_1 => f1 = f ∧ Q (.exit 0) [⟨1, .pointer (some f), none⟩, ⟨3, .string out_1, none⟩] w) | false => False) ?_ ?_ ?_ s w a hj hrep
  · intro e a w hr h
    exact h.elim
  · intro id e a w hr h0
    (try dsimp only at h0)
    split at h0
    · rename_i hid
      obtain rfl := Nat.eq_of_beq_eq_true hid
      unfold dx_ref27_Listing_L1_0 at h0
      obtain ⟨u1, g1, h1⟩ := onV_elim h0
      obtain ⟨x, rfl, h2⟩ := asA_elim h1
      obtain ⟨u2, g3, h3⟩ := onV_elim h2
      obtain ⟨out_1, rfl, h4⟩ := asT_elim h3
      obtain ⟨hf, hq⟩ := h4
      subst hf
      exact ⟨_, rep_less hr (by simp [g1, g3]), hq⟩
    · exact h0.elim
  · intro s w hj
    have hb := hround s w hj
    rw [← hcc]
    have e1 := body_ref27_Listing_L1 f s w (fun f1 s1 w1 => f1 = f ∧ J s1 w1 ∧ μ s1 w1 < μ s w) (fun f1 out_1 w1 => f1 = f ∧ Q (.exit 0) [⟨1, .pointer (some f), none⟩, ⟨3, .string out_1, none⟩] w1)
    simp only [true_and] at e1
    exact cast e1 hb

theorem loops_ref27_Listing : LoopOk Tryd.prog Tryd.f17.ntmps G_ref27_Listing (codeOf Tryd.f17) := loopOk_list rfl ⟨ok_ref27_Listing_L1, trivial⟩

theorem den_ref27_Listing (x0 : Int) (x1P : Option Addr) (x1N : Nat) (x1C : Nat) (x2 : Int) (x3 : Int) (x4 : Int) (x5 : Int) (w : World) (R : Value → World → Prop) :
    F_ref27_Listing x0 x1P x1N x1C x2 x3 x4 x5 w (fun r w1 => R (.string r) w1) = den Tryd.prog Tryd.f17.ntmps G_ref27_Listing (codeOf Tryd.f17) [] (postD Tryd.prog Tryd.f17.results.toList R) (entry [.agg #[.int .i64 x0, .slice x1P x1N x1C, .int .i64 x2, .int .i64 x3, .int .i64 x4, .int .i64 x5]] 0) w := by kernel_rfl

theorem C_ref27_Listing.of {x0 : Int} {x1P : Option Addr} {x1N : Nat} {x1C : Nat} {x2 : Int} {x3 : Int} {x4 : Int} {x5 : Int} {w : World} {R : ByteArray → World → Prop} (h : F_ref27_Listing x0 x1P x1N x1C x2 x3 x4 x5 w R) : C_ref27_Listing x0 x1P x1N x1C x2 x3 x4 x5 w R := by
  refine (calls_of_den (c := codeOf Tryd.f17) seat_ok seat_mixed Tryd.func17 (by kernel_rfl) loops_ref27_Listing (args := [.agg #[.int .i64 x0, .slice x1P x1N x1C, .int .i64 x2, .int .i64 x3, .int .i64 x4, .int .i64 x5]]) rfl (R := fun v w1 => ∃ (r : ByteArray), v = (.string r : Value) ∧ R r w1) ?_).mono ?_
  · rw [← den_ref27_Listing]
    have e : (fun r w1 => ∃ (r' : ByteArray), (.string r : Value) = (.string r' : Value) ∧ R r' w1) = R := by
      funext r w1
      exact propext ⟨fun ⟨r', he, h⟩ => by first | (simp at he; simp_all) | (cases he; exact h), fun h => ⟨_, rfl, h⟩⟩
    simpa only [e] using h
  · rintro en w1 ⟨v, he, r, rfl, h⟩
    exact ⟨_, he, h⟩

def F_script_DecodeRun (bP : Option Addr) (bN : Nat) (bC : Nat) (w : World) (R : Int → Option Addr → Nat → Nat → Int → Int → Int → Int → Int → World → Prop) : Prop :=
  New w (.cells #[.int .i64 0, .slice none 0 0, .int .i64 0, .int .i64 0, .int .i64 0, .int .i64 0] 43) fun r w1 =>
  New w1 (.cells #[.slice bP bN bC, .bool false] 64) fun r_1 w1_1 =>
  New w1_1 (.cells #[.pointer none] 63) fun r_2 w1_2 =>
  St w1_2 ((⟨r_2, 0, none⟩ : Addr).add 0) (.pointer (some ⟨r_1, 0, none⟩)) fun w1_3 =>
  ∃ t9 : Option Addr, w1_3.cell? ⟨r_2, 0, none⟩ = some (.pointer t9) ∧
  C_script_reader_number t9 w1_3 fun t10 w1_4 =>
  New w1_4 (.cells #[.int .i64 0, .slice none 0 0, .int .i64 0, .int .i64 0, .int .i64 0, .int .i64 0] 43) fun r_3 w1_5 =>
  St w1_5 ((⟨r_3, 0, none⟩ : Addr).add 0) (.int .i64 t10) fun w1_6 =>
  St w1_6 ((⟨r_3, 0, none⟩ : Addr).add 1) (.slice none 0 0) fun w1_7 =>
  St w1_7 ((⟨r_3, 0, none⟩ : Addr).add 2) (.int .i64 0) fun w1_8 =>
  St w1_8 ((⟨r_3, 0, none⟩ : Addr).add 3) (.int .i64 0) fun w1_9 =>
  St w1_9 ((⟨r_3, 0, none⟩ : Addr).add 4) (.int .i64 0) fun w1_10 =>
  St w1_10 ((⟨r_3, 0, none⟩ : Addr).add 5) (.int .i64 0) fun w1_11 =>
  ∃ t12 : Option Addr, w1_11.cell? ⟨r_2, 0, none⟩ = some (.pointer t12) ∧
  C_script_reader_row t12 (10000 : Int) (.func (.func 39) #[] #[.pointer (some ⟨r_2, 0, none⟩), .pointer (some ⟨r_3, 0, none⟩)]) w1_11 fun w1_12 =>
  ∃ t15 : Option Addr, w1_12.cell? ⟨r_2, 0, none⟩ = some (.pointer t15) ∧
  C_script_reader_number t15 w1_12 fun t16 w1_13 =>
  St w1_13 (((⟨r_3, 0, none⟩ : Addr).add 2).add 0) (.int .i64 t16) fun w1_14 =>
  ∃ t18 : Option Addr, w1_14.cell? ⟨r_2, 0, none⟩ = some (.pointer t18) ∧
  C_script_reader_number t18 w1_14 fun t19 w1_15 =>
  St w1_15 (((⟨r_3, 0, none⟩ : Addr).add 3).add 0) (.int .i64 t19) fun w1_16 =>
  ∃ t21 : Option Addr, (drw w1_16).cell? ⟨r_2, 0, none⟩ = some (.pointer t21) ∧
  ∃ t23 : Option Addr, (drw w1_16).cell? ⟨r_2, 0, none⟩ = some (.pointer t23) ∧
  C_script_reader_number t21 (drw w1_16) fun t22 w1_17 =>
  w1_17.cell? ⟨r_2, 0, none⟩ = (drw w1_16).cell? ⟨r_2, 0, none⟩ ∧
  C_script_reader_number t23 w1_17 fun t24 w1_18 =>
  St w1_18 (((⟨r_3, 0, none⟩ : Addr).add 4).add 0) (.int .i64 t22) fun w1_19 =>
  St w1_19 (((⟨r_3, 0, none⟩ : Addr).add 5).add 0) (.int .i64 t24) fun w1_20 =>
  ∃ t27 : Option Addr, w1_20.cell? ⟨r_2, 0, none⟩ = some (.pointer t27) ∧
  C_script_reader_whole t27 w1_20 fun t28 w1_21 =>
  If (!t28)
  (St w1_21 ((⟨r, 0, none⟩ : Addr).add 0) (.int .i64 0) fun w1_22 =>
  St w1_22 ((⟨r, 0, none⟩ : Addr).add 1) (.slice none 0 0) fun w1_23 =>
  St w1_23 ((⟨r, 0, none⟩ : Addr).add 2) (.int .i64 0) fun w1_24 =>
  St w1_24 ((⟨r, 0, none⟩ : Addr).add 3) (.int .i64 0) fun w1_25 =>
  St w1_25 ((⟨r, 0, none⟩ : Addr).add 4) (.int .i64 0) fun w1_26 =>
  St w1_26 ((⟨r, 0, none⟩ : Addr).add 5) (.int .i64 0) fun w1_27 =>
  ∃ r_4 : Int, w1_27.cell? ((⟨r, 0, none⟩ : Addr).add 0) = some (.int .i64 r_4) ∧
  ∃ rP : Option Addr, ∃ rN : Nat, ∃ rC : Nat, w1_27.cell? ((⟨r, 0, none⟩ : Addr).add 1) = some (.slice rP rN rC) ∧
  ∃ r_5 : Int, w1_27.cell? ((⟨r, 0, none⟩ : Addr).add 2) = some (.int .i64 r_5) ∧
  ∃ r_6 : Int, w1_27.cell? ((⟨r, 0, none⟩ : Addr).add 3) = some (.int .i64 r_6) ∧
  ∃ r_7 : Int, w1_27.cell? ((⟨r, 0, none⟩ : Addr).add 4) = some (.int .i64 r_7) ∧
  ∃ r_8 : Int, w1_27.cell? ((⟨r, 0, none⟩ : Addr).add 5) = some (.int .i64 r_8) ∧
  R r_4 rP rN rC r_5 r_6 r_7 r_8 (270 : Int) w1_27)
  (∃ t310 : Int, w1_21.cell? ((⟨r_3, 0, none⟩ : Addr).add 0) = some (.int .i64 t310) ∧
  ∃ t311P : Option Addr, ∃ t311N : Nat, ∃ t311C : Nat, w1_21.cell? ((⟨r_3, 0, none⟩ : Addr).add 1) = some (.slice t311P t311N t311C) ∧
  ∃ t312 : Int, w1_21.cell? ((⟨r_3, 0, none⟩ : Addr).add 2) = some (.int .i64 t312) ∧
  ∃ t313 : Int, w1_21.cell? ((⟨r_3, 0, none⟩ : Addr).add 3) = some (.int .i64 t313) ∧
  ∃ t314 : Int, w1_21.cell? ((⟨r_3, 0, none⟩ : Addr).add 4) = some (.int .i64 t314) ∧
  ∃ t315 : Int, w1_21.cell? ((⟨r_3, 0, none⟩ : Addr).add 5) = some (.int .i64 t315) ∧
  St w1_21 ((⟨r, 0, none⟩ : Addr).add 0) (.int .i64 t310) fun w1_28 =>
  St w1_28 ((⟨r, 0, none⟩ : Addr).add 1) (.slice t311P t311N t311C) fun w1_29 =>
  St w1_29 ((⟨r, 0, none⟩ : Addr).add 2) (.int .i64 t312) fun w1_30 =>
  St w1_30 ((⟨r, 0, none⟩ : Addr).add 3) (.int .i64 t313) fun w1_31 =>
  St w1_31 ((⟨r, 0, none⟩ : Addr).add 4) (.int .i64 t314) fun w1_32 =>
  St w1_32 ((⟨r, 0, none⟩ : Addr).add 5) (.int .i64 t315) fun w1_33 =>
  ∃ r_9 : Int, w1_33.cell? ((⟨r, 0, none⟩ : Addr).add 0) = some (.int .i64 r_9) ∧
  ∃ rP_1 : Option Addr, ∃ rN_1 : Nat, ∃ rC_1 : Nat, w1_33.cell? ((⟨r, 0, none⟩ : Addr).add 1) = some (.slice rP_1 rN_1 rC_1) ∧
  ∃ r_10 : Int, w1_33.cell? ((⟨r, 0, none⟩ : Addr).add 2) = some (.int .i64 r_10) ∧
  ∃ r_11 : Int, w1_33.cell? ((⟨r, 0, none⟩ : Addr).add 3) = some (.int .i64 r_11) ∧
  ∃ r_12 : Int, w1_33.cell? ((⟨r, 0, none⟩ : Addr).add 4) = some (.int .i64 r_12) ∧
  ∃ r_13 : Int, w1_33.cell? ((⟨r, 0, none⟩ : Addr).add 5) = some (.int .i64 r_13) ∧
  R r_9 rP_1 rN_1 rC_1 r_10 r_11 r_12 r_13 (0 : Int) w1_33)

def G_script_DecodeRun : Gen where
  loop := lookL []
  plan := fun id =>
    bif Nat.beq id 6 then some ([0, 1, 0, 7, 3, 31, 63, 127], .take 0 (.take 2 (.take 1 (.take 4 (.take 3 (.take 5 (.take 6 (.take 7 .done)))))))) else none

theorem loops_script_DecodeRun : LoopOk Tryd.prog Tryd.f18.ntmps G_script_DecodeRun (codeOf Tryd.f18) := loopOk_none fun _ => rfl

theorem den_script_DecodeRun (bP : Option Addr) (bN : Nat) (bC : Nat) (w : World) (R : Value → World → Prop) :
    F_script_DecodeRun bP bN bC w (fun r00 r01P r01N r01C r02 r03 r04 r05 r1 w1 => R (.tuple #[.agg #[.int .i64 r00, .slice r01P r01N r01C, .int .i64 r02, .int .i64 r03, .int .i64 r04, .int .i64 r05], .int .i64 r1]) w1) = den Tryd.prog Tryd.f18.ntmps G_script_DecodeRun (codeOf Tryd.f18) [] (postD Tryd.prog Tryd.f18.results.toList R) (entry [.slice bP bN bC] 0) w := by kernel_rfl

theorem C_script_DecodeRun.of {bP : Option Addr} {bN : Nat} {bC : Nat} {w : World} {R : Int → Option Addr → Nat → Nat → Int → Int → Int → Int → Int → World → Prop} (h : F_script_DecodeRun bP bN bC w R) : C_script_DecodeRun bP bN bC w R := by
  refine (calls_of_den (c := codeOf Tryd.f18) seat_ok seat_mixed Tryd.func18 (by kernel_rfl) loops_script_DecodeRun (args := [.slice bP bN bC]) rfl (R := fun v w1 => ∃ (r00 : Int) (r01P : Option Addr) (r01N : Nat) (r01C : Nat) (r02 : Int) (r03 : Int) (r04 : Int) (r05 : Int) (r1 : Int), v = (.tuple #[.agg #[.int .i64 r00, .slice r01P r01N r01C, .int .i64 r02, .int .i64 r03, .int .i64 r04, .int .i64 r05], .int .i64 r1] : Value) ∧ R r00 r01P r01N r01C r02 r03 r04 r05 r1 w1) ?_).mono ?_
  · rw [← den_script_DecodeRun]
    have e : (fun r00 r01P r01N r01C r02 r03 r04 r05 r1 w1 => ∃ (r00' : Int) (r01P' : Option Addr) (r01N' : Nat) (r01C' : Nat) (r02' : Int) (r03' : Int) (r04' : Int) (r05' : Int) (r1' : Int), (.tuple #[.agg #[.int .i64 r00, .slice r01P r01N r01C, .int .i64 r02, .int .i64 r03, .int .i64 r04, .int .i64 r05], .int .i64 r1] : Value) = (.tuple #[.agg #[.int .i64 r00', .slice r01P' r01N' r01C', .int .i64 r02', .int .i64 r03', .int .i64 r04', .int .i64 r05'], .int .i64 r1'] : Value) ∧ R r00' r01P' r01N' r01C' r02' r03' r04' r05' r1' w1) = R := by
      funext r00 r01P r01N r01C r02 r03 r04 r05 r1 w1
      exact propext ⟨fun ⟨r00', r01P', r01N', r01C', r02', r03', r04', r05', r1', he, h⟩ => by first | (simp at he; simp_all) | (cases he; exact h), fun h => ⟨_, _, _, _, _, _, _, _, _, rfl, h⟩⟩
    simpa only [e] using h
  · rintro en w1 ⟨v, he, r00, r01P, r01N, r01C, r02, r03, r04, r05, r1, rfl, h⟩
    exact ⟨_, _, _, _, _, _, _, _, _, he, h⟩

structure S_ref26_SameRun_L1 where
  i : Int

def F_ref26_SameRun_k1 (R : Bool → World → Prop) (w1_2 : World) : Prop :=
  R false w1_2

/-- One round. -/
def B_ref26_SameRun_L1 (a : Addr) (b : Addr) (s : S_ref26_SameRun_L1) (w : World) (Kn : S_ref26_SameRun_L1 → World → Prop) (Kx0 : World → Prop) (Kr : Bool → World → Prop) : Prop :=
  ∃ EventsP_2 : Option Addr, ∃ EventsN_2 : Nat, ∃ EventsC_2 : Nat, w.cell? (a.add 1) = some (.slice EventsP_2 EventsN_2 EventsC_2) ∧
  If (decide ((s.i : Int) < (EventsN_2 : Int)))
  (∃ EventsP_3 : Option Addr, ∃ EventsN_3 : Nat, ∃ EventsC_3 : Nat, (drw w).cell? (a.add 1) = some (.slice EventsP_3 EventsN_3 EventsC_3) ∧
  0 ≤ (s.i : Int) ∧ (s.i : Int) < (EventsN_3 : Int) ∧ NN EventsP_3 fun a_1 =>
  ∃ t590 : Int, (drw w).cell? ((a_1.add ((s.i : Int).toNat * 2)).add 0) = some (.int .i64 t590) ∧
  ∃ t591 : ByteArray, (drw w).cell? ((a_1.add ((s.i : Int).toNat * 2)).add 1) = some (.string t591) ∧
  ∃ EventsP_4 : Option Addr, ∃ EventsN_4 : Nat, ∃ EventsC_4 : Nat, (drw w).cell? (b.add 1) = some (.slice EventsP_4 EventsN_4 EventsC_4) ∧
  0 ≤ (s.i : Int) ∧ (s.i : Int) < (EventsN_4 : Int) ∧ NN EventsP_4 fun a_2 =>
  ∃ t640 : Int, (drw w).cell? ((a_2.add ((s.i : Int).toNat * 2)).add 0) = some (.int .i64 t640) ∧
  ∃ t641 : ByteArray, (drw w).cell? ((a_2.add ((s.i : Int).toNat * 2)).add 1) = some (.string t641) ∧
  AggEq Tryd.prog 45 (.agg #[.int .i64 t590, .string t591]) (.agg #[.int .i64 t640, .string t641]) fun bb =>
  If (!bb)
  (Kr false (drw w))
  (Kn ⟨(IntKind.i64.wrap ((s.i : Int) + (1 : Int)))⟩ (drw w)))
  (Kx0 w)

def F_ref26_SameRun_L1 (a : Addr) (b : Addr) (s : S_ref26_SameRun_L1) (w : World) (Kx0 : World → Prop) (Kr : Bool → World → Prop) : Prop :=
  LoopS (fun s w Kn => B_ref26_SameRun_L1 a b s w Kn Kx0 Kr) s w

def F_ref26_SameRun (a0 : Int) (a1P : Option Addr) (a1N : Nat) (a1C : Nat) (a2 : Int) (a3 : Int) (a4 : Int) (a5 : Int) (b0 : Int) (b1P : Option Addr) (b1N : Nat) (b1C : Nat) (b2 : Int) (b3 : Int) (b4 : Int) (b5 : Int) (w : World) (R : Bool → World → Prop) : Prop :=
  New w (.cells #[.int .i64 a0, .slice a1P a1N a1C, .int .i64 a2, .int .i64 a3, .int .i64 a4, .int .i64 a5] 43) fun r w1 =>
  New w1 (.cells #[.int .i64 b0, .slice b1P b1N b1C, .int .i64 b2, .int .i64 b3, .int .i64 b4, .int .i64 b5] 43) fun r_1 w1_1 =>
  ∃ Tag : Int, w1_1.cell? ((⟨r, 0, none⟩ : Addr).add 0) = some (.int .i64 Tag) ∧
  ∃ Tag_1 : Int, w1_1.cell? ((⟨r_1, 0, none⟩ : Addr).add 0) = some (.int .i64 Tag_1) ∧
  If (Tag != Tag_1)
  (F_ref26_SameRun_k1 R w1_1)
  (∃ Steps : Int, w1_1.cell? ((⟨r, 0, none⟩ : Addr).add 2) = some (.int .i64 Steps) ∧
  ∃ Steps_1 : Int, w1_1.cell? ((⟨r_1, 0, none⟩ : Addr).add 2) = some (.int .i64 Steps_1) ∧
  If (Steps != Steps_1)
  (F_ref26_SameRun_k1 R w1_1)
  (∃ Wrong : Int, w1_1.cell? ((⟨r, 0, none⟩ : Addr).add 3) = some (.int .i64 Wrong) ∧
  ∃ Wrong_1 : Int, w1_1.cell? ((⟨r_1, 0, none⟩ : Addr).add 3) = some (.int .i64 Wrong_1) ∧
  If (Wrong != Wrong_1)
  (F_ref26_SameRun_k1 R w1_1)
  (∃ Part : Int, w1_1.cell? ((⟨r, 0, none⟩ : Addr).add 4) = some (.int .i64 Part) ∧
  ∃ Part_1 : Int, w1_1.cell? ((⟨r_1, 0, none⟩ : Addr).add 4) = some (.int .i64 Part_1) ∧
  If (Part != Part_1)
  (F_ref26_SameRun_k1 R w1_1)
  (∃ At : Int, w1_1.cell? ((⟨r, 0, none⟩ : Addr).add 5) = some (.int .i64 At) ∧
  ∃ At_1 : Int, w1_1.cell? ((⟨r_1, 0, none⟩ : Addr).add 5) = some (.int .i64 At_1) ∧
  If (At != At_1)
  (F_ref26_SameRun_k1 R w1_1)
  (∃ EventsP : Option Addr, ∃ EventsN : Nat, ∃ EventsC : Nat, w1_1.cell? ((⟨r, 0, none⟩ : Addr).add 1) = some (.slice EventsP EventsN EventsC) ∧
  ∃ EventsP_1 : Option Addr, ∃ EventsN_1 : Nat, ∃ EventsC_1 : Nat, w1_1.cell? ((⟨r_1, 0, none⟩ : Addr).add 1) = some (.slice EventsP_1 EventsN_1 EventsC_1) ∧
  If ((EventsN : Int) != (EventsN_1 : Int))
  (R false w1_1)
  (F_ref26_SameRun_L1 ⟨r, 0, none⟩ ⟨r_1, 0, none⟩ ⟨(0 : Int)⟩ w1_1
  (fun w1_3 =>
  R true w1_3)
  (fun t4_1 w1_4 =>
  R t4_1 w1_4)))))))

def lit_ref26_SameRun_L1 (f : Addr × Addr) (s : S_ref26_SameRun_L1) : Env := [⟨2, .pointer (some f.1), none⟩, ⟨3, .pointer (some f.2), none⟩, ⟨5, .int .i64 s.i, none⟩]

def dec_ref26_SameRun_L1 (e : Env) (K : (Addr × Addr) → S_ref26_SameRun_L1 → Prop) : Prop :=
  onV (getV e 2) fun u1 =>
  asA u1 fun a =>
  onV (getV e 3) fun u2 =>
  asA u2 fun b =>
  onV (getV e 5) fun u3 =>
  asI .i64 u3 fun i =>
    K (a, b) ⟨i⟩

theorem dec_ref26_SameRun_L1_ok {N : Nat} (e : Env) (a : Act) (K : (Addr × Addr) → S_ref26_SameRun_L1 → Prop) (hr : Rep N a e) (h0 : dec_ref26_SameRun_L1 e K) : ∃ f s, K f s ∧ Rep N a (lit_ref26_SameRun_L1 f s) := by
  unfold dec_ref26_SameRun_L1 at h0
  obtain ⟨u1, g2, h1⟩ := onV_elim h0
  obtain ⟨a, rfl, h2⟩ := asA_elim h1
  obtain ⟨u2, g3, h3⟩ := onV_elim h2
  obtain ⟨b, rfl, h4⟩ := asA_elim h3
  obtain ⟨u3, g5, h5⟩ := onV_elim h4
  obtain ⟨i, rfl, h6⟩ := asI_elim h5
  exact ⟨_, _, h6, rep_less hr (by simp [lit_ref26_SameRun_L1, g2, g3, g5])⟩

def spec_ref26_SameRun_L1 (Q : Post) (e : Env) (w : World) : Prop :=
  dec_ref26_SameRun_L1 e fun f s => F_ref26_SameRun_L1 f.1 f.2 s w (fun w1 => Q (.exit 0) [] w1) (fun t4 w1 => Q .ret [⟨4, .bool t4, none⟩] w1)

def G_ref26_SameRun : Gen where
  loop := lookL [([false, true, false, true, true], spec_ref26_SameRun_L1)]
  plan := fun id =>
    bif Nat.beq id 6 then some ([0, 1, 0, 7, 15, 0, 32, 0, 224, 480, 1023], .take 0 (.take 1 (.take 2 (.take 3 (.take 4 (.take 5 (.take 6 (.take 7 (.take 8 (.take 9 (.take 10 .done))))))))))) else none

def dx_ref26_SameRun_L1_0 (e : Env) (K : (Addr × Addr) → Prop) : Prop :=
  onV (getV e 2) fun u1 =>
  asA u1 fun a =>
  onV (getV e 3) fun u2 =>
  asA u2 fun b =>
    K (a, b)

def dx_ref26_SameRun_L1_ret (e : Env) (K : (Addr × Addr) → Bool → Prop) : Prop :=
  onV (getV e 2) fun u1 =>
  asA u1 fun a =>
  onV (getV e 3) fun u2 =>
  asA u2 fun b =>
  onV (getV e 4) fun u3 =>
  asB u3 fun t4 =>
    K (a, b) t4

theorem body_ref26_SameRun_L1 (f : Addr × Addr) (s : S_ref26_SameRun_L1) (w : World) (Kn : (Addr × Addr) → S_ref26_SameRun_L1 → World → Prop) (Kx0 : (Addr × Addr) → World → Prop) (Kr : (Addr × Addr) → Bool → World → Prop) :
    B_ref26_SameRun_L1 f.1 f.2 s w (fun s1 w1 => Kn f s1 w1) (fun w1 => Kx0 f w1) (fun t4 w1 => Kr f t4 w1) =
    den Tryd.prog Tryd.f19.ntmps G_ref26_SameRun (sub (codeOf Tryd.f19) [false, false, true, false, true, true]) [false, false, true, false, true, true] (roundQ (fun e w => dec_ref26_SameRun_L1 e fun f s => Kn f s w) (fun e w => dx_ref26_SameRun_L1_ret e fun f t4 => Kr f t4 w) (fun id e w => match Nat.beq id 0 with | true => dx_ref26_SameRun_L1_0 e fun f => Kx0 f w | false => False)) (lit_ref26_SameRun_L1 f s) w := by kernel_rfl

theorem ok_ref26_SameRun_L1 : OneOk Tryd.prog Tryd.f19.ntmps G_ref26_SameRun (codeOf Tryd.f19) [false, true, false, true, true] spec_ref26_SameRun_L1 := by
  intro c hc ih Q e w a hr h
  have hcc : sub (codeOf Tryd.f19) [false, false, true, false, true, true] = c := sub_of_codeAt hc
  obtain ⟨f, s, h, hrep⟩ := dec_ref26_SameRun_L1_ok e a _ hr h
  obtain ⟨J, μ, hj, hround⟩ := h
  refine loop_rule_deep seat_ok seat_mixed ih lit_ref26_SameRun_L1 dec_ref26_SameRun_L1 dec_ref26_SameRun_L1_ok hc f J μ (Kr := fun e w => dx_ref26_SameRun_L1_ret e fun f1 t4 => f1 = f ∧ Q .ret [⟨4, .bool t4, none⟩] w) (Kx := fun id e w => match Nat.beq id 0 with | true => (dx_ref26_SameRun_L1_0 e fun f1 => f1 = f ∧ Q (.exit 0) [] w) | false => False) ?_ ?_ ?_ s w a hj hrep
  · intro e a w hr h0
    unfold dx_ref26_SameRun_L1_ret at h0
    obtain ⟨u1, g2, h1⟩ := onV_elim h0
    obtain ⟨a, rfl, h2⟩ := asA_elim h1
    obtain ⟨u2, g3, h3⟩ := onV_elim h2
    obtain ⟨b, rfl, h4⟩ := asA_elim h3
    obtain ⟨u3, g4, h5⟩ := onV_elim h4
    obtain ⟨t4, rfl, h6⟩ := asB_elim h5
    obtain ⟨hf, hq⟩ := h6
    subst hf
    exact ⟨_, rep_less hr (by simp [g4]), hq⟩
  · intro id e a w hr h0
    (try dsimp only at h0)
    split at h0
    · rename_i hid
      obtain rfl := Nat.eq_of_beq_eq_true hid
      unfold dx_ref26_SameRun_L1_0 at h0
      obtain ⟨u1, g2, h1⟩ := onV_elim h0
      obtain ⟨a, rfl, h2⟩ := asA_elim h1
      obtain ⟨u2, g3, h3⟩ := onV_elim h2
      obtain ⟨b, rfl, h4⟩ := asA_elim h3
      obtain ⟨hf, hq⟩ := h4
      subst hf
      exact ⟨_, rep_less hr (by simp), hq⟩
    · exact h0.elim
  · intro s w hj
    have hb := hround s w hj
    rw [← hcc]
    have e1 := body_ref26_SameRun_L1 f s w (fun f1 s1 w1 => f1 = f ∧ J s1 w1 ∧ μ s1 w1 < μ s w) (fun f1 w1 => f1 = f ∧ Q (.exit 0) [] w1) (fun f1 t4 w1 => f1 = f ∧ Q .ret [⟨4, .bool t4, none⟩] w1)
    simp only [true_and] at e1
    exact cast e1 hb

theorem loops_ref26_SameRun : LoopOk Tryd.prog Tryd.f19.ntmps G_ref26_SameRun (codeOf Tryd.f19) := loopOk_list rfl ⟨ok_ref26_SameRun_L1, trivial⟩

theorem den_ref26_SameRun (a0 : Int) (a1P : Option Addr) (a1N : Nat) (a1C : Nat) (a2 : Int) (a3 : Int) (a4 : Int) (a5 : Int) (b0 : Int) (b1P : Option Addr) (b1N : Nat) (b1C : Nat) (b2 : Int) (b3 : Int) (b4 : Int) (b5 : Int) (w : World) (R : Value → World → Prop) :
    F_ref26_SameRun a0 a1P a1N a1C a2 a3 a4 a5 b0 b1P b1N b1C b2 b3 b4 b5 w (fun r w1 => R (.bool r) w1) = den Tryd.prog Tryd.f19.ntmps G_ref26_SameRun (codeOf Tryd.f19) [] (postD Tryd.prog Tryd.f19.results.toList R) (entry [.agg #[.int .i64 a0, .slice a1P a1N a1C, .int .i64 a2, .int .i64 a3, .int .i64 a4, .int .i64 a5], .agg #[.int .i64 b0, .slice b1P b1N b1C, .int .i64 b2, .int .i64 b3, .int .i64 b4, .int .i64 b5]] 0) w := by kernel_rfl

theorem C_ref26_SameRun.of {a0 : Int} {a1P : Option Addr} {a1N : Nat} {a1C : Nat} {a2 : Int} {a3 : Int} {a4 : Int} {a5 : Int} {b0 : Int} {b1P : Option Addr} {b1N : Nat} {b1C : Nat} {b2 : Int} {b3 : Int} {b4 : Int} {b5 : Int} {w : World} {R : Bool → World → Prop} (h : F_ref26_SameRun a0 a1P a1N a1C a2 a3 a4 a5 b0 b1P b1N b1C b2 b3 b4 b5 w R) : C_ref26_SameRun a0 a1P a1N a1C a2 a3 a4 a5 b0 b1P b1N b1C b2 b3 b4 b5 w R := by
  refine (calls_of_den (c := codeOf Tryd.f19) seat_ok seat_mixed Tryd.func19 (by kernel_rfl) loops_ref26_SameRun (args := [.agg #[.int .i64 a0, .slice a1P a1N a1C, .int .i64 a2, .int .i64 a3, .int .i64 a4, .int .i64 a5], .agg #[.int .i64 b0, .slice b1P b1N b1C, .int .i64 b2, .int .i64 b3, .int .i64 b4, .int .i64 b5]]) rfl (R := fun v w1 => ∃ (r : Bool), v = (.bool r : Value) ∧ R r w1) ?_).mono ?_
  · rw [← den_ref26_SameRun]
    have e : (fun r w1 => ∃ (r' : Bool), (.bool r : Value) = (.bool r' : Value) ∧ R r' w1) = R := by
      funext r w1
      exact propext ⟨fun ⟨r', he, h⟩ => by first | (simp at he; simp_all) | (cases he; exact h), fun h => ⟨_, rfl, h⟩⟩
    simpa only [e] using h
  · rintro en w1 ⟨v, he, r, rfl, h⟩
    exact ⟨_, he, h⟩

end Go.Proofs.YtggbmakfifllnaaDoor
