/- The formulas of this seat's functions, held against the loaded program by the kernel. Printed by a program. -/
import Derived.Test.YtcgnligpjfhjlaaGenC
set_option maxRecDepth 100000
set_option linter.unusedVariables false
namespace Go.Proofs.Ytcgnligpjfhjlaa
open Go Go.D Go.Proofs

structure S_ref03_Pool_Left_L1 where
  n : Int
  i : Int

def F_ref03_Pool_Left_k1 (s : S_ref03_Pool_Left_L1) (Kn : S_ref03_Pool_Left_L1 → World → Prop) (n_2 : Int) (w1 : World) : Prop :=
  Kn ⟨n_2, (IntKind.i64.wrap ((s.i : Int) + (1 : Int)))⟩ w1

/-- One round. -/
def B_ref03_Pool_Left_L1 (p_1 : Option Addr) (s : S_ref03_Pool_Left_L1) (w : World) (Kn : S_ref03_Pool_Left_L1 → World → Prop) (Kx0 : Int → World → Prop) : Prop :=
  NN p_1 fun a_2 =>
  ∃ FP_1 : Option Addr, ∃ FN_1 : Nat, ∃ FC_1 : Nat, w.cell? (a_2.add 0) = some (.slice FP_1 FN_1 FC_1) ∧
  If (decide ((s.i : Int) < (FN_1 : Int)))
  (NN p_1 fun a_3 =>
  ∃ FP_2 : Option Addr, ∃ FN_2 : Nat, ∃ FC_2 : Nat, w.cell? (a_3.add 0) = some (.slice FP_2 FN_2 FC_2) ∧
  0 ≤ (s.i : Int) ∧ (s.i : Int) < (FN_2 : Int) ∧ NN FP_2 fun a_4 =>
  ∃ t30 : Bool, w.cell? (a_4.add ((s.i : Int).toNat * 1)) = some (.bool t30) ∧
  If t30
  (F_ref03_Pool_Left_k1 s Kn (IntKind.i64.wrap ((s.n : Int) + (1 : Int))) w)
  (F_ref03_Pool_Left_k1 s Kn (s.n : Int) w))
  (Kx0 (s.n : Int) w)

def F_ref03_Pool_Left_L1 (p_1 : Option Addr) (s : S_ref03_Pool_Left_L1) (w : World) (Kx0 : Int → World → Prop) : Prop :=
  LoopS (fun s w Kn => B_ref03_Pool_Left_L1 p_1 s w Kn Kx0) s w

def F_ref03_Pool_Left (p : Option Addr) (w : World) (R : Int → World → Prop) : Prop :=
  NN p fun a =>
  ∃ Limit : Int, (drw w).cell? (a.add 2) = some (.int .i64 Limit) ∧
  NN p fun a_1 =>
  ∃ FP : Option Addr, ∃ FN : Nat, ∃ FC : Nat, (drw w).cell? (a_1.add 0) = some (.slice FP FN FC) ∧
  F_ref03_Pool_Left_L1 p ⟨(IntKind.i64.wrap (Limit - (FN : Int))), (0 : Int)⟩ (drw w)
  (fun n_3 w1_1 =>
  R n_3 w1_1)

def lit_ref03_Pool_Left_L1 (f : (Option Addr)) (s : S_ref03_Pool_Left_L1) : Env := [⟨0, .pointer f, none⟩, ⟨3, .int .i64 s.n, none⟩, ⟨4, .int .i64 s.i, none⟩]

def dec_ref03_Pool_Left_L1 (e : Env) (K : (Option Addr) → S_ref03_Pool_Left_L1 → Prop) : Prop :=
  onV (getV e 0) fun u1 =>
  asP u1 fun p_1 =>
  onV (getV e 3) fun u2 =>
  asI .i64 u2 fun n =>
  onV (getV e 4) fun u3 =>
  asI .i64 u3 fun i =>
    K (p_1) ⟨n, i⟩

theorem dec_ref03_Pool_Left_L1_ok {N : Nat} (e : Env) (a : Act) (K : (Option Addr) → S_ref03_Pool_Left_L1 → Prop) (hr : Rep N a e) (h0 : dec_ref03_Pool_Left_L1 e K) : ∃ f s, K f s ∧ Rep N a (lit_ref03_Pool_Left_L1 f s) := by
  unfold dec_ref03_Pool_Left_L1 at h0
  obtain ⟨u1, g0, h1⟩ := onV_elim h0
  obtain ⟨p_1, rfl, h2⟩ := asP_elim h1
  obtain ⟨u2, g3, h3⟩ := onV_elim h2
  obtain ⟨n, rfl, h4⟩ := asI_elim h3
  obtain ⟨u3, g4, h5⟩ := onV_elim h4
  obtain ⟨i, rfl, h6⟩ := asI_elim h5
  exact ⟨_, _, h6, rep_less hr (by simp [lit_ref03_Pool_Left_L1, g0, g3, g4])⟩

def spec_ref03_Pool_Left_L1 (Q : Post) (e : Env) (w : World) : Prop :=
  dec_ref03_Pool_Left_L1 e fun f s => F_ref03_Pool_Left_L1 f s w (fun n_1 w1 => Q (.exit 0) [⟨3, .int .i64 n_1, none⟩] w1)

def G_ref03_Pool_Left : Gen where
  loop := lookL [([false, true, false, true, true], spec_ref03_Pool_Left_L1)]
  plan := fun id =>
    bif Nat.beq id 1 then some ([0, 1, 3, 7, 0, 16, 48, 112, 240, 511, 1023], .take 0 (.take 1 (.take 2 (.take 3 (.take 4 (.take 5 (.take 6 (.take 7 (.take 8 (.take 9 (.take 10 .done))))))))))) else none

def dx_ref03_Pool_Left_L1_0 (e : Env) (K : (Option Addr) → Int → Prop) : Prop :=
  onV (getV e 0) fun u1 =>
  asP u1 fun p_1 =>
  onV (getV e 3) fun u2 =>
  asI .i64 u2 fun n_1 =>
    K (p_1) n_1

theorem body_ref03_Pool_Left_L1 (f : (Option Addr)) (s : S_ref03_Pool_Left_L1) (w : World) (Kn : (Option Addr) → S_ref03_Pool_Left_L1 → World → Prop) (Kx0 : (Option Addr) → Int → World → Prop) :
    B_ref03_Pool_Left_L1 f s w (fun s1 w1 => Kn f s1 w1) (fun n_1 w1 => Kx0 f n_1 w1) =
    den Try.prog Try.f43.ntmps G_ref03_Pool_Left (sub (codeOf Try.f43) [false, false, true, false, true, true]) [false, false, true, false, true, true] (roundQ (fun e w => dec_ref03_Pool_Left_L1 e fun f s => Kn f s w) (fun e w => False) (fun id e w => match Nat.beq id 0 with | true => dx_ref03_Pool_Left_L1_0 e fun f n_1 => Kx0 f n_1 w | false => False)) (lit_ref03_Pool_Left_L1 f s) w := by kernel_rfl

theorem ok_ref03_Pool_Left_L1 : OneOk Try.prog Try.f43.ntmps G_ref03_Pool_Left (codeOf Try.f43) [false, true, false, true, true] spec_ref03_Pool_Left_L1 := by
  intro c hc ih Q e w a hr h
  have hcc : sub (codeOf Try.f43) [false, false, true, false, true, true] = c := sub_of_codeAt hc
  obtain ⟨f, s, h, hrep⟩ := dec_ref03_Pool_Left_L1_ok e a _ hr h
  obtain ⟨J, μ, hj, hround⟩ := h
  refine loop_rule_deep seat_ok seat_mixed ih lit_ref03_Pool_Left_L1 dec_ref03_Pool_Left_L1 dec_ref03_Pool_Left_L1_ok hc f J μ (Kr := fun e w => False) (Kx := fun id e w => match Nat.beq id 0 with | true => (dx_ref03_Pool_Left_L1_0 e fun f1 n_1 => f1 = f ∧ Q (.exit 0) [⟨3, .int .i64 n_1, none⟩] w) | false => False) ?_ ?_ ?_ s w a hj hrep
  · intro e a w hr h
    exact h.elim
  · intro id e a w hr h0
    (try dsimp only at h0)
    split at h0
    · rename_i hid
      obtain rfl := Nat.eq_of_beq_eq_true hid
      unfold dx_ref03_Pool_Left_L1_0 at h0
      obtain ⟨u1, g0, h1⟩ := onV_elim h0
      obtain ⟨p_1, rfl, h2⟩ := asP_elim h1
      obtain ⟨u2, g3, h3⟩ := onV_elim h2
      obtain ⟨n_1, rfl, h4⟩ := asI_elim h3
      obtain ⟨hf, hq⟩ := h4
      subst hf
      exact ⟨_, rep_less hr (by simp [g3]), hq⟩
    · exact h0.elim
  · intro s w hj
    have hb := hround s w hj
    rw [← hcc]
    have e1 := body_ref03_Pool_Left_L1 f s w (fun f1 s1 w1 => f1 = f ∧ J s1 w1 ∧ μ s1 w1 < μ s w) (fun f1 n_1 w1 => f1 = f ∧ Q (.exit 0) [⟨3, .int .i64 n_1, none⟩] w1)
    simp only [true_and] at e1
    exact cast e1 hb

theorem loops_ref03_Pool_Left : LoopOk Try.prog Try.f43.ntmps G_ref03_Pool_Left (codeOf Try.f43) := loopOk_list rfl ⟨ok_ref03_Pool_Left_L1, trivial⟩

theorem den_ref03_Pool_Left (p : Option Addr) (w : World) (R : Value → World → Prop) :
    F_ref03_Pool_Left p w (fun r w1 => R (.int .i64 r) w1) = den Try.prog Try.f43.ntmps G_ref03_Pool_Left (codeOf Try.f43) [] (postD Try.prog Try.f43.results.toList R) (entry [.pointer p] 0) w := by kernel_rfl

theorem C_ref03_Pool_Left.of {p : Option Addr} {w : World} {R : Int → World → Prop} (h : F_ref03_Pool_Left p w R) : C_ref03_Pool_Left p w R := by
  refine (calls_of_den (c := codeOf Try.f43) seat_ok seat_mixed Try.func43 (by kernel_rfl) loops_ref03_Pool_Left (args := [.pointer p]) rfl (R := fun v w1 => ∃ (r : Int), v = (.int .i64 r : Value) ∧ R r w1) ?_).mono ?_
  · rw [← den_ref03_Pool_Left]
    have e : (fun r w1 => ∃ (r' : Int), (.int .i64 r : Value) = (.int .i64 r' : Value) ∧ R r' w1) = R := by
      funext r w1
      exact propext ⟨fun ⟨r', he, h⟩ => by simp at he; simp_all, fun h => ⟨_, rfl, h⟩⟩
    simpa only [e] using h
  · rintro en w1 ⟨v, he, r, rfl, h⟩
    exact ⟨_, he, h⟩

structure S_ref03_Pool_Segment_L1 where
  sx : Int

/-- One round. -/
def B_ref03_Pool_Segment_L1 (p_1 : Option Addr) (atx_1 : Int) (s : S_ref03_Pool_Segment_L1) (w : World) (Kn : S_ref03_Pool_Segment_L1 → World → Prop) (Kx0 : Int → World → Prop) : Prop :=
  NN p_1 fun a_1 =>
  ∃ StartsP : Option Addr, ∃ StartsN : Nat, ∃ StartsC : Nat, w.cell? (a_1.add 1) = some (.slice StartsP StartsN StartsC) ∧
  If (decide ((IntKind.i64.wrap ((s.sx : Int) + (1 : Int))) < (StartsN : Int)))
  (NN p_1 fun a_2 =>
  ∃ StartsP_1 : Option Addr, ∃ StartsN_1 : Nat, ∃ StartsC_1 : Nat, w.cell? (a_2.add 1) = some (.slice StartsP_1 StartsN_1 StartsC_1) ∧
  0 ≤ (IntKind.i64.wrap ((s.sx : Int) + (1 : Int))) ∧ (IntKind.i64.wrap ((s.sx : Int) + (1 : Int))) < (StartsN_1 : Int) ∧ NN StartsP_1 fun a_3 =>
  ∃ t33 : Int, w.cell? (a_3.add ((IntKind.i64.wrap ((s.sx : Int) + (1 : Int))).toNat * 1)) = some (.int .i64 t33) ∧
  If (decide (t33 ≤ atx_1))
  (Kn ⟨(IntKind.i64.wrap ((s.sx : Int) + (1 : Int)))⟩ w)
  (Kx0 (s.sx : Int) w))
  (Kx0 (s.sx : Int) w)

def F_ref03_Pool_Segment_L1 (p_1 : Option Addr) (atx_1 : Int) (s : S_ref03_Pool_Segment_L1) (w : World) (Kx0 : Int → World → Prop) : Prop :=
  LoopS (fun s w Kn => B_ref03_Pool_Segment_L1 p_1 atx_1 s w Kn Kx0) s w

def F_ref03_Pool_Segment (p : Option Addr) (atx : Int) (w : World) (R : Int → World → Prop) : Prop :=
  If (decide (atx < (0 : Int)))
  (R (-1) w)
  (NN p fun a =>
  ∃ FP : Option Addr, ∃ FN : Nat, ∃ FC : Nat, w.cell? (a.add 0) = some (.slice FP FN FC) ∧
  If (decide (atx ≥ (FN : Int)))
  (R (-1) w)
  (F_ref03_Pool_Segment_L1 p atx ⟨(0 : Int)⟩ w
  (fun sx_2 w1 =>
  R sx_2 w1)))

def lit_ref03_Pool_Segment_L1 (f : (Option Addr) × Int) (s : S_ref03_Pool_Segment_L1) : Env := [⟨0, .pointer f.1, none⟩, ⟨1, .int .i64 f.2, none⟩, ⟨5, .int .i64 s.sx, none⟩]

def dec_ref03_Pool_Segment_L1 (e : Env) (K : ((Option Addr) × Int) → S_ref03_Pool_Segment_L1 → Prop) : Prop :=
  onV (getV e 0) fun u1 =>
  asP u1 fun p_1 =>
  onV (getV e 1) fun u2 =>
  asI .i64 u2 fun atx_1 =>
  onV (getV e 5) fun u3 =>
  asI .i64 u3 fun sx =>
    K (p_1, atx_1) ⟨sx⟩

theorem dec_ref03_Pool_Segment_L1_ok {N : Nat} (e : Env) (a : Act) (K : ((Option Addr) × Int) → S_ref03_Pool_Segment_L1 → Prop) (hr : Rep N a e) (h0 : dec_ref03_Pool_Segment_L1 e K) : ∃ f s, K f s ∧ Rep N a (lit_ref03_Pool_Segment_L1 f s) := by
  unfold dec_ref03_Pool_Segment_L1 at h0
  obtain ⟨u1, g0, h1⟩ := onV_elim h0
  obtain ⟨p_1, rfl, h2⟩ := asP_elim h1
  obtain ⟨u2, g1, h3⟩ := onV_elim h2
  obtain ⟨atx_1, rfl, h4⟩ := asI_elim h3
  obtain ⟨u3, g5, h5⟩ := onV_elim h4
  obtain ⟨sx, rfl, h6⟩ := asI_elim h5
  exact ⟨_, _, h6, rep_less hr (by simp [lit_ref03_Pool_Segment_L1, g0, g1, g5])⟩

def spec_ref03_Pool_Segment_L1 (Q : Post) (e : Env) (w : World) : Prop :=
  dec_ref03_Pool_Segment_L1 e fun f s => F_ref03_Pool_Segment_L1 f.1 f.2 s w (fun sx_1 w1 => Q (.exit 0) [⟨5, .int .i64 sx_1, none⟩] w1)

def G_ref03_Pool_Segment : Gen where
  loop := lookL [([false, false, true, true, true], spec_ref03_Pool_Segment_L1)]
  plan := fun _ => none

def dx_ref03_Pool_Segment_L1_0 (e : Env) (K : ((Option Addr) × Int) → Int → Prop) : Prop :=
  onV (getV e 0) fun u1 =>
  asP u1 fun p_1 =>
  onV (getV e 1) fun u2 =>
  asI .i64 u2 fun atx_1 =>
  onV (getV e 5) fun u3 =>
  asI .i64 u3 fun sx_1 =>
    K (p_1, atx_1) sx_1

theorem body_ref03_Pool_Segment_L1 (f : (Option Addr) × Int) (s : S_ref03_Pool_Segment_L1) (w : World) (Kn : ((Option Addr) × Int) → S_ref03_Pool_Segment_L1 → World → Prop) (Kx0 : ((Option Addr) × Int) → Int → World → Prop) :
    B_ref03_Pool_Segment_L1 f.1 f.2 s w (fun s1 w1 => Kn f s1 w1) (fun sx_1 w1 => Kx0 f sx_1 w1) =
    den Try.prog Try.f44.ntmps G_ref03_Pool_Segment (sub (codeOf Try.f44) [false, false, false, true, true, true]) [false, false, false, true, true, true] (roundQ (fun e w => dec_ref03_Pool_Segment_L1 e fun f s => Kn f s w) (fun e w => False) (fun id e w => match Nat.beq id 0 with | true => dx_ref03_Pool_Segment_L1_0 e fun f sx_1 => Kx0 f sx_1 w | false => False)) (lit_ref03_Pool_Segment_L1 f s) w := by kernel_rfl

theorem ok_ref03_Pool_Segment_L1 : OneOk Try.prog Try.f44.ntmps G_ref03_Pool_Segment (codeOf Try.f44) [false, false, true, true, true] spec_ref03_Pool_Segment_L1 := by
  intro c hc ih Q e w a hr h
  have hcc : sub (codeOf Try.f44) [false, false, false, true, true, true] = c := sub_of_codeAt hc
  obtain ⟨f, s, h, hrep⟩ := dec_ref03_Pool_Segment_L1_ok e a _ hr h
  obtain ⟨J, μ, hj, hround⟩ := h
  refine loop_rule_deep seat_ok seat_mixed ih lit_ref03_Pool_Segment_L1 dec_ref03_Pool_Segment_L1 dec_ref03_Pool_Segment_L1_ok hc f J μ (Kr := fun e w => False) (Kx := fun id e w => match Nat.beq id 0 with | true => (dx_ref03_Pool_Segment_L1_0 e fun f1 sx_1 => f1 = f ∧ Q (.exit 0) [⟨5, .int .i64 sx_1, none⟩] w) | false => False) ?_ ?_ ?_ s w a hj hrep
  · intro e a w hr h
    exact h.elim
  · intro id e a w hr h0
    (try dsimp only at h0)
    split at h0
    · rename_i hid
      obtain rfl := Nat.eq_of_beq_eq_true hid
      unfold dx_ref03_Pool_Segment_L1_0 at h0
      obtain ⟨u1, g0, h1⟩ := onV_elim h0
      obtain ⟨p_1, rfl, h2⟩ := asP_elim h1
      obtain ⟨u2, g1, h3⟩ := onV_elim h2
      obtain ⟨atx_1, rfl, h4⟩ := asI_elim h3
      obtain ⟨u3, g5, h5⟩ := onV_elim h4
      obtain ⟨sx_1, rfl, h6⟩ := asI_elim h5
      obtain ⟨hf, hq⟩ := h6
      subst hf
      exact ⟨_, rep_less hr (by simp [g5]), hq⟩
    · exact h0.elim
  · intro s w hj
    have hb := hround s w hj
    rw [← hcc]
    have e1 := body_ref03_Pool_Segment_L1 f s w (fun f1 s1 w1 => f1 = f ∧ J s1 w1 ∧ μ s1 w1 < μ s w) (fun f1 sx_1 w1 => f1 = f ∧ Q (.exit 0) [⟨5, .int .i64 sx_1, none⟩] w1)
    simp only [true_and] at e1
    exact cast e1 hb

theorem loops_ref03_Pool_Segment : LoopOk Try.prog Try.f44.ntmps G_ref03_Pool_Segment (codeOf Try.f44) := loopOk_list rfl ⟨ok_ref03_Pool_Segment_L1, trivial⟩

theorem den_ref03_Pool_Segment (p : Option Addr) (atx : Int) (w : World) (R : Value → World → Prop) :
    F_ref03_Pool_Segment p atx w (fun r w1 => R (.int .i64 r) w1) = den Try.prog Try.f44.ntmps G_ref03_Pool_Segment (codeOf Try.f44) [] (postD Try.prog Try.f44.results.toList R) (entry [.pointer p, .int .i64 atx] 0) w := by kernel_rfl

theorem C_ref03_Pool_Segment.of {p : Option Addr} {atx : Int} {w : World} {R : Int → World → Prop} (h : F_ref03_Pool_Segment p atx w R) : C_ref03_Pool_Segment p atx w R := by
  refine (calls_of_den (c := codeOf Try.f44) seat_ok seat_mixed Try.func44 (by kernel_rfl) loops_ref03_Pool_Segment (args := [.pointer p, .int .i64 atx]) rfl (R := fun v w1 => ∃ (r : Int), v = (.int .i64 r : Value) ∧ R r w1) ?_).mono ?_
  · rw [← den_ref03_Pool_Segment]
    have e : (fun r w1 => ∃ (r' : Int), (.int .i64 r : Value) = (.int .i64 r' : Value) ∧ R r' w1) = R := by
      funext r w1
      exact propext ⟨fun ⟨r', he, h⟩ => by simp at he; simp_all, fun h => ⟨_, rfl, h⟩⟩
    simpa only [e] using h
  · rintro en w1 ⟨v, he, r, rfl, h⟩
    exact ⟨_, he, h⟩

structure S_ref03_Pool_Runs_L1 where
  outP : Option Addr
  outN : Nat
  outC : Nat
  i : Int

def F_ref03_Pool_Runs_k1 (s : S_ref03_Pool_Runs_L1) (Kn : S_ref03_Pool_Runs_L1 → World → Prop) (outP_2 : Option Addr) (outN_2 : Nat) (outC_2 : Nat) (w1_6 : World) : Prop :=
  Kn ⟨outP_2, outN_2, outC_2, (IntKind.i64.wrap ((s.i : Int) + (1 : Int)))⟩ w1_6

/-- One round. -/
def B_ref03_Pool_Runs_L1 (p_1 : Option Addr) (sx_1 : Int) (s : S_ref03_Pool_Runs_L1) (w : World) (Kn : S_ref03_Pool_Runs_L1 → World → Prop) (Kx0 : Option Addr → Nat → Nat → World → Prop) : Prop :=
  C_ref03_Pool_end p_1 sx_1 w fun t29 w1 =>
  If (decide ((s.i : Int) < t29))
  (NN p_1 fun a_3 =>
  ∃ FP : Option Addr, ∃ FN : Nat, ∃ FC : Nat, w1.cell? (a_3.add 0) = some (.slice FP FN FC) ∧
  0 ≤ (s.i : Int) ∧ (s.i : Int) < (FN : Int) ∧ NN FP fun a_4 =>
  ∃ t39 : Bool, w1.cell? (a_4.add ((s.i : Int).toNat * 1)) = some (.bool t39) ∧
  If (!t39)
  (F_ref03_Pool_Runs_k1 s Kn s.outP s.outN s.outC w1)
  (If (decide ((s.outN : Int) > (0 : Int)))
  (0 ≤ (IntKind.i64.wrap ((s.outN : Int) - (1 : Int))) ∧ (IntKind.i64.wrap ((s.outN : Int) - (1 : Int))) < (s.outN : Int) ∧ NN s.outP fun a_5 =>
  ∃ At : Int, (drw w1).cell? ((a_5.add ((IntKind.i64.wrap ((s.outN : Int) - (1 : Int))).toNat * 2)).add 0) = some (.int .i64 At) ∧
  0 ≤ (IntKind.i64.wrap ((s.outN : Int) - (1 : Int))) ∧ (IntKind.i64.wrap ((s.outN : Int) - (1 : Int))) < (s.outN : Int) ∧ NN s.outP fun a_6 =>
  ∃ Len : Int, (drw w1).cell? ((a_6.add ((IntKind.i64.wrap ((s.outN : Int) - (1 : Int))).toNat * 2)).add 1) = some (.int .i64 Len) ∧
  If ((IntKind.i64.wrap (At + Len)) == (s.i : Int))
  (0 ≤ (IntKind.i64.wrap ((s.outN : Int) - (1 : Int))) ∧ (IntKind.i64.wrap ((s.outN : Int) - (1 : Int))) < (s.outN : Int) ∧ NN s.outP fun a_7 =>
  ∃ Len_1 : Int, (drw w1).cell? ((a_7.add ((IntKind.i64.wrap ((s.outN : Int) - (1 : Int))).toNat * 2)).add 1) = some (.int .i64 Len_1) ∧
  0 ≤ (IntKind.i64.wrap ((s.outN : Int) - (1 : Int))) ∧ (IntKind.i64.wrap ((s.outN : Int) - (1 : Int))) < (s.outN : Int) ∧ NN s.outP fun a_8 =>
  St (drw w1) (((a_8.add ((IntKind.i64.wrap ((s.outN : Int) - (1 : Int))).toNat * 2)).add 1).add 0) (.int .i64 (IntKind.i64.wrap (Len_1 + (1 : Int)))) fun w1_1 =>
  F_ref03_Pool_Runs_k1 s Kn s.outP s.outN s.outC w1_1)
  (BSl Try.prog 40 1 [(0, .agg #[.int .i64 s.i, .int .i64 1])] (drw w1) fun t74P t74N t74C w1_2 =>
  App Try.prog #[40, 40] 40 #[.slice s.outP s.outN s.outC, .slice t74P t74N t74C] w1_2 fun t75P t75N t75C w1_3 =>
  F_ref03_Pool_Runs_k1 s Kn t75P t75N t75C w1_3))
  (BSl Try.prog 40 1 [(0, .agg #[.int .i64 s.i, .int .i64 1])] (drw w1) fun t74P_1 t74N_1 t74C_1 w1_4 =>
  App Try.prog #[40, 40] 40 #[.slice s.outP s.outN s.outC, .slice t74P_1 t74N_1 t74C_1] w1_4 fun t75P_1 t75N_1 t75C_1 w1_5 =>
  F_ref03_Pool_Runs_k1 s Kn t75P_1 t75N_1 t75C_1 w1_5)))
  (Kx0 s.outP s.outN s.outC w1)

def F_ref03_Pool_Runs_L1 (p_1 : Option Addr) (sx_1 : Int) (s : S_ref03_Pool_Runs_L1) (w : World) (Kx0 : Option Addr → Nat → Nat → World → Prop) : Prop :=
  LoopS (fun s w Kn => B_ref03_Pool_Runs_L1 p_1 sx_1 s w Kn Kx0) s w

def F_ref03_Pool_Runs (p : Option Addr) (sx : Int) (w : World) (R : Option Addr → Nat → Nat → World → Prop) : Prop :=
  If (decide (sx < (0 : Int)))
  (R none 0 0 w)
  (NN p fun a =>
  ∃ StartsP : Option Addr, ∃ StartsN : Nat, ∃ StartsC : Nat, w.cell? (a.add 1) = some (.slice StartsP StartsN StartsC) ∧
  If (decide (sx ≥ (StartsN : Int)))
  (R none 0 0 w)
  (NN p fun a_1 =>
  ∃ StartsP_1 : Option Addr, ∃ StartsN_1 : Nat, ∃ StartsC_1 : Nat, w.cell? (a_1.add 1) = some (.slice StartsP_1 StartsN_1 StartsC_1) ∧
  0 ≤ sx ∧ sx < (StartsN_1 : Int) ∧ NN StartsP_1 fun a_2 =>
  ∃ t25 : Int, w.cell? (a_2.add (sx.toNat * 1)) = some (.int .i64 t25) ∧
  F_ref03_Pool_Runs_L1 p sx ⟨none, 0, 0, t25⟩ w
  (fun outP_3 outN_3 outC_3 w1_7 =>
  R outP_3 outN_3 outC_3 w1_7)))

def lit_ref03_Pool_Runs_L1 (f : (Option Addr) × Int) (s : S_ref03_Pool_Runs_L1) : Env := [⟨0, .pointer f.1, none⟩, ⟨1, .int .i64 f.2, none⟩, ⟨5, .slice s.outP s.outN s.outC, none⟩, ⟨6, .int .i64 s.i, none⟩]

def dec_ref03_Pool_Runs_L1 (e : Env) (K : ((Option Addr) × Int) → S_ref03_Pool_Runs_L1 → Prop) : Prop :=
  onV (getV e 0) fun u1 =>
  asP u1 fun p_1 =>
  onV (getV e 1) fun u2 =>
  asI .i64 u2 fun sx_1 =>
  onV (getV e 5) fun u3 =>
  asS u3 fun outP outN outC =>
  onV (getV e 6) fun u4 =>
  asI .i64 u4 fun i =>
    K (p_1, sx_1) ⟨outP, outN, outC, i⟩

theorem dec_ref03_Pool_Runs_L1_ok {N : Nat} (e : Env) (a : Act) (K : ((Option Addr) × Int) → S_ref03_Pool_Runs_L1 → Prop) (hr : Rep N a e) (h0 : dec_ref03_Pool_Runs_L1 e K) : ∃ f s, K f s ∧ Rep N a (lit_ref03_Pool_Runs_L1 f s) := by
  unfold dec_ref03_Pool_Runs_L1 at h0
  obtain ⟨u1, g0, h1⟩ := onV_elim h0
  obtain ⟨p_1, rfl, h2⟩ := asP_elim h1
  obtain ⟨u2, g1, h3⟩ := onV_elim h2
  obtain ⟨sx_1, rfl, h4⟩ := asI_elim h3
  obtain ⟨u3, g5, h5⟩ := onV_elim h4
  obtain ⟨outP, outN, outC, rfl, h6⟩ := asS_elim h5
  obtain ⟨u4, g6, h7⟩ := onV_elim h6
  obtain ⟨i, rfl, h8⟩ := asI_elim h7
  exact ⟨_, _, h8, rep_less hr (by simp [lit_ref03_Pool_Runs_L1, g0, g1, g5, g6])⟩

def spec_ref03_Pool_Runs_L1 (Q : Post) (e : Env) (w : World) : Prop :=
  dec_ref03_Pool_Runs_L1 e fun f s => F_ref03_Pool_Runs_L1 f.1 f.2 s w (fun outP_1 outN_1 outC_1 w1 => Q (.exit 0) [⟨5, .slice outP_1 outN_1 outC_1, none⟩] w1)

def G_ref03_Pool_Runs : Gen where
  loop := lookL [([false, true, false, true, true, true], spec_ref03_Pool_Runs_L1)]
  plan := fun id =>
    bif Nat.beq id 9 then some ([0, 1, 3, 7, 7, 23, 63, 127, 255, 7, 7, 1031, 3591, 7687, 15879, 32767, 7, 131071, 262143], .take 0 (.take 1 (.take 2 (.take 3 (.take 4 (.take 5 (.take 6 (.take 7 (.take 8 (.take 9 (.take 10 (.take 11 (.take 12 (.take 13 (.take 14 (.take 15 (.take 16 (.take 17 (.take 18 .done))))))))))))))))))) else none

def dx_ref03_Pool_Runs_L1_0 (e : Env) (K : ((Option Addr) × Int) → Option Addr → Nat → Nat → Prop) : Prop :=
  onV (getV e 0) fun u1 =>
  asP u1 fun p_1 =>
  onV (getV e 1) fun u2 =>
  asI .i64 u2 fun sx_1 =>
  onV (getV e 5) fun u3 =>
  asS u3 fun outP_1 outN_1 outC_1 =>
    K (p_1, sx_1) outP_1 outN_1 outC_1

theorem body_ref03_Pool_Runs_L1 (f : (Option Addr) × Int) (s : S_ref03_Pool_Runs_L1) (w : World) (Kn : ((Option Addr) × Int) → S_ref03_Pool_Runs_L1 → World → Prop) (Kx0 : ((Option Addr) × Int) → Option Addr → Nat → Nat → World → Prop) :
    B_ref03_Pool_Runs_L1 f.1 f.2 s w (fun s1 w1 => Kn f s1 w1) (fun outP_1 outN_1 outC_1 w1 => Kx0 f outP_1 outN_1 outC_1 w1) =
    den Try.prog Try.f45.ntmps G_ref03_Pool_Runs (sub (codeOf Try.f45) [false, false, true, false, true, true, true]) [false, false, true, false, true, true, true] (roundQ (fun e w => dec_ref03_Pool_Runs_L1 e fun f s => Kn f s w) (fun e w => False) (fun id e w => match Nat.beq id 0 with | true => dx_ref03_Pool_Runs_L1_0 e fun f outP_1 outN_1 outC_1 => Kx0 f outP_1 outN_1 outC_1 w | false => False)) (lit_ref03_Pool_Runs_L1 f s) w := by kernel_rfl

theorem ok_ref03_Pool_Runs_L1 : OneOk Try.prog Try.f45.ntmps G_ref03_Pool_Runs (codeOf Try.f45) [false, true, false, true, true, true] spec_ref03_Pool_Runs_L1 := by
  intro c hc ih Q e w a hr h
  have hcc : sub (codeOf Try.f45) [false, false, true, false, true, true, true] = c := sub_of_codeAt hc
  obtain ⟨f, s, h, hrep⟩ := dec_ref03_Pool_Runs_L1_ok e a _ hr h
  obtain ⟨J, μ, hj, hround⟩ := h
  refine loop_rule_deep seat_ok seat_mixed ih lit_ref03_Pool_Runs_L1 dec_ref03_Pool_Runs_L1 dec_ref03_Pool_Runs_L1_ok hc f J μ (Kr := fun e w => False) (Kx := fun id e w => match Nat.beq id 0 with | true => (dx_ref03_Pool_Runs_L1_0 e fun f1 outP_1 outN_1 outC_1 => f1 = f ∧ Q (.exit 0) [⟨5, .slice outP_1 outN_1 outC_1, none⟩] w) | false => False) ?_ ?_ ?_ s w a hj hrep
  · intro e a w hr h
    exact h.elim
  · intro id e a w hr h0
    (try dsimp only at h0)
    split at h0
    · rename_i hid
      obtain rfl := Nat.eq_of_beq_eq_true hid
      unfold dx_ref03_Pool_Runs_L1_0 at h0
      obtain ⟨u1, g0, h1⟩ := onV_elim h0
      obtain ⟨p_1, rfl, h2⟩ := asP_elim h1
      obtain ⟨u2, g1, h3⟩ := onV_elim h2
      obtain ⟨sx_1, rfl, h4⟩ := asI_elim h3
      obtain ⟨u3, g5, h5⟩ := onV_elim h4
      obtain ⟨outP_1, outN_1, outC_1, rfl, h6⟩ := asS_elim h5
      obtain ⟨hf, hq⟩ := h6
      subst hf
      exact ⟨_, rep_less hr (by simp [g5]), hq⟩
    · exact h0.elim
  · intro s w hj
    have hb := hround s w hj
    rw [← hcc]
    have e1 := body_ref03_Pool_Runs_L1 f s w (fun f1 s1 w1 => f1 = f ∧ J s1 w1 ∧ μ s1 w1 < μ s w) (fun f1 outP_1 outN_1 outC_1 w1 => f1 = f ∧ Q (.exit 0) [⟨5, .slice outP_1 outN_1 outC_1, none⟩] w1)
    simp only [true_and] at e1
    exact cast e1 hb

theorem loops_ref03_Pool_Runs : LoopOk Try.prog Try.f45.ntmps G_ref03_Pool_Runs (codeOf Try.f45) := loopOk_list rfl ⟨ok_ref03_Pool_Runs_L1, trivial⟩

theorem den_ref03_Pool_Runs (p : Option Addr) (sx : Int) (w : World) (R : Value → World → Prop) :
    F_ref03_Pool_Runs p sx w (fun rP rN rC w1 => R (.slice rP rN rC) w1) = den Try.prog Try.f45.ntmps G_ref03_Pool_Runs (codeOf Try.f45) [] (postD Try.prog Try.f45.results.toList R) (entry [.pointer p, .int .i64 sx] 0) w := by kernel_rfl

theorem C_ref03_Pool_Runs.of {p : Option Addr} {sx : Int} {w : World} {R : Option Addr → Nat → Nat → World → Prop} (h : F_ref03_Pool_Runs p sx w R) : C_ref03_Pool_Runs p sx w R := by
  refine (calls_of_den (c := codeOf Try.f45) seat_ok seat_mixed Try.func45 (by kernel_rfl) loops_ref03_Pool_Runs (args := [.pointer p, .int .i64 sx]) rfl (R := fun v w1 => ∃ (rP : Option Addr) (rN : Nat) (rC : Nat), v = (.slice rP rN rC : Value) ∧ R rP rN rC w1) ?_).mono ?_
  · rw [← den_ref03_Pool_Runs]
    have e : (fun rP rN rC w1 => ∃ (rP' : Option Addr) (rN' : Nat) (rC' : Nat), (.slice rP rN rC : Value) = (.slice rP' rN' rC' : Value) ∧ R rP' rN' rC' w1) = R := by
      funext rP rN rC w1
      exact propext ⟨fun ⟨rP', rN', rC', he, h⟩ => by simp at he; simp_all, fun h => ⟨_, _, _, rfl, h⟩⟩
    simpa only [e] using h
  · rintro en w1 ⟨v, he, rP, rN, rC, rfl, h⟩
    exact ⟨_, _, _, he, h⟩

structure S_pool_Pool_sweep_L1 where
  oldP : Option Addr
  oldN : Nat
  oldC : Nat
  n : Int
  atx : Int

def F_pool_Pool_sweep_k6 (s : S_pool_Pool_sweep_L1) (Kn : S_pool_Pool_sweep_L1 → World → Prop) (oldP_2 : Option Addr) (oldN_2 : Nat) (oldC_2 : Nat) (n_4 : Int) (w1_11 : World) : Prop :=
  Kn ⟨oldP_2, oldN_2, oldC_2, n_4, (IntKind.i64.wrap ((s.atx : Int) + (1 : Int)))⟩ w1_11

def F_pool_Pool_sweep_k1 (sx : Addr) (s : S_pool_Pool_sweep_L1) (Kn : S_pool_Pool_sweep_L1 → World → Prop) (oldP_1 : Option Addr) (oldN_1 : Nat) (oldC_1 : Nat) (n_2 : Int) (w1_5 : World) : Prop :=
  C_pool_segment_add (some sx) (s.atx : Int) w1_5 fun w1_6 =>
  F_pool_Pool_sweep_k6 s Kn oldP_1 oldN_1 oldC_1 n_2 w1_6

def F_pool_Pool_sweep_k2 (sx : Addr) (s : S_pool_Pool_sweep_L1) (Kn : S_pool_Pool_sweep_L1 → World → Prop) (At : Int) (oldP_1 : Option Addr) (oldN_1 : Nat) (oldC_1 : Nat) (w1_4 : World) : Prop :=
  If (!(decide (At ≤ (s.atx : Int))))
  (F_pool_Pool_sweep_k1 sx s Kn oldP_1 oldN_1 oldC_1 (IntKind.i64.wrap ((s.n : Int) + (1 : Int))) w1_4)
  (F_pool_Pool_sweep_k1 sx s Kn oldP_1 oldN_1 oldC_1 (s.n : Int) w1_4)

def F_pool_Pool_sweep_k3 (livex_1 : Value) (sx : Addr) (s : S_pool_Pool_sweep_L1) (Kn : S_pool_Pool_sweep_L1 → World → Prop) (At : Int) (oldP_1 : Option Addr) (oldN_1 : Nat) (oldC_1 : Nat) (w1_2 : World) : Prop :=
  If (!(decide (At ≤ (s.atx : Int))))
  (CallV Try.prog livex_1 [.int .i64 s.atx] w1_2 fun v w1_3 => ∃ t69 : Bool, v = (.bool t69) ∧
  If t69
  (F_pool_Pool_sweep_k6 s Kn oldP_1 oldN_1 oldC_1 (s.n : Int) w1_3)
  (F_pool_Pool_sweep_k2 sx s Kn At oldP_1 oldN_1 oldC_1 w1_3))
  (F_pool_Pool_sweep_k2 sx s Kn At oldP_1 oldN_1 oldC_1 w1_2)

def F_pool_Pool_sweep_k4 (sx : Addr) (s : S_pool_Pool_sweep_L1) (Kn : S_pool_Pool_sweep_L1 → World → Prop) (n_3 : Int) (w1_9 : World) : Prop :=
  C_pool_segment_add (some sx) (s.atx : Int) w1_9 fun w1_10 =>
  F_pool_Pool_sweep_k6 s Kn s.oldP s.oldN s.oldC n_3 w1_10

def F_pool_Pool_sweep_k5 (sx : Addr) (s : S_pool_Pool_sweep_L1) (Kn : S_pool_Pool_sweep_L1 → World → Prop) (w1_8 : World) : Prop :=
  If (!false)
  (F_pool_Pool_sweep_k4 sx s Kn (IntKind.i64.wrap ((s.n : Int) + (1 : Int))) w1_8)
  (F_pool_Pool_sweep_k4 sx s Kn (s.n : Int) w1_8)

/-- One round. -/
def B_pool_Pool_sweep_L1 (p_1 : Option Addr) (i_1 : Int) (livex_1 : Value) (sx : Addr) (s : S_pool_Pool_sweep_L1) (w : World) (Kn : S_pool_Pool_sweep_L1 → World → Prop) (Kx0 : Int → World → Prop) : Prop :=
  C_pool_Pool_end p_1 i_1 w fun t32 w1_1 =>
  If (decide ((s.atx : Int) < t32))
  (If (decide ((s.oldN : Int) > (0 : Int)))
  (0 ≤ (0 : Int) ∧ (0 : Int) < (s.oldN : Int) ∧ NN s.oldP fun a_5 =>
  ∃ At : Int, w1_1.cell? ((a_5.add ((0 : Int).toNat * 2)).add 0) = some (.int .i64 At) ∧
  If (decide (At ≤ (s.atx : Int)))
  (0 ≤ (0 : Int) ∧ (0 : Int) < (s.oldN : Int) ∧ NN s.oldP fun a_6 =>
  ∃ At_1 : Int, (drw w1_1).cell? ((a_6.add ((0 : Int).toNat * 2)).add 0) = some (.int .i64 At_1) ∧
  0 ≤ (0 : Int) ∧ (0 : Int) < (s.oldN : Int) ∧ NN s.oldP fun a_7 =>
  ∃ Len : Int, (drw w1_1).cell? ((a_7.add ((0 : Int).toNat * 2)).add 1) = some (.int .i64 Len) ∧
  If ((IntKind.i64.wrap ((IntKind.i64.wrap (At_1 + Len)) - (1 : Int))) == (s.atx : Int))
  (0 ≤ (1 : Int) ∧ (1 : Int) ≤ (s.oldN : Int) ∧
  F_pool_Pool_sweep_k3 livex_1 sx s Kn At (adv s.oldP s.oldC (1 : Int).toNat 2) (s.oldN - (1 : Int).toNat) (s.oldC - (1 : Int).toNat) (drw w1_1))
  (F_pool_Pool_sweep_k3 livex_1 sx s Kn At s.oldP s.oldN s.oldC (drw w1_1)))
  (F_pool_Pool_sweep_k3 livex_1 sx s Kn At s.oldP s.oldN s.oldC (drw w1_1)))
  (If (!false)
  (CallV Try.prog livex_1 [.int .i64 s.atx] (drw w1_1) fun v_1 w1_7 => ∃ t69_1 : Bool, v_1 = (.bool t69_1) ∧
  If t69_1
  (F_pool_Pool_sweep_k6 s Kn s.oldP s.oldN s.oldC (s.n : Int) w1_7)
  (F_pool_Pool_sweep_k5 sx s Kn w1_7))
  (F_pool_Pool_sweep_k5 sx s Kn (drw w1_1))))
  (Kx0 (s.n : Int) w1_1)

def F_pool_Pool_sweep_L1 (p_1 : Option Addr) (i_1 : Int) (livex_1 : Value) (sx : Addr) (s : S_pool_Pool_sweep_L1) (w : World) (Kx0 : Int → World → Prop) : Prop :=
  LoopS (fun s w Kn => B_pool_Pool_sweep_L1 p_1 i_1 livex_1 sx s w Kn Kx0) s w

def F_pool_Pool_sweep (p : Option Addr) (i : Int) (livex : Value) (w : World) (R : Int → World → Prop) : Prop :=
  NN p fun a =>
  ∃ lP : Option Addr, ∃ lN : Nat, ∃ lC : Nat, w.cell? (a.add 0) = some (.slice lP lN lC) ∧
  0 ≤ i ∧ i < (lN : Int) ∧ NN lP fun a_1 =>
  NN (some (a_1.add (i.toNat * 2))) fun a_2 =>
  ∃ runsP : Option Addr, ∃ runsN : Nat, ∃ runsC : Nat, w.cell? (a_2.add 1) = some (.slice runsP runsN runsC) ∧
  NN (some (a_1.add (i.toNat * 2))) fun a_3 =>
  St w ((a_3.add 1).add 0) (.slice none 0 0) fun w1 =>
  NN (some (a_1.add (i.toNat * 2))) fun a_4 =>
  ∃ startx : Int, w1.cell? (a_4.add 0) = some (.int .i64 startx) ∧
  F_pool_Pool_sweep_L1 p i livex (a_1.add (i.toNat * 2)) ⟨runsP, runsN, runsC, (0 : Int), startx⟩ w1
  (fun n_5 w1_12 =>
  R n_5 w1_12)

def lit_pool_Pool_sweep_L1 (f : (Option Addr) × Int × Value × Addr) (s : S_pool_Pool_sweep_L1) : Env := [⟨0, .pointer f.1, none⟩, ⟨1, .int .i64 f.2.1, none⟩, ⟨2, f.2.2.1, none⟩, ⟨7, .pointer (some f.2.2.2), none⟩, ⟨8, .slice s.oldP s.oldN s.oldC, none⟩, ⟨9, .int .i64 s.n, none⟩, ⟨10, .int .i64 s.atx, none⟩]

def dec_pool_Pool_sweep_L1 (e : Env) (K : ((Option Addr) × Int × Value × Addr) → S_pool_Pool_sweep_L1 → Prop) : Prop :=
  onV (getV e 0) fun u1 =>
  asP u1 fun p_1 =>
  onV (getV e 1) fun u2 =>
  asI .i64 u2 fun i_1 =>
  onV (getV e 2) fun u3 =>
  asV u3 fun livex_1 =>
  onV (getV e 7) fun u4 =>
  asA u4 fun sx =>
  onV (getV e 8) fun u5 =>
  asS u5 fun oldP oldN oldC =>
  onV (getV e 9) fun u6 =>
  asI .i64 u6 fun n =>
  onV (getV e 10) fun u7 =>
  asI .i64 u7 fun atx =>
    K (p_1, i_1, livex_1, sx) ⟨oldP, oldN, oldC, n, atx⟩

theorem dec_pool_Pool_sweep_L1_ok {N : Nat} (e : Env) (a : Act) (K : ((Option Addr) × Int × Value × Addr) → S_pool_Pool_sweep_L1 → Prop) (hr : Rep N a e) (h0 : dec_pool_Pool_sweep_L1 e K) : ∃ f s, K f s ∧ Rep N a (lit_pool_Pool_sweep_L1 f s) := by
  unfold dec_pool_Pool_sweep_L1 at h0
  obtain ⟨u1, g0, h1⟩ := onV_elim h0
  obtain ⟨p_1, rfl, h2⟩ := asP_elim h1
  obtain ⟨u2, g1, h3⟩ := onV_elim h2
  obtain ⟨i_1, rfl, h4⟩ := asI_elim h3
  obtain ⟨u3, g2, h5⟩ := onV_elim h4
  obtain ⟨livex_1, rfl, h6⟩ := asV_elim h5
  obtain ⟨u4, g7, h7⟩ := onV_elim h6
  obtain ⟨sx, rfl, h8⟩ := asA_elim h7
  obtain ⟨u5, g8, h9⟩ := onV_elim h8
  obtain ⟨oldP, oldN, oldC, rfl, h10⟩ := asS_elim h9
  obtain ⟨u6, g9, h11⟩ := onV_elim h10
  obtain ⟨n, rfl, h12⟩ := asI_elim h11
  obtain ⟨u7, g10, h13⟩ := onV_elim h12
  obtain ⟨atx, rfl, h14⟩ := asI_elim h13
  exact ⟨_, _, h14, rep_less hr (by simp [lit_pool_Pool_sweep_L1, g0, g1, g2, g7, g8, g9, g10])⟩

def spec_pool_Pool_sweep_L1 (Q : Post) (e : Env) (w : World) : Prop :=
  dec_pool_Pool_sweep_L1 e fun f s => F_pool_Pool_sweep_L1 f.1 f.2.1 f.2.2.1 f.2.2.2 s w (fun n_1 w1 => Q (.exit 0) [⟨9, .int .i64 n_1, none⟩] w1)

def G_pool_Pool_sweep : Gen where
  loop := lookL [([false, true, false, true, true, true, true, true], spec_pool_Pool_sweep_L1)]
  plan := fun id =>
    bif Nat.beq id 9 then some ([0, 1, 3, 7, 15, 31, 3, 67, 195, 451, 1023, 2047, 3, 8191, 16383], .take 0 (.take 1 (.take 2 (.take 3 (.take 4 (.take 5 (.take 6 (.take 7 (.take 8 (.take 9 (.take 10 (.take 11 (.take 12 (.take 13 (.take 14 .done))))))))))))))) else none

def dx_pool_Pool_sweep_L1_0 (e : Env) (K : ((Option Addr) × Int × Value × Addr) → Int → Prop) : Prop :=
  onV (getV e 0) fun u1 =>
  asP u1 fun p_1 =>
  onV (getV e 1) fun u2 =>
  asI .i64 u2 fun i_1 =>
  onV (getV e 2) fun u3 =>
  asV u3 fun livex_1 =>
  onV (getV e 7) fun u4 =>
  asA u4 fun sx =>
  onV (getV e 9) fun u5 =>
  asI .i64 u5 fun n_1 =>
    K (p_1, i_1, livex_1, sx) n_1

theorem body_pool_Pool_sweep_L1 (f : (Option Addr) × Int × Value × Addr) (s : S_pool_Pool_sweep_L1) (w : World) (Kn : ((Option Addr) × Int × Value × Addr) → S_pool_Pool_sweep_L1 → World → Prop) (Kx0 : ((Option Addr) × Int × Value × Addr) → Int → World → Prop) :
    B_pool_Pool_sweep_L1 f.1 f.2.1 f.2.2.1 f.2.2.2 s w (fun s1 w1 => Kn f s1 w1) (fun n_1 w1 => Kx0 f n_1 w1) =
    den Try.prog Try.f46.ntmps G_pool_Pool_sweep (sub (codeOf Try.f46) [false, false, true, false, true, true, true, true, true]) [false, false, true, false, true, true, true, true, true] (roundQ (fun e w => dec_pool_Pool_sweep_L1 e fun f s => Kn f s w) (fun e w => False) (fun id e w => match Nat.beq id 0 with | true => dx_pool_Pool_sweep_L1_0 e fun f n_1 => Kx0 f n_1 w | false => False)) (lit_pool_Pool_sweep_L1 f s) w := by kernel_rfl

theorem ok_pool_Pool_sweep_L1 : OneOk Try.prog Try.f46.ntmps G_pool_Pool_sweep (codeOf Try.f46) [false, true, false, true, true, true, true, true] spec_pool_Pool_sweep_L1 := by
  intro c hc ih Q e w a hr h
  have hcc : sub (codeOf Try.f46) [false, false, true, false, true, true, true, true, true] = c := sub_of_codeAt hc
  obtain ⟨f, s, h, hrep⟩ := dec_pool_Pool_sweep_L1_ok e a _ hr h
  obtain ⟨J, μ, hj, hround⟩ := h
  refine loop_rule_deep seat_ok seat_mixed ih lit_pool_Pool_sweep_L1 dec_pool_Pool_sweep_L1 dec_pool_Pool_sweep_L1_ok hc f J μ (Kr := fun e w => False) (Kx := fun id e w => match Nat.beq id 0 with | true => (dx_pool_Pool_sweep_L1_0 e fun f1 n_1 => f1 = f ∧ Q (.exit 0) [⟨9, .int .i64 n_1, none⟩] w) | false => False) ?_ ?_ ?_ s w a hj hrep
  · intro e a w hr h
    exact h.elim
  · intro id e a w hr h0
    (try dsimp only at h0)
    split at h0
    · rename_i hid
      obtain rfl := Nat.eq_of_beq_eq_true hid
      unfold dx_pool_Pool_sweep_L1_0 at h0
      obtain ⟨u1, g0, h1⟩ := onV_elim h0
      obtain ⟨p_1, rfl, h2⟩ := asP_elim h1
      obtain ⟨u2, g1, h3⟩ := onV_elim h2
      obtain ⟨i_1, rfl, h4⟩ := asI_elim h3
      obtain ⟨u3, g2, h5⟩ := onV_elim h4
      obtain ⟨livex_1, rfl, h6⟩ := asV_elim h5
      obtain ⟨u4, g7, h7⟩ := onV_elim h6
      obtain ⟨sx, rfl, h8⟩ := asA_elim h7
      obtain ⟨u5, g9, h9⟩ := onV_elim h8
      obtain ⟨n_1, rfl, h10⟩ := asI_elim h9
      obtain ⟨hf, hq⟩ := h10
      subst hf
      exact ⟨_, rep_less hr (by simp [g9]), hq⟩
    · exact h0.elim
  · intro s w hj
    have hb := hround s w hj
    rw [← hcc]
    have e1 := body_pool_Pool_sweep_L1 f s w (fun f1 s1 w1 => f1 = f ∧ J s1 w1 ∧ μ s1 w1 < μ s w) (fun f1 n_1 w1 => f1 = f ∧ Q (.exit 0) [⟨9, .int .i64 n_1, none⟩] w1)
    simp only [true_and] at e1
    exact cast e1 hb

theorem loops_pool_Pool_sweep : LoopOk Try.prog Try.f46.ntmps G_pool_Pool_sweep (codeOf Try.f46) := loopOk_list rfl ⟨ok_pool_Pool_sweep_L1, trivial⟩

theorem den_pool_Pool_sweep (p : Option Addr) (i : Int) (livex : Value) (w : World) (R : Value → World → Prop) :
    F_pool_Pool_sweep p i livex w (fun r w1 => R (.int .i64 r) w1) = den Try.prog Try.f46.ntmps G_pool_Pool_sweep (codeOf Try.f46) [] (postD Try.prog Try.f46.results.toList R) (entry [.pointer p, .int .i64 i, livex] 0) w := by kernel_rfl

theorem C_pool_Pool_sweep.of {p : Option Addr} {i : Int} {livex : Value} {w : World} {R : Int → World → Prop} (h : F_pool_Pool_sweep p i livex w R) : C_pool_Pool_sweep p i livex w R := by
  refine (calls_of_den (c := codeOf Try.f46) seat_ok seat_mixed Try.func46 (by kernel_rfl) loops_pool_Pool_sweep (args := [.pointer p, .int .i64 i, livex]) rfl (R := fun v w1 => ∃ (r : Int), v = (.int .i64 r : Value) ∧ R r w1) ?_).mono ?_
  · rw [← den_pool_Pool_sweep]
    have e : (fun r w1 => ∃ (r' : Int), (.int .i64 r : Value) = (.int .i64 r' : Value) ∧ R r' w1) = R := by
      funext r w1
      exact propext ⟨fun ⟨r', he, h⟩ => by simp at he; simp_all, fun h => ⟨_, rfl, h⟩⟩
    simpa only [e] using h
  · rintro en w1 ⟨v, he, r, rfl, h⟩
    exact ⟨_, he, h⟩

structure S_slices_BinarySearchFunc_L1 where
  i : Int
  j : Int

/-- One round. -/
def B_slices_BinarySearchFunc_L1 (xP_1 : Option Addr) (xN_1 : Nat) (xC_1 : Nat) (target_1 : Int) (cmp_1 : Value) (n : Int) (s : S_slices_BinarySearchFunc_L1) (w : World) (Kn : S_slices_BinarySearchFunc_L1 → World → Prop) (Kx0 : Int → World → Prop) : Prop :=
  If (decide ((s.i : Int) < (s.j : Int)))
  (0 ≤ (1 : Int) ∧
  0 ≤ (IntKind.i64.wrap (shrI .u64 (IntKind.u64.wrap (IntKind.i64.wrap ((s.i : Int) + (s.j : Int)))) (1 : Int))) ∧ (IntKind.i64.wrap (shrI .u64 (IntKind.u64.wrap (IntKind.i64.wrap ((s.i : Int) + (s.j : Int)))) (1 : Int))) < (xN_1 : Int) ∧ NN xP_1 fun a =>
  ∃ t280 : Int, w.cell? ((a.add ((IntKind.i64.wrap (shrI .u64 (IntKind.u64.wrap (IntKind.i64.wrap ((s.i : Int) + (s.j : Int)))) (1 : Int))).toNat * 2)).add 0) = some (.int .i64 t280) ∧
  ∃ t281P : Option Addr, ∃ t281N : Nat, ∃ t281C : Nat, w.cell? ((a.add ((IntKind.i64.wrap (shrI .u64 (IntKind.u64.wrap (IntKind.i64.wrap ((s.i : Int) + (s.j : Int)))) (1 : Int))).toNat * 2)).add 1) = some (.slice t281P t281N t281C) ∧
  CallV Try.prog cmp_1 [.agg #[.int .i64 t280, .slice t281P t281N t281C], .int .i64 target_1] w fun v w1 => ∃ t30 : Int, v = (.int .i64 t30) ∧
  If (decide (t30 < (0 : Int)))
  (Kn ⟨(IntKind.i64.wrap ((IntKind.i64.wrap (shrI .u64 (IntKind.u64.wrap (IntKind.i64.wrap ((s.i : Int) + (s.j : Int)))) (1 : Int))) + (1 : Int))), (s.j : Int)⟩ w1)
  (Kn ⟨(s.i : Int), (IntKind.i64.wrap (shrI .u64 (IntKind.u64.wrap (IntKind.i64.wrap ((s.i : Int) + (s.j : Int)))) (1 : Int)))⟩ w1))
  (Kx0 (s.i : Int) w)

def F_slices_BinarySearchFunc_L1 (xP_1 : Option Addr) (xN_1 : Nat) (xC_1 : Nat) (target_1 : Int) (cmp_1 : Value) (n : Int) (s : S_slices_BinarySearchFunc_L1) (w : World) (Kx0 : Int → World → Prop) : Prop :=
  LoopS (fun s w Kn => B_slices_BinarySearchFunc_L1 xP_1 xN_1 xC_1 target_1 cmp_1 n s w Kn Kx0) s w

def F_slices_BinarySearchFunc (xP : Option Addr) (xN : Nat) (xC : Nat) (target : Int) (cmp : Value) (w : World) (R : Int → Bool → World → Prop) : Prop :=
  F_slices_BinarySearchFunc_L1 xP xN xC target cmp (xN : Int) ⟨(0 : Int), (xN : Int)⟩ w
  (fun i_2 w1_1 =>
  If (decide (i_2 < (xN : Int)))
  (0 ≤ i_2 ∧ i_2 < (xN : Int) ∧ NN xP fun a_1 =>
  ∃ t440 : Int, w1_1.cell? ((a_1.add (i_2.toNat * 2)).add 0) = some (.int .i64 t440) ∧
  ∃ t441P : Option Addr, ∃ t441N : Nat, ∃ t441C : Nat, w1_1.cell? ((a_1.add (i_2.toNat * 2)).add 1) = some (.slice t441P t441N t441C) ∧
  CallV Try.prog cmp [.agg #[.int .i64 t440, .slice t441P t441N t441C], .int .i64 target] w1_1 fun v_1 w1_2 => ∃ t46 : Int, v_1 = (.int .i64 t46) ∧
  R i_2 (t46 == (0 : Int)) w1_2)
  (R i_2 false w1_1))

def lit_slices_BinarySearchFunc_L1 (f : (Option Addr) × Nat × Nat × Int × Value × Int) (s : S_slices_BinarySearchFunc_L1) : Env := [⟨0, .slice f.1 f.2.1 f.2.2.1, none⟩, ⟨1, .int .i64 f.2.2.2.1, none⟩, ⟨2, f.2.2.2.2.1, none⟩, ⟨8, .int .i64 f.2.2.2.2.2, none⟩, ⟨9, .int .i64 s.i, none⟩, ⟨10, .int .i64 s.j, none⟩]

def dec_slices_BinarySearchFunc_L1 (e : Env) (K : ((Option Addr) × Nat × Nat × Int × Value × Int) → S_slices_BinarySearchFunc_L1 → Prop) : Prop :=
  onV (getV e 0) fun u1 =>
  asS u1 fun xP_1 xN_1 xC_1 =>
  onV (getV e 1) fun u2 =>
  asI .i64 u2 fun target_1 =>
  onV (getV e 2) fun u3 =>
  asV u3 fun cmp_1 =>
  onV (getV e 8) fun u4 =>
  asI .i64 u4 fun n =>
  onV (getV e 9) fun u5 =>
  asI .i64 u5 fun i =>
  onV (getV e 10) fun u6 =>
  asI .i64 u6 fun j =>
    K (xP_1, xN_1, xC_1, target_1, cmp_1, n) ⟨i, j⟩

theorem dec_slices_BinarySearchFunc_L1_ok {N : Nat} (e : Env) (a : Act) (K : ((Option Addr) × Nat × Nat × Int × Value × Int) → S_slices_BinarySearchFunc_L1 → Prop) (hr : Rep N a e) (h0 : dec_slices_BinarySearchFunc_L1 e K) : ∃ f s, K f s ∧ Rep N a (lit_slices_BinarySearchFunc_L1 f s) := by
  unfold dec_slices_BinarySearchFunc_L1 at h0
  obtain ⟨u1, g0, h1⟩ := onV_elim h0
  obtain ⟨xP_1, xN_1, xC_1, rfl, h2⟩ := asS_elim h1
  obtain ⟨u2, g1, h3⟩ := onV_elim h2
  obtain ⟨target_1, rfl, h4⟩ := asI_elim h3
  obtain ⟨u3, g2, h5⟩ := onV_elim h4
  obtain ⟨cmp_1, rfl, h6⟩ := asV_elim h5
  obtain ⟨u4, g8, h7⟩ := onV_elim h6
  obtain ⟨n, rfl, h8⟩ := asI_elim h7
  obtain ⟨u5, g9, h9⟩ := onV_elim h8
  obtain ⟨i, rfl, h10⟩ := asI_elim h9
  obtain ⟨u6, g10, h11⟩ := onV_elim h10
  obtain ⟨j, rfl, h12⟩ := asI_elim h11
  exact ⟨_, _, h12, rep_less hr (by simp [lit_slices_BinarySearchFunc_L1, g0, g1, g2, g8, g9, g10])⟩

def spec_slices_BinarySearchFunc_L1 (Q : Post) (e : Env) (w : World) : Prop :=
  dec_slices_BinarySearchFunc_L1 e fun f s => F_slices_BinarySearchFunc_L1 f.1 f.2.1 f.2.2.1 f.2.2.2.1 f.2.2.2.2.1 f.2.2.2.2.2 s w (fun i_1 w1 => Q (.exit 0) [⟨0, .slice f.1 f.2.1 f.2.2.1, none⟩, ⟨1, .int .i64 f.2.2.2.1, none⟩, ⟨2, f.2.2.2.2.1, none⟩, ⟨8, .int .i64 f.2.2.2.2.2, none⟩, ⟨9, .int .i64 i_1, none⟩] w1)

def G_slices_BinarySearchFunc : Gen where
  loop := lookL [([false, false, true, true, true], spec_slices_BinarySearchFunc_L1)]
  plan := fun _ => none

def dx_slices_BinarySearchFunc_L1_0 (e : Env) (K : ((Option Addr) × Nat × Nat × Int × Value × Int) → Int → Prop) : Prop :=
  onV (getV e 0) fun u1 =>
  asS u1 fun xP_1 xN_1 xC_1 =>
  onV (getV e 1) fun u2 =>
  asI .i64 u2 fun target_1 =>
  onV (getV e 2) fun u3 =>
  asV u3 fun cmp_1 =>
  onV (getV e 8) fun u4 =>
  asI .i64 u4 fun n =>
  onV (getV e 9) fun u5 =>
  asI .i64 u5 fun i_1 =>
    K (xP_1, xN_1, xC_1, target_1, cmp_1, n) i_1

theorem body_slices_BinarySearchFunc_L1 (f : (Option Addr) × Nat × Nat × Int × Value × Int) (s : S_slices_BinarySearchFunc_L1) (w : World) (Kn : ((Option Addr) × Nat × Nat × Int × Value × Int) → S_slices_BinarySearchFunc_L1 → World → Prop) (Kx0 : ((Option Addr) × Nat × Nat × Int × Value × Int) → Int → World → Prop) :
    B_slices_BinarySearchFunc_L1 f.1 f.2.1 f.2.2.1 f.2.2.2.1 f.2.2.2.2.1 f.2.2.2.2.2 s w (fun s1 w1 => Kn f s1 w1) (fun i_1 w1 => Kx0 f i_1 w1) =
    den Try.prog Try.f47.ntmps G_slices_BinarySearchFunc (sub (codeOf Try.f47) [false, false, false, true, true, true]) [false, false, false, true, true, true] (roundQ (fun e w => dec_slices_BinarySearchFunc_L1 e fun f s => Kn f s w) (fun e w => False) (fun id e w => match Nat.beq id 0 with | true => dx_slices_BinarySearchFunc_L1_0 e fun f i_1 => Kx0 f i_1 w | false => False)) (lit_slices_BinarySearchFunc_L1 f s) w := by kernel_rfl

theorem ok_slices_BinarySearchFunc_L1 : OneOk Try.prog Try.f47.ntmps G_slices_BinarySearchFunc (codeOf Try.f47) [false, false, true, true, true] spec_slices_BinarySearchFunc_L1 := by
  intro c hc ih Q e w a hr h
  have hcc : sub (codeOf Try.f47) [false, false, false, true, true, true] = c := sub_of_codeAt hc
  obtain ⟨f, s, h, hrep⟩ := dec_slices_BinarySearchFunc_L1_ok e a _ hr h
  obtain ⟨J, μ, hj, hround⟩ := h
  refine loop_rule_deep seat_ok seat_mixed ih lit_slices_BinarySearchFunc_L1 dec_slices_BinarySearchFunc_L1 dec_slices_BinarySearchFunc_L1_ok hc f J μ (Kr := fun e w => False) (Kx := fun id e w => match Nat.beq id 0 with | true => (dx_slices_BinarySearchFunc_L1_0 e fun f1 i_1 => f1 = f ∧ Q (.exit 0) [⟨0, .slice f.1 f.2.1 f.2.2.1, none⟩, ⟨1, .int .i64 f.2.2.2.1, none⟩, ⟨2, f.2.2.2.2.1, none⟩, ⟨8, .int .i64 f.2.2.2.2.2, none⟩, ⟨9, .int .i64 i_1, none⟩] w) | false => False) ?_ ?_ ?_ s w a hj hrep
  · intro e a w hr h
    exact h.elim
  · intro id e a w hr h0
    (try dsimp only at h0)
    split at h0
    · rename_i hid
      obtain rfl := Nat.eq_of_beq_eq_true hid
      unfold dx_slices_BinarySearchFunc_L1_0 at h0
      obtain ⟨u1, g0, h1⟩ := onV_elim h0
      obtain ⟨xP_1, xN_1, xC_1, rfl, h2⟩ := asS_elim h1
      obtain ⟨u2, g1, h3⟩ := onV_elim h2
      obtain ⟨target_1, rfl, h4⟩ := asI_elim h3
      obtain ⟨u3, g2, h5⟩ := onV_elim h4
      obtain ⟨cmp_1, rfl, h6⟩ := asV_elim h5
      obtain ⟨u4, g8, h7⟩ := onV_elim h6
      obtain ⟨n, rfl, h8⟩ := asI_elim h7
      obtain ⟨u5, g9, h9⟩ := onV_elim h8
      obtain ⟨i_1, rfl, h10⟩ := asI_elim h9
      obtain ⟨hf, hq⟩ := h10
      subst hf
      exact ⟨_, rep_less hr (by simp [g0, g1, g2, g8, g9]), hq⟩
    · exact h0.elim
  · intro s w hj
    have hb := hround s w hj
    rw [← hcc]
    have e1 := body_slices_BinarySearchFunc_L1 f s w (fun f1 s1 w1 => f1 = f ∧ J s1 w1 ∧ μ s1 w1 < μ s w) (fun f1 i_1 w1 => f1 = f ∧ Q (.exit 0) [⟨0, .slice f.1 f.2.1 f.2.2.1, none⟩, ⟨1, .int .i64 f.2.2.2.1, none⟩, ⟨2, f.2.2.2.2.1, none⟩, ⟨8, .int .i64 f.2.2.2.2.2, none⟩, ⟨9, .int .i64 i_1, none⟩] w1)
    simp only [true_and] at e1
    exact cast e1 hb

theorem loops_slices_BinarySearchFunc : LoopOk Try.prog Try.f47.ntmps G_slices_BinarySearchFunc (codeOf Try.f47) := loopOk_list rfl ⟨ok_slices_BinarySearchFunc_L1, trivial⟩

theorem den_slices_BinarySearchFunc (xP : Option Addr) (xN : Nat) (xC : Nat) (target : Int) (cmp : Value) (w : World) (R : Value → World → Prop) :
    F_slices_BinarySearchFunc xP xN xC target cmp w (fun r0 r1 w1 => R (.tuple #[.int .i64 r0, .bool r1]) w1) = den Try.prog Try.f47.ntmps G_slices_BinarySearchFunc (codeOf Try.f47) [] (postD Try.prog Try.f47.results.toList R) (entry [.slice xP xN xC, .int .i64 target, cmp] 0) w := by kernel_rfl

theorem C_slices_BinarySearchFunc.of {xP : Option Addr} {xN : Nat} {xC : Nat} {target : Int} {cmp : Value} {w : World} {R : Int → Bool → World → Prop} (h : F_slices_BinarySearchFunc xP xN xC target cmp w R) : C_slices_BinarySearchFunc xP xN xC target cmp w R := by
  refine (calls_of_den (c := codeOf Try.f47) seat_ok seat_mixed Try.func47 (by kernel_rfl) loops_slices_BinarySearchFunc (args := [.slice xP xN xC, .int .i64 target, cmp]) rfl (R := fun v w1 => ∃ (r0 : Int) (r1 : Bool), v = (.tuple #[.int .i64 r0, .bool r1] : Value) ∧ R r0 r1 w1) ?_).mono ?_
  · rw [← den_slices_BinarySearchFunc]
    have e : (fun r0 r1 w1 => ∃ (r0' : Int) (r1' : Bool), (.tuple #[.int .i64 r0, .bool r1] : Value) = (.tuple #[.int .i64 r0', .bool r1'] : Value) ∧ R r0' r1' w1) = R := by
      funext r0 r1 w1
      exact propext ⟨fun ⟨r0', r1', he, h⟩ => by simp at he; simp_all, fun h => ⟨_, _, rfl, h⟩⟩
    simpa only [e] using h
  · rintro en w1 ⟨v, he, r0, r1, rfl, h⟩
    exact ⟨_, _, he, h⟩

def F_pool_Pool_Segment_1 (s0x : Int) (s1P : Option Addr) (s1N : Nat) (s1C : Nat) (atx : Int) (w : World) (R : Int → World → Prop) : Prop :=
  New w (.cells #[.int .i64 s0x, .slice s1P s1N s1C] 53) fun r w1 =>
  ∃ startx : Int, w1.cell? ((⟨r, 0, none⟩ : Addr).add 0) = some (.int .i64 startx) ∧
  C_cmp_Compare startx atx w1 fun t8 w1_1 =>
  R t8 w1_1

def G_pool_Pool_Segment_1 : Gen where
  loop := lookL []
  plan := fun _ => none

theorem loops_pool_Pool_Segment_1 : LoopOk Try.prog Try.f48.ntmps G_pool_Pool_Segment_1 (codeOf Try.f48) := loopOk_none fun _ => rfl

theorem den_pool_Pool_Segment_1 (s0x : Int) (s1P : Option Addr) (s1N : Nat) (s1C : Nat) (atx : Int) (w : World) (R : Value → World → Prop) :
    F_pool_Pool_Segment_1 s0x s1P s1N s1C atx w (fun r w1 => R (.int .i64 r) w1) = den Try.prog Try.f48.ntmps G_pool_Pool_Segment_1 (codeOf Try.f48) [] (postD Try.prog Try.f48.results.toList R) (entry [.agg #[.int .i64 s0x, .slice s1P s1N s1C], .int .i64 atx] 0) w := by kernel_rfl

theorem C_pool_Pool_Segment_1.of {s0x : Int} {s1P : Option Addr} {s1N : Nat} {s1C : Nat} {atx : Int} {w : World} {R : Int → World → Prop} (h : F_pool_Pool_Segment_1 s0x s1P s1N s1C atx w R) : C_pool_Pool_Segment_1 s0x s1P s1N s1C atx w R := by
  refine (calls_of_den (c := codeOf Try.f48) seat_ok seat_mixed Try.func48 (by kernel_rfl) loops_pool_Pool_Segment_1 (args := [.agg #[.int .i64 s0x, .slice s1P s1N s1C], .int .i64 atx]) rfl (R := fun v w1 => ∃ (r : Int), v = (.int .i64 r : Value) ∧ R r w1) ?_).mono ?_
  · rw [← den_pool_Pool_Segment_1]
    have e : (fun r w1 => ∃ (r' : Int), (.int .i64 r : Value) = (.int .i64 r' : Value) ∧ R r' w1) = R := by
      funext r w1
      exact propext ⟨fun ⟨r', he, h⟩ => by simp at he; simp_all, fun h => ⟨_, rfl, h⟩⟩
    simpa only [e] using h
  · rintro en w1 ⟨v, he, r, rfl, h⟩
    exact ⟨_, he, h⟩

def F_cmp_Compare (x : Int) (y : Int) (w : World) (R : Int → World → Prop) : Prop :=
  C_cmp_isNaN x w fun t8 w1 =>
  C_cmp_isNaN y w1 fun t10 w1_1 =>
  If t8
  (If t10
  (R (0 : Int) w1_1)
  (R (-1) w1_1))
  (If t10
  (R (1 : Int) w1_1)
  (If (decide (x < y))
  (R (-1) w1_1)
  (If (decide (x > y))
  (R (1 : Int) w1_1)
  (R (0 : Int) w1_1))))

def G_cmp_Compare : Gen where
  loop := lookL []
  plan := fun _ => none

theorem loops_cmp_Compare : LoopOk Try.prog Try.f49.ntmps G_cmp_Compare (codeOf Try.f49) := loopOk_none fun _ => rfl

theorem den_cmp_Compare (x : Int) (y : Int) (w : World) (R : Value → World → Prop) :
    F_cmp_Compare x y w (fun r w1 => R (.int .i64 r) w1) = den Try.prog Try.f49.ntmps G_cmp_Compare (codeOf Try.f49) [] (postD Try.prog Try.f49.results.toList R) (entry [.int .i64 x, .int .i64 y] 0) w := by kernel_rfl

theorem C_cmp_Compare.of {x : Int} {y : Int} {w : World} {R : Int → World → Prop} (h : F_cmp_Compare x y w R) : C_cmp_Compare x y w R := by
  refine (calls_of_den (c := codeOf Try.f49) seat_ok seat_mixed Try.func49 (by kernel_rfl) loops_cmp_Compare (args := [.int .i64 x, .int .i64 y]) rfl (R := fun v w1 => ∃ (r : Int), v = (.int .i64 r : Value) ∧ R r w1) ?_).mono ?_
  · rw [← den_cmp_Compare]
    have e : (fun r w1 => ∃ (r' : Int), (.int .i64 r : Value) = (.int .i64 r' : Value) ∧ R r' w1) = R := by
      funext r w1
      exact propext ⟨fun ⟨r', he, h⟩ => by simp at he; simp_all, fun h => ⟨_, rfl, h⟩⟩
    simpa only [e] using h
  · rintro en w1 ⟨v, he, r, rfl, h⟩
    exact ⟨_, he, h⟩

def F_pool_segment_place (sx : Option Addr) (atx : Int) (w : World) (R : Int → World → Prop) : Prop :=
  NN sx fun a =>
  ∃ runsP : Option Addr, ∃ runsN : Nat, ∃ runsC : Nat, w.cell? (a.add 1) = some (.slice runsP runsN runsC) ∧
  C_slices_BinarySearchFunc__2 runsP runsN runsC atx (.func (.func 58) #[] #[]) w fun t130 t131 w1 =>
  R t130 w1

def G_pool_segment_place : Gen where
  loop := lookL []
  plan := fun _ => none

theorem loops_pool_segment_place : LoopOk Try.prog Try.f50.ntmps G_pool_segment_place (codeOf Try.f50) := loopOk_none fun _ => rfl

theorem den_pool_segment_place (sx : Option Addr) (atx : Int) (w : World) (R : Value → World → Prop) :
    F_pool_segment_place sx atx w (fun r w1 => R (.int .i64 r) w1) = den Try.prog Try.f50.ntmps G_pool_segment_place (codeOf Try.f50) [] (postD Try.prog Try.f50.results.toList R) (entry [.pointer sx, .int .i64 atx] 0) w := by kernel_rfl

theorem C_pool_segment_place.of {sx : Option Addr} {atx : Int} {w : World} {R : Int → World → Prop} (h : F_pool_segment_place sx atx w R) : C_pool_segment_place sx atx w R := by
  refine (calls_of_den (c := codeOf Try.f50) seat_ok seat_mixed Try.func50 (by kernel_rfl) loops_pool_segment_place (args := [.pointer sx, .int .i64 atx]) rfl (R := fun v w1 => ∃ (r : Int), v = (.int .i64 r : Value) ∧ R r w1) ?_).mono ?_
  · rw [← den_pool_segment_place]
    have e : (fun r w1 => ∃ (r' : Int), (.int .i64 r : Value) = (.int .i64 r' : Value) ∧ R r' w1) = R := by
      funext r w1
      exact propext ⟨fun ⟨r', he, h⟩ => by simp at he; simp_all, fun h => ⟨_, rfl, h⟩⟩
    simpa only [e] using h
  · rintro en w1 ⟨v, he, r, rfl, h⟩
    exact ⟨_, he, h⟩

def F_slices_Insert (sP : Option Addr) (sN : Nat) (sC : Nat) (i : Int) (vP : Option Addr) (vN : Nat) (vC : Nat) (w : World) (R : Option Addr → Nat → Nat → World → Prop) : Prop :=
  0 ≤ i ∧ i ≤ (sN : Int) ∧
  If ((vN : Int) == (0 : Int))
  (R sP sN sC w)
  (If (i == (sN : Int))
  (App Try.prog #[40, 40] 40 #[.slice sP sN sC, .slice vP vN vC] w fun t25P t25N t25C w1 =>
  R t25P t25N t25C w1)
  (If (decide ((IntKind.i64.wrap ((sN : Int) + (vN : Int))) > (sC : Int)))
  (0 ≤ i ∧ i ≤ (sC : Int) ∧
  App Try.prog #[40, 3] 40 #[.slice sP i.toNat sC, .int .i64 (IntKind.i64.wrap ((IntKind.i64.wrap ((sN : Int) + (vN : Int))) - i))] w fun t40P t40N t40C w1_1 =>
  0 ≤ i ∧ i ≤ (t40N : Int) ∧
  Cpy Try.prog #[40, 40] 3 #[.slice (adv t40P t40C i.toNat 2) (t40N - i.toNat) (t40C - i.toNat), .slice vP vN vC] w1_1 fun t45 w1_2 =>
  0 ≤ (IntKind.i64.wrap (i + (vN : Int))) ∧ (IntKind.i64.wrap (i + (vN : Int))) ≤ (t40N : Int) ∧
  0 ≤ i ∧ i ≤ (sN : Int) ∧
  Cpy Try.prog #[40, 40] 3 #[.slice (adv t40P t40C (IntKind.i64.wrap (i + (vN : Int))).toNat 2) (t40N - (IntKind.i64.wrap (i + (vN : Int))).toNat) (t40C - (IntKind.i64.wrap (i + (vN : Int))).toNat), .slice (adv sP sC i.toNat 2) (sN - i.toNat) (sC - i.toNat)] (drw w1_2) fun t54 w1_3 =>
  R t40P t40N t40C w1_3)
  (0 ≤ (IntKind.i64.wrap ((sN : Int) + (vN : Int))) ∧ (IntKind.i64.wrap ((sN : Int) + (vN : Int))) ≤ (sC : Int) ∧
  0 ≤ (IntKind.i64.wrap (i + (vN : Int))) ∧ (IntKind.i64.wrap (i + (vN : Int))) ≤ ((IntKind.i64.wrap ((sN : Int) + (vN : Int))).toNat : Int) ∧
  CallX Try.prog 59 [.slice vP vN vC, .slice (adv sP sC (IntKind.i64.wrap (i + (vN : Int))).toNat 2) ((IntKind.i64.wrap ((sN : Int) + (vN : Int))).toNat - (IntKind.i64.wrap (i + (vN : Int))).toNat) (sC - (IntKind.i64.wrap (i + (vN : Int))).toNat)] w fun v w1_4 => ∃ t67 : Bool, v = (.bool t67) ∧
  If (!t67)
  (0 ≤ (IntKind.i64.wrap (i + (vN : Int))) ∧ (IntKind.i64.wrap (i + (vN : Int))) ≤ ((IntKind.i64.wrap ((sN : Int) + (vN : Int))).toNat : Int) ∧
  0 ≤ i ∧ i ≤ ((IntKind.i64.wrap ((sN : Int) + (vN : Int))).toNat : Int) ∧
  Cpy Try.prog #[40, 40] 3 #[.slice (adv sP sC (IntKind.i64.wrap (i + (vN : Int))).toNat 2) ((IntKind.i64.wrap ((sN : Int) + (vN : Int))).toNat - (IntKind.i64.wrap (i + (vN : Int))).toNat) (sC - (IntKind.i64.wrap (i + (vN : Int))).toNat), .slice (adv sP sC i.toNat 2) ((IntKind.i64.wrap ((sN : Int) + (vN : Int))).toNat - i.toNat) (sC - i.toNat)] (drw w1_4) fun t77 w1_5 =>
  0 ≤ i ∧ i ≤ ((IntKind.i64.wrap ((sN : Int) + (vN : Int))).toNat : Int) ∧
  Cpy Try.prog #[40, 40] 3 #[.slice (adv sP sC i.toNat 2) ((IntKind.i64.wrap ((sN : Int) + (vN : Int))).toNat - i.toNat) (sC - i.toNat), .slice vP vN vC] w1_5 fun t82 w1_6 =>
  R sP ((IntKind.i64.wrap ((sN : Int) + (vN : Int))).toNat) sC w1_6)
  (0 ≤ (sN : Int) ∧ (sN : Int) ≤ ((IntKind.i64.wrap ((sN : Int) + (vN : Int))).toNat : Int) ∧
  Cpy Try.prog #[40, 40] 3 #[.slice (adv sP sC (sN : Int).toNat 2) ((IntKind.i64.wrap ((sN : Int) + (vN : Int))).toNat - (sN : Int).toNat) (sC - (sN : Int).toNat), .slice vP vN vC] w1_4 fun t88 w1_7 =>
  0 ≤ i ∧ i ≤ ((IntKind.i64.wrap ((sN : Int) + (vN : Int))).toNat : Int) ∧
  C_slices_rotateRight (adv sP sC i.toNat 2) ((IntKind.i64.wrap ((sN : Int) + (vN : Int))).toNat - i.toNat) (sC - i.toNat) (vN : Int) w1_7 fun w1_8 =>
  R sP ((IntKind.i64.wrap ((sN : Int) + (vN : Int))).toNat) sC w1_8))))

def G_slices_Insert : Gen where
  loop := lookL []
  plan := fun id =>
    bif Nat.beq id 11 then some ([0, 0, 0, 6, 15, 0, 0, 96, 255], .take 0 (.take 1 (.take 2 (.take 3 (.take 4 (.take 5 (.take 6 (.take 7 (.take 8 .done))))))))) else
    bif Nat.beq id 15 then some ([0, 0, 0, 6, 15, 0, 0, 96, 255], .take 0 (.take 1 (.take 2 (.take 3 (.take 4 (.take 5 (.take 6 (.take 7 (.take 8 .done))))))))) else none

theorem loops_slices_Insert : LoopOk Try.prog Try.f51.ntmps G_slices_Insert (codeOf Try.f51) := loopOk_none fun _ => rfl

theorem den_slices_Insert (sP : Option Addr) (sN : Nat) (sC : Nat) (i : Int) (vP : Option Addr) (vN : Nat) (vC : Nat) (w : World) (R : Value → World → Prop) :
    F_slices_Insert sP sN sC i vP vN vC w (fun rP rN rC w1 => R (.slice rP rN rC) w1) = den Try.prog Try.f51.ntmps G_slices_Insert (codeOf Try.f51) [] (postD Try.prog Try.f51.results.toList R) (entry [.slice sP sN sC, .int .i64 i, .slice vP vN vC] 0) w := by kernel_rfl

theorem C_slices_Insert.of {sP : Option Addr} {sN : Nat} {sC : Nat} {i : Int} {vP : Option Addr} {vN : Nat} {vC : Nat} {w : World} {R : Option Addr → Nat → Nat → World → Prop} (h : F_slices_Insert sP sN sC i vP vN vC w R) : C_slices_Insert sP sN sC i vP vN vC w R := by
  refine (calls_of_den (c := codeOf Try.f51) seat_ok seat_mixed Try.func51 (by kernel_rfl) loops_slices_Insert (args := [.slice sP sN sC, .int .i64 i, .slice vP vN vC]) rfl (R := fun v w1 => ∃ (rP : Option Addr) (rN : Nat) (rC : Nat), v = (.slice rP rN rC : Value) ∧ R rP rN rC w1) ?_).mono ?_
  · rw [← den_slices_Insert]
    have e : (fun rP rN rC w1 => ∃ (rP' : Option Addr) (rN' : Nat) (rC' : Nat), (.slice rP rN rC : Value) = (.slice rP' rN' rC' : Value) ∧ R rP' rN' rC' w1) = R := by
      funext rP rN rC w1
      exact propext ⟨fun ⟨rP', rN', rC', he, h⟩ => by simp at he; simp_all, fun h => ⟨_, _, _, rfl, h⟩⟩
    simpa only [e] using h
  · rintro en w1 ⟨v, he, rP, rN, rC, rfl, h⟩
    exact ⟨_, _, _, he, h⟩

def F_law03_sweeper_live (sx : Option Addr) (atx : Int) (w : World) (R : Bool → World → Prop) : Prop :=
  NN sx fun a =>
  ∃ askedP : Option Addr, ∃ askedN : Nat, ∃ askedC : Nat, w.cell? (a.add 1) = some (.slice askedP askedN askedC) ∧
  BSl Try.prog 33 1 [(0, .int .i64 atx)] w fun t11P t11N t11C w1 =>
  App Try.prog #[33, 33] 33 #[.slice askedP askedN askedC, .slice t11P t11N t11C] w1 fun t12P t12N t12C w1_1 =>
  NN sx fun a_1 =>
  St w1_1 ((a_1.add 1).add 0) (.slice t12P t12N t12C) fun w1_2 =>
  NN sx fun a_2 =>
  ∃ n : Int, w1_2.cell? (a_2.add 0) = some (.int .i64 n) ∧
  n ≠ 0 ∧
  R ((atx.tmod n) != (0 : Int)) w1_2

def G_law03_sweeper_live : Gen where
  loop := lookL []
  plan := fun _ => none

theorem loops_law03_sweeper_live : LoopOk Try.prog Try.f52.ntmps G_law03_sweeper_live (codeOf Try.f52) := loopOk_none fun _ => rfl

theorem den_law03_sweeper_live (sx : Option Addr) (atx : Int) (w : World) (R : Value → World → Prop) :
    F_law03_sweeper_live sx atx w (fun r w1 => R (.bool r) w1) = den Try.prog Try.f52.ntmps G_law03_sweeper_live (codeOf Try.f52) [] (postD Try.prog Try.f52.results.toList R) (entry [.pointer sx, .int .i64 atx] 0) w := by kernel_rfl

theorem C_law03_sweeper_live.of {sx : Option Addr} {atx : Int} {w : World} {R : Bool → World → Prop} (h : F_law03_sweeper_live sx atx w R) : C_law03_sweeper_live sx atx w R := by
  refine (calls_of_den (c := codeOf Try.f52) seat_ok seat_mixed Try.func52 (by kernel_rfl) loops_law03_sweeper_live (args := [.pointer sx, .int .i64 atx]) rfl (R := fun v w1 => ∃ (r : Bool), v = (.bool r : Value) ∧ R r w1) ?_).mono ?_
  · rw [← den_law03_sweeper_live]
    have e : (fun r w1 => ∃ (r' : Bool), (.bool r : Value) = (.bool r' : Value) ∧ R r' w1) = R := by
      funext r w1
      exact propext ⟨fun ⟨r', he, h⟩ => by simp at he; simp_all, fun h => ⟨_, rfl, h⟩⟩
    simpa only [e] using h
  · rintro en w1 ⟨v, he, r, rfl, h⟩
    exact ⟨_, he, h⟩

def F_ref03_Pool_end (p : Option Addr) (sx : Int) (w : World) (R : Int → World → Prop) : Prop :=
  NN p fun a =>
  ∃ StartsP : Option Addr, ∃ StartsN : Nat, ∃ StartsC : Nat, w.cell? (a.add 1) = some (.slice StartsP StartsN StartsC) ∧
  If (decide ((IntKind.i64.wrap (sx + (1 : Int))) < (StartsN : Int)))
  (NN p fun a_1 =>
  ∃ StartsP_1 : Option Addr, ∃ StartsN_1 : Nat, ∃ StartsC_1 : Nat, w.cell? (a_1.add 1) = some (.slice StartsP_1 StartsN_1 StartsC_1) ∧
  0 ≤ (IntKind.i64.wrap (sx + (1 : Int))) ∧ (IntKind.i64.wrap (sx + (1 : Int))) < (StartsN_1 : Int) ∧ NN StartsP_1 fun a_2 =>
  ∃ t20 : Int, w.cell? (a_2.add ((IntKind.i64.wrap (sx + (1 : Int))).toNat * 1)) = some (.int .i64 t20) ∧
  R t20 w)
  (NN p fun a_3 =>
  ∃ FP : Option Addr, ∃ FN : Nat, ∃ FC : Nat, w.cell? (a_3.add 0) = some (.slice FP FN FC) ∧
  R (FN : Int) w)

def G_ref03_Pool_end : Gen where
  loop := lookL []
  plan := fun _ => none

theorem loops_ref03_Pool_end : LoopOk Try.prog Try.f53.ntmps G_ref03_Pool_end (codeOf Try.f53) := loopOk_none fun _ => rfl

theorem den_ref03_Pool_end (p : Option Addr) (sx : Int) (w : World) (R : Value → World → Prop) :
    F_ref03_Pool_end p sx w (fun r w1 => R (.int .i64 r) w1) = den Try.prog Try.f53.ntmps G_ref03_Pool_end (codeOf Try.f53) [] (postD Try.prog Try.f53.results.toList R) (entry [.pointer p, .int .i64 sx] 0) w := by kernel_rfl

theorem C_ref03_Pool_end.of {p : Option Addr} {sx : Int} {w : World} {R : Int → World → Prop} (h : F_ref03_Pool_end p sx w R) : C_ref03_Pool_end p sx w R := by
  refine (calls_of_den (c := codeOf Try.f53) seat_ok seat_mixed Try.func53 (by kernel_rfl) loops_ref03_Pool_end (args := [.pointer p, .int .i64 sx]) rfl (R := fun v w1 => ∃ (r : Int), v = (.int .i64 r : Value) ∧ R r w1) ?_).mono ?_
  · rw [← den_ref03_Pool_end]
    have e : (fun r w1 => ∃ (r' : Int), (.int .i64 r : Value) = (.int .i64 r' : Value) ∧ R r' w1) = R := by
      funext r w1
      exact propext ⟨fun ⟨r', he, h⟩ => by simp at he; simp_all, fun h => ⟨_, rfl, h⟩⟩
    simpa only [e] using h
  · rintro en w1 ⟨v, he, r, rfl, h⟩
    exact ⟨_, he, h⟩

end Go.Proofs.Ytcgnligpjfhjlaa
