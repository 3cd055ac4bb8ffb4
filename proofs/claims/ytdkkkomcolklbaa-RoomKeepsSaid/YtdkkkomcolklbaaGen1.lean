/- The formulas of this seat's functions, held against the loaded program by the kernel. Printed by a program. -/
import Derived.Test.YtdkkkomcolklbaaGenC
set_option maxRecDepth 100000
set_option linter.unusedVariables false
namespace Go.Proofs.Ytdkkkomcolklbaa
open Go Go.D Go.Proofs

structure S_law02_RoomStacks_L1 where
  i : Int

structure S_law02_RoomStacks_L2 where
  i_1 : Int

def F_law02_RoomStacks_k1 (R : Bool → World → Prop) (t121 : Int) (w1_2 : World) : Prop :=
  C_law02_lives  w1_2 fun t30 w1_3 =>
  If t30
  (R (t121 == (0 : Int)) w1_3)
  (R false w1_3)

/-- One round. -/
def B_law02_RoomStacks_L1 (lP_1 : Option Addr) (lN_1 : Nat) (lC_1 : Nat) (m : Option Addr) (s : S_law02_RoomStacks_L1) (w : World) (Kn : S_law02_RoomStacks_L1 → World → Prop) (Kx0 : World → Prop) (Kr : Bool → World → Prop) : Prop :=
  If (decide ((s.i : Int) < (lN_1 : Int)))
  (0 ≤ (s.i : Int) ∧ (s.i : Int) < (lN_1 : Int) ∧ NN lP_1 fun a =>
  ∃ t45 : Int, w.cell? (a.add ((s.i : Int).toNat * 1)) = some (.int .u64 t45) ∧
  C_room_Room_Push m t45 w fun t46 w1_5 =>
  If (t46 != (0 : Int))
  (Kr false w1_5)
  (Kn ⟨(IntKind.i64.wrap ((s.i : Int) + (1 : Int)))⟩ w1_5))
  (Kx0 w)

def F_law02_RoomStacks_L1 (lP_1 : Option Addr) (lN_1 : Nat) (lC_1 : Nat) (m : Option Addr) (s : S_law02_RoomStacks_L1) (w : World) (Kx0 : World → Prop) (Kr : Bool → World → Prop) : Prop :=
  LoopS (fun s w Kn => B_law02_RoomStacks_L1 lP_1 lN_1 lC_1 m s w Kn Kx0 Kr) s w

/-- One round. -/
def B_law02_RoomStacks_L2 (lP_2 : Option Addr) (lN_2 : Nat) (lC_2 : Nat) (m_1 : Option Addr) (s : S_law02_RoomStacks_L2) (w : World) (Kn : S_law02_RoomStacks_L2 → World → Prop) (Kx2 : World → Prop) (Kr : Bool → World → Prop) : Prop :=
  If (decide ((s.i_1 : Int) ≥ (0 : Int)))
  (C_room_Room_Pop m_1 w fun t570 t571 w1_8 =>
  If (t571 != (0 : Int))
  (Kr false w1_8)
  (0 ≤ (s.i_1 : Int) ∧ (s.i_1 : Int) < (lN_2 : Int) ∧ NN lP_2 fun a_1 =>
  ∃ t67 : Int, w1_8.cell? (a_1.add ((s.i_1 : Int).toNat * 1)) = some (.int .u64 t67) ∧
  If (t570 != t67)
  (Kr false w1_8)
  (Kn ⟨(IntKind.i64.wrap ((s.i_1 : Int) - (1 : Int)))⟩ w1_8)))
  (Kx2 w)

def F_law02_RoomStacks_L2 (lP_2 : Option Addr) (lN_2 : Nat) (lC_2 : Nat) (m_1 : Option Addr) (s : S_law02_RoomStacks_L2) (w : World) (Kx2 : World → Prop) (Kr : Bool → World → Prop) : Prop :=
  LoopS (fun s w Kn => B_law02_RoomStacks_L2 lP_2 lN_2 lC_2 m_1 s w Kn Kx2 Kr) s w

def F_law02_RoomStacks (lP : Option Addr) (lN : Nat) (lC : Nat) (w : World) (R : Bool → World → Prop) : Prop :=
  C_room_New (1048576 : Int) w fun t120 t121 w1 =>
  C_law02_lives  w1 fun t15 w1_1 =>
  If (!t15)
  (F_law02_RoomStacks_k1 R t121 w1_1)
  (If (t121 != (0 : Int))
  (F_law02_RoomStacks_k1 R t121 w1_1)
  (If t120.isNone
  (F_law02_RoomStacks_k1 R t121 w1_1)
  (If (decide ((lN : Int) > (1000 : Int)))
  (C_law02_lives  w1_1 fun t30_1 w1_4 =>
  If t30_1
  (R (t121 == (0 : Int)) w1_4)
  (R false w1_4))
  (F_law02_RoomStacks_L1 lP lN lC t120 ⟨(0 : Int)⟩ w1_1
  (fun w1_6 =>
  F_law02_RoomStacks_L2 lP lN lC t120 ⟨(IntKind.i64.wrap ((lN : Int) - (1 : Int)))⟩ w1_6
  (fun w1_9 =>
  C_room_Room_Pop t120 w1_9 fun t720 t721 w1_11 =>
  If (t721 == (4 : Int))
  (C_room_Room_Most t120 w1_11 fun t79 w1_12 =>
  R (t79 == (lN : Int)) w1_12)
  (R false w1_11))
  (fun t2_3 w1_10 =>
  R t2_3 w1_10))
  (fun t2_1 w1_7 =>
  R t2_1 w1_7)))))

def lit_law02_RoomStacks_L1 (f : (Option Addr) × Nat × Nat × (Option Addr)) (s : S_law02_RoomStacks_L1) : Env := [⟨0, .slice f.1 f.2.1 f.2.2.1, none⟩, ⟨3, .pointer f.2.2.2, none⟩, ⟨5, .int .i64 s.i, none⟩]

def dec_law02_RoomStacks_L1 (e : Env) (K : ((Option Addr) × Nat × Nat × (Option Addr)) → S_law02_RoomStacks_L1 → Prop) : Prop :=
  onV (getV e 0) fun u1 =>
  asS u1 fun lP_1 lN_1 lC_1 =>
  onV (getV e 3) fun u2 =>
  asP u2 fun m =>
  onV (getV e 5) fun u3 =>
  asI .i64 u3 fun i =>
    K (lP_1, lN_1, lC_1, m) ⟨i⟩

theorem dec_law02_RoomStacks_L1_ok {N : Nat} (e : Env) (a : Act) (K : ((Option Addr) × Nat × Nat × (Option Addr)) → S_law02_RoomStacks_L1 → Prop) (hr : Rep N a e) (h0 : dec_law02_RoomStacks_L1 e K) : ∃ f s, K f s ∧ Rep N a (lit_law02_RoomStacks_L1 f s) := by
  unfold dec_law02_RoomStacks_L1 at h0
  obtain ⟨u1, g0, h1⟩ := onV_elim h0
  obtain ⟨lP_1, lN_1, lC_1, rfl, h2⟩ := asS_elim h1
  obtain ⟨u2, g3, h3⟩ := onV_elim h2
  obtain ⟨m, rfl, h4⟩ := asP_elim h3
  obtain ⟨u3, g5, h5⟩ := onV_elim h4
  obtain ⟨i, rfl, h6⟩ := asI_elim h5
  exact ⟨_, _, h6, rep_less hr (by simp [lit_law02_RoomStacks_L1, g0, g3, g5])⟩

def spec_law02_RoomStacks_L1 (Q : Post) (e : Env) (w : World) : Prop :=
  dec_law02_RoomStacks_L1 e fun f s => F_law02_RoomStacks_L1 f.1 f.2.1 f.2.2.1 f.2.2.2 s w (fun w1 => Q (.exit 0) [⟨0, .slice f.1 f.2.1 f.2.2.1, none⟩, ⟨3, .pointer f.2.2.2, none⟩] w1) (fun t2 w1 => Q .ret [⟨2, .bool t2, none⟩] w1)

def lit_law02_RoomStacks_L2 (f : (Option Addr) × Nat × Nat × (Option Addr)) (s : S_law02_RoomStacks_L2) : Env := [⟨0, .slice f.1 f.2.1 f.2.2.1, none⟩, ⟨3, .pointer f.2.2.2, none⟩, ⟨6, .int .i64 s.i_1, none⟩]

def dec_law02_RoomStacks_L2 (e : Env) (K : ((Option Addr) × Nat × Nat × (Option Addr)) → S_law02_RoomStacks_L2 → Prop) : Prop :=
  onV (getV e 0) fun u1 =>
  asS u1 fun lP_2 lN_2 lC_2 =>
  onV (getV e 3) fun u2 =>
  asP u2 fun m_1 =>
  onV (getV e 6) fun u3 =>
  asI .i64 u3 fun i_1 =>
    K (lP_2, lN_2, lC_2, m_1) ⟨i_1⟩

theorem dec_law02_RoomStacks_L2_ok {N : Nat} (e : Env) (a : Act) (K : ((Option Addr) × Nat × Nat × (Option Addr)) → S_law02_RoomStacks_L2 → Prop) (hr : Rep N a e) (h0 : dec_law02_RoomStacks_L2 e K) : ∃ f s, K f s ∧ Rep N a (lit_law02_RoomStacks_L2 f s) := by
  unfold dec_law02_RoomStacks_L2 at h0
  obtain ⟨u1, g0, h1⟩ := onV_elim h0
  obtain ⟨lP_2, lN_2, lC_2, rfl, h2⟩ := asS_elim h1
  obtain ⟨u2, g3, h3⟩ := onV_elim h2
  obtain ⟨m_1, rfl, h4⟩ := asP_elim h3
  obtain ⟨u3, g6, h5⟩ := onV_elim h4
  obtain ⟨i_1, rfl, h6⟩ := asI_elim h5
  exact ⟨_, _, h6, rep_less hr (by simp [lit_law02_RoomStacks_L2, g0, g3, g6])⟩

def spec_law02_RoomStacks_L2 (Q : Post) (e : Env) (w : World) : Prop :=
  dec_law02_RoomStacks_L2 e fun f s => F_law02_RoomStacks_L2 f.1 f.2.1 f.2.2.1 f.2.2.2 s w (fun w1 => Q (.exit 2) [⟨0, .slice f.1 f.2.1 f.2.2.1, none⟩, ⟨3, .pointer f.2.2.2, none⟩] w1) (fun t2_2 w1 => Q .ret [⟨2, .bool t2_2, none⟩] w1)

def G_law02_RoomStacks : Gen where
  loop := lookL [([false, true, false, true, true, true], spec_law02_RoomStacks_L1), ([false, true, false, true, true, true, true], spec_law02_RoomStacks_L2)]
  plan := fun _ => none

def dx_law02_RoomStacks_L1_0 (e : Env) (K : ((Option Addr) × Nat × Nat × (Option Addr)) → Prop) : Prop :=
  onV (getV e 0) fun u1 =>
  asS u1 fun lP_1 lN_1 lC_1 =>
  onV (getV e 3) fun u2 =>
  asP u2 fun m =>
    K (lP_1, lN_1, lC_1, m)

def dx_law02_RoomStacks_L1_ret (e : Env) (K : ((Option Addr) × Nat × Nat × (Option Addr)) → Bool → Prop) : Prop :=
  onV (getV e 0) fun u1 =>
  asS u1 fun lP_1 lN_1 lC_1 =>
  onV (getV e 3) fun u2 =>
  asP u2 fun m =>
  onV (getV e 2) fun u3 =>
  asB u3 fun t2 =>
    K (lP_1, lN_1, lC_1, m) t2

theorem body_law02_RoomStacks_L1 (f : (Option Addr) × Nat × Nat × (Option Addr)) (s : S_law02_RoomStacks_L1) (w : World) (Kn : ((Option Addr) × Nat × Nat × (Option Addr)) → S_law02_RoomStacks_L1 → World → Prop) (Kx0 : ((Option Addr) × Nat × Nat × (Option Addr)) → World → Prop) (Kr : ((Option Addr) × Nat × Nat × (Option Addr)) → Bool → World → Prop) :
    B_law02_RoomStacks_L1 f.1 f.2.1 f.2.2.1 f.2.2.2 s w (fun s1 w1 => Kn f s1 w1) (fun w1 => Kx0 f w1) (fun t2 w1 => Kr f t2 w1) =
    den Try.prog Try.f3.ntmps G_law02_RoomStacks (sub (codeOf Try.f3) [false, false, true, false, true, true, true]) [false, false, true, false, true, true, true] (roundQ (fun e w => dec_law02_RoomStacks_L1 e fun f s => Kn f s w) (fun e w => dx_law02_RoomStacks_L1_ret e fun f t2 => Kr f t2 w) (fun id e w => match Nat.beq id 0 with | true => dx_law02_RoomStacks_L1_0 e fun f => Kx0 f w | false => False)) (lit_law02_RoomStacks_L1 f s) w := by kernel_rfl

def dx_law02_RoomStacks_L2_2 (e : Env) (K : ((Option Addr) × Nat × Nat × (Option Addr)) → Prop) : Prop :=
  onV (getV e 0) fun u1 =>
  asS u1 fun lP_2 lN_2 lC_2 =>
  onV (getV e 3) fun u2 =>
  asP u2 fun m_1 =>
    K (lP_2, lN_2, lC_2, m_1)

def dx_law02_RoomStacks_L2_ret (e : Env) (K : ((Option Addr) × Nat × Nat × (Option Addr)) → Bool → Prop) : Prop :=
  onV (getV e 0) fun u1 =>
  asS u1 fun lP_2 lN_2 lC_2 =>
  onV (getV e 3) fun u2 =>
  asP u2 fun m_1 =>
  onV (getV e 2) fun u3 =>
  asB u3 fun t2_2 =>
    K (lP_2, lN_2, lC_2, m_1) t2_2

theorem body_law02_RoomStacks_L2 (f : (Option Addr) × Nat × Nat × (Option Addr)) (s : S_law02_RoomStacks_L2) (w : World) (Kn : ((Option Addr) × Nat × Nat × (Option Addr)) → S_law02_RoomStacks_L2 → World → Prop) (Kx2 : ((Option Addr) × Nat × Nat × (Option Addr)) → World → Prop) (Kr : ((Option Addr) × Nat × Nat × (Option Addr)) → Bool → World → Prop) :
    B_law02_RoomStacks_L2 f.1 f.2.1 f.2.2.1 f.2.2.2 s w (fun s1 w1 => Kn f s1 w1) (fun w1 => Kx2 f w1) (fun t2_2 w1 => Kr f t2_2 w1) =
    den Try.prog Try.f3.ntmps G_law02_RoomStacks (sub (codeOf Try.f3) [false, false, true, false, true, true, true, true]) [false, false, true, false, true, true, true, true] (roundQ (fun e w => dec_law02_RoomStacks_L2 e fun f s => Kn f s w) (fun e w => dx_law02_RoomStacks_L2_ret e fun f t2_2 => Kr f t2_2 w) (fun id e w => match Nat.beq id 2 with | true => dx_law02_RoomStacks_L2_2 e fun f => Kx2 f w | false => False)) (lit_law02_RoomStacks_L2 f s) w := by kernel_rfl

theorem ok_law02_RoomStacks_L1 : OneOk Try.prog Try.f3.ntmps G_law02_RoomStacks (codeOf Try.f3) [false, true, false, true, true, true] spec_law02_RoomStacks_L1 := by
  intro c hc ih Q e w a hr h
  have hcc : sub (codeOf Try.f3) [false, false, true, false, true, true, true] = c := sub_of_codeAt hc
  obtain ⟨f, s, h, hrep⟩ := dec_law02_RoomStacks_L1_ok e a _ hr h
  obtain ⟨J, μ, hj, hround⟩ := h
  refine loop_rule_deep seat_ok seat_mixed ih lit_law02_RoomStacks_L1 dec_law02_RoomStacks_L1 dec_law02_RoomStacks_L1_ok hc f J μ (Kr := fun e w => dx_law02_RoomStacks_L1_ret e fun f1 t2 => f1 = f ∧ Q .ret [⟨2, .bool t2, none⟩] w) (Kx := fun id e w => match Nat.beq id 0 with | true => (dx_law02_RoomStacks_L1_0 e fun f1 => f1 = f ∧ Q (.exit 0) [⟨0, .slice f.1 f.2.1 f.2.2.1, none⟩, ⟨3, .pointer f.2.2.2, none⟩] w) | false => False) ?_ ?_ ?_ s w a hj hrep
  · intro e a w hr h0
    unfold dx_law02_RoomStacks_L1_ret at h0
    obtain ⟨u1, g0, h1⟩ := onV_elim h0
    obtain ⟨lP_1, lN_1, lC_1, rfl, h2⟩ := asS_elim h1
    obtain ⟨u2, g3, h3⟩ := onV_elim h2
    obtain ⟨m, rfl, h4⟩ := asP_elim h3
    obtain ⟨u3, g2, h5⟩ := onV_elim h4
    obtain ⟨t2, rfl, h6⟩ := asB_elim h5
    obtain ⟨hf, hq⟩ := h6
    subst hf
    exact ⟨_, rep_less hr (by simp [g2]), hq⟩
  · intro id e a w hr h0
    (try dsimp only at h0)
    split at h0
    · rename_i hid
      obtain rfl := Nat.eq_of_beq_eq_true hid
      unfold dx_law02_RoomStacks_L1_0 at h0
      obtain ⟨u1, g0, h1⟩ := onV_elim h0
      obtain ⟨lP_1, lN_1, lC_1, rfl, h2⟩ := asS_elim h1
      obtain ⟨u2, g3, h3⟩ := onV_elim h2
      obtain ⟨m, rfl, h4⟩ := asP_elim h3
      obtain ⟨hf, hq⟩ := h4
      subst hf
      exact ⟨_, rep_less hr (by simp [g0, g3]), hq⟩
    · exact h0.elim
  · intro s w hj
    have hb := hround s w hj
    rw [← hcc]
    have e1 := body_law02_RoomStacks_L1 f s w (fun f1 s1 w1 => f1 = f ∧ J s1 w1 ∧ μ s1 w1 < μ s w) (fun f1 w1 => f1 = f ∧ Q (.exit 0) [⟨0, .slice f.1 f.2.1 f.2.2.1, none⟩, ⟨3, .pointer f.2.2.2, none⟩] w1) (fun f1 t2 w1 => f1 = f ∧ Q .ret [⟨2, .bool t2, none⟩] w1)
    simp only [true_and] at e1
    exact cast e1 hb

theorem ok_law02_RoomStacks_L2 : OneOk Try.prog Try.f3.ntmps G_law02_RoomStacks (codeOf Try.f3) [false, true, false, true, true, true, true] spec_law02_RoomStacks_L2 := by
  intro c hc ih Q e w a hr h
  have hcc : sub (codeOf Try.f3) [false, false, true, false, true, true, true, true] = c := sub_of_codeAt hc
  obtain ⟨f, s, h, hrep⟩ := dec_law02_RoomStacks_L2_ok e a _ hr h
  obtain ⟨J, μ, hj, hround⟩ := h
  refine loop_rule_deep seat_ok seat_mixed ih lit_law02_RoomStacks_L2 dec_law02_RoomStacks_L2 dec_law02_RoomStacks_L2_ok hc f J μ (Kr := fun e w => dx_law02_RoomStacks_L2_ret e fun f1 t2_2 => f1 = f ∧ Q .ret [⟨2, .bool t2_2, none⟩] w) (Kx := fun id e w => match Nat.beq id 2 with | true => (dx_law02_RoomStacks_L2_2 e fun f1 => f1 = f ∧ Q (.exit 2) [⟨0, .slice f.1 f.2.1 f.2.2.1, none⟩, ⟨3, .pointer f.2.2.2, none⟩] w) | false => False) ?_ ?_ ?_ s w a hj hrep
  · intro e a w hr h0
    unfold dx_law02_RoomStacks_L2_ret at h0
    obtain ⟨u1, g0, h1⟩ := onV_elim h0
    obtain ⟨lP_2, lN_2, lC_2, rfl, h2⟩ := asS_elim h1
    obtain ⟨u2, g3, h3⟩ := onV_elim h2
    obtain ⟨m_1, rfl, h4⟩ := asP_elim h3
    obtain ⟨u3, g2, h5⟩ := onV_elim h4
    obtain ⟨t2_2, rfl, h6⟩ := asB_elim h5
    obtain ⟨hf, hq⟩ := h6
    subst hf
    exact ⟨_, rep_less hr (by simp [g2]), hq⟩
  · intro id e a w hr h0
    (try dsimp only at h0)
    split at h0
    · rename_i hid
      obtain rfl := Nat.eq_of_beq_eq_true hid
      unfold dx_law02_RoomStacks_L2_2 at h0
      obtain ⟨u1, g0, h1⟩ := onV_elim h0
      obtain ⟨lP_2, lN_2, lC_2, rfl, h2⟩ := asS_elim h1
      obtain ⟨u2, g3, h3⟩ := onV_elim h2
      obtain ⟨m_1, rfl, h4⟩ := asP_elim h3
      obtain ⟨hf, hq⟩ := h4
      subst hf
      exact ⟨_, rep_less hr (by simp [g0, g3]), hq⟩
    · exact h0.elim
  · intro s w hj
    have hb := hround s w hj
    rw [← hcc]
    have e1 := body_law02_RoomStacks_L2 f s w (fun f1 s1 w1 => f1 = f ∧ J s1 w1 ∧ μ s1 w1 < μ s w) (fun f1 w1 => f1 = f ∧ Q (.exit 2) [⟨0, .slice f.1 f.2.1 f.2.2.1, none⟩, ⟨3, .pointer f.2.2.2, none⟩] w1) (fun f1 t2_2 w1 => f1 = f ∧ Q .ret [⟨2, .bool t2_2, none⟩] w1)
    simp only [true_and] at e1
    exact cast e1 hb

theorem loops_law02_RoomStacks : LoopOk Try.prog Try.f3.ntmps G_law02_RoomStacks (codeOf Try.f3) := loopOk_list rfl ⟨ok_law02_RoomStacks_L1, ⟨ok_law02_RoomStacks_L2, trivial⟩⟩

theorem den_law02_RoomStacks (lP : Option Addr) (lN : Nat) (lC : Nat) (w : World) (R : Value → World → Prop) :
    F_law02_RoomStacks lP lN lC w (fun r w1 => R (.bool r) w1) = den Try.prog Try.f3.ntmps G_law02_RoomStacks (codeOf Try.f3) [] (postD Try.prog Try.f3.results.toList R) (entry [.slice lP lN lC] 0) w := by kernel_rfl

theorem C_law02_RoomStacks.of {lP : Option Addr} {lN : Nat} {lC : Nat} {w : World} {R : Bool → World → Prop} (h : F_law02_RoomStacks lP lN lC w R) : C_law02_RoomStacks lP lN lC w R := by
  refine (calls_of_den (c := codeOf Try.f3) seat_ok seat_mixed Try.func3 (by kernel_rfl) loops_law02_RoomStacks (args := [.slice lP lN lC]) rfl (R := fun v w1 => ∃ (r : Bool), v = (.bool r : Value) ∧ R r w1) ?_).mono ?_
  · rw [← den_law02_RoomStacks]
    have e : (fun r w1 => ∃ (r' : Bool), (.bool r : Value) = (.bool r' : Value) ∧ R r' w1) = R := by
      funext r w1
      exact propext ⟨fun ⟨r', he, h⟩ => by simp at he; simp_all, fun h => ⟨_, rfl, h⟩⟩
    simpa only [e] using h
  · rintro en w1 ⟨v, he, r, rfl, h⟩
    exact ⟨_, he, h⟩

structure S_law02_RoomFills_L1 where
  i : Int

def F_law02_RoomFills_k1 (R : Bool → World → Prop) (w1 : World) : Prop :=
  C_law02_lives  w1 fun t23 w1_1 =>
  R t23 w1_1

def F_law02_RoomFills_k2 (R : Bool → World → Prop) (w1_5 : World) : Prop :=
  R false w1_5

def F_law02_RoomFills_k3 (m : Option Addr) (s : S_law02_RoomFills_L1) (Kn : S_law02_RoomFills_L1 → World → Prop) (Kr : Bool → World → Prop) (want : Int) (w1_6 : World) : Prop :=
  C_room_Room_Push m (IntKind.u64.wrap s.i) w1_6 fun t50 w1_7 =>
  If (t50 != want)
  (Kr false w1_7)
  (Kn ⟨(IntKind.i64.wrap ((s.i : Int) + (1 : Int)))⟩ w1_7)

/-- One round. -/
def B_law02_RoomFills_L1 (limitx_1 : Int) (n_1 : Int) (m : Option Addr) (s : S_law02_RoomFills_L1) (w : World) (Kn : S_law02_RoomFills_L1 → World → Prop) (Kx0 : World → Prop) (Kr : Bool → World → Prop) : Prop :=
  If (decide ((s.i : Int) < n_1))
  (If (decide ((s.i : Int) ≥ limitx_1))
  (F_law02_RoomFills_k3 m s Kn Kr (2 : Int) w)
  (F_law02_RoomFills_k3 m s Kn Kr (0 : Int) w))
  (Kx0 w)

def F_law02_RoomFills_L1 (limitx_1 : Int) (n_1 : Int) (m : Option Addr) (s : S_law02_RoomFills_L1) (w : World) (Kx0 : World → Prop) (Kr : Bool → World → Prop) : Prop :=
  LoopS (fun s w Kn => B_law02_RoomFills_L1 limitx_1 n_1 m s w Kn Kx0 Kr) s w

def F_law02_RoomFills (limitx : Int) (n : Int) (w : World) (R : Bool → World → Prop) : Prop :=
  If (decide (limitx < (0 : Int)))
  (F_law02_RoomFills_k1 R w)
  (If (decide (limitx > (2000 : Int)))
  (F_law02_RoomFills_k1 R w)
  (If (decide (n < (0 : Int)))
  (F_law02_RoomFills_k1 R w)
  (If (decide (n > (3000 : Int)))
  (C_law02_lives  w fun t23_1 w1_2 =>
  R t23_1 w1_2)
  (C_room_New limitx w fun t260 t261 w1_3 =>
  C_law02_lives  w1_3 fun t29 w1_4 =>
  If (!t29)
  (F_law02_RoomFills_k2 R w1_4)
  (If (t261 != (0 : Int))
  (F_law02_RoomFills_k2 R w1_4)
  (If t260.isNone
  (R false w1_4)
  (F_law02_RoomFills_L1 limitx n t260 ⟨(0 : Int)⟩ w1_4
  (fun w1_8 =>
  C_room_Room_Len t260 w1_8 fun t54 w1_10 =>
  If (t54 == (minI n limitx))
  (C_room_Room_Most t260 w1_10 fun t61 w1_11 =>
  C_room_Room_Len t260 w1_11 fun t63 w1_12 =>
  R (t61 == t63) w1_12)
  (R false w1_10))
  (fun t4_1 w1_9 =>
  R t4_1 w1_9))))))))

def lit_law02_RoomFills_L1 (f : Int × Int × (Option Addr)) (s : S_law02_RoomFills_L1) : Env := [⟨0, .int .i64 f.1, none⟩, ⟨1, .int .i64 f.2.1, none⟩, ⟨5, .pointer f.2.2, none⟩, ⟨7, .int .i64 s.i, none⟩]

def dec_law02_RoomFills_L1 (e : Env) (K : (Int × Int × (Option Addr)) → S_law02_RoomFills_L1 → Prop) : Prop :=
  onV (getV e 0) fun u1 =>
  asI .i64 u1 fun limitx_1 =>
  onV (getV e 1) fun u2 =>
  asI .i64 u2 fun n_1 =>
  onV (getV e 5) fun u3 =>
  asP u3 fun m =>
  onV (getV e 7) fun u4 =>
  asI .i64 u4 fun i =>
    K (limitx_1, n_1, m) ⟨i⟩

theorem dec_law02_RoomFills_L1_ok {N : Nat} (e : Env) (a : Act) (K : (Int × Int × (Option Addr)) → S_law02_RoomFills_L1 → Prop) (hr : Rep N a e) (h0 : dec_law02_RoomFills_L1 e K) : ∃ f s, K f s ∧ Rep N a (lit_law02_RoomFills_L1 f s) := by
  unfold dec_law02_RoomFills_L1 at h0
  obtain ⟨u1, g0, h1⟩ := onV_elim h0
  obtain ⟨limitx_1, rfl, h2⟩ := asI_elim h1
  obtain ⟨u2, g1, h3⟩ := onV_elim h2
  obtain ⟨n_1, rfl, h4⟩ := asI_elim h3
  obtain ⟨u3, g5, h5⟩ := onV_elim h4
  obtain ⟨m, rfl, h6⟩ := asP_elim h5
  obtain ⟨u4, g7, h7⟩ := onV_elim h6
  obtain ⟨i, rfl, h8⟩ := asI_elim h7
  exact ⟨_, _, h8, rep_less hr (by simp [lit_law02_RoomFills_L1, g0, g1, g5, g7])⟩

def spec_law02_RoomFills_L1 (Q : Post) (e : Env) (w : World) : Prop :=
  dec_law02_RoomFills_L1 e fun f s => F_law02_RoomFills_L1 f.1 f.2.1 f.2.2 s w (fun w1 => Q (.exit 0) [⟨0, .int .i64 f.1, none⟩, ⟨1, .int .i64 f.2.1, none⟩, ⟨5, .pointer f.2.2, none⟩] w1) (fun t4 w1 => Q .ret [⟨4, .bool t4, none⟩] w1)

def G_law02_RoomFills : Gen where
  loop := lookL [([false, true, false, true, true, true, true], spec_law02_RoomFills_L1)]
  plan := fun _ => none

def dx_law02_RoomFills_L1_0 (e : Env) (K : (Int × Int × (Option Addr)) → Prop) : Prop :=
  onV (getV e 0) fun u1 =>
  asI .i64 u1 fun limitx_1 =>
  onV (getV e 1) fun u2 =>
  asI .i64 u2 fun n_1 =>
  onV (getV e 5) fun u3 =>
  asP u3 fun m =>
    K (limitx_1, n_1, m)

def dx_law02_RoomFills_L1_ret (e : Env) (K : (Int × Int × (Option Addr)) → Bool → Prop) : Prop :=
  onV (getV e 0) fun u1 =>
  asI .i64 u1 fun limitx_1 =>
  onV (getV e 1) fun u2 =>
  asI .i64 u2 fun n_1 =>
  onV (getV e 5) fun u3 =>
  asP u3 fun m =>
  onV (getV e 4) fun u4 =>
  asB u4 fun t4 =>
    K (limitx_1, n_1, m) t4

theorem body_law02_RoomFills_L1 (f : Int × Int × (Option Addr)) (s : S_law02_RoomFills_L1) (w : World) (Kn : (Int × Int × (Option Addr)) → S_law02_RoomFills_L1 → World → Prop) (Kx0 : (Int × Int × (Option Addr)) → World → Prop) (Kr : (Int × Int × (Option Addr)) → Bool → World → Prop) :
    B_law02_RoomFills_L1 f.1 f.2.1 f.2.2 s w (fun s1 w1 => Kn f s1 w1) (fun w1 => Kx0 f w1) (fun t4 w1 => Kr f t4 w1) =
    den Try.prog Try.f4.ntmps G_law02_RoomFills (sub (codeOf Try.f4) [false, false, true, false, true, true, true, true]) [false, false, true, false, true, true, true, true] (roundQ (fun e w => dec_law02_RoomFills_L1 e fun f s => Kn f s w) (fun e w => dx_law02_RoomFills_L1_ret e fun f t4 => Kr f t4 w) (fun id e w => match Nat.beq id 0 with | true => dx_law02_RoomFills_L1_0 e fun f => Kx0 f w | false => False)) (lit_law02_RoomFills_L1 f s) w := by kernel_rfl

theorem ok_law02_RoomFills_L1 : OneOk Try.prog Try.f4.ntmps G_law02_RoomFills (codeOf Try.f4) [false, true, false, true, true, true, true] spec_law02_RoomFills_L1 := by
  intro c hc ih Q e w a hr h
  have hcc : sub (codeOf Try.f4) [false, false, true, false, true, true, true, true] = c := sub_of_codeAt hc
  obtain ⟨f, s, h, hrep⟩ := dec_law02_RoomFills_L1_ok e a _ hr h
  obtain ⟨J, μ, hj, hround⟩ := h
  refine loop_rule_deep seat_ok seat_mixed ih lit_law02_RoomFills_L1 dec_law02_RoomFills_L1 dec_law02_RoomFills_L1_ok hc f J μ (Kr := fun e w => dx_law02_RoomFills_L1_ret e fun f1 t4 => f1 = f ∧ Q .ret [⟨4, .bool t4, none⟩] w) (Kx := fun id e w => match Nat.beq id 0 with | true => (dx_law02_RoomFills_L1_0 e fun f1 => f1 = f ∧ Q (.exit 0) [⟨0, .int .i64 f.1, none⟩, ⟨1, .int .i64 f.2.1, none⟩, ⟨5, .pointer f.2.2, none⟩] w) | false => False) ?_ ?_ ?_ s w a hj hrep
  · intro e a w hr h0
    unfold dx_law02_RoomFills_L1_ret at h0
    obtain ⟨u1, g0, h1⟩ := onV_elim h0
    obtain ⟨limitx_1, rfl, h2⟩ := asI_elim h1
    obtain ⟨u2, g1, h3⟩ := onV_elim h2
    obtain ⟨n_1, rfl, h4⟩ := asI_elim h3
    obtain ⟨u3, g5, h5⟩ := onV_elim h4
    obtain ⟨m, rfl, h6⟩ := asP_elim h5
    obtain ⟨u4, g4, h7⟩ := onV_elim h6
    obtain ⟨t4, rfl, h8⟩ := asB_elim h7
    obtain ⟨hf, hq⟩ := h8
    subst hf
    exact ⟨_, rep_less hr (by simp [g4]), hq⟩
  · intro id e a w hr h0
    (try dsimp only at h0)
    split at h0
    · rename_i hid
      obtain rfl := Nat.eq_of_beq_eq_true hid
      unfold dx_law02_RoomFills_L1_0 at h0
      obtain ⟨u1, g0, h1⟩ := onV_elim h0
      obtain ⟨limitx_1, rfl, h2⟩ := asI_elim h1
      obtain ⟨u2, g1, h3⟩ := onV_elim h2
      obtain ⟨n_1, rfl, h4⟩ := asI_elim h3
      obtain ⟨u3, g5, h5⟩ := onV_elim h4
      obtain ⟨m, rfl, h6⟩ := asP_elim h5
      obtain ⟨hf, hq⟩ := h6
      subst hf
      exact ⟨_, rep_less hr (by simp [g0, g1, g5]), hq⟩
    · exact h0.elim
  · intro s w hj
    have hb := hround s w hj
    rw [← hcc]
    have e1 := body_law02_RoomFills_L1 f s w (fun f1 s1 w1 => f1 = f ∧ J s1 w1 ∧ μ s1 w1 < μ s w) (fun f1 w1 => f1 = f ∧ Q (.exit 0) [⟨0, .int .i64 f.1, none⟩, ⟨1, .int .i64 f.2.1, none⟩, ⟨5, .pointer f.2.2, none⟩] w1) (fun f1 t4 w1 => f1 = f ∧ Q .ret [⟨4, .bool t4, none⟩] w1)
    simp only [true_and] at e1
    exact cast e1 hb

theorem loops_law02_RoomFills : LoopOk Try.prog Try.f4.ntmps G_law02_RoomFills (codeOf Try.f4) := loopOk_list rfl ⟨ok_law02_RoomFills_L1, trivial⟩

theorem den_law02_RoomFills (limitx : Int) (n : Int) (w : World) (R : Value → World → Prop) :
    F_law02_RoomFills limitx n w (fun r w1 => R (.bool r) w1) = den Try.prog Try.f4.ntmps G_law02_RoomFills (codeOf Try.f4) [] (postD Try.prog Try.f4.results.toList R) (entry [.int .i64 limitx, .int .i64 n] 0) w := by kernel_rfl

theorem C_law02_RoomFills.of {limitx : Int} {n : Int} {w : World} {R : Bool → World → Prop} (h : F_law02_RoomFills limitx n w R) : C_law02_RoomFills limitx n w R := by
  refine (calls_of_den (c := codeOf Try.f4) seat_ok seat_mixed Try.func4 (by kernel_rfl) loops_law02_RoomFills (args := [.int .i64 limitx, .int .i64 n]) rfl (R := fun v w1 => ∃ (r : Bool), v = (.bool r : Value) ∧ R r w1) ?_).mono ?_
  · rw [← den_law02_RoomFills]
    have e : (fun r w1 => ∃ (r' : Bool), (.bool r : Value) = (.bool r' : Value) ∧ R r' w1) = R := by
      funext r w1
      exact propext ⟨fun ⟨r', he, h⟩ => by simp at he; simp_all, fun h => ⟨_, rfl, h⟩⟩
    simpa only [e] using h
  · rintro en w1 ⟨v, he, r, rfl, h⟩
    exact ⟨_, he, h⟩

structure S_law02_RoomDoes_L1 where
  i : Int

def F_law02_RoomDoes_k1 (R : Bool → World → Prop) (w1_4 : World) : Prop :=
  R false w1_4

def F_law02_RoomDoes_k2 (Kx0 : World → Prop) (w1_6 : World) : Prop :=
  Kx0 w1_6

def F_law02_RoomDoes_k3 (Kr : Bool → World → Prop) (w1_13 : World) : Prop :=
  Kr false w1_13

/-- One round. -/
def B_law02_RoomDoes_L1 (limitx_2 : Int) (lP_1 : Option Addr) (lN_1 : Nat) (lC_1 : Nat) (m : Option Addr) (x : Option Addr) (s : S_law02_RoomDoes_L1) (w : World) (Kn : S_law02_RoomDoes_L1 → World → Prop) (Kx0 : World → Prop) (Kr : Bool → World → Prop) : Prop :=
  If (decide ((s.i : Int) < (lN_1 : Int)))
  (If (decide ((s.i : Int) < (60 : Int)))
  (If (!x.isNone)
  (0 ≤ (s.i : Int) ∧ (s.i : Int) < (lN_1 : Int) ∧ NN lP_1 fun a =>
  ∃ t650 : Int, (drw w).cell? ((a.add ((s.i : Int).toNat * 3)).add 0) = some (.int .i64 t650) ∧
  ∃ t651 : Int, (drw w).cell? ((a.add ((s.i : Int).toNat * 3)).add 1) = some (.int .i64 t651) ∧
  ∃ t652 : Int, (drw w).cell? ((a.add ((s.i : Int).toNat * 3)).add 2) = some (.int .u64 t652) ∧
  C_law02_do m x t650 t651 t652 (drw w) fun t66 w1_7 =>
  If (!t66)
  (F_law02_RoomDoes_k3 Kr w1_7)
  (NN x fun a_1 =>
  ∃ LP : Option Addr, ∃ LN : Nat, ∃ LC : Nat, w1_7.cell? (a_1.add 0) = some (.slice LP LN LC) ∧
  C_room_Room_Len m w1_7 fun t70 w1_8 =>
  w1_8.cell? (a_1.add 0) = w1_7.cell? (a_1.add 0) ∧
  If (t70 != (LN : Int))
  (F_law02_RoomDoes_k3 Kr w1_8)
  (NN x fun a_2 =>
  ∃ Most : Int, w1_8.cell? (a_2.add 2) = some (.int .i64 Most) ∧
  C_room_Room_Most m w1_8 fun t80 w1_9 =>
  w1_9.cell? (a_2.add 2) = w1_8.cell? (a_2.add 2) ∧
  If (t80 != Most)
  (F_law02_RoomDoes_k3 Kr w1_9)
  (C_room_Room_Limit m w1_9 fun t89 w1_10 =>
  If (t89 != limitx_2)
  (F_law02_RoomDoes_k3 Kr w1_10)
  (NN x fun a_3 =>
  ∃ LP_1 : Option Addr, ∃ LN_1 : Nat, ∃ LC_1 : Nat, w1_10.cell? (a_3.add 0) = some (.slice LP_1 LN_1 LC_1) ∧
  C_room_Room_Words m w1_10 fun t95P t95N t95C w1_11 =>
  w1_11.cell? (a_3.add 0) = w1_10.cell? (a_3.add 0) ∧
  C_ref02_Same t95P t95N t95C LP_1 LN_1 LC_1 w1_11 fun t100 w1_12 =>
  If (!t100)
  (Kr false w1_12)
  (Kn ⟨(IntKind.i64.wrap ((s.i : Int) + (1 : Int)))⟩ w1_12))))))
  (Kx0 w))
  (F_law02_RoomDoes_k2 Kx0 w))
  (F_law02_RoomDoes_k2 Kx0 w)

def F_law02_RoomDoes_L1 (limitx_2 : Int) (lP_1 : Option Addr) (lN_1 : Nat) (lC_1 : Nat) (m : Option Addr) (x : Option Addr) (s : S_law02_RoomDoes_L1) (w : World) (Kx0 : World → Prop) (Kr : Bool → World → Prop) : Prop :=
  LoopS (fun s w Kn => B_law02_RoomDoes_L1 limitx_2 lP_1 lN_1 lC_1 m x s w Kn Kx0 Kr) s w

def F_law02_RoomDoes_k4 (lP : Option Addr) (lN : Nat) (lC : Nat) (R : Bool → World → Prop) (limitx_1 : Int) (t170 : Option Addr) (t21 : Option Addr) (w1_5 : World) : Prop :=
  F_law02_RoomDoes_L1 limitx_1 lP lN lC t170 t21 ⟨(0 : Int)⟩ w1_5
  (fun w1_14 =>
  R true w1_14)
  (fun t4_1 w1_15 =>
  R t4_1 w1_15)

def F_law02_RoomDoes_k5 (lP : Option Addr) (lN : Nat) (lC : Nat) (R : Bool → World → Prop) (limitx_1 : Int) (w1 : World) : Prop :=
  C_room_New limitx_1 w1 fun t170 t171 w1_1 =>
  C_ref02_New limitx_1 w1_1 fun t21 w1_2 =>
  C_law02_lives  w1_2 fun t22 w1_3 =>
  If (!t22)
  (F_law02_RoomDoes_k1 R w1_3)
  (If (!((!t170.isNone) == (!t21.isNone)))
  (F_law02_RoomDoes_k1 R w1_3)
  (If (!((t171 == (0 : Int)) == (!t21.isNone)))
  (F_law02_RoomDoes_k1 R w1_3)
  (If t21.isNone
  (If (t171 != (1 : Int))
  (R false w1_3)
  (F_law02_RoomDoes_k4 lP lN lC R limitx_1 t170 t21 w1_3))
  (F_law02_RoomDoes_k4 lP lN lC R limitx_1 t170 t21 w1_3))))

def F_law02_RoomDoes (limitx : Int) (lP : Option Addr) (lN : Nat) (lC : Nat) (w : World) (R : Bool → World → Prop) : Prop :=
  If (decide (limitx > (500 : Int)))
  (If (decide (limitx ≤ (1048576 : Int)))
  (F_law02_RoomDoes_k5 lP lN lC R (500 : Int) w)
  (F_law02_RoomDoes_k5 lP lN lC R limitx w))
  (F_law02_RoomDoes_k5 lP lN lC R limitx w)

def lit_law02_RoomDoes_L1 (f : Int × (Option Addr) × Nat × Nat × (Option Addr) × (Option Addr)) (s : S_law02_RoomDoes_L1) : Env := [⟨0, .int .i64 f.1, none⟩, ⟨1, .slice f.2.1 f.2.2.1 f.2.2.2.1, none⟩, ⟨5, .pointer f.2.2.2.2.1, none⟩, ⟨7, .pointer f.2.2.2.2.2, none⟩, ⟨8, .int .i64 s.i, none⟩]

def dec_law02_RoomDoes_L1 (e : Env) (K : (Int × (Option Addr) × Nat × Nat × (Option Addr) × (Option Addr)) → S_law02_RoomDoes_L1 → Prop) : Prop :=
  onV (getV e 0) fun u1 =>
  asI .i64 u1 fun limitx_2 =>
  onV (getV e 1) fun u2 =>
  asS u2 fun lP_1 lN_1 lC_1 =>
  onV (getV e 5) fun u3 =>
  asP u3 fun m =>
  onV (getV e 7) fun u4 =>
  asP u4 fun x =>
  onV (getV e 8) fun u5 =>
  asI .i64 u5 fun i =>
    K (limitx_2, lP_1, lN_1, lC_1, m, x) ⟨i⟩

theorem dec_law02_RoomDoes_L1_ok {N : Nat} (e : Env) (a : Act) (K : (Int × (Option Addr) × Nat × Nat × (Option Addr) × (Option Addr)) → S_law02_RoomDoes_L1 → Prop) (hr : Rep N a e) (h0 : dec_law02_RoomDoes_L1 e K) : ∃ f s, K f s ∧ Rep N a (lit_law02_RoomDoes_L1 f s) := by
  unfold dec_law02_RoomDoes_L1 at h0
  obtain ⟨u1, g0, h1⟩ := onV_elim h0
  obtain ⟨limitx_2, rfl, h2⟩ := asI_elim h1
  obtain ⟨u2, g1, h3⟩ := onV_elim h2
  obtain ⟨lP_1, lN_1, lC_1, rfl, h4⟩ := asS_elim h3
  obtain ⟨u3, g5, h5⟩ := onV_elim h4
  obtain ⟨m, rfl, h6⟩ := asP_elim h5
  obtain ⟨u4, g7, h7⟩ := onV_elim h6
  obtain ⟨x, rfl, h8⟩ := asP_elim h7
  obtain ⟨u5, g8, h9⟩ := onV_elim h8
  obtain ⟨i, rfl, h10⟩ := asI_elim h9
  exact ⟨_, _, h10, rep_less hr (by simp [lit_law02_RoomDoes_L1, g0, g1, g5, g7, g8])⟩

def spec_law02_RoomDoes_L1 (Q : Post) (e : Env) (w : World) : Prop :=
  dec_law02_RoomDoes_L1 e fun f s => F_law02_RoomDoes_L1 f.1 f.2.1 f.2.2.1 f.2.2.2.1 f.2.2.2.2.1 f.2.2.2.2.2 s w (fun w1 => Q (.exit 0) [] w1) (fun t4 w1 => Q .ret [⟨4, .bool t4, none⟩] w1)

def G_law02_RoomDoes : Gen where
  loop := lookL [([false, true, false, true, true, true, true, true], spec_law02_RoomDoes_L1)]
  plan := fun id =>
    bif Nat.beq id 10 then some ([0, 0, 0, 0, 12, 28, 63, 127, 255, 511, 1023, 511, 2559, 6655, 14847, 31231, 65535, 131071, 262143, 524287, 1048575, 524287, 2621439, 6815743, 15204351, 33554431, 67108863, 134217727, 268435455, 536870911, 268435455, 2147483647, 4294967295, 8589934591, 17179869183, 34359738367, 17179869183, 85899345919, 223338299391, 498216206335, 1099511627775, 2199023255551, 4398046511103], .take 0 (.take 1 (.take 2 (.take 3 (.take 4 (.take 5 (.take 6 (.take 7 (.take 8 (.take 9 (.take 11 (.take 12 (.take 13 (.take 14 (.take 15 (.take 10 (.take 16 (.take 17 (.take 18 (.take 19 (.take 21 (.take 22 (.take 23 (.take 24 (.take 20 (.take 25 (.take 26 (.take 27 (.take 28 (.take 30 (.take 29 (.take 31 (.take 32 (.take 33 (.take 34 (.take 36 (.take 37 (.take 38 (.take 39 (.take 35 (.take 40 (.take 41 (.take 42 .done))))))))))))))))))))))))))))))))))))))))))) else none

def dx_law02_RoomDoes_L1_0 (e : Env) (K : (Int × (Option Addr) × Nat × Nat × (Option Addr) × (Option Addr)) → Prop) : Prop :=
  onV (getV e 0) fun u1 =>
  asI .i64 u1 fun limitx_2 =>
  onV (getV e 1) fun u2 =>
  asS u2 fun lP_1 lN_1 lC_1 =>
  onV (getV e 5) fun u3 =>
  asP u3 fun m =>
  onV (getV e 7) fun u4 =>
  asP u4 fun x =>
    K (limitx_2, lP_1, lN_1, lC_1, m, x)

def dx_law02_RoomDoes_L1_ret (e : Env) (K : (Int × (Option Addr) × Nat × Nat × (Option Addr) × (Option Addr)) → Bool → Prop) : Prop :=
  onV (getV e 0) fun u1 =>
  asI .i64 u1 fun limitx_2 =>
  onV (getV e 1) fun u2 =>
  asS u2 fun lP_1 lN_1 lC_1 =>
  onV (getV e 5) fun u3 =>
  asP u3 fun m =>
  onV (getV e 7) fun u4 =>
  asP u4 fun x =>
  onV (getV e 4) fun u5 =>
  asB u5 fun t4 =>
    K (limitx_2, lP_1, lN_1, lC_1, m, x) t4

theorem body_law02_RoomDoes_L1 (f : Int × (Option Addr) × Nat × Nat × (Option Addr) × (Option Addr)) (s : S_law02_RoomDoes_L1) (w : World) (Kn : (Int × (Option Addr) × Nat × Nat × (Option Addr) × (Option Addr)) → S_law02_RoomDoes_L1 → World → Prop) (Kx0 : (Int × (Option Addr) × Nat × Nat × (Option Addr) × (Option Addr)) → World → Prop) (Kr : (Int × (Option Addr) × Nat × Nat × (Option Addr) × (Option Addr)) → Bool → World → Prop) :
    B_law02_RoomDoes_L1 f.1 f.2.1 f.2.2.1 f.2.2.2.1 f.2.2.2.2.1 f.2.2.2.2.2 s w (fun s1 w1 => Kn f s1 w1) (fun w1 => Kx0 f w1) (fun t4 w1 => Kr f t4 w1) =
    den Try.prog Try.f5.ntmps G_law02_RoomDoes (sub (codeOf Try.f5) [false, false, true, false, true, true, true, true, true]) [false, false, true, false, true, true, true, true, true] (roundQ (fun e w => dec_law02_RoomDoes_L1 e fun f s => Kn f s w) (fun e w => dx_law02_RoomDoes_L1_ret e fun f t4 => Kr f t4 w) (fun id e w => match Nat.beq id 0 with | true => dx_law02_RoomDoes_L1_0 e fun f => Kx0 f w | false => False)) (lit_law02_RoomDoes_L1 f s) w := by kernel_rfl

theorem ok_law02_RoomDoes_L1 : OneOk Try.prog Try.f5.ntmps G_law02_RoomDoes (codeOf Try.f5) [false, true, false, true, true, true, true, true] spec_law02_RoomDoes_L1 := by
  intro c hc ih Q e w a hr h
  have hcc : sub (codeOf Try.f5) [false, false, true, false, true, true, true, true, true] = c := sub_of_codeAt hc
  obtain ⟨f, s, h, hrep⟩ := dec_law02_RoomDoes_L1_ok e a _ hr h
  obtain ⟨J, μ, hj, hround⟩ := h
  refine loop_rule_deep seat_ok seat_mixed ih lit_law02_RoomDoes_L1 dec_law02_RoomDoes_L1 dec_law02_RoomDoes_L1_ok hc f J μ (Kr := fun e w => dx_law02_RoomDoes_L1_ret e fun f1 t4 => f1 = f ∧ Q .ret [⟨4, .bool t4, none⟩] w) (Kx := fun id e w => match Nat.beq id 0 with | true => (dx_law02_RoomDoes_L1_0 e fun f1 => f1 = f ∧ Q (.exit 0) [] w) | false => False) ?_ ?_ ?_ s w a hj hrep
  · intro e a w hr h0
    unfold dx_law02_RoomDoes_L1_ret at h0
    obtain ⟨u1, g0, h1⟩ := onV_elim h0
    obtain ⟨limitx_2, rfl, h2⟩ := asI_elim h1
    obtain ⟨u2, g1, h3⟩ := onV_elim h2
    obtain ⟨lP_1, lN_1, lC_1, rfl, h4⟩ := asS_elim h3
    obtain ⟨u3, g5, h5⟩ := onV_elim h4
    obtain ⟨m, rfl, h6⟩ := asP_elim h5
    obtain ⟨u4, g7, h7⟩ := onV_elim h6
    obtain ⟨x, rfl, h8⟩ := asP_elim h7
    obtain ⟨u5, g4, h9⟩ := onV_elim h8
    obtain ⟨t4, rfl, h10⟩ := asB_elim h9
    obtain ⟨hf, hq⟩ := h10
    subst hf
    exact ⟨_, rep_less hr (by simp [g4]), hq⟩
  · intro id e a w hr h0
    (try dsimp only at h0)
    split at h0
    · rename_i hid
      obtain rfl := Nat.eq_of_beq_eq_true hid
      unfold dx_law02_RoomDoes_L1_0 at h0
      obtain ⟨u1, g0, h1⟩ := onV_elim h0
      obtain ⟨limitx_2, rfl, h2⟩ := asI_elim h1
      obtain ⟨u2, g1, h3⟩ := onV_elim h2
      obtain ⟨lP_1, lN_1, lC_1, rfl, h4⟩ := asS_elim h3
      obtain ⟨u3, g5, h5⟩ := onV_elim h4
      obtain ⟨m, rfl, h6⟩ := asP_elim h5
      obtain ⟨u4, g7, h7⟩ := onV_elim h6
      obtain ⟨x, rfl, h8⟩ := asP_elim h7
      obtain ⟨hf, hq⟩ := h8
      subst hf
      exact ⟨_, rep_less hr (by simp), hq⟩
    · exact h0.elim
  · intro s w hj
    have hb := hround s w hj
    rw [← hcc]
    have e1 := body_law02_RoomDoes_L1 f s w (fun f1 s1 w1 => f1 = f ∧ J s1 w1 ∧ μ s1 w1 < μ s w) (fun f1 w1 => f1 = f ∧ Q (.exit 0) [] w1) (fun f1 t4 w1 => f1 = f ∧ Q .ret [⟨4, .bool t4, none⟩] w1)
    simp only [true_and] at e1
    exact cast e1 hb

theorem loops_law02_RoomDoes : LoopOk Try.prog Try.f5.ntmps G_law02_RoomDoes (codeOf Try.f5) := loopOk_list rfl ⟨ok_law02_RoomDoes_L1, trivial⟩

theorem den_law02_RoomDoes (limitx : Int) (lP : Option Addr) (lN : Nat) (lC : Nat) (w : World) (R : Value → World → Prop) :
    F_law02_RoomDoes limitx lP lN lC w (fun r w1 => R (.bool r) w1) = den Try.prog Try.f5.ntmps G_law02_RoomDoes (codeOf Try.f5) [] (postD Try.prog Try.f5.results.toList R) (entry [.int .i64 limitx, .slice lP lN lC] 0) w := by kernel_rfl

theorem C_law02_RoomDoes.of {limitx : Int} {lP : Option Addr} {lN : Nat} {lC : Nat} {w : World} {R : Bool → World → Prop} (h : F_law02_RoomDoes limitx lP lN lC w R) : C_law02_RoomDoes limitx lP lN lC w R := by
  refine (calls_of_den (c := codeOf Try.f5) seat_ok seat_mixed Try.func5 (by kernel_rfl) loops_law02_RoomDoes (args := [.int .i64 limitx, .slice lP lN lC]) rfl (R := fun v w1 => ∃ (r : Bool), v = (.bool r : Value) ∧ R r w1) ?_).mono ?_
  · rw [← den_law02_RoomDoes]
    have e : (fun r w1 => ∃ (r' : Bool), (.bool r : Value) = (.bool r' : Value) ∧ R r' w1) = R := by
      funext r w1
      exact propext ⟨fun ⟨r', he, h⟩ => by simp at he; simp_all, fun h => ⟨_, rfl, h⟩⟩
    simpa only [e] using h
  · rintro en w1 ⟨v, he, r, rfl, h⟩
    exact ⟨_, he, h⟩

def F_law02_RoomNobody_k1 (R : Bool → World → Prop) (w1_13 : World) : Prop :=
  R false w1_13

def F_law02_RoomNobody (o0 : Int) (o1 : Int) (o2 : Int) (w : World) (R : Bool → World → Prop) : Prop :=
  New w (.cells #[.int .i64 o0, .int .i64 o1, .int .u64 o2] 40) fun r w1 =>
  C_room_Room_Pop none w1 fun t100 t101 w1_1 =>
  ∃ N : Int, w1_1.cell? ((⟨r, 0, none⟩ : Addr).add 1) = some (.int .i64 N) ∧
  C_room_Room_Get none N w1_1 fun t170 t171 w1_2 =>
  C_law02_lives  w1_2 fun t20 w1_3 =>
  If t20
  (If (t100 == (0 : Int))
  (If (t170 == (0 : Int))
  (If (t101 == (6 : Int))
  (If (t171 == (6 : Int))
  (∃ W : Int, w1_3.cell? ((⟨r, 0, none⟩ : Addr).add 2) = some (.int .u64 W) ∧
  C_room_Room_Push none W w1_3 fun t41 w1_4 =>
  If (t41 == (6 : Int))
  (∃ N_1 : Int, w1_4.cell? ((⟨r, 0, none⟩ : Addr).add 1) = some (.int .i64 N_1) ∧
  ∃ W_1 : Int, w1_4.cell? ((⟨r, 0, none⟩ : Addr).add 2) = some (.int .u64 W_1) ∧
  C_room_Room_Set none N_1 W_1 w1_4 fun t50 w1_5 =>
  If (t50 == (6 : Int))
  (∃ N_2 : Int, w1_5.cell? ((⟨r, 0, none⟩ : Addr).add 1) = some (.int .i64 N_2) ∧
  C_room_Room_Cut none N_2 w1_5 fun t57 w1_6 =>
  If (t57 == (6 : Int))
  (∃ N_3 : Int, w1_6.cell? ((⟨r, 0, none⟩ : Addr).add 1) = some (.int .i64 N_3) ∧
  C_room_Room_Grow none N_3 w1_6 fun t64 w1_7 =>
  If (t64 == (6 : Int))
  (C_room_Room_Len none w1_7 fun t69 w1_8 =>
  If (t69 == (0 : Int))
  (C_room_Room_Limit none w1_8 fun t74 w1_9 =>
  If (t74 == (0 : Int))
  (C_room_Room_Most none w1_9 fun t79 w1_10 =>
  If (t79 == (0 : Int))
  (C_room_Room_Words none w1_10 fun t84P t84N t84C w1_11 =>
  If ((t84N : Int) == (0 : Int))
  (C_room_Room_Keep none (.func (.func 24) #[] #[]) w1_11 fun t90 w1_12 =>
  R (t90 == (0 : Int)) w1_12)
  (F_law02_RoomNobody_k1 R w1_11))
  (F_law02_RoomNobody_k1 R w1_10))
  (F_law02_RoomNobody_k1 R w1_9))
  (F_law02_RoomNobody_k1 R w1_8))
  (F_law02_RoomNobody_k1 R w1_7))
  (F_law02_RoomNobody_k1 R w1_6))
  (F_law02_RoomNobody_k1 R w1_5))
  (F_law02_RoomNobody_k1 R w1_4))
  (F_law02_RoomNobody_k1 R w1_3))
  (F_law02_RoomNobody_k1 R w1_3))
  (F_law02_RoomNobody_k1 R w1_3))
  (F_law02_RoomNobody_k1 R w1_3))
  (F_law02_RoomNobody_k1 R w1_3)

def G_law02_RoomNobody : Gen where
  loop := lookL []
  plan := fun _ => none

theorem loops_law02_RoomNobody : LoopOk Try.prog Try.f6.ntmps G_law02_RoomNobody (codeOf Try.f6) := loopOk_none fun _ => rfl

theorem den_law02_RoomNobody (o0 : Int) (o1 : Int) (o2 : Int) (w : World) (R : Value → World → Prop) :
    F_law02_RoomNobody o0 o1 o2 w (fun r w1 => R (.bool r) w1) = den Try.prog Try.f6.ntmps G_law02_RoomNobody (codeOf Try.f6) [] (postD Try.prog Try.f6.results.toList R) (entry [.agg #[.int .i64 o0, .int .i64 o1, .int .u64 o2]] 0) w := by kernel_rfl

theorem C_law02_RoomNobody.of {o0 : Int} {o1 : Int} {o2 : Int} {w : World} {R : Bool → World → Prop} (h : F_law02_RoomNobody o0 o1 o2 w R) : C_law02_RoomNobody o0 o1 o2 w R := by
  refine (calls_of_den (c := codeOf Try.f6) seat_ok seat_mixed Try.func6 (by kernel_rfl) loops_law02_RoomNobody (args := [.agg #[.int .i64 o0, .int .i64 o1, .int .u64 o2]]) rfl (R := fun v w1 => ∃ (r : Bool), v = (.bool r : Value) ∧ R r w1) ?_).mono ?_
  · rw [← den_law02_RoomNobody]
    have e : (fun r w1 => ∃ (r' : Bool), (.bool r : Value) = (.bool r' : Value) ∧ R r' w1) = R := by
      funext r w1
      exact propext ⟨fun ⟨r', he, h⟩ => by simp at he; simp_all, fun h => ⟨_, rfl, h⟩⟩
    simpa only [e] using h
  · rintro en w1 ⟨v, he, r, rfl, h⟩
    exact ⟨_, he, h⟩

structure S_law02_RoomKeeps_L1 where
  i : Int

structure S_law02_RoomKeeps_L2 where
  i_1 : Int

def F_law02_RoomKeeps_k1 (R : Bool → World → Prop) (w1_2 : World) : Prop :=
  C_law02_lives  w1_2 fun t28 w1_3 =>
  R t28 w1_3

def F_law02_RoomKeeps_k2 (R : Bool → World → Prop) (w1_14 : World) : Prop :=
  R false w1_14

/-- One round. -/
def B_law02_RoomKeeps_L1 (lP_1 : Option Addr) (lN_1 : Nat) (lC_1 : Nat) (m : Option Addr) (s : S_law02_RoomKeeps_L1) (w : World) (Kn : S_law02_RoomKeeps_L1 → World → Prop) (Kx0 : World → Prop) : Prop :=
  If (decide ((s.i : Int) < (lN_1 : Int)))
  (0 ≤ (s.i : Int) ∧ (s.i : Int) < (lN_1 : Int) ∧ NN lP_1 fun a =>
  ∃ t39 : Int, w.cell? (a.add ((s.i : Int).toNat * 1)) = some (.int .u64 t39) ∧
  C_room_Room_Push m t39 w fun t40 w1_5 =>
  Kn ⟨(IntKind.i64.wrap ((s.i : Int) + (1 : Int)))⟩ w1_5)
  (Kx0 w)

def F_law02_RoomKeeps_L1 (lP_1 : Option Addr) (lN_1 : Nat) (lC_1 : Nat) (m : Option Addr) (s : S_law02_RoomKeeps_L1) (w : World) (Kx0 : World → Prop) : Prop :=
  LoopS (fun s w Kn => B_law02_RoomKeeps_L1 lP_1 lN_1 lC_1 m s w Kn Kx0) s w

/-- One round. -/
def B_law02_RoomKeeps_L2 (lP_2 : Option Addr) (lN_2 : Nat) (lC_2 : Nat) (m_1 : Option Addr) (wP : Option Addr) (wN : Nat) (wC : Nat) (s : S_law02_RoomKeeps_L2) (w : World) (Kn : S_law02_RoomKeeps_L2 → World → Prop) (Kx2 : World → Prop) (Kr : Bool → World → Prop) : Prop :=
  If (decide ((s.i_1 : Int) < (lN_2 : Int)))
  (0 ≤ (s.i_1 : Int) ∧ (s.i_1 : Int) < (wN : Int) ∧ NN wP fun a_1 =>
  ∃ t63 : Int, (drw w).cell? (a_1.add ((s.i_1 : Int).toNat * 1)) = some (.int .u64 t63) ∧
  0 ≤ (s.i_1 : Int) ∧ (s.i_1 : Int) < (lN_2 : Int) ∧ NN lP_2 fun a_2 =>
  ∃ t67 : Int, (drw w).cell? (a_2.add ((s.i_1 : Int).toNat * 1)) = some (.int .u64 t67) ∧
  If (t63 != t67)
  (Kr false (drw w))
  (Kn ⟨(IntKind.i64.wrap ((s.i_1 : Int) + (1 : Int)))⟩ (drw w)))
  (Kx2 w)

def F_law02_RoomKeeps_L2 (lP_2 : Option Addr) (lN_2 : Nat) (lC_2 : Nat) (m_1 : Option Addr) (wP : Option Addr) (wN : Nat) (wC : Nat) (s : S_law02_RoomKeeps_L2) (w : World) (Kx2 : World → Prop) (Kr : Bool → World → Prop) : Prop :=
  LoopS (fun s w Kn => B_law02_RoomKeeps_L2 lP_2 lN_2 lC_2 m_1 wP wN wC s w Kn Kx2 Kr) s w

def F_law02_RoomKeeps (lP : Option Addr) (lN : Nat) (lC : Nat) (w : World) (R : Bool → World → Prop) : Prop :=
  C_room_New (1000 : Int) w fun t100 t101 w1 =>
  C_law02_lives  w1 fun t13 w1_1 =>
  If (!t13)
  (F_law02_RoomKeeps_k1 R w1_1)
  (If (t101 != (0 : Int))
  (F_law02_RoomKeeps_k1 R w1_1)
  (If t100.isNone
  (F_law02_RoomKeeps_k1 R w1_1)
  (If (decide ((lN : Int) > (1000 : Int)))
  (C_law02_lives  w1_1 fun t28_1 w1_4 =>
  R t28_1 w1_4)
  (F_law02_RoomKeeps_L1 lP lN lC t100 ⟨(0 : Int)⟩ w1_1
  (fun w1_6 =>
  C_room_Room_Keep t100 (.func (.func 25) #[] #[]) w1_6 fun t42 w1_7 =>
  C_room_Room_Words t100 w1_7 fun t44P t44N t44C w1_8 =>
  If (t42 != (0 : Int))
  (R false w1_8)
  (If ((t44N : Int) != (lN : Int))
  (R false w1_8)
  (F_law02_RoomKeeps_L2 lP lN lC t100 t44P t44N t44C ⟨(0 : Int)⟩ w1_8
  (fun w1_9 =>
  C_room_Room_Keep t100 (.func (.func 24) #[] #[]) w1_9 fun t70 w1_11 =>
  If (t70 == (lN : Int))
  (C_room_Room_Len t100 w1_11 fun t76 w1_12 =>
  If (t76 == (0 : Int))
  (C_room_Room_Most t100 w1_12 fun t81 w1_13 =>
  R (t81 == (lN : Int)) w1_13)
  (F_law02_RoomKeeps_k2 R w1_12))
  (F_law02_RoomKeeps_k2 R w1_11))
  (fun t2_1 w1_10 =>
  R t2_1 w1_10))))))))

def lit_law02_RoomKeeps_L1 (f : (Option Addr) × Nat × Nat × (Option Addr)) (s : S_law02_RoomKeeps_L1) : Env := [⟨0, .slice f.1 f.2.1 f.2.2.1, none⟩, ⟨3, .pointer f.2.2.2, none⟩, ⟨5, .int .i64 s.i, none⟩]

def dec_law02_RoomKeeps_L1 (e : Env) (K : ((Option Addr) × Nat × Nat × (Option Addr)) → S_law02_RoomKeeps_L1 → Prop) : Prop :=
  onV (getV e 0) fun u1 =>
  asS u1 fun lP_1 lN_1 lC_1 =>
  onV (getV e 3) fun u2 =>
  asP u2 fun m =>
  onV (getV e 5) fun u3 =>
  asI .i64 u3 fun i =>
    K (lP_1, lN_1, lC_1, m) ⟨i⟩

theorem dec_law02_RoomKeeps_L1_ok {N : Nat} (e : Env) (a : Act) (K : ((Option Addr) × Nat × Nat × (Option Addr)) → S_law02_RoomKeeps_L1 → Prop) (hr : Rep N a e) (h0 : dec_law02_RoomKeeps_L1 e K) : ∃ f s, K f s ∧ Rep N a (lit_law02_RoomKeeps_L1 f s) := by
  unfold dec_law02_RoomKeeps_L1 at h0
  obtain ⟨u1, g0, h1⟩ := onV_elim h0
  obtain ⟨lP_1, lN_1, lC_1, rfl, h2⟩ := asS_elim h1
  obtain ⟨u2, g3, h3⟩ := onV_elim h2
  obtain ⟨m, rfl, h4⟩ := asP_elim h3
  obtain ⟨u3, g5, h5⟩ := onV_elim h4
  obtain ⟨i, rfl, h6⟩ := asI_elim h5
  exact ⟨_, _, h6, rep_less hr (by simp [lit_law02_RoomKeeps_L1, g0, g3, g5])⟩

def spec_law02_RoomKeeps_L1 (Q : Post) (e : Env) (w : World) : Prop :=
  dec_law02_RoomKeeps_L1 e fun f s => F_law02_RoomKeeps_L1 f.1 f.2.1 f.2.2.1 f.2.2.2 s w (fun w1 => Q (.exit 0) [⟨0, .slice f.1 f.2.1 f.2.2.1, none⟩, ⟨3, .pointer f.2.2.2, none⟩] w1)

def lit_law02_RoomKeeps_L2 (f : (Option Addr) × Nat × Nat × (Option Addr) × (Option Addr) × Nat × Nat) (s : S_law02_RoomKeeps_L2) : Env := [⟨0, .slice f.1 f.2.1 f.2.2.1, none⟩, ⟨3, .pointer f.2.2.2.1, none⟩, ⟨7, .slice f.2.2.2.2.1 f.2.2.2.2.2.1 f.2.2.2.2.2.2, none⟩, ⟨8, .int .i64 s.i_1, none⟩]

def dec_law02_RoomKeeps_L2 (e : Env) (K : ((Option Addr) × Nat × Nat × (Option Addr) × (Option Addr) × Nat × Nat) → S_law02_RoomKeeps_L2 → Prop) : Prop :=
  onV (getV e 0) fun u1 =>
  asS u1 fun lP_2 lN_2 lC_2 =>
  onV (getV e 3) fun u2 =>
  asP u2 fun m_1 =>
  onV (getV e 7) fun u3 =>
  asS u3 fun wP wN wC =>
  onV (getV e 8) fun u4 =>
  asI .i64 u4 fun i_1 =>
    K (lP_2, lN_2, lC_2, m_1, wP, wN, wC) ⟨i_1⟩

theorem dec_law02_RoomKeeps_L2_ok {N : Nat} (e : Env) (a : Act) (K : ((Option Addr) × Nat × Nat × (Option Addr) × (Option Addr) × Nat × Nat) → S_law02_RoomKeeps_L2 → Prop) (hr : Rep N a e) (h0 : dec_law02_RoomKeeps_L2 e K) : ∃ f s, K f s ∧ Rep N a (lit_law02_RoomKeeps_L2 f s) := by
  unfold dec_law02_RoomKeeps_L2 at h0
  obtain ⟨u1, g0, h1⟩ := onV_elim h0
  obtain ⟨lP_2, lN_2, lC_2, rfl, h2⟩ := asS_elim h1
  obtain ⟨u2, g3, h3⟩ := onV_elim h2
  obtain ⟨m_1, rfl, h4⟩ := asP_elim h3
  obtain ⟨u3, g7, h5⟩ := onV_elim h4
  obtain ⟨wP, wN, wC, rfl, h6⟩ := asS_elim h5
  obtain ⟨u4, g8, h7⟩ := onV_elim h6
  obtain ⟨i_1, rfl, h8⟩ := asI_elim h7
  exact ⟨_, _, h8, rep_less hr (by simp [lit_law02_RoomKeeps_L2, g0, g3, g7, g8])⟩

def spec_law02_RoomKeeps_L2 (Q : Post) (e : Env) (w : World) : Prop :=
  dec_law02_RoomKeeps_L2 e fun f s => F_law02_RoomKeeps_L2 f.1 f.2.1 f.2.2.1 f.2.2.2.1 f.2.2.2.2.1 f.2.2.2.2.2.1 f.2.2.2.2.2.2 s w (fun w1 => Q (.exit 2) [⟨0, .slice f.1 f.2.1 f.2.2.1, none⟩, ⟨3, .pointer f.2.2.2.1, none⟩] w1) (fun t2 w1 => Q .ret [⟨2, .bool t2, none⟩] w1)

def G_law02_RoomKeeps : Gen where
  loop := lookL [([false, true, false, true, true, true], spec_law02_RoomKeeps_L1), ([false, true, false, true, true, true, true, true, true, true], spec_law02_RoomKeeps_L2)]
  plan := fun id =>
    bif Nat.beq id 15 then some ([0, 0, 3, 7, 0, 0, 48, 112, 255], .take 0 (.take 1 (.take 2 (.take 3 (.take 4 (.take 5 (.take 6 (.take 7 (.take 8 .done))))))))) else none

def dx_law02_RoomKeeps_L1_0 (e : Env) (K : ((Option Addr) × Nat × Nat × (Option Addr)) → Prop) : Prop :=
  onV (getV e 0) fun u1 =>
  asS u1 fun lP_1 lN_1 lC_1 =>
  onV (getV e 3) fun u2 =>
  asP u2 fun m =>
    K (lP_1, lN_1, lC_1, m)

theorem body_law02_RoomKeeps_L1 (f : (Option Addr) × Nat × Nat × (Option Addr)) (s : S_law02_RoomKeeps_L1) (w : World) (Kn : ((Option Addr) × Nat × Nat × (Option Addr)) → S_law02_RoomKeeps_L1 → World → Prop) (Kx0 : ((Option Addr) × Nat × Nat × (Option Addr)) → World → Prop) :
    B_law02_RoomKeeps_L1 f.1 f.2.1 f.2.2.1 f.2.2.2 s w (fun s1 w1 => Kn f s1 w1) (fun w1 => Kx0 f w1) =
    den Try.prog Try.f7.ntmps G_law02_RoomKeeps (sub (codeOf Try.f7) [false, false, true, false, true, true, true]) [false, false, true, false, true, true, true] (roundQ (fun e w => dec_law02_RoomKeeps_L1 e fun f s => Kn f s w) (fun e w => False) (fun id e w => match Nat.beq id 0 with | true => dx_law02_RoomKeeps_L1_0 e fun f => Kx0 f w | false => False)) (lit_law02_RoomKeeps_L1 f s) w := by kernel_rfl

def dx_law02_RoomKeeps_L2_2 (e : Env) (K : ((Option Addr) × Nat × Nat × (Option Addr) × (Option Addr) × Nat × Nat) → Prop) : Prop :=
  onV (getV e 0) fun u1 =>
  asS u1 fun lP_2 lN_2 lC_2 =>
  onV (getV e 3) fun u2 =>
  asP u2 fun m_1 =>
  onV (getV e 7) fun u3 =>
  asS u3 fun wP wN wC =>
    K (lP_2, lN_2, lC_2, m_1, wP, wN, wC)

def dx_law02_RoomKeeps_L2_ret (e : Env) (K : ((Option Addr) × Nat × Nat × (Option Addr) × (Option Addr) × Nat × Nat) → Bool → Prop) : Prop :=
  onV (getV e 0) fun u1 =>
  asS u1 fun lP_2 lN_2 lC_2 =>
  onV (getV e 3) fun u2 =>
  asP u2 fun m_1 =>
  onV (getV e 7) fun u3 =>
  asS u3 fun wP wN wC =>
  onV (getV e 2) fun u4 =>
  asB u4 fun t2 =>
    K (lP_2, lN_2, lC_2, m_1, wP, wN, wC) t2

theorem body_law02_RoomKeeps_L2 (f : (Option Addr) × Nat × Nat × (Option Addr) × (Option Addr) × Nat × Nat) (s : S_law02_RoomKeeps_L2) (w : World) (Kn : ((Option Addr) × Nat × Nat × (Option Addr) × (Option Addr) × Nat × Nat) → S_law02_RoomKeeps_L2 → World → Prop) (Kx2 : ((Option Addr) × Nat × Nat × (Option Addr) × (Option Addr) × Nat × Nat) → World → Prop) (Kr : ((Option Addr) × Nat × Nat × (Option Addr) × (Option Addr) × Nat × Nat) → Bool → World → Prop) :
    B_law02_RoomKeeps_L2 f.1 f.2.1 f.2.2.1 f.2.2.2.1 f.2.2.2.2.1 f.2.2.2.2.2.1 f.2.2.2.2.2.2 s w (fun s1 w1 => Kn f s1 w1) (fun w1 => Kx2 f w1) (fun t2 w1 => Kr f t2 w1) =
    den Try.prog Try.f7.ntmps G_law02_RoomKeeps (sub (codeOf Try.f7) [false, false, true, false, true, true, true, true, true, true, true]) [false, false, true, false, true, true, true, true, true, true, true] (roundQ (fun e w => dec_law02_RoomKeeps_L2 e fun f s => Kn f s w) (fun e w => dx_law02_RoomKeeps_L2_ret e fun f t2 => Kr f t2 w) (fun id e w => match Nat.beq id 2 with | true => dx_law02_RoomKeeps_L2_2 e fun f => Kx2 f w | false => False)) (lit_law02_RoomKeeps_L2 f s) w := by kernel_rfl

theorem ok_law02_RoomKeeps_L1 : OneOk Try.prog Try.f7.ntmps G_law02_RoomKeeps (codeOf Try.f7) [false, true, false, true, true, true] spec_law02_RoomKeeps_L1 := by
  intro c hc ih Q e w a hr h
  have hcc : sub (codeOf Try.f7) [false, false, true, false, true, true, true] = c := sub_of_codeAt hc
  obtain ⟨f, s, h, hrep⟩ := dec_law02_RoomKeeps_L1_ok e a _ hr h
  obtain ⟨J, μ, hj, hround⟩ := h
  refine loop_rule_deep seat_ok seat_mixed ih lit_law02_RoomKeeps_L1 dec_law02_RoomKeeps_L1 dec_law02_RoomKeeps_L1_ok hc f J μ (Kr := fun e w => False) (Kx := fun id e w => match Nat.beq id 0 with | true => (dx_law02_RoomKeeps_L1_0 e fun f1 => f1 = f ∧ Q (.exit 0) [⟨0, .slice f.1 f.2.1 f.2.2.1, none⟩, ⟨3, .pointer f.2.2.2, none⟩] w) | false => False) ?_ ?_ ?_ s w a hj hrep
  · intro e a w hr h
    exact h.elim
  · intro id e a w hr h0
    (try dsimp only at h0)
    split at h0
    · rename_i hid
      obtain rfl := Nat.eq_of_beq_eq_true hid
      unfold dx_law02_RoomKeeps_L1_0 at h0
      obtain ⟨u1, g0, h1⟩ := onV_elim h0
      obtain ⟨lP_1, lN_1, lC_1, rfl, h2⟩ := asS_elim h1
      obtain ⟨u2, g3, h3⟩ := onV_elim h2
      obtain ⟨m, rfl, h4⟩ := asP_elim h3
      obtain ⟨hf, hq⟩ := h4
      subst hf
      exact ⟨_, rep_less hr (by simp [g0, g3]), hq⟩
    · exact h0.elim
  · intro s w hj
    have hb := hround s w hj
    rw [← hcc]
    have e1 := body_law02_RoomKeeps_L1 f s w (fun f1 s1 w1 => f1 = f ∧ J s1 w1 ∧ μ s1 w1 < μ s w) (fun f1 w1 => f1 = f ∧ Q (.exit 0) [⟨0, .slice f.1 f.2.1 f.2.2.1, none⟩, ⟨3, .pointer f.2.2.2, none⟩] w1)
    simp only [true_and] at e1
    exact cast e1 hb

theorem ok_law02_RoomKeeps_L2 : OneOk Try.prog Try.f7.ntmps G_law02_RoomKeeps (codeOf Try.f7) [false, true, false, true, true, true, true, true, true, true] spec_law02_RoomKeeps_L2 := by
  intro c hc ih Q e w a hr h
  have hcc : sub (codeOf Try.f7) [false, false, true, false, true, true, true, true, true, true, true] = c := sub_of_codeAt hc
  obtain ⟨f, s, h, hrep⟩ := dec_law02_RoomKeeps_L2_ok e a _ hr h
  obtain ⟨J, μ, hj, hround⟩ := h
  refine loop_rule_deep seat_ok seat_mixed ih lit_law02_RoomKeeps_L2 dec_law02_RoomKeeps_L2 dec_law02_RoomKeeps_L2_ok hc f J μ (Kr := fun e w => dx_law02_RoomKeeps_L2_ret e fun f1 t2 => f1 = f ∧ Q .ret [⟨2, .bool t2, none⟩] w) (Kx := fun id e w => match Nat.beq id 2 with | true => (dx_law02_RoomKeeps_L2_2 e fun f1 => f1 = f ∧ Q (.exit 2) [⟨0, .slice f.1 f.2.1 f.2.2.1, none⟩, ⟨3, .pointer f.2.2.2.1, none⟩] w) | false => False) ?_ ?_ ?_ s w a hj hrep
  · intro e a w hr h0
    unfold dx_law02_RoomKeeps_L2_ret at h0
    obtain ⟨u1, g0, h1⟩ := onV_elim h0
    obtain ⟨lP_2, lN_2, lC_2, rfl, h2⟩ := asS_elim h1
    obtain ⟨u2, g3, h3⟩ := onV_elim h2
    obtain ⟨m_1, rfl, h4⟩ := asP_elim h3
    obtain ⟨u3, g7, h5⟩ := onV_elim h4
    obtain ⟨wP, wN, wC, rfl, h6⟩ := asS_elim h5
    obtain ⟨u4, g2, h7⟩ := onV_elim h6
    obtain ⟨t2, rfl, h8⟩ := asB_elim h7
    obtain ⟨hf, hq⟩ := h8
    subst hf
    exact ⟨_, rep_less hr (by simp [g2]), hq⟩
  · intro id e a w hr h0
    (try dsimp only at h0)
    split at h0
    · rename_i hid
      obtain rfl := Nat.eq_of_beq_eq_true hid
      unfold dx_law02_RoomKeeps_L2_2 at h0
      obtain ⟨u1, g0, h1⟩ := onV_elim h0
      obtain ⟨lP_2, lN_2, lC_2, rfl, h2⟩ := asS_elim h1
      obtain ⟨u2, g3, h3⟩ := onV_elim h2
      obtain ⟨m_1, rfl, h4⟩ := asP_elim h3
      obtain ⟨u3, g7, h5⟩ := onV_elim h4
      obtain ⟨wP, wN, wC, rfl, h6⟩ := asS_elim h5
      obtain ⟨hf, hq⟩ := h6
      subst hf
      exact ⟨_, rep_less hr (by simp [g0, g3]), hq⟩
    · exact h0.elim
  · intro s w hj
    have hb := hround s w hj
    rw [← hcc]
    have e1 := body_law02_RoomKeeps_L2 f s w (fun f1 s1 w1 => f1 = f ∧ J s1 w1 ∧ μ s1 w1 < μ s w) (fun f1 w1 => f1 = f ∧ Q (.exit 2) [⟨0, .slice f.1 f.2.1 f.2.2.1, none⟩, ⟨3, .pointer f.2.2.2.1, none⟩] w1) (fun f1 t2 w1 => f1 = f ∧ Q .ret [⟨2, .bool t2, none⟩] w1)
    simp only [true_and] at e1
    exact cast e1 hb

theorem loops_law02_RoomKeeps : LoopOk Try.prog Try.f7.ntmps G_law02_RoomKeeps (codeOf Try.f7) := loopOk_list rfl ⟨ok_law02_RoomKeeps_L1, ⟨ok_law02_RoomKeeps_L2, trivial⟩⟩

theorem den_law02_RoomKeeps (lP : Option Addr) (lN : Nat) (lC : Nat) (w : World) (R : Value → World → Prop) :
    F_law02_RoomKeeps lP lN lC w (fun r w1 => R (.bool r) w1) = den Try.prog Try.f7.ntmps G_law02_RoomKeeps (codeOf Try.f7) [] (postD Try.prog Try.f7.results.toList R) (entry [.slice lP lN lC] 0) w := by kernel_rfl

theorem C_law02_RoomKeeps.of {lP : Option Addr} {lN : Nat} {lC : Nat} {w : World} {R : Bool → World → Prop} (h : F_law02_RoomKeeps lP lN lC w R) : C_law02_RoomKeeps lP lN lC w R := by
  refine (calls_of_den (c := codeOf Try.f7) seat_ok seat_mixed Try.func7 (by kernel_rfl) loops_law02_RoomKeeps (args := [.slice lP lN lC]) rfl (R := fun v w1 => ∃ (r : Bool), v = (.bool r : Value) ∧ R r w1) ?_).mono ?_
  · rw [← den_law02_RoomKeeps]
    have e : (fun r w1 => ∃ (r' : Bool), (.bool r : Value) = (.bool r' : Value) ∧ R r' w1) = R := by
      funext r w1
      exact propext ⟨fun ⟨r', he, h⟩ => by simp at he; simp_all, fun h => ⟨_, rfl, h⟩⟩
    simpa only [e] using h
  · rintro en w1 ⟨v, he, r, rfl, h⟩
    exact ⟨_, he, h⟩

def F_room_New (limitx : Int) (w : World) (R : Option Addr → Int → World → Prop) : Prop :=
  If (decide (limitx < (0 : Int)))
  (R none (1 : Int) w)
  (If (decide (limitx > (1048576 : Int)))
  (R none (1 : Int) w)
  (New w (.cells #[.slice none 0 0, .int .i64 limitx, .int .i64 0] 53) fun r w1 =>
  R (some ⟨r, 0, none⟩) (0 : Int) w1))

def G_room_New : Gen where
  loop := lookL []
  plan := fun _ => none

theorem loops_room_New : LoopOk Try.prog Try.f8.ntmps G_room_New (codeOf Try.f8) := loopOk_none fun _ => rfl

theorem den_room_New (limitx : Int) (w : World) (R : Value → World → Prop) :
    F_room_New limitx w (fun r0 r1 w1 => R (.tuple #[.pointer r0, .int .i64 r1]) w1) = den Try.prog Try.f8.ntmps G_room_New (codeOf Try.f8) [] (postD Try.prog Try.f8.results.toList R) (entry [.int .i64 limitx] 0) w := by kernel_rfl

theorem C_room_New.of {limitx : Int} {w : World} {R : Option Addr → Int → World → Prop} (h : F_room_New limitx w R) : C_room_New limitx w R := by
  refine (calls_of_den (c := codeOf Try.f8) seat_ok seat_mixed Try.func8 (by kernel_rfl) loops_room_New (args := [.int .i64 limitx]) rfl (R := fun v w1 => ∃ (r0 : Option Addr) (r1 : Int), v = (.tuple #[.pointer r0, .int .i64 r1] : Value) ∧ R r0 r1 w1) ?_).mono ?_
  · rw [← den_room_New]
    have e : (fun r0 r1 w1 => ∃ (r0' : Option Addr) (r1' : Int), (.tuple #[.pointer r0, .int .i64 r1] : Value) = (.tuple #[.pointer r0', .int .i64 r1'] : Value) ∧ R r0' r1' w1) = R := by
      funext r0 r1 w1
      exact propext ⟨fun ⟨r0', r1', he, h⟩ => by simp at he; simp_all, fun h => ⟨_, _, rfl, h⟩⟩
    simpa only [e] using h
  · rintro en w1 ⟨v, he, r0, r1, rfl, h⟩
    exact ⟨_, _, he, h⟩

def F_law02_lives_k1 (R : Bool → World → Prop) (w1_14 : World) : Prop :=
  R false w1_14

def F_law02_lives (w : World) (R : Bool → World → Prop) : Prop :=
  C_room_New (2 : Int) w fun t130 t131 w1 =>
  If (t131 != (0 : Int))
  (R false w1)
  (If t130.isNone
  (R false w1)
  (C_room_Room_Push t130 (7 : Int) w1 fun t23 w1_1 =>
  C_room_Room_Push t130 (8 : Int) w1_1 fun t25 w1_2 =>
  C_room_Room_Push t130 (9 : Int) w1_2 fun t27 w1_3 =>
  C_room_Room_Pop t130 w1_3 fun t300 t301 w1_4 =>
  C_room_Room_Get t130 (0 : Int) w1_4 fun t350 t351 w1_5 =>
  C_room_New (-1) w1_5 fun t390 t391 w1_6 =>
  If (t23 == (0 : Int))
  (If (t25 == (0 : Int))
  (If (t27 == (2 : Int))
  (If (t301 == (0 : Int))
  (If (t300 == (8 : Int))
  (If (t351 == (0 : Int))
  (If (t350 == (7 : Int))
  (C_room_Room_Len t130 w1_6 fun t70 w1_7 =>
  If (t70 == (1 : Int))
  (C_room_Room_Limit t130 w1_7 fun t75 w1_8 =>
  If (t75 == (2 : Int))
  (C_room_Room_Most t130 w1_8 fun t80 w1_9 =>
  If (t80 == (2 : Int))
  (C_room_Room_Grow t130 (1 : Int) w1_9 fun t85 w1_10 =>
  If (t85 == (0 : Int))
  (C_room_Room_Set t130 (1 : Int) (4 : Int) w1_10 fun t90 w1_11 =>
  If (t90 == (0 : Int))
  (C_room_Room_Cut t130 (1 : Int) w1_11 fun t95 w1_12 =>
  If (t95 == (0 : Int))
  (If (t391 == (1 : Int))
  (C_room_Room_Words t130 w1_12 fun t104P t104N t104C w1_13 =>
  R ((t104N : Int) == (1 : Int)) w1_13)
  (F_law02_lives_k1 R w1_12))
  (F_law02_lives_k1 R w1_12))
  (F_law02_lives_k1 R w1_11))
  (F_law02_lives_k1 R w1_10))
  (F_law02_lives_k1 R w1_9))
  (F_law02_lives_k1 R w1_8))
  (F_law02_lives_k1 R w1_7))
  (F_law02_lives_k1 R w1_6))
  (F_law02_lives_k1 R w1_6))
  (F_law02_lives_k1 R w1_6))
  (F_law02_lives_k1 R w1_6))
  (F_law02_lives_k1 R w1_6))
  (F_law02_lives_k1 R w1_6))
  (F_law02_lives_k1 R w1_6)))

def G_law02_lives : Gen where
  loop := lookL []
  plan := fun _ => none

theorem loops_law02_lives : LoopOk Try.prog Try.f9.ntmps G_law02_lives (codeOf Try.f9) := loopOk_none fun _ => rfl

theorem den_law02_lives  (w : World) (R : Value → World → Prop) :
    F_law02_lives w (fun r w1 => R (.bool r) w1) = den Try.prog Try.f9.ntmps G_law02_lives (codeOf Try.f9) [] (postD Try.prog Try.f9.results.toList R) (entry [] 0) w := by kernel_rfl

theorem C_law02_lives.of {w : World} {R : Bool → World → Prop} (h : F_law02_lives w R) : C_law02_lives w R := by
  refine (calls_of_den (c := codeOf Try.f9) seat_ok seat_mixed Try.func9 (by kernel_rfl) loops_law02_lives (args := []) rfl (R := fun v w1 => ∃ (r : Bool), v = (.bool r : Value) ∧ R r w1) ?_).mono ?_
  · rw [← den_law02_lives]
    have e : (fun r w1 => ∃ (r' : Bool), (.bool r : Value) = (.bool r' : Value) ∧ R r' w1) = R := by
      funext r w1
      exact propext ⟨fun ⟨r', he, h⟩ => by simp at he; simp_all, fun h => ⟨_, rfl, h⟩⟩
    simpa only [e] using h
  · rintro en w1 ⟨v, he, r, rfl, h⟩
    exact ⟨_, he, h⟩

end Go.Proofs.Ytdkkkomcolklbaa
