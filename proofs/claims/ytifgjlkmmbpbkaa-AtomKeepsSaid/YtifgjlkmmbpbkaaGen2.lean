/- The formulas of this seat's functions, held against the loaded program by the kernel. Printed by a program. -/
import Derived.Test.YtifgjlkmmbpbkaaGenC
set_option maxRecDepth 100000
set_option linter.unusedVariables false
namespace Go.Proofs.Ytifgjlkmmbpbkaa
open Go Go.D Go.Proofs

structure S_law04_AtomReserved_L1 where
  i : Int

structure S_law04_AtomReserved_L2 where
  i_1 : Int

def F_law04_AtomReserved_k1 (R : Bool → World → Prop) (w1_2 : World) : Prop :=
  R false w1_2

def F_law04_AtomReserved_k2 (s : S_law04_AtomReserved_L1) (Kn : S_law04_AtomReserved_L1 → World → Prop) (w1_6 : World) : Prop :=
  Kn ⟨(IntKind.i64.wrap ((s.i : Int) + (1 : Int)))⟩ w1_6

def F_law04_AtomReserved_k3 (Kr : Bool → World → Prop) (w1_11 : World) : Prop :=
  Kr false w1_11

/-- One round. -/
def B_law04_AtomReserved_L1 (lP_1 : Option Addr) (lN_1 : Nat) (lC_1 : Nat) (t : Option Addr) (s : S_law04_AtomReserved_L1) (w : World) (Kn : S_law04_AtomReserved_L1 → World → Prop) (Kx0 : World → Prop) : Prop :=
  If (decide ((s.i : Int) < (lN_1 : Int)))
  (If (decide ((s.i : Int) < (60 : Int)))
  (0 ≤ (s.i : Int) ∧ (s.i : Int) < (lN_1 : Int) ∧ NN lP_1 fun a =>
  ∃ Kind : Int, w.cell? ((a.add ((s.i : Int).toNat * 3)).add 0) = some (.int .i64 Kind) ∧
  If (Kind == (1 : Int))
  (0 ≤ (s.i : Int) ∧ (s.i : Int) < (lN_1 : Int) ∧ NN lP_1 fun a_1 =>
  ∃ Name : ByteArray, w.cell? ((a_1.add ((s.i : Int).toNat * 3)).add 1) = some (.string Name) ∧
  C_atom_Table_Intern t Name w fun t480 t481 w1_3 =>
  F_law04_AtomReserved_k2 s Kn w1_3)
  (If (Kind == (4 : Int))
  (0 ≤ (s.i : Int) ∧ (s.i : Int) < (lN_1 : Int) ∧ NN lP_1 fun a_2 =>
  ∃ Id : Int, w.cell? ((a_2.add ((s.i : Int).toNat * 3)).add 2) = some (.int .i64 Id) ∧
  C_atom_Table_Mark t Id w fun t57 w1_4 =>
  F_law04_AtomReserved_k2 s Kn w1_4)
  (If (Kind == (5 : Int))
  (C_atom_Table_Sweep t w fun t61 w1_5 =>
  F_law04_AtomReserved_k2 s Kn w1_5)
  (F_law04_AtomReserved_k2 s Kn w))))
  (Kx0 w))
  (Kx0 w)

def F_law04_AtomReserved_L1 (lP_1 : Option Addr) (lN_1 : Nat) (lC_1 : Nat) (t : Option Addr) (s : S_law04_AtomReserved_L1) (w : World) (Kx0 : World → Prop) : Prop :=
  LoopS (fun s w Kn => B_law04_AtomReserved_L1 lP_1 lN_1 lC_1 t s w Kn Kx0) s w

/-- One round. -/
def B_law04_AtomReserved_L2 (t_1 : Option Addr) (aP : Option Addr) (aN : Nat) (aC : Nat) (bP : Option Addr) (bN : Nat) (bC : Nat) (s : S_law04_AtomReserved_L2) (w : World) (Kn : S_law04_AtomReserved_L2 → World → Prop) (Kx3 : World → Prop) (Kr : Bool → World → Prop) : Prop :=
  If (decide ((s.i_1 : Int) < (bN : Int)))
  (0 ≤ (s.i_1 : Int) ∧ (s.i_1 : Int) < (bN : Int) ∧ NN bP fun a_3 =>
  ∃ t80 : ByteArray, w.cell? (a_3.add ((s.i_1 : Int).toNat * 1)) = some (.string t80) ∧
  C_atom_Table_Find t_1 t80 w fun t810 t811 w1_10 =>
  0 ≤ (s.i_1 : Int) ∧ (s.i_1 : Int) < (aN : Int) ∧ NN aP fun a_4 =>
  ∃ t87 : ByteArray, (drw w1_10).cell? (a_4.add ((s.i_1 : Int).toNat * 1)) = some (.string t87) ∧
  0 ≤ (s.i_1 : Int) ∧ (s.i_1 : Int) < (bN : Int) ∧ NN bP fun a_5 =>
  ∃ t91 : ByteArray, (drw w1_10).cell? (a_5.add ((s.i_1 : Int).toNat * 1)) = some (.string t91) ∧
  If (!(t87.toList == t91.toList))
  (F_law04_AtomReserved_k3 Kr (drw w1_10))
  (If (!t811)
  (F_law04_AtomReserved_k3 Kr (drw w1_10))
  (If (t810 != (s.i_1 : Int))
  (Kr false (drw w1_10))
  (Kn ⟨(IntKind.i64.wrap ((s.i_1 : Int) + (1 : Int)))⟩ (drw w1_10)))))
  (Kx3 w)

def F_law04_AtomReserved_L2 (t_1 : Option Addr) (aP : Option Addr) (aN : Nat) (aC : Nat) (bP : Option Addr) (bN : Nat) (bC : Nat) (s : S_law04_AtomReserved_L2) (w : World) (Kx3 : World → Prop) (Kr : Bool → World → Prop) : Prop :=
  LoopS (fun s w Kn => B_law04_AtomReserved_L2 t_1 aP aN aC bP bN bC s w Kn Kx3 Kr) s w

def F_law04_AtomReserved (lP : Option Addr) (lN : Nat) (lC : Nat) (w : World) (R : Bool → World → Prop) : Prop :=
  C_atom_New (30 : Int) w fun t120 t121 w1 =>
  C_law04_lives  w1 fun t15 w1_1 =>
  If (!t15)
  (F_law04_AtomReserved_k1 R w1_1)
  (If (t121 != (0 : Int))
  (F_law04_AtomReserved_k1 R w1_1)
  (If t120.isNone
  (R false w1_1)
  (F_law04_AtomReserved_L1 lP lN lC t120 ⟨(0 : Int)⟩ w1_1
  (fun w1_7 =>
  C_atom_Reserved  w1_7 fun t62P t62N t62C w1_8 =>
  C_ref04_Reserved  w1_8 fun t63P t63N t63C w1_9 =>
  If ((t62N : Int) != (t63N : Int))
  (R false w1_9)
  (F_law04_AtomReserved_L2 t120 t62P t62N t62C t63P t63N t63C ⟨(0 : Int)⟩ w1_9
  (fun w1_12 =>
  R true w1_12)
  (fun t2_1 w1_13 =>
  R t2_1 w1_13))))))

def lit_law04_AtomReserved_L1 (f : (Option Addr) × Nat × Nat × (Option Addr)) (s : S_law04_AtomReserved_L1) : Env := [⟨0, .slice f.1 f.2.1 f.2.2.1, none⟩, ⟨3, .pointer f.2.2.2, none⟩, ⟨5, .int .i64 s.i, none⟩]

def dec_law04_AtomReserved_L1 (e : Env) (K : ((Option Addr) × Nat × Nat × (Option Addr)) → S_law04_AtomReserved_L1 → Prop) : Prop :=
  onV (getV e 0) fun u1 =>
  asS u1 fun lP_1 lN_1 lC_1 =>
  onV (getV e 3) fun u2 =>
  asP u2 fun t =>
  onV (getV e 5) fun u3 =>
  asI .i64 u3 fun i =>
    K (lP_1, lN_1, lC_1, t) ⟨i⟩

theorem dec_law04_AtomReserved_L1_ok {N : Nat} (e : Env) (a : Act) (K : ((Option Addr) × Nat × Nat × (Option Addr)) → S_law04_AtomReserved_L1 → Prop) (hr : Rep N a e) (h0 : dec_law04_AtomReserved_L1 e K) : ∃ f s, K f s ∧ Rep N a (lit_law04_AtomReserved_L1 f s) := by
  unfold dec_law04_AtomReserved_L1 at h0
  obtain ⟨u1, g0, h1⟩ := onV_elim h0
  obtain ⟨lP_1, lN_1, lC_1, rfl, h2⟩ := asS_elim h1
  obtain ⟨u2, g3, h3⟩ := onV_elim h2
  obtain ⟨t, rfl, h4⟩ := asP_elim h3
  obtain ⟨u3, g5, h5⟩ := onV_elim h4
  obtain ⟨i, rfl, h6⟩ := asI_elim h5
  exact ⟨_, _, h6, rep_less hr (by simp [lit_law04_AtomReserved_L1, g0, g3, g5])⟩

def spec_law04_AtomReserved_L1 (Q : Post) (e : Env) (w : World) : Prop :=
  dec_law04_AtomReserved_L1 e fun f s => F_law04_AtomReserved_L1 f.1 f.2.1 f.2.2.1 f.2.2.2 s w (fun w1 => Q (.exit 0) [⟨3, .pointer f.2.2.2, none⟩] w1)

def lit_law04_AtomReserved_L2 (f : (Option Addr) × (Option Addr) × Nat × Nat × (Option Addr) × Nat × Nat) (s : S_law04_AtomReserved_L2) : Env := [⟨3, .pointer f.1, none⟩, ⟨6, .slice f.2.1 f.2.2.1 f.2.2.2.1, none⟩, ⟨7, .slice f.2.2.2.2.1 f.2.2.2.2.2.1 f.2.2.2.2.2.2, none⟩, ⟨8, .int .i64 s.i_1, none⟩]

def dec_law04_AtomReserved_L2 (e : Env) (K : ((Option Addr) × (Option Addr) × Nat × Nat × (Option Addr) × Nat × Nat) → S_law04_AtomReserved_L2 → Prop) : Prop :=
  onV (getV e 3) fun u1 =>
  asP u1 fun t_1 =>
  onV (getV e 6) fun u2 =>
  asS u2 fun aP aN aC =>
  onV (getV e 7) fun u3 =>
  asS u3 fun bP bN bC =>
  onV (getV e 8) fun u4 =>
  asI .i64 u4 fun i_1 =>
    K (t_1, aP, aN, aC, bP, bN, bC) ⟨i_1⟩

theorem dec_law04_AtomReserved_L2_ok {N : Nat} (e : Env) (a : Act) (K : ((Option Addr) × (Option Addr) × Nat × Nat × (Option Addr) × Nat × Nat) → S_law04_AtomReserved_L2 → Prop) (hr : Rep N a e) (h0 : dec_law04_AtomReserved_L2 e K) : ∃ f s, K f s ∧ Rep N a (lit_law04_AtomReserved_L2 f s) := by
  unfold dec_law04_AtomReserved_L2 at h0
  obtain ⟨u1, g3, h1⟩ := onV_elim h0
  obtain ⟨t_1, rfl, h2⟩ := asP_elim h1
  obtain ⟨u2, g6, h3⟩ := onV_elim h2
  obtain ⟨aP, aN, aC, rfl, h4⟩ := asS_elim h3
  obtain ⟨u3, g7, h5⟩ := onV_elim h4
  obtain ⟨bP, bN, bC, rfl, h6⟩ := asS_elim h5
  obtain ⟨u4, g8, h7⟩ := onV_elim h6
  obtain ⟨i_1, rfl, h8⟩ := asI_elim h7
  exact ⟨_, _, h8, rep_less hr (by simp [lit_law04_AtomReserved_L2, g3, g6, g7, g8])⟩

def spec_law04_AtomReserved_L2 (Q : Post) (e : Env) (w : World) : Prop :=
  dec_law04_AtomReserved_L2 e fun f s => F_law04_AtomReserved_L2 f.1 f.2.1 f.2.2.1 f.2.2.2.1 f.2.2.2.2.1 f.2.2.2.2.2.1 f.2.2.2.2.2.2 s w (fun w1 => Q (.exit 3) [] w1) (fun t2 w1 => Q .ret [⟨2, .bool t2, none⟩] w1)

def G_law04_AtomReserved : Gen where
  loop := lookL [([false, true, false, true, true, true], spec_law04_AtomReserved_L1), ([false, true, false, true, true, true, true, true, true], spec_law04_AtomReserved_L2)]
  plan := fun id =>
    bif Nat.beq id 21 then some ([0, 0, 3, 7, 0, 0, 48, 112, 255, 511, 1023, 2047, 4095, 8191, 16383, 16383, 65535, 131071], .take 0 (.take 1 (.take 2 (.take 3 (.take 4 (.take 5 (.take 6 (.take 7 (.take 8 (.take 9 (.take 10 (.take 11 (.take 12 (.take 13 (.take 14 (.take 15 (.take 16 (.take 17 .done)))))))))))))))))) else none

def dx_law04_AtomReserved_L1_0 (e : Env) (K : ((Option Addr) × Nat × Nat × (Option Addr)) → Prop) : Prop :=
  onV (getV e 0) fun u1 =>
  asS u1 fun lP_1 lN_1 lC_1 =>
  onV (getV e 3) fun u2 =>
  asP u2 fun t =>
    K (lP_1, lN_1, lC_1, t)

theorem body_law04_AtomReserved_L1 (f : (Option Addr) × Nat × Nat × (Option Addr)) (s : S_law04_AtomReserved_L1) (w : World) (Kn : ((Option Addr) × Nat × Nat × (Option Addr)) → S_law04_AtomReserved_L1 → World → Prop) (Kx0 : ((Option Addr) × Nat × Nat × (Option Addr)) → World → Prop) :
    B_law04_AtomReserved_L1 f.1 f.2.1 f.2.2.1 f.2.2.2 s w (fun s1 w1 => Kn f s1 w1) (fun w1 => Kx0 f w1) =
    den Try.prog Try.f5.ntmps G_law04_AtomReserved (sub (codeOf Try.f5) [false, false, true, false, true, true, true]) [false, false, true, false, true, true, true] (roundQ (fun e w => dec_law04_AtomReserved_L1 e fun f s => Kn f s w) (fun e w => False) (fun id e w => match Nat.beq id 0 with | true => dx_law04_AtomReserved_L1_0 e fun f => Kx0 f w | false => False)) (lit_law04_AtomReserved_L1 f s) w := by kernel_rfl

def dx_law04_AtomReserved_L2_3 (e : Env) (K : ((Option Addr) × (Option Addr) × Nat × Nat × (Option Addr) × Nat × Nat) → Prop) : Prop :=
  onV (getV e 3) fun u1 =>
  asP u1 fun t_1 =>
  onV (getV e 6) fun u2 =>
  asS u2 fun aP aN aC =>
  onV (getV e 7) fun u3 =>
  asS u3 fun bP bN bC =>
    K (t_1, aP, aN, aC, bP, bN, bC)

def dx_law04_AtomReserved_L2_ret (e : Env) (K : ((Option Addr) × (Option Addr) × Nat × Nat × (Option Addr) × Nat × Nat) → Bool → Prop) : Prop :=
  onV (getV e 3) fun u1 =>
  asP u1 fun t_1 =>
  onV (getV e 6) fun u2 =>
  asS u2 fun aP aN aC =>
  onV (getV e 7) fun u3 =>
  asS u3 fun bP bN bC =>
  onV (getV e 2) fun u4 =>
  asB u4 fun t2 =>
    K (t_1, aP, aN, aC, bP, bN, bC) t2

theorem body_law04_AtomReserved_L2 (f : (Option Addr) × (Option Addr) × Nat × Nat × (Option Addr) × Nat × Nat) (s : S_law04_AtomReserved_L2) (w : World) (Kn : ((Option Addr) × (Option Addr) × Nat × Nat × (Option Addr) × Nat × Nat) → S_law04_AtomReserved_L2 → World → Prop) (Kx3 : ((Option Addr) × (Option Addr) × Nat × Nat × (Option Addr) × Nat × Nat) → World → Prop) (Kr : ((Option Addr) × (Option Addr) × Nat × Nat × (Option Addr) × Nat × Nat) → Bool → World → Prop) :
    B_law04_AtomReserved_L2 f.1 f.2.1 f.2.2.1 f.2.2.2.1 f.2.2.2.2.1 f.2.2.2.2.2.1 f.2.2.2.2.2.2 s w (fun s1 w1 => Kn f s1 w1) (fun w1 => Kx3 f w1) (fun t2 w1 => Kr f t2 w1) =
    den Try.prog Try.f5.ntmps G_law04_AtomReserved (sub (codeOf Try.f5) [false, false, true, false, true, true, true, true, true, true]) [false, false, true, false, true, true, true, true, true, true] (roundQ (fun e w => dec_law04_AtomReserved_L2 e fun f s => Kn f s w) (fun e w => dx_law04_AtomReserved_L2_ret e fun f t2 => Kr f t2 w) (fun id e w => match Nat.beq id 3 with | true => dx_law04_AtomReserved_L2_3 e fun f => Kx3 f w | false => False)) (lit_law04_AtomReserved_L2 f s) w := by kernel_rfl

theorem ok_law04_AtomReserved_L1 : OneOk Try.prog Try.f5.ntmps G_law04_AtomReserved (codeOf Try.f5) [false, true, false, true, true, true] spec_law04_AtomReserved_L1 := by
  intro c hc ih Q e w a hr h
  have hcc : sub (codeOf Try.f5) [false, false, true, false, true, true, true] = c := sub_of_codeAt hc
  obtain ⟨f, s, h, hrep⟩ := dec_law04_AtomReserved_L1_ok e a _ hr h
  obtain ⟨J, μ, hj, hround⟩ := h
  refine loop_rule_deep seat_ok seat_mixed ih lit_law04_AtomReserved_L1 dec_law04_AtomReserved_L1 dec_law04_AtomReserved_L1_ok hc f J μ (Kr := fun e w => False) (Kx := fun id e w => match Nat.beq id 0 with | true => (dx_law04_AtomReserved_L1_0 e fun f1 => f1 = f ∧ Q (.exit 0) [⟨3, .pointer f.2.2.2, none⟩] w) | false => False) ?_ ?_ ?_ s w a hj hrep
  · intro e a w hr h
    exact h.elim
  · intro id e a w hr h0
    (try dsimp only at h0)
    split at h0
    · rename_i hid
      obtain rfl := Nat.eq_of_beq_eq_true hid
      unfold dx_law04_AtomReserved_L1_0 at h0
      obtain ⟨u1, g0, h1⟩ := onV_elim h0
      obtain ⟨lP_1, lN_1, lC_1, rfl, h2⟩ := asS_elim h1
      obtain ⟨u2, g3, h3⟩ := onV_elim h2
      obtain ⟨t, rfl, h4⟩ := asP_elim h3
      obtain ⟨hf, hq⟩ := h4
      subst hf
      exact ⟨_, rep_less hr (by simp [g3]), hq⟩
    · exact h0.elim
  · intro s w hj
    have hb := hround s w hj
    rw [← hcc]
    have e1 := body_law04_AtomReserved_L1 f s w (fun f1 s1 w1 => f1 = f ∧ J s1 w1 ∧ μ s1 w1 < μ s w) (fun f1 w1 => f1 = f ∧ Q (.exit 0) [⟨3, .pointer f.2.2.2, none⟩] w1)
    simp only [true_and] at e1
    exact cast e1 hb

theorem ok_law04_AtomReserved_L2 : OneOk Try.prog Try.f5.ntmps G_law04_AtomReserved (codeOf Try.f5) [false, true, false, true, true, true, true, true, true] spec_law04_AtomReserved_L2 := by
  intro c hc ih Q e w a hr h
  have hcc : sub (codeOf Try.f5) [false, false, true, false, true, true, true, true, true, true] = c := sub_of_codeAt hc
  obtain ⟨f, s, h, hrep⟩ := dec_law04_AtomReserved_L2_ok e a _ hr h
  obtain ⟨J, μ, hj, hround⟩ := h
  refine loop_rule_deep seat_ok seat_mixed ih lit_law04_AtomReserved_L2 dec_law04_AtomReserved_L2 dec_law04_AtomReserved_L2_ok hc f J μ (Kr := fun e w => dx_law04_AtomReserved_L2_ret e fun f1 t2 => f1 = f ∧ Q .ret [⟨2, .bool t2, none⟩] w) (Kx := fun id e w => match Nat.beq id 3 with | true => (dx_law04_AtomReserved_L2_3 e fun f1 => f1 = f ∧ Q (.exit 3) [] w) | false => False) ?_ ?_ ?_ s w a hj hrep
  · intro e a w hr h0
    unfold dx_law04_AtomReserved_L2_ret at h0
    obtain ⟨u1, g3, h1⟩ := onV_elim h0
    obtain ⟨t_1, rfl, h2⟩ := asP_elim h1
    obtain ⟨u2, g6, h3⟩ := onV_elim h2
    obtain ⟨aP, aN, aC, rfl, h4⟩ := asS_elim h3
    obtain ⟨u3, g7, h5⟩ := onV_elim h4
    obtain ⟨bP, bN, bC, rfl, h6⟩ := asS_elim h5
    obtain ⟨u4, g2, h7⟩ := onV_elim h6
    obtain ⟨t2, rfl, h8⟩ := asB_elim h7
    obtain ⟨hf, hq⟩ := h8
    subst hf
    exact ⟨_, rep_less hr (by simp [g2]), hq⟩
  · intro id e a w hr h0
    (try dsimp only at h0)
    split at h0
    · rename_i hid
      obtain rfl := Nat.eq_of_beq_eq_true hid
      unfold dx_law04_AtomReserved_L2_3 at h0
      obtain ⟨u1, g3, h1⟩ := onV_elim h0
      obtain ⟨t_1, rfl, h2⟩ := asP_elim h1
      obtain ⟨u2, g6, h3⟩ := onV_elim h2
      obtain ⟨aP, aN, aC, rfl, h4⟩ := asS_elim h3
      obtain ⟨u3, g7, h5⟩ := onV_elim h4
      obtain ⟨bP, bN, bC, rfl, h6⟩ := asS_elim h5
      obtain ⟨hf, hq⟩ := h6
      subst hf
      exact ⟨_, rep_less hr (by simp), hq⟩
    · exact h0.elim
  · intro s w hj
    have hb := hround s w hj
    rw [← hcc]
    have e1 := body_law04_AtomReserved_L2 f s w (fun f1 s1 w1 => f1 = f ∧ J s1 w1 ∧ μ s1 w1 < μ s w) (fun f1 w1 => f1 = f ∧ Q (.exit 3) [] w1) (fun f1 t2 w1 => f1 = f ∧ Q .ret [⟨2, .bool t2, none⟩] w1)
    simp only [true_and] at e1
    exact cast e1 hb

theorem loops_law04_AtomReserved : LoopOk Try.prog Try.f5.ntmps G_law04_AtomReserved (codeOf Try.f5) := loopOk_list rfl ⟨ok_law04_AtomReserved_L1, ⟨ok_law04_AtomReserved_L2, trivial⟩⟩

theorem den_law04_AtomReserved (lP : Option Addr) (lN : Nat) (lC : Nat) (w : World) (R : Value → World → Prop) :
    F_law04_AtomReserved lP lN lC w (fun r w1 => R (.bool r) w1) = den Try.prog Try.f5.ntmps G_law04_AtomReserved (codeOf Try.f5) [] (postD Try.prog Try.f5.results.toList R) (entry [.slice lP lN lC] 0) w := by kernel_rfl

theorem C_law04_AtomReserved.of {lP : Option Addr} {lN : Nat} {lC : Nat} {w : World} {R : Bool → World → Prop} (h : F_law04_AtomReserved lP lN lC w R) : C_law04_AtomReserved lP lN lC w R := by
  refine (calls_of_den (c := codeOf Try.f5) seat_ok seat_mixed Try.func5 (by kernel_rfl) loops_law04_AtomReserved (args := [.slice lP lN lC]) rfl (R := fun v w1 => ∃ (r : Bool), v = (.bool r : Value) ∧ R r w1) ?_).mono ?_
  · rw [← den_law04_AtomReserved]
    have e : (fun r w1 => ∃ (r' : Bool), (.bool r : Value) = (.bool r' : Value) ∧ R r' w1) = R := by
      funext r w1
      exact propext ⟨fun ⟨r', he, h⟩ => by simp at he; simp_all, fun h => ⟨_, rfl, h⟩⟩
    simpa only [e] using h
  · rintro en w1 ⟨v, he, r, rfl, h⟩
    exact ⟨_, he, h⟩

def F_law04_AtomNobody_k1 (R : Bool → World → Prop) (w1_11 : World) : Prop :=
  R false w1_11

def F_law04_AtomNobody (o0 : Int) (o1 : ByteArray) (o2 : Int) (w : World) (R : Bool → World → Prop) : Prop :=
  New w (.cells #[.int .i64 o0, .string o1, .int .i64 o2] 31) fun r w1 =>
  ∃ Name : ByteArray, w1.cell? ((⟨r, 0, none⟩ : Addr).add 1) = some (.string Name) ∧
  C_atom_Table_Intern none Name w1 fun t140 t141 w1_1 =>
  ∃ Name_1 : ByteArray, w1_1.cell? ((⟨r, 0, none⟩ : Addr).add 1) = some (.string Name_1) ∧
  C_atom_Table_Find none Name_1 w1_1 fun t210 t211 w1_2 =>
  ∃ Id : Int, w1_2.cell? ((⟨r, 0, none⟩ : Addr).add 2) = some (.int .i64 Id) ∧
  C_atom_Table_Name none Id w1_2 fun t280 t281 w1_3 =>
  C_law04_lives  w1_3 fun t31 w1_4 =>
  If t31
  (If (t140 == (0 : Int))
  (If (t141 == (6 : Int))
  (If (t210 == (0 : Int))
  (If (!t211)
  (If (t280.toList == (⟨#[]⟩ : ByteArray).toList)
  (If (t281 == (6 : Int))
  (C_atom_Table_Len none w1_4 fun t58 w1_5 =>
  If (t58 == (0 : Int))
  (C_atom_Table_Slots none w1_5 fun t63 w1_6 =>
  If (t63 == (0 : Int))
  (C_atom_Table_Made none w1_6 fun t68 w1_7 =>
  If (t68 == (0 : Int))
  (∃ Id_1 : Int, w1_7.cell? ((⟨r, 0, none⟩ : Addr).add 2) = some (.int .i64 Id_1) ∧
  C_atom_Table_Mark none Id_1 w1_7 fun t75 w1_8 =>
  If (t75 == (6 : Int))
  (∃ Id_2 : Int, w1_8.cell? ((⟨r, 0, none⟩ : Addr).add 2) = some (.int .i64 Id_2) ∧
  C_atom_Table_Marked none Id_2 w1_8 fun t82 w1_9 =>
  If (!t82)
  (C_atom_Table_Sweep none w1_9 fun t87 w1_10 =>
  R (t87 == (0 : Int)) w1_10)
  (F_law04_AtomNobody_k1 R w1_9))
  (F_law04_AtomNobody_k1 R w1_8))
  (F_law04_AtomNobody_k1 R w1_7))
  (F_law04_AtomNobody_k1 R w1_6))
  (F_law04_AtomNobody_k1 R w1_5))
  (F_law04_AtomNobody_k1 R w1_4))
  (F_law04_AtomNobody_k1 R w1_4))
  (F_law04_AtomNobody_k1 R w1_4))
  (F_law04_AtomNobody_k1 R w1_4))
  (F_law04_AtomNobody_k1 R w1_4))
  (F_law04_AtomNobody_k1 R w1_4))
  (F_law04_AtomNobody_k1 R w1_4)

def G_law04_AtomNobody : Gen where
  loop := lookL []
  plan := fun _ => none

theorem loops_law04_AtomNobody : LoopOk Try.prog Try.f6.ntmps G_law04_AtomNobody (codeOf Try.f6) := loopOk_none fun _ => rfl

theorem den_law04_AtomNobody (o0 : Int) (o1 : ByteArray) (o2 : Int) (w : World) (R : Value → World → Prop) :
    F_law04_AtomNobody o0 o1 o2 w (fun r w1 => R (.bool r) w1) = den Try.prog Try.f6.ntmps G_law04_AtomNobody (codeOf Try.f6) [] (postD Try.prog Try.f6.results.toList R) (entry [.agg #[.int .i64 o0, .string o1, .int .i64 o2]] 0) w := by kernel_rfl

theorem C_law04_AtomNobody.of {o0 : Int} {o1 : ByteArray} {o2 : Int} {w : World} {R : Bool → World → Prop} (h : F_law04_AtomNobody o0 o1 o2 w R) : C_law04_AtomNobody o0 o1 o2 w R := by
  refine (calls_of_den (c := codeOf Try.f6) seat_ok seat_mixed Try.func6 (by kernel_rfl) loops_law04_AtomNobody (args := [.agg #[.int .i64 o0, .string o1, .int .i64 o2]]) rfl (R := fun v w1 => ∃ (r : Bool), v = (.bool r : Value) ∧ R r w1) ?_).mono ?_
  · rw [← den_law04_AtomNobody]
    have e : (fun r w1 => ∃ (r' : Bool), (.bool r : Value) = (.bool r' : Value) ∧ R r' w1) = R := by
      funext r w1
      exact propext ⟨fun ⟨r', he, h⟩ => by simp at he; simp_all, fun h => ⟨_, rfl, h⟩⟩
    simpa only [e] using h
  · rintro en w1 ⟨v, he, r, rfl, h⟩
    exact ⟨_, he, h⟩

structure S_law04_AtomTells_L1 where
  i : Int

def F_law04_AtomTells_k1 (R : Bool → World → Prop) (w1_2 : World) : Prop :=
  C_law04_lives  w1_2 fun t34 w1_3 =>
  R t34 w1_3

def F_law04_AtomTells_k2 (Kr : Bool → World → Prop) (w1_11 : World) : Prop :=
  Kr false w1_11

def F_law04_AtomTells_k3 (s : S_law04_AtomTells_L1) (Kn : S_law04_AtomTells_L1 → World → Prop) (w1_12 : World) : Prop :=
  Kn ⟨(IntKind.i64.wrap ((s.i : Int) + (1 : Int)))⟩ w1_12

/-- One round. -/
def B_law04_AtomTells_L1 (lP_1 : Option Addr) (lN_1 : Nat) (lC_1 : Nat) (t : Option Addr) (s : S_law04_AtomTells_L1) (w : World) (Kn : S_law04_AtomTells_L1 → World → Prop) (Kx0 : World → Prop) (Kr : Bool → World → Prop) : Prop :=
  If (decide ((s.i : Int) < (lN_1 : Int)))
  (0 ≤ (s.i : Int) ∧ (s.i : Int) < (lN_1 : Int) ∧ NN lP_1 fun a =>
  ∃ t46 : ByteArray, w.cell? (a.add ((s.i : Int).toNat * 1)) = some (.string t46) ∧
  C_atom_Table_Intern t t46 w fun t470 t471 w1_5 =>
  0 ≤ (s.i : Int) ∧ (s.i : Int) < (lN_1 : Int) ∧ NN lP_1 fun a_1 =>
  ∃ t53 : ByteArray, w1_5.cell? (a_1.add ((s.i : Int).toNat * 1)) = some (.string t53) ∧
  If (decide ((t53.size : Int) > (64 : Int)))
  (If (t471 != (3 : Int))
  (Kr false w1_5)
  (If (t470 != (0 : Int))
  (Kr false w1_5)
  (F_law04_AtomTells_k3 s Kn w1_5)))
  (C_atom_Table_Made t w1_5 fun t63 w1_6 =>
  C_atom_Table_Name t t470 w1_6 fun t670 t671 w1_7 =>
  0 ≤ (s.i : Int) ∧ (s.i : Int) < (lN_1 : Int) ∧ NN lP_1 fun a_2 =>
  ∃ t75 : ByteArray, w1_7.cell? (a_2.add ((s.i : Int).toNat * 1)) = some (.string t75) ∧
  C_atom_Table_Find t t75 w1_7 fun t760 t761 w1_8 =>
  0 ≤ (s.i : Int) ∧ (s.i : Int) < (lN_1 : Int) ∧ NN lP_1 fun a_3 =>
  ∃ t84 : ByteArray, w1_8.cell? (a_3.add ((s.i : Int).toNat * 1)) = some (.string t84) ∧
  C_atom_Table_Intern t t84 w1_8 fun t850 t851 w1_9 =>
  If (t471 != (0 : Int))
  (F_law04_AtomTells_k2 Kr w1_9)
  (If (t671 != (0 : Int))
  (F_law04_AtomTells_k2 Kr w1_9)
  (0 ≤ (s.i : Int) ∧ (s.i : Int) < (lN_1 : Int) ∧ NN lP_1 fun a_4 =>
  ∃ t99 : ByteArray, w1_9.cell? (a_4.add ((s.i : Int).toNat * 1)) = some (.string t99) ∧
  If (!(t670.toList == t99.toList))
  (F_law04_AtomTells_k2 Kr w1_9)
  (If (!t761)
  (F_law04_AtomTells_k2 Kr w1_9)
  (If (t760 != t470)
  (F_law04_AtomTells_k2 Kr w1_9)
  (If (t851 != (0 : Int))
  (F_law04_AtomTells_k2 Kr w1_9)
  (If (t850 != t470)
  (F_law04_AtomTells_k2 Kr w1_9)
  (C_atom_Table_Made t w1_9 fun t122 w1_10 =>
  If (t122 != t63)
  (Kr false w1_10)
  (F_law04_AtomTells_k3 s Kn w1_10))))))))))
  (Kx0 w)

def F_law04_AtomTells_L1 (lP_1 : Option Addr) (lN_1 : Nat) (lC_1 : Nat) (t : Option Addr) (s : S_law04_AtomTells_L1) (w : World) (Kx0 : World → Prop) (Kr : Bool → World → Prop) : Prop :=
  LoopS (fun s w Kn => B_law04_AtomTells_L1 lP_1 lN_1 lC_1 t s w Kn Kx0 Kr) s w

def F_law04_AtomTells (lP : Option Addr) (lN : Nat) (lC : Nat) (w : World) (R : Bool → World → Prop) : Prop :=
  C_atom_New (16384 : Int) w fun t160 t161 w1 =>
  C_law04_lives  w1 fun t19 w1_1 =>
  If (!t19)
  (F_law04_AtomTells_k1 R w1_1)
  (If (t161 != (0 : Int))
  (F_law04_AtomTells_k1 R w1_1)
  (If t160.isNone
  (F_law04_AtomTells_k1 R w1_1)
  (If (decide ((lN : Int) > (100 : Int)))
  (C_law04_lives  w1_1 fun t34_1 w1_4 =>
  R t34_1 w1_4)
  (F_law04_AtomTells_L1 lP lN lC t160 ⟨(0 : Int)⟩ w1_1
  (fun w1_13 =>
  C_atom_Table_Len t160 w1_13 fun t127 w1_15 =>
  C_atom_Table_Made t160 w1_15 fun t129 w1_16 =>
  If (t127 == (IntKind.i64.wrap ((15 : Int) + t129)))
  (C_atom_Table_Slots t160 w1_16 fun t134 w1_17 =>
  C_atom_Table_Len t160 w1_17 fun t136 w1_18 =>
  R (t134 == t136) w1_18)
  (R false w1_16))
  (fun t2_1 w1_14 =>
  R t2_1 w1_14)))))

def lit_law04_AtomTells_L1 (f : (Option Addr) × Nat × Nat × (Option Addr)) (s : S_law04_AtomTells_L1) : Env := [⟨0, .slice f.1 f.2.1 f.2.2.1, none⟩, ⟨3, .pointer f.2.2.2, none⟩, ⟨5, .int .i64 s.i, none⟩]

def dec_law04_AtomTells_L1 (e : Env) (K : ((Option Addr) × Nat × Nat × (Option Addr)) → S_law04_AtomTells_L1 → Prop) : Prop :=
  onV (getV e 0) fun u1 =>
  asS u1 fun lP_1 lN_1 lC_1 =>
  onV (getV e 3) fun u2 =>
  asP u2 fun t =>
  onV (getV e 5) fun u3 =>
  asI .i64 u3 fun i =>
    K (lP_1, lN_1, lC_1, t) ⟨i⟩

theorem dec_law04_AtomTells_L1_ok {N : Nat} (e : Env) (a : Act) (K : ((Option Addr) × Nat × Nat × (Option Addr)) → S_law04_AtomTells_L1 → Prop) (hr : Rep N a e) (h0 : dec_law04_AtomTells_L1 e K) : ∃ f s, K f s ∧ Rep N a (lit_law04_AtomTells_L1 f s) := by
  unfold dec_law04_AtomTells_L1 at h0
  obtain ⟨u1, g0, h1⟩ := onV_elim h0
  obtain ⟨lP_1, lN_1, lC_1, rfl, h2⟩ := asS_elim h1
  obtain ⟨u2, g3, h3⟩ := onV_elim h2
  obtain ⟨t, rfl, h4⟩ := asP_elim h3
  obtain ⟨u3, g5, h5⟩ := onV_elim h4
  obtain ⟨i, rfl, h6⟩ := asI_elim h5
  exact ⟨_, _, h6, rep_less hr (by simp [lit_law04_AtomTells_L1, g0, g3, g5])⟩

def spec_law04_AtomTells_L1 (Q : Post) (e : Env) (w : World) : Prop :=
  dec_law04_AtomTells_L1 e fun f s => F_law04_AtomTells_L1 f.1 f.2.1 f.2.2.1 f.2.2.2 s w (fun w1 => Q (.exit 0) [⟨3, .pointer f.2.2.2, none⟩] w1) (fun t2 w1 => Q .ret [⟨2, .bool t2, none⟩] w1)

def G_law04_AtomTells : Gen where
  loop := lookL [([false, true, false, true, true, true], spec_law04_AtomTells_L1)]
  plan := fun _ => none

def dx_law04_AtomTells_L1_0 (e : Env) (K : ((Option Addr) × Nat × Nat × (Option Addr)) → Prop) : Prop :=
  onV (getV e 0) fun u1 =>
  asS u1 fun lP_1 lN_1 lC_1 =>
  onV (getV e 3) fun u2 =>
  asP u2 fun t =>
    K (lP_1, lN_1, lC_1, t)

def dx_law04_AtomTells_L1_ret (e : Env) (K : ((Option Addr) × Nat × Nat × (Option Addr)) → Bool → Prop) : Prop :=
  onV (getV e 0) fun u1 =>
  asS u1 fun lP_1 lN_1 lC_1 =>
  onV (getV e 3) fun u2 =>
  asP u2 fun t =>
  onV (getV e 2) fun u3 =>
  asB u3 fun t2 =>
    K (lP_1, lN_1, lC_1, t) t2

theorem body_law04_AtomTells_L1 (f : (Option Addr) × Nat × Nat × (Option Addr)) (s : S_law04_AtomTells_L1) (w : World) (Kn : ((Option Addr) × Nat × Nat × (Option Addr)) → S_law04_AtomTells_L1 → World → Prop) (Kx0 : ((Option Addr) × Nat × Nat × (Option Addr)) → World → Prop) (Kr : ((Option Addr) × Nat × Nat × (Option Addr)) → Bool → World → Prop) :
    B_law04_AtomTells_L1 f.1 f.2.1 f.2.2.1 f.2.2.2 s w (fun s1 w1 => Kn f s1 w1) (fun w1 => Kx0 f w1) (fun t2 w1 => Kr f t2 w1) =
    den Try.prog Try.f7.ntmps G_law04_AtomTells (sub (codeOf Try.f7) [false, false, true, false, true, true, true]) [false, false, true, false, true, true, true] (roundQ (fun e w => dec_law04_AtomTells_L1 e fun f s => Kn f s w) (fun e w => dx_law04_AtomTells_L1_ret e fun f t2 => Kr f t2 w) (fun id e w => match Nat.beq id 0 with | true => dx_law04_AtomTells_L1_0 e fun f => Kx0 f w | false => False)) (lit_law04_AtomTells_L1 f s) w := by kernel_rfl

theorem ok_law04_AtomTells_L1 : OneOk Try.prog Try.f7.ntmps G_law04_AtomTells (codeOf Try.f7) [false, true, false, true, true, true] spec_law04_AtomTells_L1 := by
  intro c hc ih Q e w a hr h
  have hcc : sub (codeOf Try.f7) [false, false, true, false, true, true, true] = c := sub_of_codeAt hc
  obtain ⟨f, s, h, hrep⟩ := dec_law04_AtomTells_L1_ok e a _ hr h
  obtain ⟨J, μ, hj, hround⟩ := h
  refine loop_rule_deep seat_ok seat_mixed ih lit_law04_AtomTells_L1 dec_law04_AtomTells_L1 dec_law04_AtomTells_L1_ok hc f J μ (Kr := fun e w => dx_law04_AtomTells_L1_ret e fun f1 t2 => f1 = f ∧ Q .ret [⟨2, .bool t2, none⟩] w) (Kx := fun id e w => match Nat.beq id 0 with | true => (dx_law04_AtomTells_L1_0 e fun f1 => f1 = f ∧ Q (.exit 0) [⟨3, .pointer f.2.2.2, none⟩] w) | false => False) ?_ ?_ ?_ s w a hj hrep
  · intro e a w hr h0
    unfold dx_law04_AtomTells_L1_ret at h0
    obtain ⟨u1, g0, h1⟩ := onV_elim h0
    obtain ⟨lP_1, lN_1, lC_1, rfl, h2⟩ := asS_elim h1
    obtain ⟨u2, g3, h3⟩ := onV_elim h2
    obtain ⟨t, rfl, h4⟩ := asP_elim h3
    obtain ⟨u3, g2, h5⟩ := onV_elim h4
    obtain ⟨t2, rfl, h6⟩ := asB_elim h5
    obtain ⟨hf, hq⟩ := h6
    subst hf
    exact ⟨_, rep_less hr (by simp [g2]), hq⟩
  · intro id e a w hr h0
    (try dsimp only at h0)
    split at h0
    · rename_i hid
      obtain rfl := Nat.eq_of_beq_eq_true hid
      unfold dx_law04_AtomTells_L1_0 at h0
      obtain ⟨u1, g0, h1⟩ := onV_elim h0
      obtain ⟨lP_1, lN_1, lC_1, rfl, h2⟩ := asS_elim h1
      obtain ⟨u2, g3, h3⟩ := onV_elim h2
      obtain ⟨t, rfl, h4⟩ := asP_elim h3
      obtain ⟨hf, hq⟩ := h4
      subst hf
      exact ⟨_, rep_less hr (by simp [g3]), hq⟩
    · exact h0.elim
  · intro s w hj
    have hb := hround s w hj
    rw [← hcc]
    have e1 := body_law04_AtomTells_L1 f s w (fun f1 s1 w1 => f1 = f ∧ J s1 w1 ∧ μ s1 w1 < μ s w) (fun f1 w1 => f1 = f ∧ Q (.exit 0) [⟨3, .pointer f.2.2.2, none⟩] w1) (fun f1 t2 w1 => f1 = f ∧ Q .ret [⟨2, .bool t2, none⟩] w1)
    simp only [true_and] at e1
    exact cast e1 hb

theorem loops_law04_AtomTells : LoopOk Try.prog Try.f7.ntmps G_law04_AtomTells (codeOf Try.f7) := loopOk_list rfl ⟨ok_law04_AtomTells_L1, trivial⟩

theorem den_law04_AtomTells (lP : Option Addr) (lN : Nat) (lC : Nat) (w : World) (R : Value → World → Prop) :
    F_law04_AtomTells lP lN lC w (fun r w1 => R (.bool r) w1) = den Try.prog Try.f7.ntmps G_law04_AtomTells (codeOf Try.f7) [] (postD Try.prog Try.f7.results.toList R) (entry [.slice lP lN lC] 0) w := by kernel_rfl

theorem C_law04_AtomTells.of {lP : Option Addr} {lN : Nat} {lC : Nat} {w : World} {R : Bool → World → Prop} (h : F_law04_AtomTells lP lN lC w R) : C_law04_AtomTells lP lN lC w R := by
  refine (calls_of_den (c := codeOf Try.f7) seat_ok seat_mixed Try.func7 (by kernel_rfl) loops_law04_AtomTells (args := [.slice lP lN lC]) rfl (R := fun v w1 => ∃ (r : Bool), v = (.bool r : Value) ∧ R r w1) ?_).mono ?_
  · rw [← den_law04_AtomTells]
    have e : (fun r w1 => ∃ (r' : Bool), (.bool r : Value) = (.bool r' : Value) ∧ R r' w1) = R := by
      funext r w1
      exact propext ⟨fun ⟨r', he, h⟩ => by simp at he; simp_all, fun h => ⟨_, rfl, h⟩⟩
    simpa only [e] using h
  · rintro en w1 ⟨v, he, r, rfl, h⟩
    exact ⟨_, he, h⟩

def F_atom_New (limitx : Int) (w : World) (R : Option Addr → Int → World → Prop) : Prop :=
  C_atom_Reserved  w fun t5P t5N t5C w1 =>
  If (decide (limitx < (t5N : Int)))
  (R none (1 : Int) w1)
  (If (decide (limitx > (16384 : Int)))
  (R none (1 : Int) w1)
  (New w1 (.cells #[.int .u32 0, .int .i32 0, .int .u32 0, .int .i64 0, .int .i64 limitx, .slice none 0 0, .map none, .slice none 0 0] 73) fun r w1_1 =>
  R (some ⟨r, 0, none⟩) (0 : Int) w1_1))

def G_atom_New : Gen where
  loop := lookL []
  plan := fun _ => none

theorem loops_atom_New : LoopOk Try.prog Try.f8.ntmps G_atom_New (codeOf Try.f8) := loopOk_none fun _ => rfl

theorem den_atom_New (limitx : Int) (w : World) (R : Value → World → Prop) :
    F_atom_New limitx w (fun r0 r1 w1 => R (.tuple #[.pointer r0, .int .i64 r1]) w1) = den Try.prog Try.f8.ntmps G_atom_New (codeOf Try.f8) [] (postD Try.prog Try.f8.results.toList R) (entry [.int .i64 limitx] 0) w := by kernel_rfl

theorem C_atom_New.of {limitx : Int} {w : World} {R : Option Addr → Int → World → Prop} (h : F_atom_New limitx w R) : C_atom_New limitx w R := by
  refine (calls_of_den (c := codeOf Try.f8) seat_ok seat_mixed Try.func8 (by kernel_rfl) loops_atom_New (args := [.int .i64 limitx]) rfl (R := fun v w1 => ∃ (r0 : Option Addr) (r1 : Int), v = (.tuple #[.pointer r0, .int .i64 r1] : Value) ∧ R r0 r1 w1) ?_).mono ?_
  · rw [← den_atom_New]
    have e : (fun r0 r1 w1 => ∃ (r0' : Option Addr) (r1' : Int), (.tuple #[.pointer r0, .int .i64 r1] : Value) = (.tuple #[.pointer r0', .int .i64 r1'] : Value) ∧ R r0' r1' w1) = R := by
      funext r0 r1 w1
      exact propext ⟨fun ⟨r0', r1', he, h⟩ => by simp at he; simp_all, fun h => ⟨_, _, rfl, h⟩⟩
    simpa only [e] using h
  · rintro en w1 ⟨v, he, r0, r1, rfl, h⟩
    exact ⟨_, _, he, h⟩

structure S_ref04_New_L1 where
  i : Int

/-- One round. -/
def B_ref04_New_L1 (lP : Option Addr) (lN : Nat) (lC : Nat) (t : Addr) (s : S_ref04_New_L1) (w : World) (Kn : S_ref04_New_L1 → World → Prop) (Kx0 : World → Prop) : Prop :=
  If (decide ((s.i : Int) < (lN : Int)))
  (NN (some t) fun a =>
  ∃ LP : Option Addr, ∃ LN : Nat, ∃ LC : Nat, (drw w).cell? (a.add 0) = some (.slice LP LN LC) ∧
  0 ≤ (s.i : Int) ∧ (s.i : Int) < (lN : Int) ∧ NN lP fun a_1 =>
  ∃ t32 : ByteArray, (drw w).cell? (a_1.add ((s.i : Int).toNat * 1)) = some (.string t32) ∧
  BSl Try.prog 34 1 [(0, .agg #[.string t32, .bool true, .bool false])] (drw w) fun t34P t34N t34C w1_2 =>
  w1_2.cell? (a.add 0) = (drw w).cell? (a.add 0) ∧
  App Try.prog #[34, 34] 34 #[.slice LP LN LC, .slice t34P t34N t34C] w1_2 fun t35P t35N t35C w1_3 =>
  NN (some t) fun a_2 =>
  St w1_3 ((a_2.add 0).add 0) (.slice t35P t35N t35C) fun w1_4 =>
  Kn ⟨(IntKind.i64.wrap ((s.i : Int) + (1 : Int)))⟩ w1_4)
  (Kx0 w)

def F_ref04_New_L1 (lP : Option Addr) (lN : Nat) (lC : Nat) (t : Addr) (s : S_ref04_New_L1) (w : World) (Kx0 : World → Prop) : Prop :=
  LoopS (fun s w Kn => B_ref04_New_L1 lP lN lC t s w Kn Kx0) s w

def F_ref04_New (limitx : Int) (w : World) (R : Option Addr → World → Prop) : Prop :=
  C_ref04_Reserved  w fun t6P t6N t6C w1 =>
  If (decide (limitx < (t6N : Int)))
  (R none w1)
  (If (decide (limitx > (16384 : Int)))
  (R none w1)
  (New w1 (.cells #[.slice none 0 0, .int .i64 limitx, .int .i64 0] 36) fun r w1_1 =>
  F_ref04_New_L1 t6P t6N t6C ⟨r, 0, none⟩ ⟨(0 : Int)⟩ w1_1
  (fun w1_5 =>
  R (some ⟨r, 0, none⟩) w1_5)))

def lit_ref04_New_L1 (f : (Option Addr) × Nat × Nat × Addr) (s : S_ref04_New_L1) : Env := [⟨3, .slice f.1 f.2.1 f.2.2.1, none⟩, ⟨4, .pointer (some f.2.2.2), none⟩, ⟨5, .int .i64 s.i, none⟩]

def dec_ref04_New_L1 (e : Env) (K : ((Option Addr) × Nat × Nat × Addr) → S_ref04_New_L1 → Prop) : Prop :=
  onV (getV e 3) fun u1 =>
  asS u1 fun lP lN lC =>
  onV (getV e 4) fun u2 =>
  asA u2 fun t =>
  onV (getV e 5) fun u3 =>
  asI .i64 u3 fun i =>
    K (lP, lN, lC, t) ⟨i⟩

theorem dec_ref04_New_L1_ok {N : Nat} (e : Env) (a : Act) (K : ((Option Addr) × Nat × Nat × Addr) → S_ref04_New_L1 → Prop) (hr : Rep N a e) (h0 : dec_ref04_New_L1 e K) : ∃ f s, K f s ∧ Rep N a (lit_ref04_New_L1 f s) := by
  unfold dec_ref04_New_L1 at h0
  obtain ⟨u1, g3, h1⟩ := onV_elim h0
  obtain ⟨lP, lN, lC, rfl, h2⟩ := asS_elim h1
  obtain ⟨u2, g4, h3⟩ := onV_elim h2
  obtain ⟨t, rfl, h4⟩ := asA_elim h3
  obtain ⟨u3, g5, h5⟩ := onV_elim h4
  obtain ⟨i, rfl, h6⟩ := asI_elim h5
  exact ⟨_, _, h6, rep_less hr (by simp [lit_ref04_New_L1, g3, g4, g5])⟩

def spec_ref04_New_L1 (Q : Post) (e : Env) (w : World) : Prop :=
  dec_ref04_New_L1 e fun f s => F_ref04_New_L1 f.1 f.2.1 f.2.2.1 f.2.2.2 s w (fun w1 => Q (.exit 0) [⟨4, .pointer (some f.2.2.2), none⟩] w1)

def G_ref04_New : Gen where
  loop := lookL [([false, true, false, true, true, true, true], spec_ref04_New_L1)]
  plan := fun id =>
    bif Nat.beq id 8 then some ([0, 0, 2, 6, 14, 0, 0, 96, 224, 480, 992, 2046, 4095, 8191, 16383], .take 0 (.take 1 (.take 2 (.take 3 (.take 4 (.take 5 (.take 6 (.take 7 (.take 8 (.take 9 (.take 10 (.take 11 (.take 12 (.take 13 (.take 14 .done))))))))))))))) else none

def dx_ref04_New_L1_0 (e : Env) (K : ((Option Addr) × Nat × Nat × Addr) → Prop) : Prop :=
  onV (getV e 3) fun u1 =>
  asS u1 fun lP lN lC =>
  onV (getV e 4) fun u2 =>
  asA u2 fun t =>
    K (lP, lN, lC, t)

theorem body_ref04_New_L1 (f : (Option Addr) × Nat × Nat × Addr) (s : S_ref04_New_L1) (w : World) (Kn : ((Option Addr) × Nat × Nat × Addr) → S_ref04_New_L1 → World → Prop) (Kx0 : ((Option Addr) × Nat × Nat × Addr) → World → Prop) :
    B_ref04_New_L1 f.1 f.2.1 f.2.2.1 f.2.2.2 s w (fun s1 w1 => Kn f s1 w1) (fun w1 => Kx0 f w1) =
    den Try.prog Try.f9.ntmps G_ref04_New (sub (codeOf Try.f9) [false, false, true, false, true, true, true, true]) [false, false, true, false, true, true, true, true] (roundQ (fun e w => dec_ref04_New_L1 e fun f s => Kn f s w) (fun e w => False) (fun id e w => match Nat.beq id 0 with | true => dx_ref04_New_L1_0 e fun f => Kx0 f w | false => False)) (lit_ref04_New_L1 f s) w := by kernel_rfl

theorem ok_ref04_New_L1 : OneOk Try.prog Try.f9.ntmps G_ref04_New (codeOf Try.f9) [false, true, false, true, true, true, true] spec_ref04_New_L1 := by
  intro c hc ih Q e w a hr h
  have hcc : sub (codeOf Try.f9) [false, false, true, false, true, true, true, true] = c := sub_of_codeAt hc
  obtain ⟨f, s, h, hrep⟩ := dec_ref04_New_L1_ok e a _ hr h
  obtain ⟨J, μ, hj, hround⟩ := h
  refine loop_rule_deep seat_ok seat_mixed ih lit_ref04_New_L1 dec_ref04_New_L1 dec_ref04_New_L1_ok hc f J μ (Kr := fun e w => False) (Kx := fun id e w => match Nat.beq id 0 with | true => (dx_ref04_New_L1_0 e fun f1 => f1 = f ∧ Q (.exit 0) [⟨4, .pointer (some f.2.2.2), none⟩] w) | false => False) ?_ ?_ ?_ s w a hj hrep
  · intro e a w hr h
    exact h.elim
  · intro id e a w hr h0
    (try dsimp only at h0)
    split at h0
    · rename_i hid
      obtain rfl := Nat.eq_of_beq_eq_true hid
      unfold dx_ref04_New_L1_0 at h0
      obtain ⟨u1, g3, h1⟩ := onV_elim h0
      obtain ⟨lP, lN, lC, rfl, h2⟩ := asS_elim h1
      obtain ⟨u2, g4, h3⟩ := onV_elim h2
      obtain ⟨t, rfl, h4⟩ := asA_elim h3
      obtain ⟨hf, hq⟩ := h4
      subst hf
      exact ⟨_, rep_less hr (by simp [g4]), hq⟩
    · exact h0.elim
  · intro s w hj
    have hb := hround s w hj
    rw [← hcc]
    have e1 := body_ref04_New_L1 f s w (fun f1 s1 w1 => f1 = f ∧ J s1 w1 ∧ μ s1 w1 < μ s w) (fun f1 w1 => f1 = f ∧ Q (.exit 0) [⟨4, .pointer (some f.2.2.2), none⟩] w1)
    simp only [true_and] at e1
    exact cast e1 hb

theorem loops_ref04_New : LoopOk Try.prog Try.f9.ntmps G_ref04_New (codeOf Try.f9) := loopOk_list rfl ⟨ok_ref04_New_L1, trivial⟩

theorem den_ref04_New (limitx : Int) (w : World) (R : Value → World → Prop) :
    F_ref04_New limitx w (fun r w1 => R (.pointer r) w1) = den Try.prog Try.f9.ntmps G_ref04_New (codeOf Try.f9) [] (postD Try.prog Try.f9.results.toList R) (entry [.int .i64 limitx] 0) w := by kernel_rfl

theorem C_ref04_New.of {limitx : Int} {w : World} {R : Option Addr → World → Prop} (h : F_ref04_New limitx w R) : C_ref04_New limitx w R := by
  refine (calls_of_den (c := codeOf Try.f9) seat_ok seat_mixed Try.func9 (by kernel_rfl) loops_ref04_New (args := [.int .i64 limitx]) rfl (R := fun v w1 => ∃ (r : Option Addr), v = (.pointer r : Value) ∧ R r w1) ?_).mono ?_
  · rw [← den_ref04_New]
    have e : (fun r w1 => ∃ (r' : Option Addr), (.pointer r : Value) = (.pointer r' : Value) ∧ R r' w1) = R := by
      funext r w1
      exact propext ⟨fun ⟨r', he, h⟩ => by simp at he; simp_all, fun h => ⟨_, rfl, h⟩⟩
    simpa only [e] using h
  · rintro en w1 ⟨v, he, r, rfl, h⟩
    exact ⟨_, he, h⟩

def F_law04_lives_k1 (R : Bool → World → Prop) (w1_14 : World) : Prop :=
  R false w1_14

def F_law04_lives (w : World) (R : Bool → World → Prop) : Prop :=
  C_atom_New (20 : Int) w fun t180 t181 w1 =>
  If (t181 != (0 : Int))
  (R false w1)
  (If t180.isNone
  (R false w1)
  (C_atom_Table_Intern t180 ⟨#[97]⟩ w1 fun t290 t291 w1_1 =>
  C_atom_Table_Intern t180 ⟨#[98]⟩ w1_1 fun t340 t341 w1_2 =>
  C_atom_Table_Mark t180 t340 w1_2 fun t39 w1_3 =>
  C_atom_Table_Sweep t180 w1_3 fun t41 w1_4 =>
  C_atom_Table_Intern t180 ⟨#[99]⟩ w1_4 fun t440 t441 w1_5 =>
  C_atom_Table_Name t180 t440 w1_5 fun t500 t501 w1_6 =>
  C_atom_Table_Find t180 ⟨#[98]⟩ w1_6 fun t550 t551 w1_7 =>
  C_atom_New (3 : Int) w1_7 fun t590 t591 w1_8 =>
  If (t291 == (0 : Int))
  (If (t290 == (15 : Int))
  (If (t341 == (0 : Int))
  (If (t340 == (16 : Int))
  (If (t39 == (0 : Int))
  (If (t41 == (1 : Int))
  (If (t441 == (0 : Int))
  (If (t440 == t290)
  (If (t501 == (0 : Int))
  (If (t500.toList == (⟨#[99]⟩ : ByteArray).toList)
  (If t551
  (If (t550 == t340)
  (If (t591 == (1 : Int))
  (C_atom_Table_Len t180 w1_8 fun t115 w1_9 =>
  If (t115 == (17 : Int))
  (C_atom_Table_Slots t180 w1_9 fun t120 w1_10 =>
  If (t120 == (17 : Int))
  (C_atom_Table_Made t180 w1_10 fun t125 w1_11 =>
  If (t125 == (3 : Int))
  (C_atom_Table_Marked t180 t340 w1_11 fun t131 w1_12 =>
  If (!t131)
  (C_atom_Reserved  w1_12 fun t135P t135N t135C w1_13 =>
  R ((t135N : Int) == (15 : Int)) w1_13)
  (F_law04_lives_k1 R w1_12))
  (F_law04_lives_k1 R w1_11))
  (F_law04_lives_k1 R w1_10))
  (F_law04_lives_k1 R w1_9))
  (F_law04_lives_k1 R w1_8))
  (F_law04_lives_k1 R w1_8))
  (F_law04_lives_k1 R w1_8))
  (F_law04_lives_k1 R w1_8))
  (F_law04_lives_k1 R w1_8))
  (F_law04_lives_k1 R w1_8))
  (F_law04_lives_k1 R w1_8))
  (F_law04_lives_k1 R w1_8))
  (F_law04_lives_k1 R w1_8))
  (F_law04_lives_k1 R w1_8))
  (F_law04_lives_k1 R w1_8))
  (F_law04_lives_k1 R w1_8))
  (F_law04_lives_k1 R w1_8)))

def G_law04_lives : Gen where
  loop := lookL []
  plan := fun _ => none

theorem loops_law04_lives : LoopOk Try.prog Try.f10.ntmps G_law04_lives (codeOf Try.f10) := loopOk_none fun _ => rfl

theorem den_law04_lives  (w : World) (R : Value → World → Prop) :
    F_law04_lives w (fun r w1 => R (.bool r) w1) = den Try.prog Try.f10.ntmps G_law04_lives (codeOf Try.f10) [] (postD Try.prog Try.f10.results.toList R) (entry [] 0) w := by kernel_rfl

theorem C_law04_lives.of {w : World} {R : Bool → World → Prop} (h : F_law04_lives w R) : C_law04_lives w R := by
  refine (calls_of_den (c := codeOf Try.f10) seat_ok seat_mixed Try.func10 (by kernel_rfl) loops_law04_lives (args := []) rfl (R := fun v w1 => ∃ (r : Bool), v = (.bool r : Value) ∧ R r w1) ?_).mono ?_
  · rw [← den_law04_lives]
    have e : (fun r w1 => ∃ (r' : Bool), (.bool r : Value) = (.bool r' : Value) ∧ R r' w1) = R := by
      funext r w1
      exact propext ⟨fun ⟨r', he, h⟩ => by simp at he; simp_all, fun h => ⟨_, rfl, h⟩⟩
    simpa only [e] using h
  · rintro en w1 ⟨v, he, r, rfl, h⟩
    exact ⟨_, he, h⟩

def F_law04_do_k1 (R : Bool → World → Prop) (w1_5 : World) : Prop :=
  R true w1_5

def F_law04_do_k2 (R : Bool → World → Prop) (t490 : Int) (w1_6 : World) : Prop :=
  R (t490 == (0 : Int)) w1_6

def F_law04_do_k3 (R : Bool → World → Prop) (w1_7 : World) : Prop :=
  R false w1_7

def F_law04_do (t : Option Addr) (x : Option Addr) (o0 : Int) (o1 : ByteArray) (o2 : Int) (w : World) (R : Bool → World → Prop) : Prop :=
  New w (.cells #[.int .i64 o0, .string o1, .int .i64 o2] 31) fun r w1 =>
  ∃ Kind : Int, w1.cell? ((⟨r, 0, none⟩ : Addr).add 0) = some (.int .i64 Kind) ∧
  If (Kind == (1 : Int))
  (∃ Name : ByteArray, w1.cell? ((⟨r, 0, none⟩ : Addr).add 1) = some (.string Name) ∧
  C_atom_Table_Intern t Name w1 fun t250 t251 w1_1 =>
  ∃ Name_1 : ByteArray, w1_1.cell? ((⟨r, 0, none⟩ : Addr).add 1) = some (.string Name_1) ∧
  C_ref04_Table_Intern x Name_1 w1_1 fun t320 t321 w1_2 =>
  If (t250 == t320)
  (R (t251 == t321) w1_2)
  (R false w1_2))
  (If (Kind == (2 : Int))
  (∃ Name_2 : ByteArray, w1.cell? ((⟨r, 0, none⟩ : Addr).add 1) = some (.string Name_2) ∧
  C_atom_Table_Find t Name_2 w1 fun t490 t491 w1_3 =>
  ∃ Name_3 : ByteArray, w1_3.cell? ((⟨r, 0, none⟩ : Addr).add 1) = some (.string Name_3) ∧
  C_ref04_Table_Find x Name_3 w1_3 fun t55 w1_4 =>
  If (t491 == (decide (t55 ≥ (0 : Int))))
  (If (!t491)
  (If t491
  (F_law04_do_k1 R w1_4)
  (F_law04_do_k2 R t490 w1_4))
  (If (t490 == t55)
  (If t491
  (F_law04_do_k1 R w1_4)
  (F_law04_do_k2 R t490 w1_4))
  (F_law04_do_k3 R w1_4)))
  (F_law04_do_k3 R w1_4))
  (If (Kind == (3 : Int))
  (∃ Id : Int, w1.cell? ((⟨r, 0, none⟩ : Addr).add 2) = some (.int .i64 Id) ∧
  C_atom_Table_Name t Id w1 fun t820 t821 w1_8 =>
  ∃ Id_1 : Int, w1_8.cell? ((⟨r, 0, none⟩ : Addr).add 2) = some (.int .i64 Id_1) ∧
  C_ref04_Table_Is x Id_1 w1_8 fun t88 w1_9 =>
  If (!t88)
  (If (t820.toList == (⟨#[]⟩ : ByteArray).toList)
  (R (t821 == (4 : Int)) w1_9)
  (R false w1_9))
  (NN x fun a =>
  ∃ LP : Option Addr, ∃ LN : Nat, ∃ LC : Nat, (drw w1_9).cell? (a.add 0) = some (.slice LP LN LC) ∧
  ∃ Id_2 : Int, (drw w1_9).cell? ((⟨r, 0, none⟩ : Addr).add 2) = some (.int .i64 Id_2) ∧
  0 ≤ Id_2 ∧ Id_2 < (LN : Int) ∧ NN LP fun a_1 =>
  ∃ Name_4 : ByteArray, (drw w1_9).cell? ((a_1.add (Id_2.toNat * 3)).add 0) = some (.string Name_4) ∧
  If (t820.toList == Name_4.toList)
  (R (t821 == (0 : Int)) (drw w1_9))
  (R false (drw w1_9))))
  (If (Kind == (4 : Int))
  (∃ Id_3 : Int, w1.cell? ((⟨r, 0, none⟩ : Addr).add 2) = some (.int .i64 Id_3) ∧
  C_atom_Table_Mark t Id_3 w1 fun t116 w1_10 =>
  ∃ Id_4 : Int, w1_10.cell? ((⟨r, 0, none⟩ : Addr).add 2) = some (.int .i64 Id_4) ∧
  C_ref04_Table_Is x Id_4 w1_10 fun t120 w1_11 =>
  If (!t120)
  (R (t116 == (4 : Int)) w1_11)
  (NN x fun a_2 =>
  ∃ LP_1 : Option Addr, ∃ LN_1 : Nat, ∃ LC_1 : Nat, (drw w1_11).cell? (a_2.add 0) = some (.slice LP_1 LN_1 LC_1) ∧
  ∃ Id_5 : Int, (drw w1_11).cell? ((⟨r, 0, none⟩ : Addr).add 2) = some (.int .i64 Id_5) ∧
  0 ≤ Id_5 ∧ Id_5 < (LN_1 : Int) ∧ NN LP_1 fun a_3 =>
  St (drw w1_11) (((a_3.add (Id_5.toNat * 3)).add 2).add 0) (.bool true) fun w1_12 =>
  R (t116 == (0 : Int)) w1_12))
  (If (Kind == (5 : Int))
  (C_atom_Table_Sweep t w1 fun t137 w1_13 =>
  C_ref04_Table_Sweep x w1_13 fun t139 w1_14 =>
  R (t137 == t139) w1_14)
  (R true w1)))))

def G_law04_do : Gen where
  loop := lookL []
  plan := fun id =>
    bif Nat.beq id 14 then some ([0, 0, 2, 6, 14, 0, 32, 126, 254, 510, 1023, 2047, 4095, 8191, 16383, 32767], .take 0 (.take 1 (.take 2 (.take 3 (.take 4 (.take 5 (.take 6 (.take 7 (.take 8 (.take 9 (.take 10 (.take 11 (.take 12 (.take 13 (.take 14 (.take 15 .done)))))))))))))))) else
    bif Nat.beq id 19 then some ([0, 1, 3, 7, 0, 16, 63, 127, 255], .take 0 (.take 1 (.take 2 (.take 3 (.take 4 (.take 5 (.take 6 (.take 7 (.take 8 .done))))))))) else none

theorem loops_law04_do : LoopOk Try.prog Try.f11.ntmps G_law04_do (codeOf Try.f11) := loopOk_none fun _ => rfl

theorem den_law04_do (t : Option Addr) (x : Option Addr) (o0 : Int) (o1 : ByteArray) (o2 : Int) (w : World) (R : Value → World → Prop) :
    F_law04_do t x o0 o1 o2 w (fun r w1 => R (.bool r) w1) = den Try.prog Try.f11.ntmps G_law04_do (codeOf Try.f11) [] (postD Try.prog Try.f11.results.toList R) (entry [.pointer t, .pointer x, .agg #[.int .i64 o0, .string o1, .int .i64 o2]] 0) w := by kernel_rfl

theorem C_law04_do.of {t : Option Addr} {x : Option Addr} {o0 : Int} {o1 : ByteArray} {o2 : Int} {w : World} {R : Bool → World → Prop} (h : F_law04_do t x o0 o1 o2 w R) : C_law04_do t x o0 o1 o2 w R := by
  refine (calls_of_den (c := codeOf Try.f11) seat_ok seat_mixed Try.func11 (by kernel_rfl) loops_law04_do (args := [.pointer t, .pointer x, .agg #[.int .i64 o0, .string o1, .int .i64 o2]]) rfl (R := fun v w1 => ∃ (r : Bool), v = (.bool r : Value) ∧ R r w1) ?_).mono ?_
  · rw [← den_law04_do]
    have e : (fun r w1 => ∃ (r' : Bool), (.bool r : Value) = (.bool r' : Value) ∧ R r' w1) = R := by
      funext r w1
      exact propext ⟨fun ⟨r', he, h⟩ => by simp at he; simp_all, fun h => ⟨_, rfl, h⟩⟩
    simpa only [e] using h
  · rintro en w1 ⟨v, he, r, rfl, h⟩
    exact ⟨_, he, h⟩

def F_atom_Table_Len (t : Option Addr) (w : World) (R : Int → World → Prop) : Prop :=
  C_atom_Table_ready t w fun t4 w1 =>
  If (!t4)
  (R (0 : Int) w1)
  (NN t fun a =>
  ∃ ids : Option Nat, w1.cell? (a.add 6) = some (.map ids) ∧
  MLen Try.prog #[71] 3 #[.map ids] w1 fun t10 w1_1 =>
  R t10 w1_1)

def G_atom_Table_Len : Gen where
  loop := lookL []
  plan := fun _ => none

theorem loops_atom_Table_Len : LoopOk Try.prog Try.f12.ntmps G_atom_Table_Len (codeOf Try.f12) := loopOk_none fun _ => rfl

theorem den_atom_Table_Len (t : Option Addr) (w : World) (R : Value → World → Prop) :
    F_atom_Table_Len t w (fun r w1 => R (.int .i64 r) w1) = den Try.prog Try.f12.ntmps G_atom_Table_Len (codeOf Try.f12) [] (postD Try.prog Try.f12.results.toList R) (entry [.pointer t] 0) w := by kernel_rfl

theorem C_atom_Table_Len.of {t : Option Addr} {w : World} {R : Int → World → Prop} (h : F_atom_Table_Len t w R) : C_atom_Table_Len t w R := by
  refine (calls_of_den (c := codeOf Try.f12) seat_ok seat_mixed Try.func12 (by kernel_rfl) loops_atom_Table_Len (args := [.pointer t]) rfl (R := fun v w1 => ∃ (r : Int), v = (.int .i64 r : Value) ∧ R r w1) ?_).mono ?_
  · rw [← den_atom_Table_Len]
    have e : (fun r w1 => ∃ (r' : Int), (.int .i64 r : Value) = (.int .i64 r' : Value) ∧ R r' w1) = R := by
      funext r w1
      exact propext ⟨fun ⟨r', he, h⟩ => by simp at he; simp_all, fun h => ⟨_, rfl, h⟩⟩
    simpa only [e] using h
  · rintro en w1 ⟨v, he, r, rfl, h⟩
    exact ⟨_, he, h⟩

structure S_ref04_Table_Len_L1 where
  n : Int
  i : Int

def F_ref04_Table_Len_k1 (s : S_ref04_Table_Len_L1) (Kn : S_ref04_Table_Len_L1 → World → Prop) (n_2 : Int) (w1 : World) : Prop :=
  Kn ⟨n_2, (IntKind.i64.wrap ((s.i : Int) + (1 : Int)))⟩ w1

/-- One round. -/
def B_ref04_Table_Len_L1 (t_1 : Option Addr) (s : S_ref04_Table_Len_L1) (w : World) (Kn : S_ref04_Table_Len_L1 → World → Prop) (Kx0 : Int → World → Prop) : Prop :=
  NN t_1 fun a =>
  ∃ LP : Option Addr, ∃ LN : Nat, ∃ LC : Nat, w.cell? (a.add 0) = some (.slice LP LN LC) ∧
  If (decide ((s.i : Int) < (LN : Int)))
  (NN t_1 fun a_1 =>
  ∃ LP_1 : Option Addr, ∃ LN_1 : Nat, ∃ LC_1 : Nat, w.cell? (a_1.add 0) = some (.slice LP_1 LN_1 LC_1) ∧
  0 ≤ (s.i : Int) ∧ (s.i : Int) < (LN_1 : Int) ∧ NN LP_1 fun a_2 =>
  ∃ Is : Bool, w.cell? ((a_2.add ((s.i : Int).toNat * 3)).add 1) = some (.bool Is) ∧
  If Is
  (F_ref04_Table_Len_k1 s Kn (IntKind.i64.wrap ((s.n : Int) + (1 : Int))) w)
  (F_ref04_Table_Len_k1 s Kn (s.n : Int) w))
  (Kx0 (s.n : Int) w)

def F_ref04_Table_Len_L1 (t_1 : Option Addr) (s : S_ref04_Table_Len_L1) (w : World) (Kx0 : Int → World → Prop) : Prop :=
  LoopS (fun s w Kn => B_ref04_Table_Len_L1 t_1 s w Kn Kx0) s w

def F_ref04_Table_Len (t : Option Addr) (w : World) (R : Int → World → Prop) : Prop :=
  F_ref04_Table_Len_L1 t ⟨(0 : Int), (0 : Int)⟩ w
  (fun n_3 w1_1 =>
  R n_3 w1_1)

def lit_ref04_Table_Len_L1 (f : (Option Addr)) (s : S_ref04_Table_Len_L1) : Env := [⟨0, .pointer f, none⟩, ⟨3, .int .i64 s.n, none⟩, ⟨4, .int .i64 s.i, none⟩]

def dec_ref04_Table_Len_L1 (e : Env) (K : (Option Addr) → S_ref04_Table_Len_L1 → Prop) : Prop :=
  onV (getV e 0) fun u1 =>
  asP u1 fun t_1 =>
  onV (getV e 3) fun u2 =>
  asI .i64 u2 fun n =>
  onV (getV e 4) fun u3 =>
  asI .i64 u3 fun i =>
    K (t_1) ⟨n, i⟩

theorem dec_ref04_Table_Len_L1_ok {N : Nat} (e : Env) (a : Act) (K : (Option Addr) → S_ref04_Table_Len_L1 → Prop) (hr : Rep N a e) (h0 : dec_ref04_Table_Len_L1 e K) : ∃ f s, K f s ∧ Rep N a (lit_ref04_Table_Len_L1 f s) := by
  unfold dec_ref04_Table_Len_L1 at h0
  obtain ⟨u1, g0, h1⟩ := onV_elim h0
  obtain ⟨t_1, rfl, h2⟩ := asP_elim h1
  obtain ⟨u2, g3, h3⟩ := onV_elim h2
  obtain ⟨n, rfl, h4⟩ := asI_elim h3
  obtain ⟨u3, g4, h5⟩ := onV_elim h4
  obtain ⟨i, rfl, h6⟩ := asI_elim h5
  exact ⟨_, _, h6, rep_less hr (by simp [lit_ref04_Table_Len_L1, g0, g3, g4])⟩

def spec_ref04_Table_Len_L1 (Q : Post) (e : Env) (w : World) : Prop :=
  dec_ref04_Table_Len_L1 e fun f s => F_ref04_Table_Len_L1 f s w (fun n_1 w1 => Q (.exit 0) [⟨3, .int .i64 n_1, none⟩] w1)

def G_ref04_Table_Len : Gen where
  loop := lookL [([false, true, false, true, true], spec_ref04_Table_Len_L1)]
  plan := fun _ => none

def dx_ref04_Table_Len_L1_0 (e : Env) (K : (Option Addr) → Int → Prop) : Prop :=
  onV (getV e 0) fun u1 =>
  asP u1 fun t_1 =>
  onV (getV e 3) fun u2 =>
  asI .i64 u2 fun n_1 =>
    K (t_1) n_1

theorem body_ref04_Table_Len_L1 (f : (Option Addr)) (s : S_ref04_Table_Len_L1) (w : World) (Kn : (Option Addr) → S_ref04_Table_Len_L1 → World → Prop) (Kx0 : (Option Addr) → Int → World → Prop) :
    B_ref04_Table_Len_L1 f s w (fun s1 w1 => Kn f s1 w1) (fun n_1 w1 => Kx0 f n_1 w1) =
    den Try.prog Try.f13.ntmps G_ref04_Table_Len (sub (codeOf Try.f13) [false, false, true, false, true, true]) [false, false, true, false, true, true] (roundQ (fun e w => dec_ref04_Table_Len_L1 e fun f s => Kn f s w) (fun e w => False) (fun id e w => match Nat.beq id 0 with | true => dx_ref04_Table_Len_L1_0 e fun f n_1 => Kx0 f n_1 w | false => False)) (lit_ref04_Table_Len_L1 f s) w := by kernel_rfl

theorem ok_ref04_Table_Len_L1 : OneOk Try.prog Try.f13.ntmps G_ref04_Table_Len (codeOf Try.f13) [false, true, false, true, true] spec_ref04_Table_Len_L1 := by
  intro c hc ih Q e w a hr h
  have hcc : sub (codeOf Try.f13) [false, false, true, false, true, true] = c := sub_of_codeAt hc
  obtain ⟨f, s, h, hrep⟩ := dec_ref04_Table_Len_L1_ok e a _ hr h
  obtain ⟨J, μ, hj, hround⟩ := h
  refine loop_rule_deep seat_ok seat_mixed ih lit_ref04_Table_Len_L1 dec_ref04_Table_Len_L1 dec_ref04_Table_Len_L1_ok hc f J μ (Kr := fun e w => False) (Kx := fun id e w => match Nat.beq id 0 with | true => (dx_ref04_Table_Len_L1_0 e fun f1 n_1 => f1 = f ∧ Q (.exit 0) [⟨3, .int .i64 n_1, none⟩] w) | false => False) ?_ ?_ ?_ s w a hj hrep
  · intro e a w hr h
    exact h.elim
  · intro id e a w hr h0
    (try dsimp only at h0)
    split at h0
    · rename_i hid
      obtain rfl := Nat.eq_of_beq_eq_true hid
      unfold dx_ref04_Table_Len_L1_0 at h0
      obtain ⟨u1, g0, h1⟩ := onV_elim h0
      obtain ⟨t_1, rfl, h2⟩ := asP_elim h1
      obtain ⟨u2, g3, h3⟩ := onV_elim h2
      obtain ⟨n_1, rfl, h4⟩ := asI_elim h3
      obtain ⟨hf, hq⟩ := h4
      subst hf
      exact ⟨_, rep_less hr (by simp [g3]), hq⟩
    · exact h0.elim
  · intro s w hj
    have hb := hround s w hj
    rw [← hcc]
    have e1 := body_ref04_Table_Len_L1 f s w (fun f1 s1 w1 => f1 = f ∧ J s1 w1 ∧ μ s1 w1 < μ s w) (fun f1 n_1 w1 => f1 = f ∧ Q (.exit 0) [⟨3, .int .i64 n_1, none⟩] w1)
    simp only [true_and] at e1
    exact cast e1 hb

theorem loops_ref04_Table_Len : LoopOk Try.prog Try.f13.ntmps G_ref04_Table_Len (codeOf Try.f13) := loopOk_list rfl ⟨ok_ref04_Table_Len_L1, trivial⟩

theorem den_ref04_Table_Len (t : Option Addr) (w : World) (R : Value → World → Prop) :
    F_ref04_Table_Len t w (fun r w1 => R (.int .i64 r) w1) = den Try.prog Try.f13.ntmps G_ref04_Table_Len (codeOf Try.f13) [] (postD Try.prog Try.f13.results.toList R) (entry [.pointer t] 0) w := by kernel_rfl

theorem C_ref04_Table_Len.of {t : Option Addr} {w : World} {R : Int → World → Prop} (h : F_ref04_Table_Len t w R) : C_ref04_Table_Len t w R := by
  refine (calls_of_den (c := codeOf Try.f13) seat_ok seat_mixed Try.func13 (by kernel_rfl) loops_ref04_Table_Len (args := [.pointer t]) rfl (R := fun v w1 => ∃ (r : Int), v = (.int .i64 r : Value) ∧ R r w1) ?_).mono ?_
  · rw [← den_ref04_Table_Len]
    have e : (fun r w1 => ∃ (r' : Int), (.int .i64 r : Value) = (.int .i64 r' : Value) ∧ R r' w1) = R := by
      funext r w1
      exact propext ⟨fun ⟨r', he, h⟩ => by simp at he; simp_all, fun h => ⟨_, rfl, h⟩⟩
    simpa only [e] using h
  · rintro en w1 ⟨v, he, r, rfl, h⟩
    exact ⟨_, he, h⟩

def F_atom_Table_Slots (t : Option Addr) (w : World) (R : Int → World → Prop) : Prop :=
  C_atom_Table_ready t w fun t4 w1 =>
  If (!t4)
  (R (0 : Int) w1)
  (NN t fun a =>
  ∃ lP : Option Addr, ∃ lN : Nat, ∃ lC : Nat, w1.cell? (a.add 5) = some (.slice lP lN lC) ∧
  R (lN : Int) w1)

def G_atom_Table_Slots : Gen where
  loop := lookL []
  plan := fun _ => none

theorem loops_atom_Table_Slots : LoopOk Try.prog Try.f14.ntmps G_atom_Table_Slots (codeOf Try.f14) := loopOk_none fun _ => rfl

theorem den_atom_Table_Slots (t : Option Addr) (w : World) (R : Value → World → Prop) :
    F_atom_Table_Slots t w (fun r w1 => R (.int .i64 r) w1) = den Try.prog Try.f14.ntmps G_atom_Table_Slots (codeOf Try.f14) [] (postD Try.prog Try.f14.results.toList R) (entry [.pointer t] 0) w := by kernel_rfl

theorem C_atom_Table_Slots.of {t : Option Addr} {w : World} {R : Int → World → Prop} (h : F_atom_Table_Slots t w R) : C_atom_Table_Slots t w R := by
  refine (calls_of_den (c := codeOf Try.f14) seat_ok seat_mixed Try.func14 (by kernel_rfl) loops_atom_Table_Slots (args := [.pointer t]) rfl (R := fun v w1 => ∃ (r : Int), v = (.int .i64 r : Value) ∧ R r w1) ?_).mono ?_
  · rw [← den_atom_Table_Slots]
    have e : (fun r w1 => ∃ (r' : Int), (.int .i64 r : Value) = (.int .i64 r' : Value) ∧ R r' w1) = R := by
      funext r w1
      exact propext ⟨fun ⟨r', he, h⟩ => by simp at he; simp_all, fun h => ⟨_, rfl, h⟩⟩
    simpa only [e] using h
  · rintro en w1 ⟨v, he, r, rfl, h⟩
    exact ⟨_, he, h⟩

def F_atom_Table_Made (t : Option Addr) (w : World) (R : Int → World → Prop) : Prop :=
  C_atom_Table_ready t w fun t4 w1 =>
  If (!t4)
  (R (0 : Int) w1)
  (NN t fun a =>
  C_sync_atomic_Int64_Load (some (a.add 3)) w1 fun t9 w1_1 =>
  R t9 w1_1)

def G_atom_Table_Made : Gen where
  loop := lookL []
  plan := fun _ => none

theorem loops_atom_Table_Made : LoopOk Try.prog Try.f15.ntmps G_atom_Table_Made (codeOf Try.f15) := loopOk_none fun _ => rfl

theorem den_atom_Table_Made (t : Option Addr) (w : World) (R : Value → World → Prop) :
    F_atom_Table_Made t w (fun r w1 => R (.int .i64 r) w1) = den Try.prog Try.f15.ntmps G_atom_Table_Made (codeOf Try.f15) [] (postD Try.prog Try.f15.results.toList R) (entry [.pointer t] 0) w := by kernel_rfl

theorem C_atom_Table_Made.of {t : Option Addr} {w : World} {R : Int → World → Prop} (h : F_atom_Table_Made t w R) : C_atom_Table_Made t w R := by
  refine (calls_of_den (c := codeOf Try.f15) seat_ok seat_mixed Try.func15 (by kernel_rfl) loops_atom_Table_Made (args := [.pointer t]) rfl (R := fun v w1 => ∃ (r : Int), v = (.int .i64 r : Value) ∧ R r w1) ?_).mono ?_
  · rw [← den_atom_Table_Made]
    have e : (fun r w1 => ∃ (r' : Int), (.int .i64 r : Value) = (.int .i64 r' : Value) ∧ R r' w1) = R := by
      funext r w1
      exact propext ⟨fun ⟨r', he, h⟩ => by simp at he; simp_all, fun h => ⟨_, rfl, h⟩⟩
    simpa only [e] using h
  · rintro en w1 ⟨v, he, r, rfl, h⟩
    exact ⟨_, he, h⟩

def F_atom_Table_Marked (t : Option Addr) (idx : Int) (w : World) (R : Bool → World → Prop) : Prop :=
  C_atom_Table_has t idx w fun t7 w1 =>
  If t7
  (NN t fun a =>
  ∃ lP : Option Addr, ∃ lN : Nat, ∃ lC : Nat, w1.cell? (a.add 5) = some (.slice lP lN lC) ∧
  0 ≤ idx ∧ idx < (lN : Int) ∧ NN lP fun a_1 =>
  ∃ mark : Bool, w1.cell? ((a_1.add (idx.toNat * 3)).add 2) = some (.bool mark) ∧
  R mark w1)
  (R false w1)

def G_atom_Table_Marked : Gen where
  loop := lookL []
  plan := fun _ => none

theorem loops_atom_Table_Marked : LoopOk Try.prog Try.f16.ntmps G_atom_Table_Marked (codeOf Try.f16) := loopOk_none fun _ => rfl

theorem den_atom_Table_Marked (t : Option Addr) (idx : Int) (w : World) (R : Value → World → Prop) :
    F_atom_Table_Marked t idx w (fun r w1 => R (.bool r) w1) = den Try.prog Try.f16.ntmps G_atom_Table_Marked (codeOf Try.f16) [] (postD Try.prog Try.f16.results.toList R) (entry [.pointer t, .int .i64 idx] 0) w := by kernel_rfl

theorem C_atom_Table_Marked.of {t : Option Addr} {idx : Int} {w : World} {R : Bool → World → Prop} (h : F_atom_Table_Marked t idx w R) : C_atom_Table_Marked t idx w R := by
  refine (calls_of_den (c := codeOf Try.f16) seat_ok seat_mixed Try.func16 (by kernel_rfl) loops_atom_Table_Marked (args := [.pointer t, .int .i64 idx]) rfl (R := fun v w1 => ∃ (r : Bool), v = (.bool r : Value) ∧ R r w1) ?_).mono ?_
  · rw [← den_atom_Table_Marked]
    have e : (fun r w1 => ∃ (r' : Bool), (.bool r : Value) = (.bool r' : Value) ∧ R r' w1) = R := by
      funext r w1
      exact propext ⟨fun ⟨r', he, h⟩ => by simp at he; simp_all, fun h => ⟨_, rfl, h⟩⟩
    simpa only [e] using h
  · rintro en w1 ⟨v, he, r, rfl, h⟩
    exact ⟨_, he, h⟩

def F_ref04_Table_Is_k1 (R : Bool → World → Prop) (w1 : World) : Prop :=
  R false w1

def F_ref04_Table_Is (t : Option Addr) (idx : Int) (w : World) (R : Bool → World → Prop) : Prop :=
  If (decide (idx ≥ (0 : Int)))
  (NN t fun a =>
  ∃ LP : Option Addr, ∃ LN : Nat, ∃ LC : Nat, w.cell? (a.add 0) = some (.slice LP LN LC) ∧
  If (decide (idx < (LN : Int)))
  (NN t fun a_1 =>
  ∃ LP_1 : Option Addr, ∃ LN_1 : Nat, ∃ LC_1 : Nat, w.cell? (a_1.add 0) = some (.slice LP_1 LN_1 LC_1) ∧
  0 ≤ idx ∧ idx < (LN_1 : Int) ∧ NN LP_1 fun a_2 =>
  ∃ Is : Bool, w.cell? ((a_2.add (idx.toNat * 3)).add 1) = some (.bool Is) ∧
  R Is w)
  (F_ref04_Table_Is_k1 R w))
  (F_ref04_Table_Is_k1 R w)

def G_ref04_Table_Is : Gen where
  loop := lookL []
  plan := fun _ => none

theorem loops_ref04_Table_Is : LoopOk Try.prog Try.f17.ntmps G_ref04_Table_Is (codeOf Try.f17) := loopOk_none fun _ => rfl

theorem den_ref04_Table_Is (t : Option Addr) (idx : Int) (w : World) (R : Value → World → Prop) :
    F_ref04_Table_Is t idx w (fun r w1 => R (.bool r) w1) = den Try.prog Try.f17.ntmps G_ref04_Table_Is (codeOf Try.f17) [] (postD Try.prog Try.f17.results.toList R) (entry [.pointer t, .int .i64 idx] 0) w := by kernel_rfl

theorem C_ref04_Table_Is.of {t : Option Addr} {idx : Int} {w : World} {R : Bool → World → Prop} (h : F_ref04_Table_Is t idx w R) : C_ref04_Table_Is t idx w R := by
  refine (calls_of_den (c := codeOf Try.f17) seat_ok seat_mixed Try.func17 (by kernel_rfl) loops_ref04_Table_Is (args := [.pointer t, .int .i64 idx]) rfl (R := fun v w1 => ∃ (r : Bool), v = (.bool r : Value) ∧ R r w1) ?_).mono ?_
  · rw [← den_ref04_Table_Is]
    have e : (fun r w1 => ∃ (r' : Bool), (.bool r : Value) = (.bool r' : Value) ∧ R r' w1) = R := by
      funext r w1
      exact propext ⟨fun ⟨r', he, h⟩ => by simp at he; simp_all, fun h => ⟨_, rfl, h⟩⟩
    simpa only [e] using h
  · rintro en w1 ⟨v, he, r, rfl, h⟩
    exact ⟨_, he, h⟩

end Go.Proofs.Ytifgjlkmmbpbkaa
