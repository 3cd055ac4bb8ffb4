/- The formulas of this seat's functions, held against the loaded program by the kernel. Printed by a program. -/
import Derived.Test.YtlngmelfjiemlaaGenC
set_option maxRecDepth 100000
set_option linter.unusedVariables false
namespace Go.Proofs.Ytlngmelfjiemlaa
open Go Go.D Go.Proofs

structure S_ref05_Table_Atoms_L1 where
  n : Int
  i : Int

def F_ref05_Table_Atoms_k2 (s : S_ref05_Table_Atoms_L1) (Kn : S_ref05_Table_Atoms_L1 → World → Prop) (n_2 : Int) (w1_3 : World) : Prop :=
  Kn ⟨n_2, (IntKind.i64.wrap ((s.i : Int) + (1 : Int)))⟩ w1_3

def F_ref05_Table_Atoms_k1 (s : S_ref05_Table_Atoms_L1) (Kn : S_ref05_Table_Atoms_L1 → World → Prop) (w1_2 : World) : Prop :=
  F_ref05_Table_Atoms_k2 s Kn (IntKind.i64.wrap ((s.n : Int) + (1 : Int))) w1_2

/-- One round. -/
def B_ref05_Table_Atoms_L1 (t_1 : Option Addr) (s : S_ref05_Table_Atoms_L1) (w : World) (Kn : S_ref05_Table_Atoms_L1 → World → Prop) (Kx0 : Int → World → Prop) : Prop :=
  NN t_1 fun a =>
  ∃ LP : Option Addr, ∃ LN : Nat, ∃ LC : Nat, w.cell? (a.add 0) = some (.slice LP LN LC) ∧
  If (decide ((s.i : Int) < (LN : Int)))
  (NN t_1 fun a_1 =>
  ∃ LP_1 : Option Addr, ∃ LN_1 : Nat, ∃ LC_1 : Nat, w.cell? (a_1.add 0) = some (.slice LP_1 LN_1 LC_1) ∧
  0 ≤ (s.i : Int) ∧ (s.i : Int) < (LN_1 : Int) ∧ NN LP_1 fun a_2 =>
  ∃ Is : Bool, w.cell? ((a_2.add ((s.i : Int).toNat * 4)).add 2) = some (.bool Is) ∧
  If Is
  (NN t_1 fun a_3 =>
  ∃ A : Option Addr, (drw w).cell? (a_3.add 2) = some (.pointer A) ∧
  NN t_1 fun a_4 =>
  ∃ LP_2 : Option Addr, ∃ LN_2 : Nat, ∃ LC_2 : Nat, (drw w).cell? (a_4.add 0) = some (.slice LP_2 LN_2 LC_2) ∧
  0 ≤ (s.i : Int) ∧ (s.i : Int) < (LN_2 : Int) ∧ NN LP_2 fun a_5 =>
  ∃ Name : Int, (drw w).cell? ((a_5.add ((s.i : Int).toNat * 4)).add 0) = some (.int .i64 Name) ∧
  C_ref04_Table_Is A Name (drw w) fun t34 w1 =>
  If t34
  (NN t_1 fun a_6 =>
  ∃ A_1 : Option Addr, (drw w1).cell? (a_6.add 2) = some (.pointer A_1) ∧
  NN A_1 fun a_7 =>
  ∃ LP_3 : Option Addr, ∃ LN_3 : Nat, ∃ LC_3 : Nat, (drw w1).cell? (a_7.add 0) = some (.slice LP_3 LN_3 LC_3) ∧
  NN t_1 fun a_8 =>
  ∃ LP_4 : Option Addr, ∃ LN_4 : Nat, ∃ LC_4 : Nat, (drw w1).cell? (a_8.add 0) = some (.slice LP_4 LN_4 LC_4) ∧
  0 ≤ (s.i : Int) ∧ (s.i : Int) < (LN_4 : Int) ∧ NN LP_4 fun a_9 =>
  ∃ Name_1 : Int, (drw w1).cell? ((a_9.add ((s.i : Int).toNat * 4)).add 0) = some (.int .i64 Name_1) ∧
  0 ≤ Name_1 ∧ Name_1 < (LN_3 : Int) ∧ NN LP_3 fun a_10 =>
  St (drw w1) (((a_10.add (Name_1.toNat * 3)).add 2).add 0) (.bool true) fun w1_1 =>
  F_ref05_Table_Atoms_k1 s Kn w1_1)
  (F_ref05_Table_Atoms_k1 s Kn w1))
  (F_ref05_Table_Atoms_k2 s Kn (s.n : Int) w))
  (Kx0 (s.n : Int) w)

def F_ref05_Table_Atoms_L1 (t_1 : Option Addr) (s : S_ref05_Table_Atoms_L1) (w : World) (Kx0 : Int → World → Prop) : Prop :=
  LoopS (fun s w Kn => B_ref05_Table_Atoms_L1 t_1 s w Kn Kx0) s w

def F_ref05_Table_Atoms (t : Option Addr) (w : World) (R : Int → World → Prop) : Prop :=
  F_ref05_Table_Atoms_L1 t ⟨(0 : Int), (0 : Int)⟩ w
  (fun n_3 w1_4 =>
  R n_3 w1_4)

def lit_ref05_Table_Atoms_L1 (f : (Option Addr)) (s : S_ref05_Table_Atoms_L1) : Env := [⟨0, .pointer f, none⟩, ⟨3, .int .i64 s.n, none⟩, ⟨4, .int .i64 s.i, none⟩]

def dec_ref05_Table_Atoms_L1 (e : Env) (K : (Option Addr) → S_ref05_Table_Atoms_L1 → Prop) : Prop :=
  onV (getV e 0) fun u1 =>
  asP u1 fun t_1 =>
  onV (getV e 3) fun u2 =>
  asI .i64 u2 fun n =>
  onV (getV e 4) fun u3 =>
  asI .i64 u3 fun i =>
    K (t_1) ⟨n, i⟩

theorem dec_ref05_Table_Atoms_L1_ok {N : Nat} (e : Env) (a : Act) (K : (Option Addr) → S_ref05_Table_Atoms_L1 → Prop) (hr : Rep N a e) (h0 : dec_ref05_Table_Atoms_L1 e K) : ∃ f s, K f s ∧ Rep N a (lit_ref05_Table_Atoms_L1 f s) := by
  unfold dec_ref05_Table_Atoms_L1 at h0
  obtain ⟨u1, g0, h1⟩ := onV_elim h0
  obtain ⟨t_1, rfl, h2⟩ := asP_elim h1
  obtain ⟨u2, g3, h3⟩ := onV_elim h2
  obtain ⟨n, rfl, h4⟩ := asI_elim h3
  obtain ⟨u3, g4, h5⟩ := onV_elim h4
  obtain ⟨i, rfl, h6⟩ := asI_elim h5
  exact ⟨_, _, h6, rep_less hr (by simp [lit_ref05_Table_Atoms_L1, g0, g3, g4])⟩

def spec_ref05_Table_Atoms_L1 (Q : Post) (e : Env) (w : World) : Prop :=
  dec_ref05_Table_Atoms_L1 e fun f s => F_ref05_Table_Atoms_L1 f s w (fun n_1 w1 => Q (.exit 0) [⟨3, .int .i64 n_1, none⟩] w1)

def G_ref05_Table_Atoms : Gen where
  loop := lookL [([false, true, false, true, true], spec_ref05_Table_Atoms_L1)]
  plan := fun id =>
    bif Nat.beq id 6 then some ([0, 1, 3, 7, 0, 16, 48, 112, 0, 496, 1008, 2032, 4095], .take 0 (.take 1 (.take 2 (.take 3 (.take 4 (.take 5 (.take 6 (.take 7 (.take 8 (.take 9 (.take 10 (.take 11 (.take 12 .done))))))))))))) else
    bif Nat.beq id 7 then some ([0, 1, 3, 7, 15, 31, 63, 0, 128, 384, 896, 0, 3968, 8064, 16256, 32767, 65535, 131071], .take 0 (.take 1 (.take 2 (.take 3 (.take 4 (.take 5 (.take 6 (.take 7 (.take 8 (.take 9 (.take 10 (.take 11 (.take 12 (.take 13 (.take 14 (.take 15 (.take 16 (.take 17 .done)))))))))))))))))) else none

def dx_ref05_Table_Atoms_L1_0 (e : Env) (K : (Option Addr) → Int → Prop) : Prop :=
  onV (getV e 0) fun u1 =>
  asP u1 fun t_1 =>
  onV (getV e 3) fun u2 =>
  asI .i64 u2 fun n_1 =>
    K (t_1) n_1

theorem body_ref05_Table_Atoms_L1 (f : (Option Addr)) (s : S_ref05_Table_Atoms_L1) (w : World) (Kn : (Option Addr) → S_ref05_Table_Atoms_L1 → World → Prop) (Kx0 : (Option Addr) → Int → World → Prop) :
    B_ref05_Table_Atoms_L1 f s w (fun s1 w1 => Kn f s1 w1) (fun n_1 w1 => Kx0 f n_1 w1) =
    den Try.prog Try.f41.ntmps G_ref05_Table_Atoms (sub (codeOf Try.f41) [false, false, true, false, true, true]) [false, false, true, false, true, true] (roundQ (fun e w => dec_ref05_Table_Atoms_L1 e fun f s => Kn f s w) (fun e w => False) (fun id e w => match Nat.beq id 0 with | true => dx_ref05_Table_Atoms_L1_0 e fun f n_1 => Kx0 f n_1 w | false => False)) (lit_ref05_Table_Atoms_L1 f s) w := by kernel_rfl

theorem ok_ref05_Table_Atoms_L1 : OneOk Try.prog Try.f41.ntmps G_ref05_Table_Atoms (codeOf Try.f41) [false, true, false, true, true] spec_ref05_Table_Atoms_L1 := by
  intro c hc ih Q e w a hr h
  have hcc : sub (codeOf Try.f41) [false, false, true, false, true, true] = c := sub_of_codeAt hc
  obtain ⟨f, s, h, hrep⟩ := dec_ref05_Table_Atoms_L1_ok e a _ hr h
  obtain ⟨J, μ, hj, hround⟩ := h
  refine loop_rule_deep seat_ok seat_mixed ih lit_ref05_Table_Atoms_L1 dec_ref05_Table_Atoms_L1 dec_ref05_Table_Atoms_L1_ok hc f J μ (Kr := fun e w => False) (Kx := fun id e w => match Nat.beq id 0 with | true => (dx_ref05_Table_Atoms_L1_0 e fun f1 n_1 => f1 = f ∧ Q (.exit 0) [⟨3, .int .i64 n_1, none⟩] w) | false => False) ?_ ?_ ?_ s w a hj hrep
  · intro e a w hr h
    exact h.elim
  · intro id e a w hr h0
    (try dsimp only at h0)
    split at h0
    · rename_i hid
      obtain rfl := Nat.eq_of_beq_eq_true hid
      unfold dx_ref05_Table_Atoms_L1_0 at h0
      obtain ⟨u1, g0, h1⟩ := onV_elim h0
      obtain ⟨t_1, rfl, h2⟩ := asP_elim h1
      obtain ⟨u2, g3, h3⟩ := onV_elim h2
      obtain ⟨n_1, rfl, h4⟩ := asI_elim h3
      obtain ⟨hf, hq⟩ := h4
      subst hf
      exact ⟨_, rep_less hr (by simp [g3]), hq⟩
    · exact h0.elim
  · intro s w hj
    have hb := hround s w hj
    rw [← hcc]
    have e1 := body_ref05_Table_Atoms_L1 f s w (fun f1 s1 w1 => f1 = f ∧ J s1 w1 ∧ μ s1 w1 < μ s w) (fun f1 n_1 w1 => f1 = f ∧ Q (.exit 0) [⟨3, .int .i64 n_1, none⟩] w1)
    simp only [true_and] at e1
    exact cast e1 hb

theorem loops_ref05_Table_Atoms : LoopOk Try.prog Try.f41.ntmps G_ref05_Table_Atoms (codeOf Try.f41) := loopOk_list rfl ⟨ok_ref05_Table_Atoms_L1, trivial⟩

theorem den_ref05_Table_Atoms (t : Option Addr) (w : World) (R : Value → World → Prop) :
    F_ref05_Table_Atoms t w (fun r w1 => R (.int .i64 r) w1) = den Try.prog Try.f41.ntmps G_ref05_Table_Atoms (codeOf Try.f41) [] (postD Try.prog Try.f41.results.toList R) (entry [.pointer t] 0) w := by kernel_rfl

theorem C_ref05_Table_Atoms.of {t : Option Addr} {w : World} {R : Int → World → Prop} (h : F_ref05_Table_Atoms t w R) : C_ref05_Table_Atoms t w R := by
  refine (calls_of_den (c := codeOf Try.f41) seat_ok seat_mixed Try.func41 (by kernel_rfl) loops_ref05_Table_Atoms (args := [.pointer t]) rfl (R := fun v w1 => ∃ (r : Int), v = (.int .i64 r : Value) ∧ R r w1) ?_).mono ?_
  · rw [← den_ref05_Table_Atoms]
    have e : (fun r w1 => ∃ (r' : Int), (.int .i64 r : Value) = (.int .i64 r' : Value) ∧ R r' w1) = R := by
      funext r w1
      exact propext ⟨fun ⟨r', he, h⟩ => by simp at he; simp_all, fun h => ⟨_, rfl, h⟩⟩
    simpa only [e] using h
  · rintro en w1 ⟨v, he, r, rfl, h⟩
    exact ⟨_, he, h⟩

structure S_ref04_Table_Sweep_L1 where
  n : Int
  i : Int

def F_ref04_Table_Sweep_k2 (t_1 : Option Addr) (s : S_ref04_Table_Sweep_L1) (Kn : S_ref04_Table_Sweep_L1 → World → Prop) (n_2 : Int) (w1_5 : World) : Prop :=
  NN t_1 fun a_7 =>
  ∃ LP_4 : Option Addr, ∃ LN_4 : Nat, ∃ LC_4 : Nat, w1_5.cell? (a_7.add 0) = some (.slice LP_4 LN_4 LC_4) ∧
  0 ≤ (s.i : Int) ∧ (s.i : Int) < (LN_4 : Int) ∧ NN LP_4 fun a_8 =>
  St w1_5 (((a_8.add ((s.i : Int).toNat * 3)).add 2).add 0) (.bool false) fun w1_6 =>
  Kn ⟨n_2, (IntKind.i64.wrap ((s.i : Int) + (1 : Int)))⟩ w1_6

def F_ref04_Table_Sweep_k1 (t_1 : Option Addr) (s : S_ref04_Table_Sweep_L1) (Kn : S_ref04_Table_Sweep_L1 → World → Prop) (w1_4 : World) : Prop :=
  F_ref04_Table_Sweep_k2 t_1 s Kn (s.n : Int) w1_4

/-- One round. -/
def B_ref04_Table_Sweep_L1 (t_1 : Option Addr) (s : S_ref04_Table_Sweep_L1) (w : World) (Kn : S_ref04_Table_Sweep_L1 → World → Prop) (Kx0 : Int → World → Prop) : Prop :=
  NN t_1 fun a =>
  ∃ LP : Option Addr, ∃ LN : Nat, ∃ LC : Nat, w.cell? (a.add 0) = some (.slice LP LN LC) ∧
  If (decide ((s.i : Int) < (LN : Int)))
  (NN t_1 fun a_1 =>
  ∃ LP_1 : Option Addr, ∃ LN_1 : Nat, ∃ LC_1 : Nat, w.cell? (a_1.add 0) = some (.slice LP_1 LN_1 LC_1) ∧
  0 ≤ (s.i : Int) ∧ (s.i : Int) < (LN_1 : Int) ∧ NN LP_1 fun a_2 =>
  ∃ Is : Bool, w.cell? ((a_2.add ((s.i : Int).toNat * 3)).add 1) = some (.bool Is) ∧
  If Is
  (NN t_1 fun a_3 =>
  ∃ LP_2 : Option Addr, ∃ LN_2 : Nat, ∃ LC_2 : Nat, w.cell? (a_3.add 0) = some (.slice LP_2 LN_2 LC_2) ∧
  0 ≤ (s.i : Int) ∧ (s.i : Int) < (LN_2 : Int) ∧ NN LP_2 fun a_4 =>
  ∃ Mark : Bool, w.cell? ((a_4.add ((s.i : Int).toNat * 3)).add 2) = some (.bool Mark) ∧
  If (!Mark)
  (C_ref04_Reserved  w fun t35P t35N t35C w1 =>
  If (decide ((s.i : Int) ≥ (t35N : Int)))
  (NN t_1 fun a_5 =>
  ∃ LP_3 : Option Addr, ∃ LN_3 : Nat, ∃ LC_3 : Nat, w1.cell? (a_5.add 0) = some (.slice LP_3 LN_3 LC_3) ∧
  0 ≤ (s.i : Int) ∧ (s.i : Int) < (LN_3 : Int) ∧ NN LP_3 fun a_6 =>
  St w1 ((a_6.add ((s.i : Int).toNat * 3)).add 0) (.string ⟨#[]⟩) fun w1_1 =>
  St w1_1 ((a_6.add ((s.i : Int).toNat * 3)).add 1) (.bool false) fun w1_2 =>
  St w1_2 ((a_6.add ((s.i : Int).toNat * 3)).add 2) (.bool false) fun w1_3 =>
  F_ref04_Table_Sweep_k2 t_1 s Kn (IntKind.i64.wrap ((s.n : Int) + (1 : Int))) w1_3)
  (F_ref04_Table_Sweep_k2 t_1 s Kn (s.n : Int) w1))
  (F_ref04_Table_Sweep_k1 t_1 s Kn w))
  (F_ref04_Table_Sweep_k1 t_1 s Kn w))
  (Kx0 (s.n : Int) w)

def F_ref04_Table_Sweep_L1 (t_1 : Option Addr) (s : S_ref04_Table_Sweep_L1) (w : World) (Kx0 : Int → World → Prop) : Prop :=
  LoopS (fun s w Kn => B_ref04_Table_Sweep_L1 t_1 s w Kn Kx0) s w

def F_ref04_Table_Sweep (t : Option Addr) (w : World) (R : Int → World → Prop) : Prop :=
  F_ref04_Table_Sweep_L1 t ⟨(0 : Int), (0 : Int)⟩ w
  (fun n_3 w1_7 =>
  R n_3 w1_7)

def lit_ref04_Table_Sweep_L1 (f : (Option Addr)) (s : S_ref04_Table_Sweep_L1) : Env := [⟨0, .pointer f, none⟩, ⟨3, .int .i64 s.n, none⟩, ⟨4, .int .i64 s.i, none⟩]

def dec_ref04_Table_Sweep_L1 (e : Env) (K : (Option Addr) → S_ref04_Table_Sweep_L1 → Prop) : Prop :=
  onV (getV e 0) fun u1 =>
  asP u1 fun t_1 =>
  onV (getV e 3) fun u2 =>
  asI .i64 u2 fun n =>
  onV (getV e 4) fun u3 =>
  asI .i64 u3 fun i =>
    K (t_1) ⟨n, i⟩

theorem dec_ref04_Table_Sweep_L1_ok {N : Nat} (e : Env) (a : Act) (K : (Option Addr) → S_ref04_Table_Sweep_L1 → Prop) (hr : Rep N a e) (h0 : dec_ref04_Table_Sweep_L1 e K) : ∃ f s, K f s ∧ Rep N a (lit_ref04_Table_Sweep_L1 f s) := by
  unfold dec_ref04_Table_Sweep_L1 at h0
  obtain ⟨u1, g0, h1⟩ := onV_elim h0
  obtain ⟨t_1, rfl, h2⟩ := asP_elim h1
  obtain ⟨u2, g3, h3⟩ := onV_elim h2
  obtain ⟨n, rfl, h4⟩ := asI_elim h3
  obtain ⟨u3, g4, h5⟩ := onV_elim h4
  obtain ⟨i, rfl, h6⟩ := asI_elim h5
  exact ⟨_, _, h6, rep_less hr (by simp [lit_ref04_Table_Sweep_L1, g0, g3, g4])⟩

def spec_ref04_Table_Sweep_L1 (Q : Post) (e : Env) (w : World) : Prop :=
  dec_ref04_Table_Sweep_L1 e fun f s => F_ref04_Table_Sweep_L1 f s w (fun n_1 w1 => Q (.exit 0) [⟨3, .int .i64 n_1, none⟩] w1)

def G_ref04_Table_Sweep : Gen where
  loop := lookL [([false, true, false, true, true], spec_ref04_Table_Sweep_L1)]
  plan := fun _ => none

def dx_ref04_Table_Sweep_L1_0 (e : Env) (K : (Option Addr) → Int → Prop) : Prop :=
  onV (getV e 0) fun u1 =>
  asP u1 fun t_1 =>
  onV (getV e 3) fun u2 =>
  asI .i64 u2 fun n_1 =>
    K (t_1) n_1

theorem body_ref04_Table_Sweep_L1 (f : (Option Addr)) (s : S_ref04_Table_Sweep_L1) (w : World) (Kn : (Option Addr) → S_ref04_Table_Sweep_L1 → World → Prop) (Kx0 : (Option Addr) → Int → World → Prop) :
    B_ref04_Table_Sweep_L1 f s w (fun s1 w1 => Kn f s1 w1) (fun n_1 w1 => Kx0 f n_1 w1) =
    den Try.prog Try.f42.ntmps G_ref04_Table_Sweep (sub (codeOf Try.f42) [false, false, true, false, true, true]) [false, false, true, false, true, true] (roundQ (fun e w => dec_ref04_Table_Sweep_L1 e fun f s => Kn f s w) (fun e w => False) (fun id e w => match Nat.beq id 0 with | true => dx_ref04_Table_Sweep_L1_0 e fun f n_1 => Kx0 f n_1 w | false => False)) (lit_ref04_Table_Sweep_L1 f s) w := by kernel_rfl

theorem ok_ref04_Table_Sweep_L1 : OneOk Try.prog Try.f42.ntmps G_ref04_Table_Sweep (codeOf Try.f42) [false, true, false, true, true] spec_ref04_Table_Sweep_L1 := by
  intro c hc ih Q e w a hr h
  have hcc : sub (codeOf Try.f42) [false, false, true, false, true, true] = c := sub_of_codeAt hc
  obtain ⟨f, s, h, hrep⟩ := dec_ref04_Table_Sweep_L1_ok e a _ hr h
  obtain ⟨J, μ, hj, hround⟩ := h
  refine loop_rule_deep seat_ok seat_mixed ih lit_ref04_Table_Sweep_L1 dec_ref04_Table_Sweep_L1 dec_ref04_Table_Sweep_L1_ok hc f J μ (Kr := fun e w => False) (Kx := fun id e w => match Nat.beq id 0 with | true => (dx_ref04_Table_Sweep_L1_0 e fun f1 n_1 => f1 = f ∧ Q (.exit 0) [⟨3, .int .i64 n_1, none⟩] w) | false => False) ?_ ?_ ?_ s w a hj hrep
  · intro e a w hr h
    exact h.elim
  · intro id e a w hr h0
    (try dsimp only at h0)
    split at h0
    · rename_i hid
      obtain rfl := Nat.eq_of_beq_eq_true hid
      unfold dx_ref04_Table_Sweep_L1_0 at h0
      obtain ⟨u1, g0, h1⟩ := onV_elim h0
      obtain ⟨t_1, rfl, h2⟩ := asP_elim h1
      obtain ⟨u2, g3, h3⟩ := onV_elim h2
      obtain ⟨n_1, rfl, h4⟩ := asI_elim h3
      obtain ⟨hf, hq⟩ := h4
      subst hf
      exact ⟨_, rep_less hr (by simp [g3]), hq⟩
    · exact h0.elim
  · intro s w hj
    have hb := hround s w hj
    rw [← hcc]
    have e1 := body_ref04_Table_Sweep_L1 f s w (fun f1 s1 w1 => f1 = f ∧ J s1 w1 ∧ μ s1 w1 < μ s w) (fun f1 n_1 w1 => f1 = f ∧ Q (.exit 0) [⟨3, .int .i64 n_1, none⟩] w1)
    simp only [true_and] at e1
    exact cast e1 hb

theorem loops_ref04_Table_Sweep : LoopOk Try.prog Try.f42.ntmps G_ref04_Table_Sweep (codeOf Try.f42) := loopOk_list rfl ⟨ok_ref04_Table_Sweep_L1, trivial⟩

theorem den_ref04_Table_Sweep (t : Option Addr) (w : World) (R : Value → World → Prop) :
    F_ref04_Table_Sweep t w (fun r w1 => R (.int .i64 r) w1) = den Try.prog Try.f42.ntmps G_ref04_Table_Sweep (codeOf Try.f42) [] (postD Try.prog Try.f42.results.toList R) (entry [.pointer t] 0) w := by kernel_rfl

theorem C_ref04_Table_Sweep.of {t : Option Addr} {w : World} {R : Int → World → Prop} (h : F_ref04_Table_Sweep t w R) : C_ref04_Table_Sweep t w R := by
  refine (calls_of_den (c := codeOf Try.f42) seat_ok seat_mixed Try.func42 (by kernel_rfl) loops_ref04_Table_Sweep (args := [.pointer t]) rfl (R := fun v w1 => ∃ (r : Int), v = (.int .i64 r : Value) ∧ R r w1) ?_).mono ?_
  · rw [← den_ref04_Table_Sweep]
    have e : (fun r w1 => ∃ (r' : Int), (.int .i64 r : Value) = (.int .i64 r' : Value) ∧ R r' w1) = R := by
      funext r w1
      exact propext ⟨fun ⟨r', he, h⟩ => by simp at he; simp_all, fun h => ⟨_, rfl, h⟩⟩
    simpa only [e] using h
  · rintro en w1 ⟨v, he, r, rfl, h⟩
    exact ⟨_, he, h⟩

structure S_ref04_Table_Intern_L1 where
  i : Int

/-- One round. -/
def B_ref04_Table_Intern_L1 (t_1 : Option Addr) (namex_1 : ByteArray) (s : S_ref04_Table_Intern_L1) (w : World) (Kn : S_ref04_Table_Intern_L1 → World → Prop) (Kx0 : World → Prop) (Kr : Int → Int → World → Prop) : Prop :=
  NN t_1 fun a =>
  ∃ LP : Option Addr, ∃ LN : Nat, ∃ LC : Nat, w.cell? (a.add 0) = some (.slice LP LN LC) ∧
  If (decide ((s.i : Int) < (LN : Int)))
  (NN t_1 fun a_1 =>
  ∃ LP_1 : Option Addr, ∃ LN_1 : Nat, ∃ LC_1 : Nat, w.cell? (a_1.add 0) = some (.slice LP_1 LN_1 LC_1) ∧
  0 ≤ (s.i : Int) ∧ (s.i : Int) < (LN_1 : Int) ∧ NN LP_1 fun a_2 =>
  ∃ Is : Bool, w.cell? ((a_2.add ((s.i : Int).toNat * 3)).add 1) = some (.bool Is) ∧
  If (!Is)
  (NN t_1 fun a_3 =>
  ∃ LP_2 : Option Addr, ∃ LN_2 : Nat, ∃ LC_2 : Nat, w.cell? (a_3.add 0) = some (.slice LP_2 LN_2 LC_2) ∧
  0 ≤ (s.i : Int) ∧ (s.i : Int) < (LN_2 : Int) ∧ NN LP_2 fun a_4 =>
  St w ((a_4.add ((s.i : Int).toNat * 3)).add 0) (.string namex_1) fun w1_1 =>
  St w1_1 ((a_4.add ((s.i : Int).toNat * 3)).add 1) (.bool true) fun w1_2 =>
  St w1_2 ((a_4.add ((s.i : Int).toNat * 3)).add 2) (.bool false) fun w1_3 =>
  NN t_1 fun a_5 =>
  ∃ Made : Int, w1_3.cell? (a_5.add 2) = some (.int .i64 Made) ∧
  NN t_1 fun a_6 =>
  St w1_3 ((a_6.add 2).add 0) (.int .i64 (IntKind.i64.wrap (Made + (1 : Int)))) fun w1_4 =>
  Kr (s.i : Int) (0 : Int) w1_4)
  (Kn ⟨(IntKind.i64.wrap ((s.i : Int) + (1 : Int)))⟩ w))
  (Kx0 w)

def F_ref04_Table_Intern_L1 (t_1 : Option Addr) (namex_1 : ByteArray) (s : S_ref04_Table_Intern_L1) (w : World) (Kx0 : World → Prop) (Kr : Int → Int → World → Prop) : Prop :=
  LoopS (fun s w Kn => B_ref04_Table_Intern_L1 t_1 namex_1 s w Kn Kx0 Kr) s w

def F_ref04_Table_Intern (t : Option Addr) (namex : ByteArray) (w : World) (R : Int → Int → World → Prop) : Prop :=
  If (decide ((namex.size : Int) > (64 : Int)))
  (R (0 : Int) (3 : Int) w)
  (C_ref04_Table_Find t namex w fun t13 w1 =>
  If (decide (t13 ≥ (0 : Int)))
  (R t13 (0 : Int) w1)
  (F_ref04_Table_Intern_L1 t namex ⟨(0 : Int)⟩ w1
  (fun w1_5 =>
  NN t fun a_7 =>
  ∃ LP_3 : Option Addr, ∃ LN_3 : Nat, ∃ LC_3 : Nat, (drw w1_5).cell? (a_7.add 0) = some (.slice LP_3 LN_3 LC_3) ∧
  NN t fun a_8 =>
  ∃ Limit : Int, (drw w1_5).cell? (a_8.add 1) = some (.int .i64 Limit) ∧
  If (decide ((LN_3 : Int) ≥ Limit))
  (R (0 : Int) (2 : Int) (drw w1_5))
  (NN t fun a_9 =>
  ∃ LP_4 : Option Addr, ∃ LN_4 : Nat, ∃ LC_4 : Nat, (drw w1_5).cell? (a_9.add 0) = some (.slice LP_4 LN_4 LC_4) ∧
  BSl Try.prog 93 1 [(0, .agg #[.string namex, .bool true, .bool false])] (drw w1_5) fun t68P t68N t68C w1_7 =>
  App Try.prog #[93, 93] 93 #[.slice LP_4 LN_4 LC_4, .slice t68P t68N t68C] w1_7 fun t69P t69N t69C w1_8 =>
  NN t fun a_10 =>
  St w1_8 ((a_10.add 0).add 0) (.slice t69P t69N t69C) fun w1_9 =>
  NN t fun a_11 =>
  ∃ Made_1 : Int, w1_9.cell? (a_11.add 2) = some (.int .i64 Made_1) ∧
  NN t fun a_12 =>
  St w1_9 ((a_12.add 2).add 0) (.int .i64 (IntKind.i64.wrap (Made_1 + (1 : Int)))) fun w1_10 =>
  NN t fun a_13 =>
  ∃ LP_5 : Option Addr, ∃ LN_5 : Nat, ∃ LC_5 : Nat, w1_10.cell? (a_13.add 0) = some (.slice LP_5 LN_5 LC_5) ∧
  R (IntKind.i64.wrap ((LN_5 : Int) - (1 : Int))) (0 : Int) w1_10))
  (fun t4_1 t5_1 w1_6 =>
  R t4_1 t5_1 w1_6)))

def lit_ref04_Table_Intern_L1 (f : (Option Addr) × ByteArray) (s : S_ref04_Table_Intern_L1) : Env := [⟨0, .pointer f.1, none⟩, ⟨1, .string f.2, none⟩, ⟨7, .int .i64 s.i, none⟩]

def dec_ref04_Table_Intern_L1 (e : Env) (K : ((Option Addr) × ByteArray) → S_ref04_Table_Intern_L1 → Prop) : Prop :=
  onV (getV e 0) fun u1 =>
  asP u1 fun t_1 =>
  onV (getV e 1) fun u2 =>
  asT u2 fun namex_1 =>
  onV (getV e 7) fun u3 =>
  asI .i64 u3 fun i =>
    K (t_1, namex_1) ⟨i⟩

theorem dec_ref04_Table_Intern_L1_ok {N : Nat} (e : Env) (a : Act) (K : ((Option Addr) × ByteArray) → S_ref04_Table_Intern_L1 → Prop) (hr : Rep N a e) (h0 : dec_ref04_Table_Intern_L1 e K) : ∃ f s, K f s ∧ Rep N a (lit_ref04_Table_Intern_L1 f s) := by
  unfold dec_ref04_Table_Intern_L1 at h0
  obtain ⟨u1, g0, h1⟩ := onV_elim h0
  obtain ⟨t_1, rfl, h2⟩ := asP_elim h1
  obtain ⟨u2, g1, h3⟩ := onV_elim h2
  obtain ⟨namex_1, rfl, h4⟩ := asT_elim h3
  obtain ⟨u3, g7, h5⟩ := onV_elim h4
  obtain ⟨i, rfl, h6⟩ := asI_elim h5
  exact ⟨_, _, h6, rep_less hr (by simp [lit_ref04_Table_Intern_L1, g0, g1, g7])⟩

def spec_ref04_Table_Intern_L1 (Q : Post) (e : Env) (w : World) : Prop :=
  dec_ref04_Table_Intern_L1 e fun f s => F_ref04_Table_Intern_L1 f.1 f.2 s w (fun w1 => Q (.exit 0) [⟨0, .pointer f.1, none⟩, ⟨1, .string f.2, none⟩] w1) (fun t4 t5 w1 => Q .ret [⟨4, .int .i64 t4, none⟩, ⟨5, .int .i64 t5, none⟩] w1)

def G_ref04_Table_Intern : Gen where
  loop := lookL [([false, true, false, true, true, true], spec_ref04_Table_Intern_L1)]
  plan := fun id =>
    bif Nat.beq id 13 then some ([0, 1, 3, 7, 15, 0, 32, 96, 224, 511], .take 0 (.take 1 (.take 2 (.take 3 (.take 4 (.take 5 (.take 6 (.take 7 (.take 8 (.take 9 .done)))))))))) else none

def dx_ref04_Table_Intern_L1_0 (e : Env) (K : ((Option Addr) × ByteArray) → Prop) : Prop :=
  onV (getV e 0) fun u1 =>
  asP u1 fun t_1 =>
  onV (getV e 1) fun u2 =>
  asT u2 fun namex_1 =>
    K (t_1, namex_1)

def dx_ref04_Table_Intern_L1_ret (e : Env) (K : ((Option Addr) × ByteArray) → Int → Int → Prop) : Prop :=
  onV (getV e 0) fun u1 =>
  asP u1 fun t_1 =>
  onV (getV e 1) fun u2 =>
  asT u2 fun namex_1 =>
  onV (getV e 4) fun u3 =>
  asI .i64 u3 fun t4 =>
  onV (getV e 5) fun u4 =>
  asI .i64 u4 fun t5 =>
    K (t_1, namex_1) t4 t5

theorem body_ref04_Table_Intern_L1 (f : (Option Addr) × ByteArray) (s : S_ref04_Table_Intern_L1) (w : World) (Kn : ((Option Addr) × ByteArray) → S_ref04_Table_Intern_L1 → World → Prop) (Kx0 : ((Option Addr) × ByteArray) → World → Prop) (Kr : ((Option Addr) × ByteArray) → Int → Int → World → Prop) :
    B_ref04_Table_Intern_L1 f.1 f.2 s w (fun s1 w1 => Kn f s1 w1) (fun w1 => Kx0 f w1) (fun t4 t5 w1 => Kr f t4 t5 w1) =
    den Try.prog Try.f43.ntmps G_ref04_Table_Intern (sub (codeOf Try.f43) [false, false, true, false, true, true, true]) [false, false, true, false, true, true, true] (roundQ (fun e w => dec_ref04_Table_Intern_L1 e fun f s => Kn f s w) (fun e w => dx_ref04_Table_Intern_L1_ret e fun f t4 t5 => Kr f t4 t5 w) (fun id e w => match Nat.beq id 0 with | true => dx_ref04_Table_Intern_L1_0 e fun f => Kx0 f w | false => False)) (lit_ref04_Table_Intern_L1 f s) w := by kernel_rfl

theorem ok_ref04_Table_Intern_L1 : OneOk Try.prog Try.f43.ntmps G_ref04_Table_Intern (codeOf Try.f43) [false, true, false, true, true, true] spec_ref04_Table_Intern_L1 := by
  intro c hc ih Q e w a hr h
  have hcc : sub (codeOf Try.f43) [false, false, true, false, true, true, true] = c := sub_of_codeAt hc
  obtain ⟨f, s, h, hrep⟩ := dec_ref04_Table_Intern_L1_ok e a _ hr h
  obtain ⟨J, μ, hj, hround⟩ := h
  refine loop_rule_deep seat_ok seat_mixed ih lit_ref04_Table_Intern_L1 dec_ref04_Table_Intern_L1 dec_ref04_Table_Intern_L1_ok hc f J μ (Kr := fun e w => dx_ref04_Table_Intern_L1_ret e fun f1 t4 t5 => f1 = f ∧ Q .ret [⟨4, .int .i64 t4, none⟩, ⟨5, .int .i64 t5, none⟩] w) (Kx := fun id e w => match Nat.beq id 0 with | true => (dx_ref04_Table_Intern_L1_0 e fun f1 => f1 = f ∧ Q (.exit 0) [⟨0, .pointer f.1, none⟩, ⟨1, .string f.2, none⟩] w) | false => False) ?_ ?_ ?_ s w a hj hrep
  · intro e a w hr h0
    unfold dx_ref04_Table_Intern_L1_ret at h0
    obtain ⟨u1, g0, h1⟩ := onV_elim h0
    obtain ⟨t_1, rfl, h2⟩ := asP_elim h1
    obtain ⟨u2, g1, h3⟩ := onV_elim h2
    obtain ⟨namex_1, rfl, h4⟩ := asT_elim h3
    obtain ⟨u3, g4, h5⟩ := onV_elim h4
    obtain ⟨t4, rfl, h6⟩ := asI_elim h5
    obtain ⟨u4, g5, h7⟩ := onV_elim h6
    obtain ⟨t5, rfl, h8⟩ := asI_elim h7
    obtain ⟨hf, hq⟩ := h8
    subst hf
    exact ⟨_, rep_less hr (by simp [g4, g5]), hq⟩
  · intro id e a w hr h0
    (try dsimp only at h0)
    split at h0
    · rename_i hid
      obtain rfl := Nat.eq_of_beq_eq_true hid
      unfold dx_ref04_Table_Intern_L1_0 at h0
      obtain ⟨u1, g0, h1⟩ := onV_elim h0
      obtain ⟨t_1, rfl, h2⟩ := asP_elim h1
      obtain ⟨u2, g1, h3⟩ := onV_elim h2
      obtain ⟨namex_1, rfl, h4⟩ := asT_elim h3
      obtain ⟨hf, hq⟩ := h4
      subst hf
      exact ⟨_, rep_less hr (by simp [g0, g1]), hq⟩
    · exact h0.elim
  · intro s w hj
    have hb := hround s w hj
    rw [← hcc]
    have e1 := body_ref04_Table_Intern_L1 f s w (fun f1 s1 w1 => f1 = f ∧ J s1 w1 ∧ μ s1 w1 < μ s w) (fun f1 w1 => f1 = f ∧ Q (.exit 0) [⟨0, .pointer f.1, none⟩, ⟨1, .string f.2, none⟩] w1) (fun f1 t4 t5 w1 => f1 = f ∧ Q .ret [⟨4, .int .i64 t4, none⟩, ⟨5, .int .i64 t5, none⟩] w1)
    simp only [true_and] at e1
    exact cast e1 hb

theorem loops_ref04_Table_Intern : LoopOk Try.prog Try.f43.ntmps G_ref04_Table_Intern (codeOf Try.f43) := loopOk_list rfl ⟨ok_ref04_Table_Intern_L1, trivial⟩

theorem den_ref04_Table_Intern (t : Option Addr) (namex : ByteArray) (w : World) (R : Value → World → Prop) :
    F_ref04_Table_Intern t namex w (fun r0 r1 w1 => R (.tuple #[.int .i64 r0, .int .i64 r1]) w1) = den Try.prog Try.f43.ntmps G_ref04_Table_Intern (codeOf Try.f43) [] (postD Try.prog Try.f43.results.toList R) (entry [.pointer t, .string namex] 0) w := by kernel_rfl

theorem C_ref04_Table_Intern.of {t : Option Addr} {namex : ByteArray} {w : World} {R : Int → Int → World → Prop} (h : F_ref04_Table_Intern t namex w R) : C_ref04_Table_Intern t namex w R := by
  refine (calls_of_den (c := codeOf Try.f43) seat_ok seat_mixed Try.func43 (by kernel_rfl) loops_ref04_Table_Intern (args := [.pointer t, .string namex]) rfl (R := fun v w1 => ∃ (r0 : Int) (r1 : Int), v = (.tuple #[.int .i64 r0, .int .i64 r1] : Value) ∧ R r0 r1 w1) ?_).mono ?_
  · rw [← den_ref04_Table_Intern]
    have e : (fun r0 r1 w1 => ∃ (r0' : Int) (r1' : Int), (.tuple #[.int .i64 r0, .int .i64 r1] : Value) = (.tuple #[.int .i64 r0', .int .i64 r1'] : Value) ∧ R r0' r1' w1) = R := by
      funext r0 r1 w1
      exact propext ⟨fun ⟨r0', r1', he, h⟩ => by simp at he; simp_all, fun h => ⟨_, _, rfl, h⟩⟩
    simpa only [e] using h
  · rintro en w1 ⟨v, he, r0, r1, rfl, h⟩
    exact ⟨_, _, he, h⟩

def F_sync_atomic_Int64_Add (x : Option Addr) (delta : Int) (w : World) (R : Int → World → Prop) : Prop :=
  NN x fun a =>
  CallX Try.prog 53 [.pointer (some (a.add 0)), .int .i64 delta] w fun v w1 => ∃ t9 : Int, v = (.int .i64 t9) ∧
  R t9 w1

def G_sync_atomic_Int64_Add : Gen where
  loop := lookL []
  plan := fun _ => none

theorem loops_sync_atomic_Int64_Add : LoopOk Try.prog Try.f44.ntmps G_sync_atomic_Int64_Add (codeOf Try.f44) := loopOk_none fun _ => rfl

theorem den_sync_atomic_Int64_Add (x : Option Addr) (delta : Int) (w : World) (R : Value → World → Prop) :
    F_sync_atomic_Int64_Add x delta w (fun r w1 => R (.int .i64 r) w1) = den Try.prog Try.f44.ntmps G_sync_atomic_Int64_Add (codeOf Try.f44) [] (postD Try.prog Try.f44.results.toList R) (entry [.pointer x, .int .i64 delta] 0) w := by kernel_rfl

theorem C_sync_atomic_Int64_Add.of {x : Option Addr} {delta : Int} {w : World} {R : Int → World → Prop} (h : F_sync_atomic_Int64_Add x delta w R) : C_sync_atomic_Int64_Add x delta w R := by
  refine (calls_of_den (c := codeOf Try.f44) seat_ok seat_mixed Try.func44 (by kernel_rfl) loops_sync_atomic_Int64_Add (args := [.pointer x, .int .i64 delta]) rfl (R := fun v w1 => ∃ (r : Int), v = (.int .i64 r : Value) ∧ R r w1) ?_).mono ?_
  · rw [← den_sync_atomic_Int64_Add]
    have e : (fun r w1 => ∃ (r' : Int), (.int .i64 r : Value) = (.int .i64 r' : Value) ∧ R r' w1) = R := by
      funext r w1
      exact propext ⟨fun ⟨r', he, h⟩ => by simp at he; simp_all, fun h => ⟨_, rfl, h⟩⟩
    simpa only [e] using h
  · rintro en w1 ⟨v, he, r, rfl, h⟩
    exact ⟨_, he, h⟩

def F_atom_Table_may (t : Option Addr) (idx : Int) (w : World) (R : Int → World → Prop) : Prop :=
  C_atom_Table_ready t w fun t7 w1 =>
  If (!t7)
  (R (6 : Int) w1)
  (C_atom_Table_has t idx w1 fun t12 w1_1 =>
  If (!t12)
  (R (4 : Int) w1_1)
  (R (0 : Int) w1_1))

def G_atom_Table_may : Gen where
  loop := lookL []
  plan := fun _ => none

theorem loops_atom_Table_may : LoopOk Try.prog Try.f45.ntmps G_atom_Table_may (codeOf Try.f45) := loopOk_none fun _ => rfl

theorem den_atom_Table_may (t : Option Addr) (idx : Int) (w : World) (R : Value → World → Prop) :
    F_atom_Table_may t idx w (fun r w1 => R (.int .i64 r) w1) = den Try.prog Try.f45.ntmps G_atom_Table_may (codeOf Try.f45) [] (postD Try.prog Try.f45.results.toList R) (entry [.pointer t, .int .i64 idx] 0) w := by kernel_rfl

theorem C_atom_Table_may.of {t : Option Addr} {idx : Int} {w : World} {R : Int → World → Prop} (h : F_atom_Table_may t idx w R) : C_atom_Table_may t idx w R := by
  refine (calls_of_den (c := codeOf Try.f45) seat_ok seat_mixed Try.func45 (by kernel_rfl) loops_atom_Table_may (args := [.pointer t, .int .i64 idx]) rfl (R := fun v w1 => ∃ (r : Int), v = (.int .i64 r : Value) ∧ R r w1) ?_).mono ?_
  · rw [← den_atom_Table_may]
    have e : (fun r w1 => ∃ (r' : Int), (.int .i64 r : Value) = (.int .i64 r' : Value) ∧ R r' w1) = R := by
      funext r w1
      exact propext ⟨fun ⟨r', he, h⟩ => by simp at he; simp_all, fun h => ⟨_, rfl, h⟩⟩
    simpa only [e] using h
  · rintro en w1 ⟨v, he, r, rfl, h⟩
    exact ⟨_, he, h⟩

def F_sync_Once_Do (o : Option Addr) (fx : Value) (w : World) (R : World → Prop) : Prop :=
  NN o fun a =>
  C_sync_atomic_Bool_Load (some (a.add 0)) w fun t7 w1 =>
  If (!t7)
  (C_sync_Once_doSlow o fx w1 fun w1_1 =>
  R w1_1)
  (R w1)

def G_sync_Once_Do : Gen where
  loop := lookL []
  plan := fun _ => none

theorem loops_sync_Once_Do : LoopOk Try.prog Try.f48.ntmps G_sync_Once_Do (codeOf Try.f48) := loopOk_none fun _ => rfl

theorem den_sync_Once_Do (o : Option Addr) (fx : Value) (w : World) (R : Value → World → Prop) :
    F_sync_Once_Do o fx w (fun w1 => R (.tuple #[]) w1) = den Try.prog Try.f48.ntmps G_sync_Once_Do (codeOf Try.f48) [] (postD Try.prog Try.f48.results.toList R) (entry [.pointer o, fx] 0) w := by kernel_rfl

theorem C_sync_Once_Do.of {o : Option Addr} {fx : Value} {w : World} {R : World → Prop} (h : F_sync_Once_Do o fx w R) : C_sync_Once_Do o fx w R := by
  refine (calls_of_den (c := codeOf Try.f48) seat_ok seat_mixed Try.func48 (by kernel_rfl) loops_sync_Once_Do (args := [.pointer o, fx]) rfl (R := fun v w1 => v = (.tuple #[] : Value) ∧ R w1) ?_).mono ?_
  · rw [← den_sync_Once_Do]
    simpa using h
  · rintro en w1 ⟨v, he, rfl, h⟩
    exact ⟨he, h⟩

structure S_atom_Table_begin_L1 where
  t10 : Int

/-- One round. -/
def B_atom_Table_begin_L1 (t_1 : Option Addr) (t8P_1 : Option Addr) (t8N_1 : Nat) (t8C_1 : Nat) (t9 : Int) (s : S_atom_Table_begin_L1) (w : World) (Kn : S_atom_Table_begin_L1 → World → Prop) (Kx0 : World → Prop) : Prop :=
  If (decide ((s.t10 : Int) < t9))
  (0 ≤ (s.t10 : Int) ∧ (s.t10 : Int) < (t8N_1 : Int) ∧ NN t8P_1 fun a_1 =>
  ∃ t14 : ByteArray, w.cell? (a_1.add ((s.t10 : Int).toNat * 1)) = some (.string t14) ∧
  NN t_1 fun a_2 =>
  ∃ lP : Option Addr, ∃ lN : Nat, ∃ lC : Nat, w.cell? (a_2.add 5) = some (.slice lP lN lC) ∧
  BSl Try.prog 86 1 [(0, .agg #[.string t14, .bool true, .bool false])] w fun t22P t22N t22C w1_3 =>
  App Try.prog #[86, 86] 86 #[.slice lP lN lC, .slice t22P t22N t22C] w1_3 fun t23P t23N t23C w1_4 =>
  NN t_1 fun a_3 =>
  St w1_4 ((a_3.add 5).add 0) (.slice t23P t23N t23C) fun w1_5 =>
  NN t_1 fun a_4 =>
  ∃ ids : Option Nat, w1_5.cell? (a_4.add 6) = some (.map ids) ∧
  MUp Try.prog 87 (.map ids) (.string t14) (.int .i64 s.t10) w1_5 fun w1_6 =>
  Kn ⟨(IntKind.i64.wrap ((s.t10 : Int) + (1 : Int)))⟩ w1_6)
  (Kx0 w)

def F_atom_Table_begin_L1 (t_1 : Option Addr) (t8P_1 : Option Addr) (t8N_1 : Nat) (t8C_1 : Nat) (t9 : Int) (s : S_atom_Table_begin_L1) (w : World) (Kx0 : World → Prop) : Prop :=
  LoopS (fun s w Kn => B_atom_Table_begin_L1 t_1 t8P_1 t8N_1 t8C_1 t9 s w Kn Kx0) s w

def F_atom_Table_begin (t : Option Addr) (w : World) (R : World → Prop) : Prop :=
  New w (.map #[] 0) fun r w1 =>
  NN t fun a =>
  St w1 ((a.add 6).add 0) (.map (some r)) fun w1_1 =>
  C_atom_Reserved  w1_1 fun t8P t8N t8C w1_2 =>
  F_atom_Table_begin_L1 t t8P t8N t8C (t8N : Int) ⟨(0 : Int)⟩ w1_2
  (fun w1_7 =>
  R w1_7)

def lit_atom_Table_begin_L1 (f : (Option Addr) × (Option Addr) × Nat × Nat × Int) (s : S_atom_Table_begin_L1) : Env := [⟨0, .pointer f.1, none⟩, ⟨8, .slice f.2.1 f.2.2.1 f.2.2.2.1, none⟩, ⟨9, .int .i64 f.2.2.2.2, none⟩, ⟨10, .int .i64 s.t10, none⟩]

def dec_atom_Table_begin_L1 (e : Env) (K : ((Option Addr) × (Option Addr) × Nat × Nat × Int) → S_atom_Table_begin_L1 → Prop) : Prop :=
  onV (getV e 0) fun u1 =>
  asP u1 fun t_1 =>
  onV (getV e 8) fun u2 =>
  asS u2 fun t8P_1 t8N_1 t8C_1 =>
  onV (getV e 9) fun u3 =>
  asI .i64 u3 fun t9 =>
  onV (getV e 10) fun u4 =>
  asI .i64 u4 fun t10 =>
    K (t_1, t8P_1, t8N_1, t8C_1, t9) ⟨t10⟩

theorem dec_atom_Table_begin_L1_ok {N : Nat} (e : Env) (a : Act) (K : ((Option Addr) × (Option Addr) × Nat × Nat × Int) → S_atom_Table_begin_L1 → Prop) (hr : Rep N a e) (h0 : dec_atom_Table_begin_L1 e K) : ∃ f s, K f s ∧ Rep N a (lit_atom_Table_begin_L1 f s) := by
  unfold dec_atom_Table_begin_L1 at h0
  obtain ⟨u1, g0, h1⟩ := onV_elim h0
  obtain ⟨t_1, rfl, h2⟩ := asP_elim h1
  obtain ⟨u2, g8, h3⟩ := onV_elim h2
  obtain ⟨t8P_1, t8N_1, t8C_1, rfl, h4⟩ := asS_elim h3
  obtain ⟨u3, g9, h5⟩ := onV_elim h4
  obtain ⟨t9, rfl, h6⟩ := asI_elim h5
  obtain ⟨u4, g10, h7⟩ := onV_elim h6
  obtain ⟨t10, rfl, h8⟩ := asI_elim h7
  exact ⟨_, _, h8, rep_less hr (by simp [lit_atom_Table_begin_L1, g0, g8, g9, g10])⟩

def spec_atom_Table_begin_L1 (Q : Post) (e : Env) (w : World) : Prop :=
  dec_atom_Table_begin_L1 e fun f s => F_atom_Table_begin_L1 f.1 f.2.1 f.2.2.1 f.2.2.2.1 f.2.2.2.2 s w (fun w1 => Q (.exit 0) [] w1)

def G_atom_Table_begin : Gen where
  loop := lookL [([false, true, true], spec_atom_Table_begin_L1)]
  plan := fun _ => none

def dx_atom_Table_begin_L1_0 (e : Env) (K : ((Option Addr) × (Option Addr) × Nat × Nat × Int) → Prop) : Prop :=
  onV (getV e 0) fun u1 =>
  asP u1 fun t_1 =>
  onV (getV e 8) fun u2 =>
  asS u2 fun t8P_1 t8N_1 t8C_1 =>
  onV (getV e 9) fun u3 =>
  asI .i64 u3 fun t9 =>
    K (t_1, t8P_1, t8N_1, t8C_1, t9)

theorem body_atom_Table_begin_L1 (f : (Option Addr) × (Option Addr) × Nat × Nat × Int) (s : S_atom_Table_begin_L1) (w : World) (Kn : ((Option Addr) × (Option Addr) × Nat × Nat × Int) → S_atom_Table_begin_L1 → World → Prop) (Kx0 : ((Option Addr) × (Option Addr) × Nat × Nat × Int) → World → Prop) :
    B_atom_Table_begin_L1 f.1 f.2.1 f.2.2.1 f.2.2.2.1 f.2.2.2.2 s w (fun s1 w1 => Kn f s1 w1) (fun w1 => Kx0 f w1) =
    den Try.prog Try.f49.ntmps G_atom_Table_begin (sub (codeOf Try.f49) [false, false, true, true]) [false, false, true, true] (roundQ (fun e w => dec_atom_Table_begin_L1 e fun f s => Kn f s w) (fun e w => False) (fun id e w => match Nat.beq id 0 with | true => dx_atom_Table_begin_L1_0 e fun f => Kx0 f w | false => False)) (lit_atom_Table_begin_L1 f s) w := by kernel_rfl

theorem ok_atom_Table_begin_L1 : OneOk Try.prog Try.f49.ntmps G_atom_Table_begin (codeOf Try.f49) [false, true, true] spec_atom_Table_begin_L1 := by
  intro c hc ih Q e w a hr h
  have hcc : sub (codeOf Try.f49) [false, false, true, true] = c := sub_of_codeAt hc
  obtain ⟨f, s, h, hrep⟩ := dec_atom_Table_begin_L1_ok e a _ hr h
  obtain ⟨J, μ, hj, hround⟩ := h
  refine loop_rule_deep seat_ok seat_mixed ih lit_atom_Table_begin_L1 dec_atom_Table_begin_L1 dec_atom_Table_begin_L1_ok hc f J μ (Kr := fun e w => False) (Kx := fun id e w => match Nat.beq id 0 with | true => (dx_atom_Table_begin_L1_0 e fun f1 => f1 = f ∧ Q (.exit 0) [] w) | false => False) ?_ ?_ ?_ s w a hj hrep
  · intro e a w hr h
    exact h.elim
  · intro id e a w hr h0
    (try dsimp only at h0)
    split at h0
    · rename_i hid
      obtain rfl := Nat.eq_of_beq_eq_true hid
      unfold dx_atom_Table_begin_L1_0 at h0
      obtain ⟨u1, g0, h1⟩ := onV_elim h0
      obtain ⟨t_1, rfl, h2⟩ := asP_elim h1
      obtain ⟨u2, g8, h3⟩ := onV_elim h2
      obtain ⟨t8P_1, t8N_1, t8C_1, rfl, h4⟩ := asS_elim h3
      obtain ⟨u3, g9, h5⟩ := onV_elim h4
      obtain ⟨t9, rfl, h6⟩ := asI_elim h5
      obtain ⟨hf, hq⟩ := h6
      subst hf
      exact ⟨_, rep_less hr (by simp), hq⟩
    · exact h0.elim
  · intro s w hj
    have hb := hround s w hj
    rw [← hcc]
    have e1 := body_atom_Table_begin_L1 f s w (fun f1 s1 w1 => f1 = f ∧ J s1 w1 ∧ μ s1 w1 < μ s w) (fun f1 w1 => f1 = f ∧ Q (.exit 0) [] w1)
    simp only [true_and] at e1
    exact cast e1 hb

theorem loops_atom_Table_begin : LoopOk Try.prog Try.f49.ntmps G_atom_Table_begin (codeOf Try.f49) := loopOk_list rfl ⟨ok_atom_Table_begin_L1, trivial⟩

theorem den_atom_Table_begin (t : Option Addr) (w : World) (R : Value → World → Prop) :
    F_atom_Table_begin t w (fun w1 => R (.tuple #[]) w1) = den Try.prog Try.f49.ntmps G_atom_Table_begin (codeOf Try.f49) [] (postD Try.prog Try.f49.results.toList R) (entry [.pointer t] 0) w := by kernel_rfl

theorem C_atom_Table_begin.of {t : Option Addr} {w : World} {R : World → Prop} (h : F_atom_Table_begin t w R) : C_atom_Table_begin t w R := by
  refine (calls_of_den (c := codeOf Try.f49) seat_ok seat_mixed Try.func49 (by kernel_rfl) loops_atom_Table_begin (args := [.pointer t]) rfl (R := fun v w1 => v = (.tuple #[] : Value) ∧ R w1) ?_).mono ?_
  · rw [← den_atom_Table_begin]
    simpa using h
  · rintro en w1 ⟨v, he, rfl, h⟩
    exact ⟨he, h⟩

structure S_ref05_Table_at_L1 where
  i : Int

def F_ref05_Table_at_k2 (s : S_ref05_Table_at_L1) (Kn : S_ref05_Table_at_L1 → World → Prop) (w1_1 : World) : Prop :=
  Kn ⟨(IntKind.i64.wrap ((s.i : Int) + (1 : Int)))⟩ w1_1

def F_ref05_Table_at_k1 (s : S_ref05_Table_at_L1) (Kn : S_ref05_Table_at_L1 → World → Prop) (w1 : World) : Prop :=
  F_ref05_Table_at_k2 s Kn w1

/-- One round. -/
def B_ref05_Table_at_L1 (t_1 : Option Addr) (namex_1 : Int) (arity_1 : Int) (s : S_ref05_Table_at_L1) (w : World) (Kn : S_ref05_Table_at_L1 → World → Prop) (Kx0 : World → Prop) (Kr : Int → World → Prop) : Prop :=
  NN t_1 fun a =>
  ∃ LP : Option Addr, ∃ LN : Nat, ∃ LC : Nat, w.cell? (a.add 0) = some (.slice LP LN LC) ∧
  If (decide ((s.i : Int) < (LN : Int)))
  (NN t_1 fun a_1 =>
  ∃ LP_1 : Option Addr, ∃ LN_1 : Nat, ∃ LC_1 : Nat, w.cell? (a_1.add 0) = some (.slice LP_1 LN_1 LC_1) ∧
  0 ≤ (s.i : Int) ∧ (s.i : Int) < (LN_1 : Int) ∧ NN LP_1 fun a_2 =>
  ∃ Is : Bool, w.cell? ((a_2.add ((s.i : Int).toNat * 4)).add 2) = some (.bool Is) ∧
  If Is
  (NN t_1 fun a_3 =>
  ∃ LP_2 : Option Addr, ∃ LN_2 : Nat, ∃ LC_2 : Nat, w.cell? (a_3.add 0) = some (.slice LP_2 LN_2 LC_2) ∧
  0 ≤ (s.i : Int) ∧ (s.i : Int) < (LN_2 : Int) ∧ NN LP_2 fun a_4 =>
  ∃ Name : Int, w.cell? ((a_4.add ((s.i : Int).toNat * 4)).add 0) = some (.int .i64 Name) ∧
  If (Name == namex_1)
  (NN t_1 fun a_5 =>
  ∃ LP_3 : Option Addr, ∃ LN_3 : Nat, ∃ LC_3 : Nat, w.cell? (a_5.add 0) = some (.slice LP_3 LN_3 LC_3) ∧
  0 ≤ (s.i : Int) ∧ (s.i : Int) < (LN_3 : Int) ∧ NN LP_3 fun a_6 =>
  ∃ Arity : Int, w.cell? ((a_6.add ((s.i : Int).toNat * 4)).add 1) = some (.int .i64 Arity) ∧
  If (Arity == arity_1)
  (Kr (s.i : Int) w)
  (F_ref05_Table_at_k2 s Kn w))
  (F_ref05_Table_at_k1 s Kn w))
  (F_ref05_Table_at_k1 s Kn w))
  (Kx0 w)

def F_ref05_Table_at_L1 (t_1 : Option Addr) (namex_1 : Int) (arity_1 : Int) (s : S_ref05_Table_at_L1) (w : World) (Kx0 : World → Prop) (Kr : Int → World → Prop) : Prop :=
  LoopS (fun s w Kn => B_ref05_Table_at_L1 t_1 namex_1 arity_1 s w Kn Kx0 Kr) s w

def F_ref05_Table_at (t : Option Addr) (namex : Int) (arity : Int) (w : World) (R : Int → World → Prop) : Prop :=
  F_ref05_Table_at_L1 t namex arity ⟨(0 : Int)⟩ w
  (fun w1_2 =>
  R (-1) w1_2)
  (fun t6_1 w1_3 =>
  R t6_1 w1_3)

def lit_ref05_Table_at_L1 (f : (Option Addr) × Int × Int) (s : S_ref05_Table_at_L1) : Env := [⟨0, .pointer f.1, none⟩, ⟨1, .int .i64 f.2.1, none⟩, ⟨2, .int .i64 f.2.2, none⟩, ⟨7, .int .i64 s.i, none⟩]

def dec_ref05_Table_at_L1 (e : Env) (K : ((Option Addr) × Int × Int) → S_ref05_Table_at_L1 → Prop) : Prop :=
  onV (getV e 0) fun u1 =>
  asP u1 fun t_1 =>
  onV (getV e 1) fun u2 =>
  asI .i64 u2 fun namex_1 =>
  onV (getV e 2) fun u3 =>
  asI .i64 u3 fun arity_1 =>
  onV (getV e 7) fun u4 =>
  asI .i64 u4 fun i =>
    K (t_1, namex_1, arity_1) ⟨i⟩

theorem dec_ref05_Table_at_L1_ok {N : Nat} (e : Env) (a : Act) (K : ((Option Addr) × Int × Int) → S_ref05_Table_at_L1 → Prop) (hr : Rep N a e) (h0 : dec_ref05_Table_at_L1 e K) : ∃ f s, K f s ∧ Rep N a (lit_ref05_Table_at_L1 f s) := by
  unfold dec_ref05_Table_at_L1 at h0
  obtain ⟨u1, g0, h1⟩ := onV_elim h0
  obtain ⟨t_1, rfl, h2⟩ := asP_elim h1
  obtain ⟨u2, g1, h3⟩ := onV_elim h2
  obtain ⟨namex_1, rfl, h4⟩ := asI_elim h3
  obtain ⟨u3, g2, h5⟩ := onV_elim h4
  obtain ⟨arity_1, rfl, h6⟩ := asI_elim h5
  obtain ⟨u4, g7, h7⟩ := onV_elim h6
  obtain ⟨i, rfl, h8⟩ := asI_elim h7
  exact ⟨_, _, h8, rep_less hr (by simp [lit_ref05_Table_at_L1, g0, g1, g2, g7])⟩

def spec_ref05_Table_at_L1 (Q : Post) (e : Env) (w : World) : Prop :=
  dec_ref05_Table_at_L1 e fun f s => F_ref05_Table_at_L1 f.1 f.2.1 f.2.2 s w (fun w1 => Q (.exit 0) [] w1) (fun t6 w1 => Q .ret [⟨6, .int .i64 t6, none⟩] w1)

def G_ref05_Table_at : Gen where
  loop := lookL [([false, true, false, true], spec_ref05_Table_at_L1)]
  plan := fun _ => none

def dx_ref05_Table_at_L1_0 (e : Env) (K : ((Option Addr) × Int × Int) → Prop) : Prop :=
  onV (getV e 0) fun u1 =>
  asP u1 fun t_1 =>
  onV (getV e 1) fun u2 =>
  asI .i64 u2 fun namex_1 =>
  onV (getV e 2) fun u3 =>
  asI .i64 u3 fun arity_1 =>
    K (t_1, namex_1, arity_1)

def dx_ref05_Table_at_L1_ret (e : Env) (K : ((Option Addr) × Int × Int) → Int → Prop) : Prop :=
  onV (getV e 0) fun u1 =>
  asP u1 fun t_1 =>
  onV (getV e 1) fun u2 =>
  asI .i64 u2 fun namex_1 =>
  onV (getV e 2) fun u3 =>
  asI .i64 u3 fun arity_1 =>
  onV (getV e 6) fun u4 =>
  asI .i64 u4 fun t6 =>
    K (t_1, namex_1, arity_1) t6

theorem body_ref05_Table_at_L1 (f : (Option Addr) × Int × Int) (s : S_ref05_Table_at_L1) (w : World) (Kn : ((Option Addr) × Int × Int) → S_ref05_Table_at_L1 → World → Prop) (Kx0 : ((Option Addr) × Int × Int) → World → Prop) (Kr : ((Option Addr) × Int × Int) → Int → World → Prop) :
    B_ref05_Table_at_L1 f.1 f.2.1 f.2.2 s w (fun s1 w1 => Kn f s1 w1) (fun w1 => Kx0 f w1) (fun t6 w1 => Kr f t6 w1) =
    den Try.prog Try.f50.ntmps G_ref05_Table_at (sub (codeOf Try.f50) [false, false, true, false, true]) [false, false, true, false, true] (roundQ (fun e w => dec_ref05_Table_at_L1 e fun f s => Kn f s w) (fun e w => dx_ref05_Table_at_L1_ret e fun f t6 => Kr f t6 w) (fun id e w => match Nat.beq id 0 with | true => dx_ref05_Table_at_L1_0 e fun f => Kx0 f w | false => False)) (lit_ref05_Table_at_L1 f s) w := by kernel_rfl

theorem ok_ref05_Table_at_L1 : OneOk Try.prog Try.f50.ntmps G_ref05_Table_at (codeOf Try.f50) [false, true, false, true] spec_ref05_Table_at_L1 := by
  intro c hc ih Q e w a hr h
  have hcc : sub (codeOf Try.f50) [false, false, true, false, true] = c := sub_of_codeAt hc
  obtain ⟨f, s, h, hrep⟩ := dec_ref05_Table_at_L1_ok e a _ hr h
  obtain ⟨J, μ, hj, hround⟩ := h
  refine loop_rule_deep seat_ok seat_mixed ih lit_ref05_Table_at_L1 dec_ref05_Table_at_L1 dec_ref05_Table_at_L1_ok hc f J μ (Kr := fun e w => dx_ref05_Table_at_L1_ret e fun f1 t6 => f1 = f ∧ Q .ret [⟨6, .int .i64 t6, none⟩] w) (Kx := fun id e w => match Nat.beq id 0 with | true => (dx_ref05_Table_at_L1_0 e fun f1 => f1 = f ∧ Q (.exit 0) [] w) | false => False) ?_ ?_ ?_ s w a hj hrep
  · intro e a w hr h0
    unfold dx_ref05_Table_at_L1_ret at h0
    obtain ⟨u1, g0, h1⟩ := onV_elim h0
    obtain ⟨t_1, rfl, h2⟩ := asP_elim h1
    obtain ⟨u2, g1, h3⟩ := onV_elim h2
    obtain ⟨namex_1, rfl, h4⟩ := asI_elim h3
    obtain ⟨u3, g2, h5⟩ := onV_elim h4
    obtain ⟨arity_1, rfl, h6⟩ := asI_elim h5
    obtain ⟨u4, g6, h7⟩ := onV_elim h6
    obtain ⟨t6, rfl, h8⟩ := asI_elim h7
    obtain ⟨hf, hq⟩ := h8
    subst hf
    exact ⟨_, rep_less hr (by simp [g6]), hq⟩
  · intro id e a w hr h0
    (try dsimp only at h0)
    split at h0
    · rename_i hid
      obtain rfl := Nat.eq_of_beq_eq_true hid
      unfold dx_ref05_Table_at_L1_0 at h0
      obtain ⟨u1, g0, h1⟩ := onV_elim h0
      obtain ⟨t_1, rfl, h2⟩ := asP_elim h1
      obtain ⟨u2, g1, h3⟩ := onV_elim h2
      obtain ⟨namex_1, rfl, h4⟩ := asI_elim h3
      obtain ⟨u3, g2, h5⟩ := onV_elim h4
      obtain ⟨arity_1, rfl, h6⟩ := asI_elim h5
      obtain ⟨hf, hq⟩ := h6
      subst hf
      exact ⟨_, rep_less hr (by simp), hq⟩
    · exact h0.elim
  · intro s w hj
    have hb := hround s w hj
    rw [← hcc]
    have e1 := body_ref05_Table_at_L1 f s w (fun f1 s1 w1 => f1 = f ∧ J s1 w1 ∧ μ s1 w1 < μ s w) (fun f1 w1 => f1 = f ∧ Q (.exit 0) [] w1) (fun f1 t6 w1 => f1 = f ∧ Q .ret [⟨6, .int .i64 t6, none⟩] w1)
    simp only [true_and] at e1
    exact cast e1 hb

theorem loops_ref05_Table_at : LoopOk Try.prog Try.f50.ntmps G_ref05_Table_at (codeOf Try.f50) := loopOk_list rfl ⟨ok_ref05_Table_at_L1, trivial⟩

theorem den_ref05_Table_at (t : Option Addr) (namex : Int) (arity : Int) (w : World) (R : Value → World → Prop) :
    F_ref05_Table_at t namex arity w (fun r w1 => R (.int .i64 r) w1) = den Try.prog Try.f50.ntmps G_ref05_Table_at (codeOf Try.f50) [] (postD Try.prog Try.f50.results.toList R) (entry [.pointer t, .int .i64 namex, .int .i64 arity] 0) w := by kernel_rfl

theorem C_ref05_Table_at.of {t : Option Addr} {namex : Int} {arity : Int} {w : World} {R : Int → World → Prop} (h : F_ref05_Table_at t namex arity w R) : C_ref05_Table_at t namex arity w R := by
  refine (calls_of_den (c := codeOf Try.f50) seat_ok seat_mixed Try.func50 (by kernel_rfl) loops_ref05_Table_at (args := [.pointer t, .int .i64 namex, .int .i64 arity]) rfl (R := fun v w1 => ∃ (r : Int), v = (.int .i64 r : Value) ∧ R r w1) ?_).mono ?_
  · rw [← den_ref05_Table_at]
    have e : (fun r w1 => ∃ (r' : Int), (.int .i64 r : Value) = (.int .i64 r' : Value) ∧ R r' w1) = R := by
      funext r w1
      exact propext ⟨fun ⟨r', he, h⟩ => by simp at he; simp_all, fun h => ⟨_, rfl, h⟩⟩
    simpa only [e] using h
  · rintro en w1 ⟨v, he, r, rfl, h⟩
    exact ⟨_, he, h⟩

structure S_ref04_Table_Find_L1 where
  i : Int

def F_ref04_Table_Find_k1 (s : S_ref04_Table_Find_L1) (Kn : S_ref04_Table_Find_L1 → World → Prop) (w1 : World) : Prop :=
  Kn ⟨(IntKind.i64.wrap ((s.i : Int) + (1 : Int)))⟩ w1

/-- One round. -/
def B_ref04_Table_Find_L1 (t_1 : Option Addr) (namex_1 : ByteArray) (s : S_ref04_Table_Find_L1) (w : World) (Kn : S_ref04_Table_Find_L1 → World → Prop) (Kx0 : World → Prop) (Kr : Int → World → Prop) : Prop :=
  NN t_1 fun a =>
  ∃ LP : Option Addr, ∃ LN : Nat, ∃ LC : Nat, w.cell? (a.add 0) = some (.slice LP LN LC) ∧
  If (decide ((s.i : Int) < (LN : Int)))
  (NN t_1 fun a_1 =>
  ∃ LP_1 : Option Addr, ∃ LN_1 : Nat, ∃ LC_1 : Nat, w.cell? (a_1.add 0) = some (.slice LP_1 LN_1 LC_1) ∧
  0 ≤ (s.i : Int) ∧ (s.i : Int) < (LN_1 : Int) ∧ NN LP_1 fun a_2 =>
  ∃ Is : Bool, w.cell? ((a_2.add ((s.i : Int).toNat * 3)).add 1) = some (.bool Is) ∧
  If Is
  (NN t_1 fun a_3 =>
  ∃ LP_2 : Option Addr, ∃ LN_2 : Nat, ∃ LC_2 : Nat, w.cell? (a_3.add 0) = some (.slice LP_2 LN_2 LC_2) ∧
  0 ≤ (s.i : Int) ∧ (s.i : Int) < (LN_2 : Int) ∧ NN LP_2 fun a_4 =>
  ∃ Name : ByteArray, w.cell? ((a_4.add ((s.i : Int).toNat * 3)).add 0) = some (.string Name) ∧
  If (Name.toList == namex_1.toList)
  (Kr (s.i : Int) w)
  (F_ref04_Table_Find_k1 s Kn w))
  (F_ref04_Table_Find_k1 s Kn w))
  (Kx0 w)

def F_ref04_Table_Find_L1 (t_1 : Option Addr) (namex_1 : ByteArray) (s : S_ref04_Table_Find_L1) (w : World) (Kx0 : World → Prop) (Kr : Int → World → Prop) : Prop :=
  LoopS (fun s w Kn => B_ref04_Table_Find_L1 t_1 namex_1 s w Kn Kx0 Kr) s w

def F_ref04_Table_Find (t : Option Addr) (namex : ByteArray) (w : World) (R : Int → World → Prop) : Prop :=
  F_ref04_Table_Find_L1 t namex ⟨(0 : Int)⟩ w
  (fun w1_1 =>
  R (-1) w1_1)
  (fun t4_1 w1_2 =>
  R t4_1 w1_2)

def lit_ref04_Table_Find_L1 (f : (Option Addr) × ByteArray) (s : S_ref04_Table_Find_L1) : Env := [⟨0, .pointer f.1, none⟩, ⟨1, .string f.2, none⟩, ⟨5, .int .i64 s.i, none⟩]

def dec_ref04_Table_Find_L1 (e : Env) (K : ((Option Addr) × ByteArray) → S_ref04_Table_Find_L1 → Prop) : Prop :=
  onV (getV e 0) fun u1 =>
  asP u1 fun t_1 =>
  onV (getV e 1) fun u2 =>
  asT u2 fun namex_1 =>
  onV (getV e 5) fun u3 =>
  asI .i64 u3 fun i =>
    K (t_1, namex_1) ⟨i⟩

theorem dec_ref04_Table_Find_L1_ok {N : Nat} (e : Env) (a : Act) (K : ((Option Addr) × ByteArray) → S_ref04_Table_Find_L1 → Prop) (hr : Rep N a e) (h0 : dec_ref04_Table_Find_L1 e K) : ∃ f s, K f s ∧ Rep N a (lit_ref04_Table_Find_L1 f s) := by
  unfold dec_ref04_Table_Find_L1 at h0
  obtain ⟨u1, g0, h1⟩ := onV_elim h0
  obtain ⟨t_1, rfl, h2⟩ := asP_elim h1
  obtain ⟨u2, g1, h3⟩ := onV_elim h2
  obtain ⟨namex_1, rfl, h4⟩ := asT_elim h3
  obtain ⟨u3, g5, h5⟩ := onV_elim h4
  obtain ⟨i, rfl, h6⟩ := asI_elim h5
  exact ⟨_, _, h6, rep_less hr (by simp [lit_ref04_Table_Find_L1, g0, g1, g5])⟩

def spec_ref04_Table_Find_L1 (Q : Post) (e : Env) (w : World) : Prop :=
  dec_ref04_Table_Find_L1 e fun f s => F_ref04_Table_Find_L1 f.1 f.2 s w (fun w1 => Q (.exit 0) [] w1) (fun t4 w1 => Q .ret [⟨4, .int .i64 t4, none⟩] w1)

def G_ref04_Table_Find : Gen where
  loop := lookL [([false, true, false, true], spec_ref04_Table_Find_L1)]
  plan := fun _ => none

def dx_ref04_Table_Find_L1_0 (e : Env) (K : ((Option Addr) × ByteArray) → Prop) : Prop :=
  onV (getV e 0) fun u1 =>
  asP u1 fun t_1 =>
  onV (getV e 1) fun u2 =>
  asT u2 fun namex_1 =>
    K (t_1, namex_1)

def dx_ref04_Table_Find_L1_ret (e : Env) (K : ((Option Addr) × ByteArray) → Int → Prop) : Prop :=
  onV (getV e 0) fun u1 =>
  asP u1 fun t_1 =>
  onV (getV e 1) fun u2 =>
  asT u2 fun namex_1 =>
  onV (getV e 4) fun u3 =>
  asI .i64 u3 fun t4 =>
    K (t_1, namex_1) t4

theorem body_ref04_Table_Find_L1 (f : (Option Addr) × ByteArray) (s : S_ref04_Table_Find_L1) (w : World) (Kn : ((Option Addr) × ByteArray) → S_ref04_Table_Find_L1 → World → Prop) (Kx0 : ((Option Addr) × ByteArray) → World → Prop) (Kr : ((Option Addr) × ByteArray) → Int → World → Prop) :
    B_ref04_Table_Find_L1 f.1 f.2 s w (fun s1 w1 => Kn f s1 w1) (fun w1 => Kx0 f w1) (fun t4 w1 => Kr f t4 w1) =
    den Try.prog Try.f51.ntmps G_ref04_Table_Find (sub (codeOf Try.f51) [false, false, true, false, true]) [false, false, true, false, true] (roundQ (fun e w => dec_ref04_Table_Find_L1 e fun f s => Kn f s w) (fun e w => dx_ref04_Table_Find_L1_ret e fun f t4 => Kr f t4 w) (fun id e w => match Nat.beq id 0 with | true => dx_ref04_Table_Find_L1_0 e fun f => Kx0 f w | false => False)) (lit_ref04_Table_Find_L1 f s) w := by kernel_rfl

theorem ok_ref04_Table_Find_L1 : OneOk Try.prog Try.f51.ntmps G_ref04_Table_Find (codeOf Try.f51) [false, true, false, true] spec_ref04_Table_Find_L1 := by
  intro c hc ih Q e w a hr h
  have hcc : sub (codeOf Try.f51) [false, false, true, false, true] = c := sub_of_codeAt hc
  obtain ⟨f, s, h, hrep⟩ := dec_ref04_Table_Find_L1_ok e a _ hr h
  obtain ⟨J, μ, hj, hround⟩ := h
  refine loop_rule_deep seat_ok seat_mixed ih lit_ref04_Table_Find_L1 dec_ref04_Table_Find_L1 dec_ref04_Table_Find_L1_ok hc f J μ (Kr := fun e w => dx_ref04_Table_Find_L1_ret e fun f1 t4 => f1 = f ∧ Q .ret [⟨4, .int .i64 t4, none⟩] w) (Kx := fun id e w => match Nat.beq id 0 with | true => (dx_ref04_Table_Find_L1_0 e fun f1 => f1 = f ∧ Q (.exit 0) [] w) | false => False) ?_ ?_ ?_ s w a hj hrep
  · intro e a w hr h0
    unfold dx_ref04_Table_Find_L1_ret at h0
    obtain ⟨u1, g0, h1⟩ := onV_elim h0
    obtain ⟨t_1, rfl, h2⟩ := asP_elim h1
    obtain ⟨u2, g1, h3⟩ := onV_elim h2
    obtain ⟨namex_1, rfl, h4⟩ := asT_elim h3
    obtain ⟨u3, g4, h5⟩ := onV_elim h4
    obtain ⟨t4, rfl, h6⟩ := asI_elim h5
    obtain ⟨hf, hq⟩ := h6
    subst hf
    exact ⟨_, rep_less hr (by simp [g4]), hq⟩
  · intro id e a w hr h0
    (try dsimp only at h0)
    split at h0
    · rename_i hid
      obtain rfl := Nat.eq_of_beq_eq_true hid
      unfold dx_ref04_Table_Find_L1_0 at h0
      obtain ⟨u1, g0, h1⟩ := onV_elim h0
      obtain ⟨t_1, rfl, h2⟩ := asP_elim h1
      obtain ⟨u2, g1, h3⟩ := onV_elim h2
      obtain ⟨namex_1, rfl, h4⟩ := asT_elim h3
      obtain ⟨hf, hq⟩ := h4
      subst hf
      exact ⟨_, rep_less hr (by simp), hq⟩
    · exact h0.elim
  · intro s w hj
    have hb := hround s w hj
    rw [← hcc]
    have e1 := body_ref04_Table_Find_L1 f s w (fun f1 s1 w1 => f1 = f ∧ J s1 w1 ∧ μ s1 w1 < μ s w) (fun f1 w1 => f1 = f ∧ Q (.exit 0) [] w1) (fun f1 t4 w1 => f1 = f ∧ Q .ret [⟨4, .int .i64 t4, none⟩] w1)
    simp only [true_and] at e1
    exact cast e1 hb

theorem loops_ref04_Table_Find : LoopOk Try.prog Try.f51.ntmps G_ref04_Table_Find (codeOf Try.f51) := loopOk_list rfl ⟨ok_ref04_Table_Find_L1, trivial⟩

theorem den_ref04_Table_Find (t : Option Addr) (namex : ByteArray) (w : World) (R : Value → World → Prop) :
    F_ref04_Table_Find t namex w (fun r w1 => R (.int .i64 r) w1) = den Try.prog Try.f51.ntmps G_ref04_Table_Find (codeOf Try.f51) [] (postD Try.prog Try.f51.results.toList R) (entry [.pointer t, .string namex] 0) w := by kernel_rfl

theorem C_ref04_Table_Find.of {t : Option Addr} {namex : ByteArray} {w : World} {R : Int → World → Prop} (h : F_ref04_Table_Find t namex w R) : C_ref04_Table_Find t namex w R := by
  refine (calls_of_den (c := codeOf Try.f51) seat_ok seat_mixed Try.func51 (by kernel_rfl) loops_ref04_Table_Find (args := [.pointer t, .string namex]) rfl (R := fun v w1 => ∃ (r : Int), v = (.int .i64 r : Value) ∧ R r w1) ?_).mono ?_
  · rw [← den_ref04_Table_Find]
    have e : (fun r w1 => ∃ (r' : Int), (.int .i64 r : Value) = (.int .i64 r' : Value) ∧ R r' w1) = R := by
      funext r w1
      exact propext ⟨fun ⟨r', he, h⟩ => by simp at he; simp_all, fun h => ⟨_, rfl, h⟩⟩
    simpa only [e] using h
  · rintro en w1 ⟨v, he, r, rfl, h⟩
    exact ⟨_, he, h⟩

def F_ref04_Table_Is_k1 (R : Bool → World → Prop) (w1 : World) : Prop :=
  R false w1

def F_ref04_Table_Is (t : Option Addr) (idx : Int) (w : World) (R : Bool → World → Prop) : Prop :=
  If (decide (idx ≥ (0 : Int)))
  (NN t fun a =>
  ∃ LP : Option Addr, ∃ LN : Nat, ∃ LC : Nat, w.cell? (a.add 0) = some (.slice LP LN LC) ∧
  If (decide (idx < (LN : Int)))
  (NN t fun a_1 =>
  ∃ LP_1 : Option Addr, ∃ LN_1 : Nat, ∃ LC_1 : Nat, w.cell? (a_1.add 0) = some (.slice LP_1 LN_1 LC_1) ∧
  0 ≤ idx ∧ idx < (LN_1 : Int) ∧ NN LP_1 fun a_2 =>
  ∃ Is : Bool, w.cell? ((a_2.add (idx.toNat * 3)).add 1) = some (.bool Is) ∧
  R Is w)
  (F_ref04_Table_Is_k1 R w))
  (F_ref04_Table_Is_k1 R w)

def G_ref04_Table_Is : Gen where
  loop := lookL []
  plan := fun _ => none

theorem loops_ref04_Table_Is : LoopOk Try.prog Try.f52.ntmps G_ref04_Table_Is (codeOf Try.f52) := loopOk_none fun _ => rfl

theorem den_ref04_Table_Is (t : Option Addr) (idx : Int) (w : World) (R : Value → World → Prop) :
    F_ref04_Table_Is t idx w (fun r w1 => R (.bool r) w1) = den Try.prog Try.f52.ntmps G_ref04_Table_Is (codeOf Try.f52) [] (postD Try.prog Try.f52.results.toList R) (entry [.pointer t, .int .i64 idx] 0) w := by kernel_rfl

theorem C_ref04_Table_Is.of {t : Option Addr} {idx : Int} {w : World} {R : Bool → World → Prop} (h : F_ref04_Table_Is t idx w R) : C_ref04_Table_Is t idx w R := by
  refine (calls_of_den (c := codeOf Try.f52) seat_ok seat_mixed Try.func52 (by kernel_rfl) loops_ref04_Table_Is (args := [.pointer t, .int .i64 idx]) rfl (R := fun v w1 => ∃ (r : Bool), v = (.bool r : Value) ∧ R r w1) ?_).mono ?_
  · rw [← den_ref04_Table_Is]
    have e : (fun r w1 => ∃ (r' : Bool), (.bool r : Value) = (.bool r' : Value) ∧ R r' w1) = R := by
      funext r w1
      exact propext ⟨fun ⟨r', he, h⟩ => by simp at he; simp_all, fun h => ⟨_, rfl, h⟩⟩
    simpa only [e] using h
  · rintro en w1 ⟨v, he, r, rfl, h⟩
    exact ⟨_, he, h⟩

def F_atom_Table_has_k1 (R : Bool → World → Prop) (w1_1 : World) : Prop :=
  R false w1_1

def F_atom_Table_has (t : Option Addr) (idx : Int) (w : World) (R : Bool → World → Prop) : Prop :=
  C_atom_Table_ready t w fun t6 w1 =>
  If t6
  (If (decide (idx ≥ (0 : Int)))
  (NN t fun a =>
  ∃ lP : Option Addr, ∃ lN : Nat, ∃ lC : Nat, w1.cell? (a.add 5) = some (.slice lP lN lC) ∧
  If (decide (idx < (lN : Int)))
  (NN t fun a_1 =>
  ∃ lP_1 : Option Addr, ∃ lN_1 : Nat, ∃ lC_1 : Nat, w1.cell? (a_1.add 5) = some (.slice lP_1 lN_1 lC_1) ∧
  0 ≤ idx ∧ idx < (lN_1 : Int) ∧ NN lP_1 fun a_2 =>
  ∃ isx : Bool, w1.cell? ((a_2.add (idx.toNat * 3)).add 1) = some (.bool isx) ∧
  R isx w1)
  (F_atom_Table_has_k1 R w1))
  (F_atom_Table_has_k1 R w1))
  (F_atom_Table_has_k1 R w1)

def G_atom_Table_has : Gen where
  loop := lookL []
  plan := fun _ => none

theorem loops_atom_Table_has : LoopOk Try.prog Try.f54.ntmps G_atom_Table_has (codeOf Try.f54) := loopOk_none fun _ => rfl

theorem den_atom_Table_has (t : Option Addr) (idx : Int) (w : World) (R : Value → World → Prop) :
    F_atom_Table_has t idx w (fun r w1 => R (.bool r) w1) = den Try.prog Try.f54.ntmps G_atom_Table_has (codeOf Try.f54) [] (postD Try.prog Try.f54.results.toList R) (entry [.pointer t, .int .i64 idx] 0) w := by kernel_rfl

theorem C_atom_Table_has.of {t : Option Addr} {idx : Int} {w : World} {R : Bool → World → Prop} (h : F_atom_Table_has t idx w R) : C_atom_Table_has t idx w R := by
  refine (calls_of_den (c := codeOf Try.f54) seat_ok seat_mixed Try.func54 (by kernel_rfl) loops_atom_Table_has (args := [.pointer t, .int .i64 idx]) rfl (R := fun v w1 => ∃ (r : Bool), v = (.bool r : Value) ∧ R r w1) ?_).mono ?_
  · rw [← den_atom_Table_has]
    have e : (fun r w1 => ∃ (r' : Bool), (.bool r : Value) = (.bool r' : Value) ∧ R r' w1) = R := by
      funext r w1
      exact propext ⟨fun ⟨r', he, h⟩ => by simp at he; simp_all, fun h => ⟨_, rfl, h⟩⟩
    simpa only [e] using h
  · rintro en w1 ⟨v, he, r, rfl, h⟩
    exact ⟨_, he, h⟩

def F_cmp_Less_k1 (x : Int) (y : Int) (R : Bool → World → Prop) (w1_2 : World) : Prop :=
  R (decide (x < y)) w1_2

def F_cmp_Less (x : Int) (y : Int) (w : World) (R : Bool → World → Prop) : Prop :=
  C_cmp_isNaN x w fun t6 w1 =>
  If t6
  (C_cmp_isNaN y w1 fun t9 w1_1 =>
  If (!t9)
  (R true w1_1)
  (F_cmp_Less_k1 x y R w1_1))
  (F_cmp_Less_k1 x y R w1)

def G_cmp_Less : Gen where
  loop := lookL []
  plan := fun _ => none

theorem loops_cmp_Less : LoopOk Try.prog Try.f61.ntmps G_cmp_Less (codeOf Try.f61) := loopOk_none fun _ => rfl

theorem den_cmp_Less (x : Int) (y : Int) (w : World) (R : Value → World → Prop) :
    F_cmp_Less x y w (fun r w1 => R (.bool r) w1) = den Try.prog Try.f61.ntmps G_cmp_Less (codeOf Try.f61) [] (postD Try.prog Try.f61.results.toList R) (entry [.int .i64 x, .int .i64 y] 0) w := by kernel_rfl

theorem C_cmp_Less.of {x : Int} {y : Int} {w : World} {R : Bool → World → Prop} (h : F_cmp_Less x y w R) : C_cmp_Less x y w R := by
  refine (calls_of_den (c := codeOf Try.f61) seat_ok seat_mixed Try.func61 (by kernel_rfl) loops_cmp_Less (args := [.int .i64 x, .int .i64 y]) rfl (R := fun v w1 => ∃ (r : Bool), v = (.bool r : Value) ∧ R r w1) ?_).mono ?_
  · rw [← den_cmp_Less]
    have e : (fun r w1 => ∃ (r' : Bool), (.bool r : Value) = (.bool r' : Value) ∧ R r' w1) = R := by
      funext r w1
      exact propext ⟨fun ⟨r', he, h⟩ => by simp at he; simp_all, fun h => ⟨_, rfl, h⟩⟩
    simpa only [e] using h
  · rintro en w1 ⟨v, he, r, rfl, h⟩
    exact ⟨_, he, h⟩

end Go.Proofs.Ytlngmelfjiemlaa
