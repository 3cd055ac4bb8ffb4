import Derived.Test.YtdaenijbokialaaGreatGenC
set_option maxRecDepth 100000
set_option linter.unusedVariables false
namespace Go.Proofs.YtdaenijbokialaaGreat
open Go Go.D Go.Proofs
structure S_law20_large_L1 where
  n : Int
  i : Int
def B_law20_large_L1 (lP_1 : Option Addr) (lN_1 : Nat) (lC_1 : Nat) (s : S_law20_large_L1) (w : World) (Kn : S_law20_large_L1 → World → Prop) (Kx0 : Int → World → Prop) : Prop :=
  If (decide (s.i < (lN_1 : Int)))
  (0 ≤ s.i ∧ s.i < (lN_1 : Int) ∧ NN lP_1 fun a =>
  ∃ t220, w.cell? ((a.add (s.i.toNat * 4)).add 0) = some (.int .i64 t220) ∧
  ∃ t221, w.cell? ((a.add (s.i.toNat * 4)).add 1) = some (.int .i64 t221) ∧
  ∃ t222, w.cell? ((a.add (s.i.toNat * 4)).add 2) = some (.string t222) ∧
  ∃ t223P t223N t223C, w.cell? ((a.add (s.i.toNat * 4)).add 3) = some (.slice t223P t223N t223C) ∧
  C_ref06_Size t220 t221 t222 t223P t223N t223C w fun t23 w1_1 =>
  Kn ⟨(IntKind.i64.wrap (s.n + t23)), (IntKind.i64.wrap (s.i + (1 : Int)))⟩ w1_1)
  (Kx0 s.n w)
def F_law20_large_L1 (lP_1 : Option Addr) (lN_1 : Nat) (lC_1 : Nat) (s : S_law20_large_L1) (w : World) (Kx0 : Int → World → Prop) : Prop :=
  LoopS (fun s w Kn => B_law20_large_L1 lP_1 lN_1 lC_1 s w Kn Kx0) s w
def F_law20_large (lP : Option Addr) (lN : Nat) (lC : Nat) (w : World) (R : Bool → World → Prop) : Prop :=
  If (decide ((lN : Int) > (20 : Int)))
  (R true w)
  (C_ref07_Large lP lN lC w fun t10 w1 =>
  If t10
  (R true w1)
  (F_law20_large_L1 lP lN lC ⟨(0 : Int), (0 : Int)⟩ w1
  (fun n_2 w1_2 =>
  R (decide (n_2 > (8000 : Int))) w1_2)))
def lit_law20_large_L1 (f : (Option Addr) × Nat × Nat) (s : S_law20_large_L1) : Env := [⟨0, .slice f.1 f.2.1 f.2.2, none⟩, ⟨3, .int .i64 s.n, none⟩, ⟨4, .int .i64 s.i, none⟩]
def dec_law20_large_L1 (e : Env) (K : ((Option Addr) × Nat × Nat) → S_law20_large_L1 → Prop) : Prop :=
  oS e 0 fun lP_1 lN_1 lC_1 =>
  oI e 3 .i64 fun n =>
  oI e 4 .i64 fun i =>
    K (lP_1, lN_1, lC_1) ⟨n, i⟩
theorem dec_law20_large_L1_ok {N : Nat} (e : Env) (a : Act) (K : ((Option Addr) × Nat × Nat) → S_law20_large_L1 → Prop) (hr : Rep N a e) (h0 : dec_law20_large_L1 e K) : ∃ f s, K f s ∧ Rep N a (lit_law20_large_L1 f s) := by
  unfold dec_law20_large_L1 at h0
  obtain ⟨lP_1, lN_1, lC_1, g0, h1⟩ := oS_elim h0
  obtain ⟨n, g3, h2⟩ := oI_elim h1
  obtain ⟨i, g4, h3⟩ := oI_elim h2
  exact ⟨_, _, h3, rep_less hr (by simp [lit_law20_large_L1, g0, g3, g4])⟩
def spec_law20_large_L1 (Q : Post) (e : Env) (w : World) : Prop :=
  dec_law20_large_L1 e fun f s => F_law20_large_L1 f.1 f.2.1 f.2.2 s w (fun n_1 w1 => Q (.exit 0) [⟨3, .int .i64 n_1, none⟩] w1)
def G_law20_large : Gen where
  loop := lookL [([false, true, false, true, true, true], spec_law20_large_L1)]
  plan := fun _ => none
def dx_law20_large_L1_0 (e : Env) (K : ((Option Addr) × Nat × Nat) → Int → Prop) : Prop :=
  oS e 0 fun lP_1 lN_1 lC_1 =>
  oI e 3 .i64 fun n_1 =>
    K (lP_1, lN_1, lC_1) n_1
theorem body_law20_large_L1 (f : (Option Addr) × Nat × Nat) (s : S_law20_large_L1) (w : World) (Kn : ((Option Addr) × Nat × Nat) → S_law20_large_L1 → World → Prop) (Kx0 : ((Option Addr) × Nat × Nat) → Int → World → Prop) :
    B_law20_large_L1 f.1 f.2.1 f.2.2 s w (fun s1 w1 => Kn f s1 w1) (fun n_1 w1 => Kx0 f n_1 w1) =
    den Tryz.prog Tryz.f12.ntmps G_law20_large (sub (codeOf Tryz.f12) [false, false, true, false, true, true, true]) [false, false, true, false, true, true, true] (roundQ (fun e w => dec_law20_large_L1 e fun f s => Kn f s w) (fun e w => False) (fun id e w => match Nat.beq id 0 with | true => dx_law20_large_L1_0 e fun f n_1 => Kx0 f n_1 w | false => False)) (lit_law20_large_L1 f s) w := by kernel_rfl
theorem ok_law20_large_L1 : OneOk Tryz.prog Tryz.f12.ntmps G_law20_large (codeOf Tryz.f12) [false, true, false, true, true, true] spec_law20_large_L1 := by
  intro c hc ih Q e w a hr h
  have hcc : sub (codeOf Tryz.f12) [false, false, true, false, true, true, true] = c := sub_of_codeAt hc
  obtain ⟨f, s, h, hrep⟩ := dec_law20_large_L1_ok e a _ hr h
  obtain ⟨J, μ, hj, hround⟩ := h
  refine loop_rule_deep seat_ok seat_mixed ih lit_law20_large_L1 dec_law20_large_L1 dec_law20_large_L1_ok hc f J μ (Kr := fun e w => False) (Kx := fun id e w => match Nat.beq id 0 with | true => (dx_law20_large_L1_0 e fun f1 n_1 => f1 = f ∧ Q (.exit 0) [⟨3, .int .i64 n_1, none⟩] w) | false => False) ?_ ?_ ?_ s w a hj hrep
  · intro e a w hr h
    exact h.elim
  · intro id e a w hr h0
    (try dsimp only at h0)
    split at h0
    · rename_i hid
      obtain rfl := Nat.eq_of_beq_eq_true hid
      unfold dx_law20_large_L1_0 at h0
      obtain ⟨lP_1, lN_1, lC_1, g0, h1⟩ := oS_elim h0
      obtain ⟨n_1, g3, h2⟩ := oI_elim h1
      obtain ⟨hf, hq⟩ := h2
      subst hf
      exact ⟨_, rep_less hr (by simp [g3]), hq⟩
    · exact h0.elim
  · intro s w hj
    have hb := hround s w hj
    rw [← hcc]
    have e1 := body_law20_large_L1 f s w (fun f1 s1 w1 => f1 = f ∧ J s1 w1 ∧ μ s1 w1 < μ s w) (fun f1 n_1 w1 => f1 = f ∧ Q (.exit 0) [⟨3, .int .i64 n_1, none⟩] w1)
    simp only [true_and] at e1
    exact cast e1 hb
theorem loops_law20_large : LoopOk Tryz.prog Tryz.f12.ntmps G_law20_large (codeOf Tryz.f12) := loopOk_list rfl ⟨ok_law20_large_L1, trivial⟩
theorem C_law20_large.of {lP : Option Addr} {lN : Nat} {lC : Nat} {w : World} {R : Bool → World → Prop} (h : F_law20_large lP lN lC w R) : C_law20_large lP lN lC w R := ofS2 (Fm := F_law20_large lP lN lC w) Tryz.func12 (by kernel_rfl) loops_law20_large rfl (fun _ => by kernel_rfl) h
end Go.Proofs.YtdaenijbokialaaGreat
