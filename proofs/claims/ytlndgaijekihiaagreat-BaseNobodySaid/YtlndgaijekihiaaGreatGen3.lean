/- The formulas of this seat's functions, held against the loaded program by the kernel. Printed by a program. -/
import Derived.Test.YtlndgaijekihiaaGreatGenC
set_option maxRecDepth 100000
set_option linter.unusedVariables false
namespace Go.Proofs.YtlndgaijekihiaaGreat
open Go Go.D Go.Proofs

structure S_base_Base_live_L1 where
  n : Int
  t12 : Int

def F_base_Base_live_k1 (s : S_base_Base_live_L1) (Kn : S_base_Base_live_L1 → World → Prop) (n_2 : Int) (w1_2 : World) : Prop :=
  Kn ⟨n_2, (IntKind.i64.wrap ((s.t12 : Int) + (1 : Int)))⟩ w1_2

/-- One round. -/
def B_base_Base_live_L1 (b_1 : Option Addr) (t10P_1 : Option Addr) (t10N_1 : Nat) (t10C_1 : Nat) (t11 : Int) (s : S_base_Base_live_L1) (w : World) (Kn : S_base_Base_live_L1 → World → Prop) (Kx0 : Int → World → Prop) : Prop :=
  If (decide ((s.t12 : Int) < t11))
  (0 ≤ (s.t12 : Int) ∧ (s.t12 : Int) < (t10N_1 : Int) ∧ NN t10P_1 fun a =>
  ∃ t15 : Int, w.cell? (a.add ((s.t12 : Int).toNat * 1)) = some (.int .i64 t15) ∧
  NN b_1 fun a_1 =>
  ∃ generation : Int, w.cell? (a_1.add 1) = some (.int .i64 generation) ∧
  C_base_Base_Lives b_1 t15 generation w fun t22 w1_1 =>
  If t22
  (F_base_Base_live_k1 s Kn (IntKind.i64.wrap ((s.n : Int) + (1 : Int))) w1_1)
  (F_base_Base_live_k1 s Kn (s.n : Int) w1_1))
  (Kx0 (s.n : Int) w)

def F_base_Base_live_L1 (b_1 : Option Addr) (t10P_1 : Option Addr) (t10N_1 : Nat) (t10C_1 : Nat) (t11 : Int) (s : S_base_Base_live_L1) (w : World) (Kx0 : Int → World → Prop) : Prop :=
  LoopS (fun s w Kn => B_base_Base_live_L1 b_1 t10P_1 t10N_1 t10C_1 t11 s w Kn Kx0) s w

def F_base_Base_live (b : Option Addr) (t : Option Addr) (w : World) (R : Int → World → Prop) : Prop :=
  C_index_Table_All t (0 : Int) ⟨#[]⟩ (0 : Int) w fun t10P t10N t10C w1 =>
  F_base_Base_live_L1 b t10P t10N t10C (t10N : Int) ⟨(0 : Int), (0 : Int)⟩ w1
  (fun n_3 w1_3 =>
  R n_3 w1_3)

def lit_base_Base_live_L1 (f : (Option Addr) × (Option Addr) × Nat × Nat × Int) (s : S_base_Base_live_L1) : Env := [⟨0, .pointer f.1, none⟩, ⟨10, .slice f.2.1 f.2.2.1 f.2.2.2.1, none⟩, ⟨11, .int .i64 f.2.2.2.2, none⟩, ⟨5, .int .i64 s.n, none⟩, ⟨12, .int .i64 s.t12, none⟩]

def dec_base_Base_live_L1 (e : Env) (K : ((Option Addr) × (Option Addr) × Nat × Nat × Int) → S_base_Base_live_L1 → Prop) : Prop :=
  oP e 0 fun b_1 =>
  oS e 10 fun t10P_1 t10N_1 t10C_1 =>
  oI e 11 .i64 fun t11 =>
  oI e 5 .i64 fun n =>
  oI e 12 .i64 fun t12 =>
    K (b_1, t10P_1, t10N_1, t10C_1, t11) ⟨n, t12⟩

theorem dec_base_Base_live_L1_ok {N : Nat} (e : Env) (a : Act) (K : ((Option Addr) × (Option Addr) × Nat × Nat × Int) → S_base_Base_live_L1 → Prop) (hr : Rep N a e) (h0 : dec_base_Base_live_L1 e K) : ∃ f s, K f s ∧ Rep N a (lit_base_Base_live_L1 f s) := by
  unfold dec_base_Base_live_L1 at h0
  obtain ⟨b_1, g0, h1⟩ := oP_elim h0
  obtain ⟨t10P_1, t10N_1, t10C_1, g10, h2⟩ := oS_elim h1
  obtain ⟨t11, g11, h3⟩ := oI_elim h2
  obtain ⟨n, g5, h4⟩ := oI_elim h3
  obtain ⟨t12, g12, h5⟩ := oI_elim h4
  exact ⟨_, _, h5, rep_less hr (by simp [lit_base_Base_live_L1, g0, g10, g11, g5, g12])⟩

def spec_base_Base_live_L1 (Q : Post) (e : Env) (w : World) : Prop :=
  dec_base_Base_live_L1 e fun f s => F_base_Base_live_L1 f.1 f.2.1 f.2.2.1 f.2.2.2.1 f.2.2.2.2 s w (fun n_1 w1 => Q (.exit 0) [⟨5, .int .i64 n_1, none⟩] w1)

def G_base_Base_live : Gen where
  loop := lookL [([false, true, false, true, true], spec_base_Base_live_L1)]
  plan := fun _ => none

def dx_base_Base_live_L1_0 (e : Env) (K : ((Option Addr) × (Option Addr) × Nat × Nat × Int) → Int → Prop) : Prop :=
  oP e 0 fun b_1 =>
  oS e 10 fun t10P_1 t10N_1 t10C_1 =>
  oI e 11 .i64 fun t11 =>
  oI e 5 .i64 fun n_1 =>
    K (b_1, t10P_1, t10N_1, t10C_1, t11) n_1

theorem body_base_Base_live_L1 (f : (Option Addr) × (Option Addr) × Nat × Nat × Int) (s : S_base_Base_live_L1) (w : World) (Kn : ((Option Addr) × (Option Addr) × Nat × Nat × Int) → S_base_Base_live_L1 → World → Prop) (Kx0 : ((Option Addr) × (Option Addr) × Nat × Nat × Int) → Int → World → Prop) :
    B_base_Base_live_L1 f.1 f.2.1 f.2.2.1 f.2.2.2.1 f.2.2.2.2 s w (fun s1 w1 => Kn f s1 w1) (fun n_1 w1 => Kx0 f n_1 w1) =
    den Tryz.prog Tryz.f38.ntmps G_base_Base_live (sub (codeOf Tryz.f38) [false, false, true, false, true, true]) [false, false, true, false, true, true] (roundQ (fun e w => dec_base_Base_live_L1 e fun f s => Kn f s w) (fun e w => False) (fun id e w => match Nat.beq id 0 with | true => dx_base_Base_live_L1_0 e fun f n_1 => Kx0 f n_1 w | false => False)) (lit_base_Base_live_L1 f s) w := by kernel_rfl

theorem ok_base_Base_live_L1 : OneOk Tryz.prog Tryz.f38.ntmps G_base_Base_live (codeOf Tryz.f38) [false, true, false, true, true] spec_base_Base_live_L1 := by
  intro c hc ih Q e w a hr h
  have hcc : sub (codeOf Tryz.f38) [false, false, true, false, true, true] = c := sub_of_codeAt hc
  obtain ⟨f, s, h, hrep⟩ := dec_base_Base_live_L1_ok e a _ hr h
  obtain ⟨J, μ, hj, hround⟩ := h
  refine loop_rule_deep seat_ok seat_mixed ih lit_base_Base_live_L1 dec_base_Base_live_L1 dec_base_Base_live_L1_ok hc f J μ (Kr := fun e w => False) (Kx := fun id e w => match Nat.beq id 0 with | true => (dx_base_Base_live_L1_0 e fun f1 n_1 => f1 = f ∧ Q (.exit 0) [⟨5, .int .i64 n_1, none⟩] w) | false => False) ?_ ?_ ?_ s w a hj hrep
  · intro e a w hr h
    exact h.elim
  · intro id e a w hr h0
    (try dsimp only at h0)
    split at h0
    · rename_i hid
      obtain rfl := Nat.eq_of_beq_eq_true hid
      unfold dx_base_Base_live_L1_0 at h0
      obtain ⟨b_1, g0, h1⟩ := oP_elim h0
      obtain ⟨t10P_1, t10N_1, t10C_1, g10, h2⟩ := oS_elim h1
      obtain ⟨t11, g11, h3⟩ := oI_elim h2
      obtain ⟨n_1, g5, h4⟩ := oI_elim h3
      obtain ⟨hf, hq⟩ := h4
      subst hf
      exact ⟨_, rep_less hr (by simp [g5]), hq⟩
    · exact h0.elim
  · intro s w hj
    have hb := hround s w hj
    rw [← hcc]
    have e1 := body_base_Base_live_L1 f s w (fun f1 s1 w1 => f1 = f ∧ J s1 w1 ∧ μ s1 w1 < μ s w) (fun f1 n_1 w1 => f1 = f ∧ Q (.exit 0) [⟨5, .int .i64 n_1, none⟩] w1)
    simp only [true_and] at e1
    exact cast e1 hb

theorem loops_base_Base_live : LoopOk Tryz.prog Tryz.f38.ntmps G_base_Base_live (codeOf Tryz.f38) := loopOk_list rfl ⟨ok_base_Base_live_L1, trivial⟩

theorem C_base_Base_live.of {b : Option Addr} {t : Option Addr} {w : World} {R : Int → World → Prop} (h : F_base_Base_live b t w R) : C_base_Base_live b t w R := ofS8 (Fm := F_base_Base_live b t w) Tryz.func38 (by kernel_rfl) loops_base_Base_live rfl (fun _ => by kernel_rfl) h

def F_slices_SortFunc (xP : Option Addr) (xN : Nat) (xC : Nat) (cmp : Value) (w : World) (R : World → Prop) : Prop :=
  C_math_bits_Len (IntKind.u64.wrap (xN : Int)) w fun t11 w1 =>
  C_slices_pdqsortCmpFunc xP xN xC (0 : Int) (xN : Int) t11 cmp w1 fun w1_1 =>
  R w1_1

def G_slices_SortFunc : Gen where
  loop := lookL []
  plan := fun _ => none

theorem loops_slices_SortFunc : LoopOk Tryz.prog Tryz.f39.ntmps G_slices_SortFunc (codeOf Tryz.f39) := loopOk_none fun _ => rfl

theorem C_slices_SortFunc.of {xP : Option Addr} {xN : Nat} {xC : Nat} {cmp : Value} {w : World} {R : World → Prop} (h : F_slices_SortFunc xP xN xC cmp w R) : C_slices_SortFunc xP xN xC cmp w R := ofS1 (Fm := F_slices_SortFunc xP xN xC cmp w) Tryz.func39 (by kernel_rfl) loops_slices_SortFunc rfl (fun _ => by kernel_rfl) h

def F_base_Base_Preds_1 (a0 : ByteArray) (a1 : Int) (a2 : Int) (b0 : ByteArray) (b1 : Int) (b2 : Int) (w : World) (R : Int → World → Prop) : Prop :=
  New w (.cells #[.string a0, .int .i64 a1, .int .i64 a2] 86) fun r w1 =>
  New w1 (.cells #[.string b0, .int .i64 b1, .int .i64 b2] 86) fun r_1 w1_1 =>
  ∃ Name : ByteArray, (drw w1_1).cell? ((⟨r, 0, none⟩ : Addr).add 0) = some (.string Name) ∧
  ∃ Name_1 : ByteArray, (drw w1_1).cell? ((⟨r_1, 0, none⟩ : Addr).add 0) = some (.string Name_1) ∧
  ∃ Arity : Int, (drw w1_1).cell? ((⟨r, 0, none⟩ : Addr).add 1) = some (.int .i64 Arity) ∧
  ∃ Arity_1 : Int, (drw w1_1).cell? ((⟨r_1, 0, none⟩ : Addr).add 1) = some (.int .i64 Arity_1) ∧
  C_cmp_Compare Name Name_1 (drw w1_1) fun t9 w1_2 =>
  w1_2.cell? ((⟨r_1, 0, none⟩ : Addr).add 1) = (drw w1_1).cell? ((⟨r_1, 0, none⟩ : Addr).add 1) ∧
  w1_2.cell? ((⟨r, 0, none⟩ : Addr).add 1) = (drw w1_1).cell? ((⟨r, 0, none⟩ : Addr).add 1) ∧
  C_cmp_Compare__2 Arity Arity_1 w1_2 fun t14 w1_3 =>
  BSl Tryz.prog 65 2 [(0, .int .i64 t9), (1, .int .i64 t14)] w1_3 fun t15P t15N t15C w1_4 =>
  C_cmp_Or t15P t15N t15C w1_4 fun t16 w1_5 =>
  R t16 w1_5

def G_base_Base_Preds_1 : Gen where
  loop := lookL []
  plan := fun id =>
    bif Nat.beq id 1 then some ([0, 1, 0, 4, 15, 0, 32, 0, 128, 511, 1023, 2047, 4095], .take 0 (.take 1 (.take 2 (.take 3 (.take 5 (.take 6 (.take 7 (.take 8 (.take 4 (.take 9 (.take 10 (.take 11 (.take 12 .done))))))))))))) else none

theorem loops_base_Base_Preds_1 : LoopOk Tryz.prog Tryz.f40.ntmps G_base_Base_Preds_1 (codeOf Tryz.f40) := loopOk_none fun _ => rfl

theorem C_base_Base_Preds_1.of {a0 : ByteArray} {a1 : Int} {a2 : Int} {b0 : ByteArray} {b1 : Int} {b2 : Int} {w : World} {R : Int → World → Prop} (h : F_base_Base_Preds_1 a0 a1 a2 b0 b1 b2 w R) : C_base_Base_Preds_1 a0 a1 a2 b0 b1 b2 w R := ofS8 (Fm := F_base_Base_Preds_1 a0 a1 a2 b0 b1 b2 w) Tryz.func40 (by kernel_rfl) loops_base_Base_Preds_1 rfl (fun _ => by kernel_rfl) h

structure S_cmp_Or_L1 where
  t8 : Int

/-- One round. -/
def B_cmp_Or_L1 (zero : Int) (t6P : Option Addr) (t6N : Nat) (t6C : Nat) (t7 : Int) (s : S_cmp_Or_L1) (w : World) (Kn : S_cmp_Or_L1 → World → Prop) (Kx0 : World → Prop) (Kr : Int → World → Prop) : Prop :=
  If (decide ((s.t8 : Int) < t7))
  (0 ≤ (s.t8 : Int) ∧ (s.t8 : Int) < (t6N : Int) ∧ NN t6P fun a =>
  ∃ t11 : Int, w.cell? (a.add ((s.t8 : Int).toNat * 1)) = some (.int .i64 t11) ∧
  If (t11 != zero)
  (Kr t11 w)
  (Kn ⟨(IntKind.i64.wrap ((s.t8 : Int) + (1 : Int)))⟩ w))
  (Kx0 w)

def F_cmp_Or_L1 (zero : Int) (t6P : Option Addr) (t6N : Nat) (t6C : Nat) (t7 : Int) (s : S_cmp_Or_L1) (w : World) (Kx0 : World → Prop) (Kr : Int → World → Prop) : Prop :=
  LoopS (fun s w Kn => B_cmp_Or_L1 zero t6P t6N t6C t7 s w Kn Kx0 Kr) s w

def F_cmp_Or (valsP : Option Addr) (valsN : Nat) (valsC : Nat) (w : World) (R : Int → World → Prop) : Prop :=
  F_cmp_Or_L1 (0 : Int) valsP valsN valsC (valsN : Int) ⟨(0 : Int)⟩ w
  (fun w1 =>
  R (0 : Int) w1)
  (fun t2_1 w1_1 =>
  R t2_1 w1_1)

def lit_cmp_Or_L1 (f : Int × (Option Addr) × Nat × Nat × Int) (s : S_cmp_Or_L1) : Env := [⟨3, .int .i64 f.1, none⟩, ⟨6, .slice f.2.1 f.2.2.1 f.2.2.2.1, none⟩, ⟨7, .int .i64 f.2.2.2.2, none⟩, ⟨8, .int .i64 s.t8, none⟩]

def dec_cmp_Or_L1 (e : Env) (K : (Int × (Option Addr) × Nat × Nat × Int) → S_cmp_Or_L1 → Prop) : Prop :=
  oI e 3 .i64 fun zero =>
  oS e 6 fun t6P t6N t6C =>
  oI e 7 .i64 fun t7 =>
  oI e 8 .i64 fun t8 =>
    K (zero, t6P, t6N, t6C, t7) ⟨t8⟩

theorem dec_cmp_Or_L1_ok {N : Nat} (e : Env) (a : Act) (K : (Int × (Option Addr) × Nat × Nat × Int) → S_cmp_Or_L1 → Prop) (hr : Rep N a e) (h0 : dec_cmp_Or_L1 e K) : ∃ f s, K f s ∧ Rep N a (lit_cmp_Or_L1 f s) := by
  unfold dec_cmp_Or_L1 at h0
  obtain ⟨zero, g3, h1⟩ := oI_elim h0
  obtain ⟨t6P, t6N, t6C, g6, h2⟩ := oS_elim h1
  obtain ⟨t7, g7, h3⟩ := oI_elim h2
  obtain ⟨t8, g8, h4⟩ := oI_elim h3
  exact ⟨_, _, h4, rep_less hr (by simp [lit_cmp_Or_L1, g3, g6, g7, g8])⟩

def spec_cmp_Or_L1 (Q : Post) (e : Env) (w : World) : Prop :=
  dec_cmp_Or_L1 e fun f s => F_cmp_Or_L1 f.1 f.2.1 f.2.2.1 f.2.2.2.1 f.2.2.2.2 s w (fun w1 => Q (.exit 0) [⟨3, .int .i64 f.1, none⟩] w1) (fun t2 w1 => Q .ret [⟨2, .int .i64 t2, none⟩] w1)

def G_cmp_Or : Gen where
  loop := lookL [([false, true, false, true, true], spec_cmp_Or_L1)]
  plan := fun _ => none

def dx_cmp_Or_L1_0 (e : Env) (K : (Int × (Option Addr) × Nat × Nat × Int) → Prop) : Prop :=
  oI e 3 .i64 fun zero =>
  oS e 6 fun t6P t6N t6C =>
  oI e 7 .i64 fun t7 =>
    K (zero, t6P, t6N, t6C, t7)

def dx_cmp_Or_L1_ret (e : Env) (K : (Int × (Option Addr) × Nat × Nat × Int) → Int → Prop) : Prop :=
  oI e 3 .i64 fun zero =>
  oS e 6 fun t6P t6N t6C =>
  oI e 7 .i64 fun t7 =>
  oI e 2 .i64 fun t2 =>
    K (zero, t6P, t6N, t6C, t7) t2

theorem body_cmp_Or_L1 (f : Int × (Option Addr) × Nat × Nat × Int) (s : S_cmp_Or_L1) (w : World) (Kn : (Int × (Option Addr) × Nat × Nat × Int) → S_cmp_Or_L1 → World → Prop) (Kx0 : (Int × (Option Addr) × Nat × Nat × Int) → World → Prop) (Kr : (Int × (Option Addr) × Nat × Nat × Int) → Int → World → Prop) :
    B_cmp_Or_L1 f.1 f.2.1 f.2.2.1 f.2.2.2.1 f.2.2.2.2 s w (fun s1 w1 => Kn f s1 w1) (fun w1 => Kx0 f w1) (fun t2 w1 => Kr f t2 w1) =
    den Tryz.prog Tryz.f41.ntmps G_cmp_Or (sub (codeOf Tryz.f41) [false, false, true, false, true, true]) [false, false, true, false, true, true] (roundQ (fun e w => dec_cmp_Or_L1 e fun f s => Kn f s w) (fun e w => dx_cmp_Or_L1_ret e fun f t2 => Kr f t2 w) (fun id e w => match Nat.beq id 0 with | true => dx_cmp_Or_L1_0 e fun f => Kx0 f w | false => False)) (lit_cmp_Or_L1 f s) w := by kernel_rfl

theorem ok_cmp_Or_L1 : OneOk Tryz.prog Tryz.f41.ntmps G_cmp_Or (codeOf Tryz.f41) [false, true, false, true, true] spec_cmp_Or_L1 := by
  intro c hc ih Q e w a hr h
  have hcc : sub (codeOf Tryz.f41) [false, false, true, false, true, true] = c := sub_of_codeAt hc
  obtain ⟨f, s, h, hrep⟩ := dec_cmp_Or_L1_ok e a _ hr h
  obtain ⟨J, μ, hj, hround⟩ := h
  refine loop_rule_deep seat_ok seat_mixed ih lit_cmp_Or_L1 dec_cmp_Or_L1 dec_cmp_Or_L1_ok hc f J μ (Kr := fun e w => dx_cmp_Or_L1_ret e fun f1 t2 => f1 = f ∧ Q .ret [⟨2, .int .i64 t2, none⟩] w) (Kx := fun id e w => match Nat.beq id 0 with | true => (dx_cmp_Or_L1_0 e fun f1 => f1 = f ∧ Q (.exit 0) [⟨3, .int .i64 f.1, none⟩] w) | false => False) ?_ ?_ ?_ s w a hj hrep
  · intro e a w hr h0
    unfold dx_cmp_Or_L1_ret at h0
    obtain ⟨zero, g3, h1⟩ := oI_elim h0
    obtain ⟨t6P, t6N, t6C, g6, h2⟩ := oS_elim h1
    obtain ⟨t7, g7, h3⟩ := oI_elim h2
    obtain ⟨t2, g2, h4⟩ := oI_elim h3
    obtain ⟨hf, hq⟩ := h4
    subst hf
    exact ⟨_, rep_less hr (by simp [g2]), hq⟩
  · intro id e a w hr h0
    (try dsimp only at h0)
    split at h0
    · rename_i hid
      obtain rfl := Nat.eq_of_beq_eq_true hid
      unfold dx_cmp_Or_L1_0 at h0
      obtain ⟨zero, g3, h1⟩ := oI_elim h0
      obtain ⟨t6P, t6N, t6C, g6, h2⟩ := oS_elim h1
      obtain ⟨t7, g7, h3⟩ := oI_elim h2
      obtain ⟨hf, hq⟩ := h3
      subst hf
      exact ⟨_, rep_less hr (by simp [g3]), hq⟩
    · exact h0.elim
  · intro s w hj
    have hb := hround s w hj
    rw [← hcc]
    have e1 := body_cmp_Or_L1 f s w (fun f1 s1 w1 => f1 = f ∧ J s1 w1 ∧ μ s1 w1 < μ s w) (fun f1 w1 => f1 = f ∧ Q (.exit 0) [⟨3, .int .i64 f.1, none⟩] w1) (fun f1 t2 w1 => f1 = f ∧ Q .ret [⟨2, .int .i64 t2, none⟩] w1)
    simp only [true_and] at e1
    exact cast e1 hb

theorem loops_cmp_Or : LoopOk Tryz.prog Tryz.f41.ntmps G_cmp_Or (codeOf Tryz.f41) := loopOk_list rfl ⟨ok_cmp_Or_L1, trivial⟩

theorem C_cmp_Or.of {valsP : Option Addr} {valsN : Nat} {valsC : Nat} {w : World} {R : Int → World → Prop} (h : F_cmp_Or valsP valsN valsC w R) : C_cmp_Or valsP valsN valsC w R := ofS8 (Fm := F_cmp_Or valsP valsN valsC w) Tryz.func41 (by kernel_rfl) loops_cmp_Or rfl (fun _ => by kernel_rfl) h

def F_cmp_Compare (x : ByteArray) (y : ByteArray) (w : World) (R : Int → World → Prop) : Prop :=
  C_cmp_isNaN x w fun t8 w1 =>
  C_cmp_isNaN y w1 fun t10 w1_1 =>
  If t8
  (If t10
  (R (0 : Int) w1_1)
  (R (-1) w1_1))
  (If t10
  (R (1 : Int) w1_1)
  (If (Op.bytesLess x.toList y.toList)
  (R (-1) w1_1)
  (If (!(Op.bytesLess x.toList y.toList || x.toList == y.toList))
  (R (1 : Int) w1_1)
  (R (0 : Int) w1_1))))

def G_cmp_Compare : Gen where
  loop := lookL []
  plan := fun _ => none

theorem loops_cmp_Compare : LoopOk Tryz.prog Tryz.f42.ntmps G_cmp_Compare (codeOf Tryz.f42) := loopOk_none fun _ => rfl

theorem C_cmp_Compare.of {x : ByteArray} {y : ByteArray} {w : World} {R : Int → World → Prop} (h : F_cmp_Compare x y w R) : C_cmp_Compare x y w R := ofS8 (Fm := F_cmp_Compare x y w) Tryz.func42 (by kernel_rfl) loops_cmp_Compare rfl (fun _ => by kernel_rfl) h

def F_cmp_Compare__2 (x : Int) (y : Int) (w : World) (R : Int → World → Prop) : Prop :=
  C_cmp_isNaN__2 x w fun t8 w1 =>
  C_cmp_isNaN__2 y w1 fun t10 w1_1 =>
  If t8
  (If t10
  (R (0 : Int) w1_1)
  (R (-1) w1_1))
  (If t10
  (R (1 : Int) w1_1)
  (If (decide (x < y))
  (R (-1) w1_1)
  (If (decide (x > y))
  (R (1 : Int) w1_1)
  (R (0 : Int) w1_1))))

def G_cmp_Compare__2 : Gen where
  loop := lookL []
  plan := fun _ => none

theorem loops_cmp_Compare__2 : LoopOk Tryz.prog Tryz.f43.ntmps G_cmp_Compare__2 (codeOf Tryz.f43) := loopOk_none fun _ => rfl

theorem C_cmp_Compare__2.of {x : Int} {y : Int} {w : World} {R : Int → World → Prop} (h : F_cmp_Compare__2 x y w R) : C_cmp_Compare__2 x y w R := ofS8 (Fm := F_cmp_Compare__2 x y w) Tryz.func43 (by kernel_rfl) loops_cmp_Compare__2 rfl (fun _ => by kernel_rfl) h

def F_index_Table_Drop_k1 (t : Option Addr) (idx : Int) (R : Int → World → Prop) (w1_14 : World) : Prop :=
  NN t fun a_7 =>
  ∃ atx_1 : Option Nat, w1_14.cell? (a_7.add 2) = some (.map atx_1) ∧
  Del Tryz.prog #[97, 3] 0 #[.map atx_1, .int .i64 idx] w1_14 fun v_4 w1_15 =>
  R (0 : Int) w1_15

def F_index_Table_Drop (t : Option Addr) (idx : Int) (w : World) (R : Int → World → Prop) : Prop :=
  C_index_Table_made t w fun t8 w1 =>
  If (!t8)
  (R (6 : Int) w1)
  (NN t fun a =>
  ∃ atx : Option Nat, w1.cell? (a.add 2) = some (.map atx) ∧
  Run Tryz.prog (Instr.lookup 97 (.map atx) (.int .i64 idx) true) w1 fun v w1_1 => ∃ t1600 : Int, ∃ t1601 : ByteArray, ∃ t1602 : Int, ∃ t1603 : Int, ∃ t161 : Bool, v = (.tuple #[.agg #[.int .i64 t1600, .string t1601, .int .i64 t1602, .int .i64 t1603], .bool t161]) ∧
  New w1_1 (.cells #[.int .i64 0, .string ⟨#[]⟩, .int .i64 0, .int .i64 0] 101) fun r w1_2 =>
  St w1_2 ((⟨r, 0, none⟩ : Addr).add 0) (.int .i64 t1600) fun w1_3 =>
  St w1_3 ((⟨r, 0, none⟩ : Addr).add 1) (.string t1601) fun w1_4 =>
  St w1_4 ((⟨r, 0, none⟩ : Addr).add 2) (.int .i64 t1602) fun w1_5 =>
  St w1_5 ((⟨r, 0, none⟩ : Addr).add 3) (.int .i64 t1603) fun w1_6 =>
  If (!t161)
  (R (4 : Int) w1_6)
  (NN t fun a_1 =>
  ∃ allP : Option Addr, ∃ allN : Nat, ∃ allC : Nat, (drw w1_6).cell? (a_1.add 1) = some (.slice allP allN allC) ∧
  ∃ rank : Int, (drw w1_6).cell? ((⟨r, 0, none⟩ : Addr).add 3) = some (.int .i64 rank) ∧
  C_index_cut allP allN allC rank (drw w1_6) fun t28P t28N t28C w1_7 =>
  NN t fun a_2 =>
  St w1_7 ((a_2.add 1).add 0) (.slice t28P t28N t28C) fun w1_8 =>
  NN t fun a_3 =>
  ∃ rows : Option Nat, (drw w1_8).cell? (a_3.add 0) = some (.map rows) ∧
  ∃ key0 : Int, (drw w1_8).cell? (((⟨r, 0, none⟩ : Addr).add 0).add 0) = some (.int .i64 key0) ∧
  ∃ key1 : ByteArray, (drw w1_8).cell? (((⟨r, 0, none⟩ : Addr).add 0).add 1) = some (.string key1) ∧
  ∃ key2 : Int, (drw w1_8).cell? (((⟨r, 0, none⟩ : Addr).add 0).add 2) = some (.int .i64 key2) ∧
  NN t fun a_4 =>
  ∃ rows_1 : Option Nat, (drw w1_8).cell? (a_4.add 0) = some (.map rows_1) ∧
  ∃ key0_1 : Int, (drw w1_8).cell? (((⟨r, 0, none⟩ : Addr).add 0).add 0) = some (.int .i64 key0_1) ∧
  ∃ key1_1 : ByteArray, (drw w1_8).cell? (((⟨r, 0, none⟩ : Addr).add 0).add 1) = some (.string key1_1) ∧
  ∃ key2_1 : Int, (drw w1_8).cell? (((⟨r, 0, none⟩ : Addr).add 0).add 2) = some (.int .i64 key2_1) ∧
  ∃ rank_1 : Int, (drw w1_8).cell? ((⟨r, 0, none⟩ : Addr).add 3) = some (.int .i64 rank_1) ∧
  Run Tryz.prog (Instr.lookup 94 (.map rows_1) (.agg #[.int .i64 key0_1, .string key1_1, .int .i64 key2_1]) false) (drw w1_8) fun v_1 w1_9 => ∃ t43P : Option Addr, ∃ t43N : Nat, ∃ t43C : Nat, v_1 = (.slice t43P t43N t43C) ∧
  w1_9.cell? ((⟨r, 0, none⟩ : Addr).add 3) = (drw w1_8).cell? ((⟨r, 0, none⟩ : Addr).add 3) ∧
  (∀ i_, i_ < 3 → w1_9.cell? (((⟨r, 0, none⟩ : Addr).add 0).add i_) = (drw w1_8).cell? (((⟨r, 0, none⟩ : Addr).add 0).add i_)) ∧
  w1_9.cell? (a_3.add 0) = (drw w1_8).cell? (a_3.add 0) ∧
  C_index_cut t43P t43N t43C rank_1 w1_9 fun t46P t46N t46C w1_10 =>
  (∀ i_, i_ < 3 → w1_10.cell? (((⟨r, 0, none⟩ : Addr).add 0).add i_) = (drw w1_8).cell? (((⟨r, 0, none⟩ : Addr).add 0).add i_)) ∧
  w1_10.cell? (a_3.add 0) = (drw w1_8).cell? (a_3.add 0) ∧
  MUp Tryz.prog 94 (.map rows) (.agg #[.int .i64 key0, .string key1, .int .i64 key2]) (.slice t46P t46N t46C) w1_10 fun w1_11 =>
  NN t fun a_5 =>
  ∃ rows_2 : Option Nat, (drw w1_11).cell? (a_5.add 0) = some (.map rows_2) ∧
  ∃ key0_2 : Int, (drw w1_11).cell? (((⟨r, 0, none⟩ : Addr).add 0).add 0) = some (.int .i64 key0_2) ∧
  ∃ key1_2 : ByteArray, (drw w1_11).cell? (((⟨r, 0, none⟩ : Addr).add 0).add 1) = some (.string key1_2) ∧
  ∃ key2_2 : Int, (drw w1_11).cell? (((⟨r, 0, none⟩ : Addr).add 0).add 2) = some (.int .i64 key2_2) ∧
  Run Tryz.prog (Instr.lookup 94 (.map rows_2) (.agg #[.int .i64 key0_2, .string key1_2, .int .i64 key2_2]) false) (drw w1_11) fun v_2 w1_12 => ∃ t53P : Option Addr, ∃ t53N : Nat, ∃ t53C : Nat, v_2 = (.slice t53P t53N t53C) ∧
  If ((t53N : Int) == (0 : Int))
  (NN t fun a_6 =>
  ∃ rows_3 : Option Nat, (drw w1_12).cell? (a_6.add 0) = some (.map rows_3) ∧
  ∃ key0_3 : Int, (drw w1_12).cell? (((⟨r, 0, none⟩ : Addr).add 0).add 0) = some (.int .i64 key0_3) ∧
  ∃ key1_3 : ByteArray, (drw w1_12).cell? (((⟨r, 0, none⟩ : Addr).add 0).add 1) = some (.string key1_3) ∧
  ∃ key2_3 : Int, (drw w1_12).cell? (((⟨r, 0, none⟩ : Addr).add 0).add 2) = some (.int .i64 key2_3) ∧
  Del Tryz.prog #[94, 30] 0 #[.map rows_3, .agg #[.int .i64 key0_3, .string key1_3, .int .i64 key2_3]] (drw w1_12) fun v_3 w1_13 =>
  F_index_Table_Drop_k1 t idx R w1_13)
  (F_index_Table_Drop_k1 t idx R w1_12)))

def G_index_Table_Drop : Gen where
  loop := lookL []
  plan := fun id =>
    bif Nat.beq id 6 then some ([0, 0, 2, 6, 14, 0, 32, 126, 255, 511, 1023], .take 0 (.take 1 (.take 2 (.take 3 (.take 4 (.take 5 (.take 6 (.take 7 (.take 8 (.take 9 (.take 10 .done))))))))))) else
    bif Nat.beq id 7 then some ([0, 1, 3, 7, 0, 16, 0, 64, 192, 448, 0, 1024, 4032, 0, 8192, 32704, 65535], .take 0 (.take 1 (.take 2 (.take 3 (.take 4 (.take 5 (.take 6 (.take 7 (.take 8 (.take 9 (.take 10 (.take 11 (.take 13 (.take 14 (.take 12 (.take 15 (.take 16 .done))))))))))))))))) else
    bif Nat.beq id 8 then some ([0, 1, 3, 7, 0, 16, 63, 127, 255], .take 0 (.take 1 (.take 2 (.take 3 (.take 4 (.take 5 (.take 6 (.take 7 (.take 8 .done))))))))) else
    bif Nat.beq id 9 then some ([0, 1, 3, 7, 0, 16, 63], .take 0 (.take 1 (.take 2 (.take 3 (.take 4 (.take 5 (.take 6 .done))))))) else none

theorem loops_index_Table_Drop : LoopOk Tryz.prog Tryz.f44.ntmps G_index_Table_Drop (codeOf Tryz.f44) := loopOk_none fun _ => rfl

theorem C_index_Table_Drop.of {t : Option Addr} {idx : Int} {w : World} {R : Int → World → Prop} (h : F_index_Table_Drop t idx w R) : C_index_Table_Drop t idx w R := ofS8 (Fm := F_index_Table_Drop t idx w) Tryz.func44 (by kernel_rfl) loops_index_Table_Drop rfl (fun _ => by kernel_rfl) h

def F_slices_Sort (xP : Option Addr) (xN : Nat) (xC : Nat) (w : World) (R : World → Prop) : Prop :=
  C_math_bits_Len (IntKind.u64.wrap (xN : Int)) w fun t9 w1 =>
  C_slices_pdqsortOrdered xP xN xC (0 : Int) (xN : Int) t9 w1 fun w1_1 =>
  R w1_1

def G_slices_Sort : Gen where
  loop := lookL []
  plan := fun _ => none

theorem loops_slices_Sort : LoopOk Tryz.prog Tryz.f45.ntmps G_slices_Sort (codeOf Tryz.f45) := loopOk_none fun _ => rfl

theorem C_slices_Sort.of {xP : Option Addr} {xN : Nat} {xC : Nat} {w : World} {R : World → Prop} (h : F_slices_Sort xP xN xC w R) : C_slices_Sort xP xN xC w R := ofS1 (Fm := F_slices_Sort xP xN xC w) Tryz.func45 (by kernel_rfl) loops_slices_Sort rfl (fun _ => by kernel_rfl) h

def F_index_Table_made (t : Option Addr) (w : World) (R : Bool → World → Prop) : Prop :=
  If (!t.isNone)
  (NN t fun a =>
  ∃ rows : Option Nat, w.cell? (a.add 0) = some (.map rows) ∧
  R (!rows.isNone) w)
  (R false w)

def G_index_Table_made : Gen where
  loop := lookL []
  plan := fun _ => none

theorem loops_index_Table_made : LoopOk Tryz.prog Tryz.f46.ntmps G_index_Table_made (codeOf Tryz.f46) := loopOk_none fun _ => rfl

theorem C_index_Table_made.of {t : Option Addr} {w : World} {R : Bool → World → Prop} (h : F_index_Table_made t w R) : C_index_Table_made t w R := ofS2 (Fm := F_index_Table_made t w) Tryz.func46 (by kernel_rfl) loops_index_Table_made rfl (fun _ => by kernel_rfl) h

def F_index_key (k0x : Int) (k1x : ByteArray) (k2x : Int) (w : World) (R : Int → ByteArray → Int → World → Prop) : Prop :=
  New w (.cells #[.int .i64 k0x, .string k1x, .int .i64 k2x] 30) fun r w1 =>
  New w1 (.cells #[.int .i64 0, .string ⟨#[]⟩, .int .i64 0] 30) fun r_1 w1_1 =>
  ∃ Kind : Int, w1_1.cell? ((⟨r, 0, none⟩ : Addr).add 0) = some (.int .i64 Kind) ∧
  If (Kind == (0 : Int))
  (St w1_1 ((⟨r_1, 0, none⟩ : Addr).add 0) (.int .i64 0) fun w1_2 =>
  St w1_2 ((⟨r_1, 0, none⟩ : Addr).add 1) (.string ⟨#[]⟩) fun w1_3 =>
  St w1_3 ((⟨r_1, 0, none⟩ : Addr).add 2) (.int .i64 0) fun w1_4 =>
  ∃ r_2 : Int, w1_4.cell? ((⟨r_1, 0, none⟩ : Addr).add 0) = some (.int .i64 r_2) ∧
  ∃ r_3 : ByteArray, w1_4.cell? ((⟨r_1, 0, none⟩ : Addr).add 1) = some (.string r_3) ∧
  ∃ r_4 : Int, w1_4.cell? ((⟨r_1, 0, none⟩ : Addr).add 2) = some (.int .i64 r_4) ∧
  R r_2 r_3 r_4 w1_4)
  (∃ t70 : Int, w1_1.cell? ((⟨r, 0, none⟩ : Addr).add 0) = some (.int .i64 t70) ∧
  ∃ t71 : ByteArray, w1_1.cell? ((⟨r, 0, none⟩ : Addr).add 1) = some (.string t71) ∧
  ∃ t72 : Int, w1_1.cell? ((⟨r, 0, none⟩ : Addr).add 2) = some (.int .i64 t72) ∧
  St w1_1 ((⟨r_1, 0, none⟩ : Addr).add 0) (.int .i64 t70) fun w1_5 =>
  St w1_5 ((⟨r_1, 0, none⟩ : Addr).add 1) (.string t71) fun w1_6 =>
  St w1_6 ((⟨r_1, 0, none⟩ : Addr).add 2) (.int .i64 t72) fun w1_7 =>
  ∃ r_5 : Int, w1_7.cell? ((⟨r_1, 0, none⟩ : Addr).add 0) = some (.int .i64 r_5) ∧
  ∃ r_6 : ByteArray, w1_7.cell? ((⟨r_1, 0, none⟩ : Addr).add 1) = some (.string r_6) ∧
  ∃ r_7 : Int, w1_7.cell? ((⟨r_1, 0, none⟩ : Addr).add 2) = some (.int .i64 r_7) ∧
  R r_5 r_6 r_7 w1_7)

def G_index_key : Gen where
  loop := lookL []
  plan := fun _ => none

theorem loops_index_key : LoopOk Tryz.prog Tryz.f47.ntmps G_index_key (codeOf Tryz.f47) := loopOk_none fun _ => rfl

theorem C_index_key.of {k0x : Int} {k1x : ByteArray} {k2x : Int} {w : World} {R : Int → ByteArray → Int → World → Prop} (h : F_index_key k0x k1x k2x w R) : C_index_key k0x k1x k2x w R := ofS12 (Fm := F_index_key k0x k1x k2x w) Tryz.func47 (by kernel_rfl) loops_index_key rfl (fun _ => by kernel_rfl) h

def F_index_put_k1 (R : Option Addr → Nat → Nat → World → Prop) (t4P : Option Addr) (t4N : Nat) (t4C : Nat) (w1_7 : World) : Prop :=
  R t4P t4N t4C w1_7

def F_index_put (rP : Option Addr) (rN : Nat) (rC : Nat) (e0 : Int) (e1 : Int) (w : World) (R : Option Addr → Nat → Nat → World → Prop) : Prop :=
  New w (.cells #[.int .i64 e0, .int .i64 e1] 105) fun r w1 =>
  ∃ rank : Int, (drw w1).cell? ((⟨r, 0, none⟩ : Addr).add 0) = some (.int .i64 rank) ∧
  ∃ t100 : Int, (drw w1).cell? ((⟨r, 0, none⟩ : Addr).add 0) = some (.int .i64 t100) ∧
  ∃ t101 : Int, (drw w1).cell? ((⟨r, 0, none⟩ : Addr).add 1) = some (.int .i64 t101) ∧
  (C_index_row_place rP rN rC rank (drw w1) fun t9 w1_1 =>
  (∀ i_, i_ < 2 → w1_1.cell? ((⟨r, 0, none⟩ : Addr).add i_) = (drw w1).cell? ((⟨r, 0, none⟩ : Addr).add i_)) ∧
  BSl Tryz.prog 95 1 [(0, .agg #[.int .i64 t100, .int .i64 t101])] w1_1 fun t11P t11N t11C w1_2 =>
  C_slices_Insert rP rN rC t9 t11P t11N t11C w1_2 fun t12P t12N t12C w1_3 =>
  F_index_put_k1 R t12P t12N t12C w1_3) ∧
  (BSl Tryz.prog 95 1 [(0, .agg #[.int .i64 t100, .int .i64 t101])] (drw w1) fun t11P_1 t11N_1 t11C_1 w1_4 =>
  w1_4.cell? ((⟨r, 0, none⟩ : Addr).add 0) = (drw w1).cell? ((⟨r, 0, none⟩ : Addr).add 0) ∧
  C_index_row_place rP rN rC rank w1_4 fun t9_1 w1_5 =>
  C_slices_Insert rP rN rC t9_1 t11P_1 t11N_1 t11C_1 w1_5 fun t12P_1 t12N_1 t12C_1 w1_6 =>
  F_index_put_k1 R t12P_1 t12N_1 t12C_1 w1_6)

def G_index_put : Gen where
  loop := lookL []
  plan := fun id =>
    bif Nat.beq id 1 then some ([0, 0, 0, 4, 14, 0, 32, 127, 255], .take 0 (.take 1 (.take 2 (.take 3 (.take 5 (.both 4 (.take 6 (.take 7 (.take 8 .done))) 6 (.take 4 (.take 7 (.take 8 .done))))))))) else none

theorem loops_index_put : LoopOk Tryz.prog Tryz.f48.ntmps G_index_put (codeOf Tryz.f48) := loopOk_none fun _ => rfl

theorem C_index_put.of {rP : Option Addr} {rN : Nat} {rC : Nat} {e0 : Int} {e1 : Int} {w : World} {R : Option Addr → Nat → Nat → World → Prop} (h : F_index_put rP rN rC e0 e1 w R) : C_index_put rP rN rC e0 e1 w R := ofS9 (Fm := F_index_put rP rN rC e0 e1 w) Tryz.func48 (by kernel_rfl) loops_index_put rfl (fun _ => by kernel_rfl) h

def F_index_KeyOf (t0 : Int) (t1 : Int) (t2 : ByteArray) (t3P : Option Addr) (t3N : Nat) (t3C : Nat) (w : World) (R : Int → ByteArray → Int → World → Prop) : Prop :=
  New w (.cells #[.int .i64 t0, .int .i64 t1, .string t2, .slice t3P t3N t3C] 24) fun r w1 =>
  New w1 (.cells #[.int .i64 0, .string ⟨#[]⟩, .int .i64 0] 30) fun r_1 w1_1 =>
  ∃ Kind : Int, w1_1.cell? ((⟨r, 0, none⟩ : Addr).add 0) = some (.int .i64 Kind) ∧
  If (Kind == (2 : Int))
  (∃ N : Int, w1_1.cell? ((⟨r, 0, none⟩ : Addr).add 1) = some (.int .i64 N) ∧
  St w1_1 ((⟨r_1, 0, none⟩ : Addr).add 0) (.int .i64 1) fun w1_2 =>
  St w1_2 ((⟨r_1, 0, none⟩ : Addr).add 1) (.string ⟨#[]⟩) fun w1_3 =>
  St w1_3 ((⟨r_1, 0, none⟩ : Addr).add 2) (.int .i64 N) fun w1_4 =>
  ∃ r_2 : Int, w1_4.cell? ((⟨r_1, 0, none⟩ : Addr).add 0) = some (.int .i64 r_2) ∧
  ∃ r_3 : ByteArray, w1_4.cell? ((⟨r_1, 0, none⟩ : Addr).add 1) = some (.string r_3) ∧
  ∃ r_4 : Int, w1_4.cell? ((⟨r_1, 0, none⟩ : Addr).add 2) = some (.int .i64 r_4) ∧
  R r_2 r_3 r_4 w1_4)
  (If (Kind == (3 : Int))
  (∃ S : ByteArray, w1_1.cell? ((⟨r, 0, none⟩ : Addr).add 2) = some (.string S) ∧
  St w1_1 ((⟨r_1, 0, none⟩ : Addr).add 0) (.int .i64 2) fun w1_5 =>
  St w1_5 ((⟨r_1, 0, none⟩ : Addr).add 1) (.string S) fun w1_6 =>
  St w1_6 ((⟨r_1, 0, none⟩ : Addr).add 2) (.int .i64 0) fun w1_7 =>
  ∃ r_5 : Int, w1_7.cell? ((⟨r_1, 0, none⟩ : Addr).add 0) = some (.int .i64 r_5) ∧
  ∃ r_6 : ByteArray, w1_7.cell? ((⟨r_1, 0, none⟩ : Addr).add 1) = some (.string r_6) ∧
  ∃ r_7 : Int, w1_7.cell? ((⟨r_1, 0, none⟩ : Addr).add 2) = some (.int .i64 r_7) ∧
  R r_5 r_6 r_7 w1_7)
  (If (Kind == (4 : Int))
  (∃ S_1 : ByteArray, w1_1.cell? ((⟨r, 0, none⟩ : Addr).add 2) = some (.string S_1) ∧
  ∃ LP : Option Addr, ∃ LN : Nat, ∃ LC : Nat, w1_1.cell? ((⟨r, 0, none⟩ : Addr).add 3) = some (.slice LP LN LC) ∧
  St w1_1 ((⟨r_1, 0, none⟩ : Addr).add 0) (.int .i64 3) fun w1_8 =>
  St w1_8 ((⟨r_1, 0, none⟩ : Addr).add 1) (.string S_1) fun w1_9 =>
  St w1_9 ((⟨r_1, 0, none⟩ : Addr).add 2) (.int .i64 (LN : Int)) fun w1_10 =>
  ∃ r_8 : Int, w1_10.cell? ((⟨r_1, 0, none⟩ : Addr).add 0) = some (.int .i64 r_8) ∧
  ∃ r_9 : ByteArray, w1_10.cell? ((⟨r_1, 0, none⟩ : Addr).add 1) = some (.string r_9) ∧
  ∃ r_10 : Int, w1_10.cell? ((⟨r_1, 0, none⟩ : Addr).add 2) = some (.int .i64 r_10) ∧
  R r_8 r_9 r_10 w1_10)
  (St w1_1 ((⟨r_1, 0, none⟩ : Addr).add 0) (.int .i64 0) fun w1_11 =>
  St w1_11 ((⟨r_1, 0, none⟩ : Addr).add 1) (.string ⟨#[]⟩) fun w1_12 =>
  St w1_12 ((⟨r_1, 0, none⟩ : Addr).add 2) (.int .i64 0) fun w1_13 =>
  ∃ r_11 : Int, w1_13.cell? ((⟨r_1, 0, none⟩ : Addr).add 0) = some (.int .i64 r_11) ∧
  ∃ r_12 : ByteArray, w1_13.cell? ((⟨r_1, 0, none⟩ : Addr).add 1) = some (.string r_12) ∧
  ∃ r_13 : Int, w1_13.cell? ((⟨r_1, 0, none⟩ : Addr).add 2) = some (.int .i64 r_13) ∧
  R r_11 r_12 r_13 w1_13)))

def G_index_KeyOf : Gen where
  loop := lookL []
  plan := fun _ => none

theorem loops_index_KeyOf : LoopOk Tryz.prog Tryz.f49.ntmps G_index_KeyOf (codeOf Tryz.f49) := loopOk_none fun _ => rfl

theorem C_index_KeyOf.of {t0 : Int} {t1 : Int} {t2 : ByteArray} {t3P : Option Addr} {t3N : Nat} {t3C : Nat} {w : World} {R : Int → ByteArray → Int → World → Prop} (h : F_index_KeyOf t0 t1 t2 t3P t3N t3C w R) : C_index_KeyOf t0 t1 t2 t3P t3N t3C w R := ofS12 (Fm := F_index_KeyOf t0 t1 t2 t3P t3N t3C w) Tryz.func49 (by kernel_rfl) loops_index_KeyOf rfl (fun _ => by kernel_rfl) h

structure S_base_clone_L1 where
  t21 : Int

/-- One round. -/
def B_base_clone_L1 (t2_1 : Addr) (u : Addr) (t19P : Option Addr) (t19N : Nat) (t19C : Nat) (t20 : Int) (s : S_base_clone_L1) (w : World) (Kn : S_base_clone_L1 → World → Prop) (Kx0 : World → Prop) : Prop :=
  If (decide ((s.t21 : Int) < t20))
  (0 ≤ (s.t21 : Int) ∧ (s.t21 : Int) < (t19N : Int) ∧ NN t19P fun a =>
  ∃ t240 : Int, w.cell? ((a.add ((s.t21 : Int).toNat * 4)).add 0) = some (.int .i64 t240) ∧
  ∃ t241 : Int, w.cell? ((a.add ((s.t21 : Int).toNat * 4)).add 1) = some (.int .i64 t241) ∧
  ∃ t242 : ByteArray, w.cell? ((a.add ((s.t21 : Int).toNat * 4)).add 2) = some (.string t242) ∧
  ∃ t243P : Option Addr, ∃ t243N : Nat, ∃ t243C : Nat, w.cell? ((a.add ((s.t21 : Int).toNat * 4)).add 3) = some (.slice t243P t243N t243C) ∧
  New w (.cells #[.int .i64 0, .int .i64 0, .string ⟨#[]⟩, .slice none 0 0] 24) fun r_6 w1_13 =>
  St w1_13 ((⟨r_6, 0, none⟩ : Addr).add 0) (.int .i64 t240) fun w1_14 =>
  St w1_14 ((⟨r_6, 0, none⟩ : Addr).add 1) (.int .i64 t241) fun w1_15 =>
  St w1_15 ((⟨r_6, 0, none⟩ : Addr).add 2) (.string t242) fun w1_16 =>
  St w1_16 ((⟨r_6, 0, none⟩ : Addr).add 3) (.slice t243P t243N t243C) fun w1_17 =>
  ∃ LP_1 : Option Addr, ∃ LN_1 : Nat, ∃ LC_1 : Nat, (drw w1_17).cell? (u.add 3) = some (.slice LP_1 LN_1 LC_1) ∧
  ∃ t270 : Int, (drw w1_17).cell? ((⟨r_6, 0, none⟩ : Addr).add 0) = some (.int .i64 t270) ∧
  ∃ t271 : Int, (drw w1_17).cell? ((⟨r_6, 0, none⟩ : Addr).add 1) = some (.int .i64 t271) ∧
  ∃ t272 : ByteArray, (drw w1_17).cell? ((⟨r_6, 0, none⟩ : Addr).add 2) = some (.string t272) ∧
  ∃ t273P : Option Addr, ∃ t273N : Nat, ∃ t273C : Nat, (drw w1_17).cell? ((⟨r_6, 0, none⟩ : Addr).add 3) = some (.slice t273P t273N t273C) ∧
  C_base_clone t270 t271 t272 t273P t273N t273C (drw w1_17) fun t280 t281 t282 t283P t283N t283C w1_18 =>
  w1_18.cell? (u.add 3) = (drw w1_17).cell? (u.add 3) ∧
  BSl Tryz.prog 22 1 [(0, .agg #[.int .i64 t280, .int .i64 t281, .string t282, .slice t283P t283N t283C])] w1_18 fun t29P t29N t29C w1_19 =>
  w1_19.cell? (u.add 3) = (drw w1_17).cell? (u.add 3) ∧
  App Tryz.prog #[22, 22] 22 #[.slice LP_1 LN_1 LC_1, .slice t29P t29N t29C] w1_19 fun t30P t30N t30C w1_20 =>
  St w1_20 ((u.add 3).add 0) (.slice t30P t30N t30C) fun w1_21 =>
  Kn ⟨(IntKind.i64.wrap ((s.t21 : Int) + (1 : Int)))⟩ w1_21)
  (Kx0 w)

def F_base_clone_L1 (t2_1 : Addr) (u : Addr) (t19P : Option Addr) (t19N : Nat) (t19C : Nat) (t20 : Int) (s : S_base_clone_L1) (w : World) (Kx0 : World → Prop) : Prop :=
  LoopS (fun s w Kn => B_base_clone_L1 t2_1 u t19P t19N t19C t20 s w Kn Kx0) s w

def F_base_clone (t0 : Int) (t1 : Int) (t2 : ByteArray) (t3P : Option Addr) (t3N : Nat) (t3C : Nat) (w : World) (R : Int → Int → ByteArray → Option Addr → Nat → Nat → World → Prop) : Prop :=
  New w (.cells #[.int .i64 t0, .int .i64 t1, .string t2, .slice t3P t3N t3C] 24) fun r w1 =>
  New w1 (.cells #[.int .i64 0, .int .i64 0, .string ⟨#[]⟩, .slice none 0 0] 24) fun r_1 w1_1 =>
  ∃ t60 : Int, w1_1.cell? ((⟨r, 0, none⟩ : Addr).add 0) = some (.int .i64 t60) ∧
  ∃ t61 : Int, w1_1.cell? ((⟨r, 0, none⟩ : Addr).add 1) = some (.int .i64 t61) ∧
  ∃ t62 : ByteArray, w1_1.cell? ((⟨r, 0, none⟩ : Addr).add 2) = some (.string t62) ∧
  ∃ t63P : Option Addr, ∃ t63N : Nat, ∃ t63C : Nat, w1_1.cell? ((⟨r, 0, none⟩ : Addr).add 3) = some (.slice t63P t63N t63C) ∧
  C_term_Check t60 t61 t62 t63P t63N t63C w1_1 fun t7 w1_2 =>
  If (t7 == (0 : Int))
  (∃ t90 : Int, w1_2.cell? ((⟨r, 0, none⟩ : Addr).add 0) = some (.int .i64 t90) ∧
  ∃ t91 : Int, w1_2.cell? ((⟨r, 0, none⟩ : Addr).add 1) = some (.int .i64 t91) ∧
  ∃ t92 : ByteArray, w1_2.cell? ((⟨r, 0, none⟩ : Addr).add 2) = some (.string t92) ∧
  ∃ t93P : Option Addr, ∃ t93N : Nat, ∃ t93C : Nat, w1_2.cell? ((⟨r, 0, none⟩ : Addr).add 3) = some (.slice t93P t93N t93C) ∧
  C_term_Clone t90 t91 t92 t93P t93N t93C w1_2 fun t100 t101 t102 t103P t103N t103C w1_3 =>
  St w1_3 ((⟨r_1, 0, none⟩ : Addr).add 0) (.int .i64 t100) fun w1_4 =>
  St w1_4 ((⟨r_1, 0, none⟩ : Addr).add 1) (.int .i64 t101) fun w1_5 =>
  St w1_5 ((⟨r_1, 0, none⟩ : Addr).add 2) (.string t102) fun w1_6 =>
  St w1_6 ((⟨r_1, 0, none⟩ : Addr).add 3) (.slice t103P t103N t103C) fun w1_7 =>
  ∃ r_2 : Int, w1_7.cell? ((⟨r_1, 0, none⟩ : Addr).add 0) = some (.int .i64 r_2) ∧
  ∃ r_3 : Int, w1_7.cell? ((⟨r_1, 0, none⟩ : Addr).add 1) = some (.int .i64 r_3) ∧
  ∃ r_4 : ByteArray, w1_7.cell? ((⟨r_1, 0, none⟩ : Addr).add 2) = some (.string r_4) ∧
  ∃ rP : Option Addr, ∃ rN : Nat, ∃ rC : Nat, w1_7.cell? ((⟨r_1, 0, none⟩ : Addr).add 3) = some (.slice rP rN rC) ∧
  R r_2 r_3 r_4 rP rN rC w1_7)
  (∃ Kind : Int, w1_2.cell? ((⟨r, 0, none⟩ : Addr).add 0) = some (.int .i64 Kind) ∧
  ∃ N : Int, w1_2.cell? ((⟨r, 0, none⟩ : Addr).add 1) = some (.int .i64 N) ∧
  ∃ S : ByteArray, w1_2.cell? ((⟨r, 0, none⟩ : Addr).add 2) = some (.string S) ∧
  New w1_2 (.cells #[.int .i64 0, .int .i64 0, .string ⟨#[]⟩, .slice none 0 0] 24) fun r_5 w1_8 =>
  St w1_8 ((⟨r_5, 0, none⟩ : Addr).add 0) (.int .i64 Kind) fun w1_9 =>
  St w1_9 ((⟨r_5, 0, none⟩ : Addr).add 1) (.int .i64 N) fun w1_10 =>
  St w1_10 ((⟨r_5, 0, none⟩ : Addr).add 2) (.string S) fun w1_11 =>
  St w1_11 ((⟨r_5, 0, none⟩ : Addr).add 3) (.slice none 0 0) fun w1_12 =>
  ∃ LP : Option Addr, ∃ LN : Nat, ∃ LC : Nat, w1_12.cell? ((⟨r, 0, none⟩ : Addr).add 3) = some (.slice LP LN LC) ∧
  F_base_clone_L1 ⟨r_1, 0, none⟩ ⟨r_5, 0, none⟩ LP LN LC (LN : Int) ⟨(0 : Int)⟩ w1_12
  (fun w1_22 =>
  ∃ t330 : Int, w1_22.cell? ((⟨r_5, 0, none⟩ : Addr).add 0) = some (.int .i64 t330) ∧
  ∃ t331 : Int, w1_22.cell? ((⟨r_5, 0, none⟩ : Addr).add 1) = some (.int .i64 t331) ∧
  ∃ t332 : ByteArray, w1_22.cell? ((⟨r_5, 0, none⟩ : Addr).add 2) = some (.string t332) ∧
  ∃ t333P : Option Addr, ∃ t333N : Nat, ∃ t333C : Nat, w1_22.cell? ((⟨r_5, 0, none⟩ : Addr).add 3) = some (.slice t333P t333N t333C) ∧
  St w1_22 ((⟨r_1, 0, none⟩ : Addr).add 0) (.int .i64 t330) fun w1_23 =>
  St w1_23 ((⟨r_1, 0, none⟩ : Addr).add 1) (.int .i64 t331) fun w1_24 =>
  St w1_24 ((⟨r_1, 0, none⟩ : Addr).add 2) (.string t332) fun w1_25 =>
  St w1_25 ((⟨r_1, 0, none⟩ : Addr).add 3) (.slice t333P t333N t333C) fun w1_26 =>
  ∃ r_7 : Int, w1_26.cell? ((⟨r_1, 0, none⟩ : Addr).add 0) = some (.int .i64 r_7) ∧
  ∃ r_8 : Int, w1_26.cell? ((⟨r_1, 0, none⟩ : Addr).add 1) = some (.int .i64 r_8) ∧
  ∃ r_9 : ByteArray, w1_26.cell? ((⟨r_1, 0, none⟩ : Addr).add 2) = some (.string r_9) ∧
  ∃ rP_1 : Option Addr, ∃ rN_1 : Nat, ∃ rC_1 : Nat, w1_26.cell? ((⟨r_1, 0, none⟩ : Addr).add 3) = some (.slice rP_1 rN_1 rC_1) ∧
  R r_7 r_8 r_9 rP_1 rN_1 rC_1 w1_26))

def lit_base_clone_L1 (f : Addr × Addr × (Option Addr) × Nat × Nat × Int) (s : S_base_clone_L1) : Env := [⟨2, .pointer (some f.1), none⟩, ⟨3, .pointer (some f.2.1), none⟩, ⟨19, .slice f.2.2.1 f.2.2.2.1 f.2.2.2.2.1, none⟩, ⟨20, .int .i64 f.2.2.2.2.2, none⟩, ⟨21, .int .i64 s.t21, none⟩]

def dec_base_clone_L1 (e : Env) (K : (Addr × Addr × (Option Addr) × Nat × Nat × Int) → S_base_clone_L1 → Prop) : Prop :=
  oA e 2 fun t2_1 =>
  oA e 3 fun u =>
  oS e 19 fun t19P t19N t19C =>
  oI e 20 .i64 fun t20 =>
  oI e 21 .i64 fun t21 =>
    K (t2_1, u, t19P, t19N, t19C, t20) ⟨t21⟩

theorem dec_base_clone_L1_ok {N : Nat} (e : Env) (a : Act) (K : (Addr × Addr × (Option Addr) × Nat × Nat × Int) → S_base_clone_L1 → Prop) (hr : Rep N a e) (h0 : dec_base_clone_L1 e K) : ∃ f s, K f s ∧ Rep N a (lit_base_clone_L1 f s) := by
  unfold dec_base_clone_L1 at h0
  obtain ⟨t2_1, g2, h1⟩ := oA_elim h0
  obtain ⟨u, g3, h2⟩ := oA_elim h1
  obtain ⟨t19P, t19N, t19C, g19, h3⟩ := oS_elim h2
  obtain ⟨t20, g20, h4⟩ := oI_elim h3
  obtain ⟨t21, g21, h5⟩ := oI_elim h4
  exact ⟨_, _, h5, rep_less hr (by simp [lit_base_clone_L1, g2, g3, g19, g20, g21])⟩

def spec_base_clone_L1 (Q : Post) (e : Env) (w : World) : Prop :=
  dec_base_clone_L1 e fun f s => F_base_clone_L1 f.1 f.2.1 f.2.2.1 f.2.2.2.1 f.2.2.2.2.1 f.2.2.2.2.2 s w (fun w1 => Q (.exit 0) [⟨2, .pointer (some f.1), none⟩, ⟨3, .pointer (some f.2.1), none⟩] w1)

def G_base_clone : Gen where
  loop := lookL [([false, true, false, true, true, true], spec_base_clone_L1)]
  plan := fun id =>
    bif Nat.beq id 7 then some ([0, 1, 0, 4, 12, 31, 63, 127], .take 0 (.take 1 (.take 2 (.take 3 (.take 4 (.take 5 (.take 6 (.take 7 .done)))))))) else none

def dx_base_clone_L1_0 (e : Env) (K : (Addr × Addr × (Option Addr) × Nat × Nat × Int) → Prop) : Prop :=
  oA e 2 fun t2_1 =>
  oA e 3 fun u =>
  oS e 19 fun t19P t19N t19C =>
  oI e 20 .i64 fun t20 =>
    K (t2_1, u, t19P, t19N, t19C, t20)

theorem body_base_clone_L1 (f : Addr × Addr × (Option Addr) × Nat × Nat × Int) (s : S_base_clone_L1) (w : World) (Kn : (Addr × Addr × (Option Addr) × Nat × Nat × Int) → S_base_clone_L1 → World → Prop) (Kx0 : (Addr × Addr × (Option Addr) × Nat × Nat × Int) → World → Prop) :
    B_base_clone_L1 f.1 f.2.1 f.2.2.1 f.2.2.2.1 f.2.2.2.2.1 f.2.2.2.2.2 s w (fun s1 w1 => Kn f s1 w1) (fun w1 => Kx0 f w1) =
    den Tryz.prog Tryz.f50.ntmps G_base_clone (sub (codeOf Tryz.f50) [false, false, true, false, true, true, true]) [false, false, true, false, true, true, true] (roundQ (fun e w => dec_base_clone_L1 e fun f s => Kn f s w) (fun e w => False) (fun id e w => match Nat.beq id 0 with | true => dx_base_clone_L1_0 e fun f => Kx0 f w | false => False)) (lit_base_clone_L1 f s) w := by kernel_rfl

theorem ok_base_clone_L1 : OneOk Tryz.prog Tryz.f50.ntmps G_base_clone (codeOf Tryz.f50) [false, true, false, true, true, true] spec_base_clone_L1 := by
  intro c hc ih Q e w a hr h
  have hcc : sub (codeOf Tryz.f50) [false, false, true, false, true, true, true] = c := sub_of_codeAt hc
  obtain ⟨f, s, h, hrep⟩ := dec_base_clone_L1_ok e a _ hr h
  obtain ⟨J, μ, hj, hround⟩ := h
  refine loop_rule_deep seat_ok seat_mixed ih lit_base_clone_L1 dec_base_clone_L1 dec_base_clone_L1_ok hc f J μ (Kr := fun e w => False) (Kx := fun id e w => match Nat.beq id 0 with | true => (dx_base_clone_L1_0 e fun f1 => f1 = f ∧ Q (.exit 0) [⟨2, .pointer (some f.1), none⟩, ⟨3, .pointer (some f.2.1), none⟩] w) | false => False) ?_ ?_ ?_ s w a hj hrep
  · intro e a w hr h
    exact h.elim
  · intro id e a w hr h0
    (try dsimp only at h0)
    split at h0
    · rename_i hid
      obtain rfl := Nat.eq_of_beq_eq_true hid
      unfold dx_base_clone_L1_0 at h0
      obtain ⟨t2_1, g2, h1⟩ := oA_elim h0
      obtain ⟨u, g3, h2⟩ := oA_elim h1
      obtain ⟨t19P, t19N, t19C, g19, h3⟩ := oS_elim h2
      obtain ⟨t20, g20, h4⟩ := oI_elim h3
      obtain ⟨hf, hq⟩ := h4
      subst hf
      exact ⟨_, rep_less hr (by simp [g2, g3]), hq⟩
    · exact h0.elim
  · intro s w hj
    have hb := hround s w hj
    rw [← hcc]
    have e1 := body_base_clone_L1 f s w (fun f1 s1 w1 => f1 = f ∧ J s1 w1 ∧ μ s1 w1 < μ s w) (fun f1 w1 => f1 = f ∧ Q (.exit 0) [⟨2, .pointer (some f.1), none⟩, ⟨3, .pointer (some f.2.1), none⟩] w1)
    simp only [true_and] at e1
    exact cast e1 hb

theorem loops_base_clone : LoopOk Tryz.prog Tryz.f50.ntmps G_base_clone (codeOf Tryz.f50) := loopOk_list rfl ⟨ok_base_clone_L1, trivial⟩

theorem C_base_clone.of {t0 : Int} {t1 : Int} {t2 : ByteArray} {t3P : Option Addr} {t3N : Nat} {t3C : Nat} {w : World} {R : Int → Int → ByteArray → Option Addr → Nat → Nat → World → Prop} (h : F_base_clone t0 t1 t2 t3P t3N t3C w R) : C_base_clone t0 t1 t2 t3P t3N t3C w R := ofS15 (Fm := F_base_clone t0 t1 t2 t3P t3N t3C w) Tryz.func50 (by kernel_rfl) loops_base_clone rfl (fun _ => by kernel_rfl) h

def F_index_Table_behind_k1 (R : Int → Bool → World → Prop) (a_2 : Addr) (w1_25 : World) : Prop :=
  ∃ idx_3 : Int, w1_25.cell? (a_2.add 1) = some (.int .i64 idx_3) ∧
  R idx_3 true w1_25

def F_index_Table_behind_k2 (t : Option Addr) (rank : Int) (R : Int → Bool → World → Prop) (a_2 : Addr) (isx : Bool) (w1_19 : World) : Prop :=
  NN t fun a_3 =>
  ∃ rows_1 : Option Nat, w1_19.cell? (a_3.add 0) = some (.map rows_1) ∧
  Run Tryz.prog (Instr.lookup 94 (.map rows_1) (.agg #[.int .i64 0, .string ⟨#[]⟩, .int .i64 0]) false) w1_19 fun v_2 w1_20 => ∃ t46P : Option Addr, ∃ t46N : Nat, ∃ t46C : Nat, v_2 = (.slice t46P t46N t46C) ∧
  C_index_row_after t46P t46N t46C rank w1_20 fun t4800 t4801 t481 w1_21 =>
  New w1_21 (.cells #[.int .i64 0, .int .i64 0] 105) fun r_5 w1_22 =>
  St w1_22 ((⟨r_5, 0, none⟩ : Addr).add 0) (.int .i64 t4800) fun w1_23 =>
  St w1_23 ((⟨r_5, 0, none⟩ : Addr).add 1) (.int .i64 t4801) fun w1_24 =>
  If (!isx)
  (∃ idx_1 : Int, w1_24.cell? ((⟨r_5, 0, none⟩ : Addr).add 1) = some (.int .i64 idx_1) ∧
  R idx_1 t481 w1_24)
  (If t481
  (∃ rank_1 : Int, w1_24.cell? ((⟨r_5, 0, none⟩ : Addr).add 0) = some (.int .i64 rank_1) ∧
  ∃ rank_2 : Int, w1_24.cell? (a_2.add 0) = some (.int .i64 rank_2) ∧
  If (decide (rank_1 < rank_2))
  (∃ idx_2 : Int, w1_24.cell? ((⟨r_5, 0, none⟩ : Addr).add 1) = some (.int .i64 idx_2) ∧
  R idx_2 t481 w1_24)
  (F_index_Table_behind_k1 R a_2 w1_24))
  (F_index_Table_behind_k1 R a_2 w1_24))

def F_index_Table_behind (t : Option Addr) (rank : Int) (k0x : Int) (k1x : ByteArray) (k2x : Int) (w : World) (R : Int → Bool → World → Prop) : Prop :=
  New w (.cells #[.int .i64 k0x, .string k1x, .int .i64 k2x] 30) fun r w1 =>
  ∃ Kind : Int, w1.cell? ((⟨r, 0, none⟩ : Addr).add 0) = some (.int .i64 Kind) ∧
  If (Kind == (0 : Int))
  (NN t fun a =>
  ∃ allP : Option Addr, ∃ allN : Nat, ∃ allC : Nat, w1.cell? (a.add 1) = some (.slice allP allN allC) ∧
  C_index_row_after allP allN allC rank w1 fun t2300 t2301 t231 w1_1 =>
  New w1_1 (.cells #[.int .i64 0, .int .i64 0] 105) fun r_1 w1_2 =>
  St w1_2 ((⟨r_1, 0, none⟩ : Addr).add 0) (.int .i64 t2300) fun w1_3 =>
  St w1_3 ((⟨r_1, 0, none⟩ : Addr).add 1) (.int .i64 t2301) fun w1_4 =>
  ∃ idx : Int, w1_4.cell? ((⟨r_1, 0, none⟩ : Addr).add 1) = some (.int .i64 idx) ∧
  R idx t231 w1_4)
  (NN t fun a_1 =>
  ∃ rows : Option Nat, (drw w1).cell? (a_1.add 0) = some (.map rows) ∧
  ∃ t340 : Int, (drw w1).cell? ((⟨r, 0, none⟩ : Addr).add 0) = some (.int .i64 t340) ∧
  ∃ t341 : ByteArray, (drw w1).cell? ((⟨r, 0, none⟩ : Addr).add 1) = some (.string t341) ∧
  ∃ t342 : Int, (drw w1).cell? ((⟨r, 0, none⟩ : Addr).add 2) = some (.int .i64 t342) ∧
  (Run Tryz.prog (Instr.lookup 94 (.map rows) (.agg #[.int .i64 t340, .string t341, .int .i64 t342]) false) (drw w1) fun v w1_5 => ∃ t35P : Option Addr, ∃ t35N : Nat, ∃ t35C : Nat, v = (.slice t35P t35N t35C) ∧
  (C_index_row_after t35P t35N t35C rank w1_5 fun t3700 t3701 t371 w1_6 =>
  New w1_6 (.cells #[.int .i64 0, .int .i64 0] 105) fun r_2 w1_7 =>
  St w1_7 ((⟨r_2, 0, none⟩ : Addr).add 0) (.int .i64 t3700) fun w1_8 =>
  St w1_8 ((⟨r_2, 0, none⟩ : Addr).add 1) (.int .i64 t3701) fun w1_9 =>
  F_index_Table_behind_k2 t rank R ⟨r_2, 0, none⟩ t371 w1_9) ∧
  (New w1_5 (.cells #[.int .i64 0, .int .i64 0] 105) fun r_3 w1_10 =>
  C_index_row_after t35P t35N t35C rank w1_10 fun t3700_1 t3701_1 t371_1 w1_11 =>
  St w1_11 ((⟨r_3, 0, none⟩ : Addr).add 0) (.int .i64 t3700_1) fun w1_12 =>
  St w1_12 ((⟨r_3, 0, none⟩ : Addr).add 1) (.int .i64 t3701_1) fun w1_13 =>
  F_index_Table_behind_k2 t rank R ⟨r_3, 0, none⟩ t371_1 w1_13)) ∧
  (New (drw w1) (.cells #[.int .i64 0, .int .i64 0] 105) fun r_4 w1_14 =>
  (∀ i_, i_ < 3 → w1_14.cell? ((⟨r, 0, none⟩ : Addr).add i_) = (drw w1).cell? ((⟨r, 0, none⟩ : Addr).add i_)) ∧
  w1_14.cell? (a_1.add 0) = (drw w1).cell? (a_1.add 0) ∧
  Run Tryz.prog (Instr.lookup 94 (.map rows) (.agg #[.int .i64 t340, .string t341, .int .i64 t342]) false) w1_14 fun v_1 w1_15 => ∃ t35P_1 : Option Addr, ∃ t35N_1 : Nat, ∃ t35C_1 : Nat, v_1 = (.slice t35P_1 t35N_1 t35C_1) ∧
  C_index_row_after t35P_1 t35N_1 t35C_1 rank w1_15 fun t3700_2 t3701_2 t371_2 w1_16 =>
  St w1_16 ((⟨r_4, 0, none⟩ : Addr).add 0) (.int .i64 t3700_2) fun w1_17 =>
  St w1_17 ((⟨r_4, 0, none⟩ : Addr).add 1) (.int .i64 t3701_2) fun w1_18 =>
  F_index_Table_behind_k2 t rank R ⟨r_4, 0, none⟩ t371_2 w1_18))

def G_index_Table_behind : Gen where
  loop := lookL []
  plan := fun id =>
    bif Nat.beq id 4 then some ([0, 1, 3, 7, 0, 31, 0, 127, 255, 511, 511, 0, 3071, 8191], .take 0 (.take 1 (.take 2 (.take 3 (.take 4 (.take 6 (.both 5 (.both 7 (.take 8 (.take 9 (.take 10 (.take 11 (.take 12 (.take 13 .done)))))) 11 (.take 7 (.take 8 (.take 9 (.take 10 (.take 12 (.take 13 .done))))))) 11 (.take 5 (.take 7 (.take 8 (.take 9 (.take 10 (.take 12 (.take 13 .done)))))))))))))) else none

theorem loops_index_Table_behind : LoopOk Tryz.prog Tryz.f51.ntmps G_index_Table_behind (codeOf Tryz.f51) := loopOk_none fun _ => rfl

theorem C_index_Table_behind.of {t : Option Addr} {rank : Int} {k0x : Int} {k1x : ByteArray} {k2x : Int} {w : World} {R : Int → Bool → World → Prop} (h : F_index_Table_behind t rank k0x k1x k2x w R) : C_index_Table_behind t rank k0x k1x k2x w R := ofS4 (Fm := F_index_Table_behind t rank k0x k1x k2x w) Tryz.func51 (by kernel_rfl) loops_index_Table_behind rfl (fun _ => by kernel_rfl) h

def F_ref06_Comp (sx : ByteArray) (lP : Option Addr) (lN : Nat) (lC : Nat) (w : World) (R : Int → Int → ByteArray → Option Addr → Nat → Nat → World → Prop) : Prop :=
  New w (.cells #[.int .i64 0, .int .i64 0, .string ⟨#[]⟩, .slice none 0 0] 24) fun r w1 =>
  If ((lN : Int) == (0 : Int))
  (C_ref06_Atom sx w1 fun t90 t91 t92 t93P t93N t93C w1_1 =>
  St w1_1 ((⟨r, 0, none⟩ : Addr).add 0) (.int .i64 t90) fun w1_2 =>
  St w1_2 ((⟨r, 0, none⟩ : Addr).add 1) (.int .i64 t91) fun w1_3 =>
  St w1_3 ((⟨r, 0, none⟩ : Addr).add 2) (.string t92) fun w1_4 =>
  St w1_4 ((⟨r, 0, none⟩ : Addr).add 3) (.slice t93P t93N t93C) fun w1_5 =>
  ∃ r_1 : Int, w1_5.cell? ((⟨r, 0, none⟩ : Addr).add 0) = some (.int .i64 r_1) ∧
  ∃ r_2 : Int, w1_5.cell? ((⟨r, 0, none⟩ : Addr).add 1) = some (.int .i64 r_2) ∧
  ∃ r_3 : ByteArray, w1_5.cell? ((⟨r, 0, none⟩ : Addr).add 2) = some (.string r_3) ∧
  ∃ rP : Option Addr, ∃ rN : Nat, ∃ rC : Nat, w1_5.cell? ((⟨r, 0, none⟩ : Addr).add 3) = some (.slice rP rN rC) ∧
  R r_1 r_2 r_3 rP rN rC w1_5)
  (BSl Tryz.prog 22 0 [] w1 fun t11P t11N t11C w1_6 =>
  App Tryz.prog #[22, 22] 22 #[.slice t11P t11N t11C, .slice lP lN lC] w1_6 fun t13P t13N t13C w1_7 =>
  St w1_7 ((⟨r, 0, none⟩ : Addr).add 0) (.int .i64 4) fun w1_8 =>
  St w1_8 ((⟨r, 0, none⟩ : Addr).add 1) (.int .i64 0) fun w1_9 =>
  St w1_9 ((⟨r, 0, none⟩ : Addr).add 2) (.string sx) fun w1_10 =>
  St w1_10 ((⟨r, 0, none⟩ : Addr).add 3) (.slice t13P t13N t13C) fun w1_11 =>
  ∃ r_4 : Int, w1_11.cell? ((⟨r, 0, none⟩ : Addr).add 0) = some (.int .i64 r_4) ∧
  ∃ r_5 : Int, w1_11.cell? ((⟨r, 0, none⟩ : Addr).add 1) = some (.int .i64 r_5) ∧
  ∃ r_6 : ByteArray, w1_11.cell? ((⟨r, 0, none⟩ : Addr).add 2) = some (.string r_6) ∧
  ∃ rP_1 : Option Addr, ∃ rN_1 : Nat, ∃ rC_1 : Nat, w1_11.cell? ((⟨r, 0, none⟩ : Addr).add 3) = some (.slice rP_1 rN_1 rC_1) ∧
  R r_4 r_5 r_6 rP_1 rN_1 rC_1 w1_11)

def G_ref06_Comp : Gen where
  loop := lookL []
  plan := fun _ => none

theorem loops_ref06_Comp : LoopOk Tryz.prog Tryz.f52.ntmps G_ref06_Comp (codeOf Tryz.f52) := loopOk_none fun _ => rfl

theorem C_ref06_Comp.of {sx : ByteArray} {lP : Option Addr} {lN : Nat} {lC : Nat} {w : World} {R : Int → Int → ByteArray → Option Addr → Nat → Nat → World → Prop} (h : F_ref06_Comp sx lP lN lC w R) : C_ref06_Comp sx lP lN lC w R := ofS15 (Fm := F_ref06_Comp sx lP lN lC w) Tryz.func52 (by kernel_rfl) loops_ref06_Comp rfl (fun _ => by kernel_rfl) h

def F_ref06_Int (n : Int) (w : World) (R : Int → Int → ByteArray → Option Addr → Nat → Nat → World → Prop) : Prop :=
  New w (.cells #[.int .i64 0, .int .i64 0, .string ⟨#[]⟩, .slice none 0 0] 24) fun r w1 =>
  St w1 ((⟨r, 0, none⟩ : Addr).add 0) (.int .i64 2) fun w1_1 =>
  St w1_1 ((⟨r, 0, none⟩ : Addr).add 1) (.int .i64 n) fun w1_2 =>
  St w1_2 ((⟨r, 0, none⟩ : Addr).add 2) (.string ⟨#[]⟩) fun w1_3 =>
  St w1_3 ((⟨r, 0, none⟩ : Addr).add 3) (.slice none 0 0) fun w1_4 =>
  ∃ r_1 : Int, w1_4.cell? ((⟨r, 0, none⟩ : Addr).add 0) = some (.int .i64 r_1) ∧
  ∃ r_2 : Int, w1_4.cell? ((⟨r, 0, none⟩ : Addr).add 1) = some (.int .i64 r_2) ∧
  ∃ r_3 : ByteArray, w1_4.cell? ((⟨r, 0, none⟩ : Addr).add 2) = some (.string r_3) ∧
  ∃ rP : Option Addr, ∃ rN : Nat, ∃ rC : Nat, w1_4.cell? ((⟨r, 0, none⟩ : Addr).add 3) = some (.slice rP rN rC) ∧
  R r_1 r_2 r_3 rP rN rC w1_4

def G_ref06_Int : Gen where
  loop := lookL []
  plan := fun _ => none

theorem loops_ref06_Int : LoopOk Tryz.prog Tryz.f53.ntmps G_ref06_Int (codeOf Tryz.f53) := loopOk_none fun _ => rfl

theorem C_ref06_Int.of {n : Int} {w : World} {R : Int → Int → ByteArray → Option Addr → Nat → Nat → World → Prop} (h : F_ref06_Int n w R) : C_ref06_Int n w R := ofS15 (Fm := F_ref06_Int n w) Tryz.func53 (by kernel_rfl) loops_ref06_Int rfl (fun _ => by kernel_rfl) h

structure S_index_Table_All_L1 where
  outP : Option Addr
  outN : Nat
  outC : Nat
  idx : Int
  isx : Bool

/-- One round. -/
def B_index_Table_All_L1 (t_1 : Option Addr) (k : Addr) (s : S_index_Table_All_L1) (w : World) (Kn : S_index_Table_All_L1 → World → Prop) (Kx0 : Option Addr → Nat → Nat → World → Prop) : Prop :=
  If s.isx
  (BSl Tryz.prog 65 1 [(0, .int .i64 s.idx)] w fun t17P t17N t17C w1_2 =>
  App Tryz.prog #[65, 65] 65 #[.slice s.outP s.outN s.outC, .slice t17P t17N t17C] w1_2 fun t18P t18N t18C w1_3 =>
  ∃ t220 : Int, w1_3.cell? (k.add 0) = some (.int .i64 t220) ∧
  ∃ t221 : ByteArray, w1_3.cell? (k.add 1) = some (.string t221) ∧
  ∃ t222 : Int, w1_3.cell? (k.add 2) = some (.int .i64 t222) ∧
  C_index_Table_Next t_1 (s.idx : Int) t220 t221 t222 w1_3 fun t230 t231 w1_4 =>
  Kn ⟨t18P, t18N, t18C, t230, t231⟩ w1_4)
  (Kx0 s.outP s.outN s.outC w)

def F_index_Table_All_L1 (t_1 : Option Addr) (k : Addr) (s : S_index_Table_All_L1) (w : World) (Kx0 : Option Addr → Nat → Nat → World → Prop) : Prop :=
  LoopS (fun s w Kn => B_index_Table_All_L1 t_1 k s w Kn Kx0) s w

def F_index_Table_All (t : Option Addr) (k0x : Int) (k1x : ByteArray) (k2x : Int) (w : World) (R : Option Addr → Nat → Nat → World → Prop) : Prop :=
  New w (.cells #[.int .i64 k0x, .string k1x, .int .i64 k2x] 30) fun r w1 =>
  ∃ t100 : Int, w1.cell? ((⟨r, 0, none⟩ : Addr).add 0) = some (.int .i64 t100) ∧
  ∃ t101 : ByteArray, w1.cell? ((⟨r, 0, none⟩ : Addr).add 1) = some (.string t101) ∧
  ∃ t102 : Int, w1.cell? ((⟨r, 0, none⟩ : Addr).add 2) = some (.int .i64 t102) ∧
  C_index_Table_Head t t100 t101 t102 w1 fun t110 t111 w1_1 =>
  F_index_Table_All_L1 t ⟨r, 0, none⟩ ⟨none, 0, 0, t110, t111⟩ w1_1
  (fun outP_2 outN_2 outC_2 w1_5 =>
  R outP_2 outN_2 outC_2 w1_5)

def lit_index_Table_All_L1 (f : (Option Addr) × Addr) (s : S_index_Table_All_L1) : Env := [⟨0, .pointer f.1, none⟩, ⟨3, .pointer (some f.2), none⟩, ⟨5, .slice s.outP s.outN s.outC, none⟩, ⟨6, .int .i64 s.idx, none⟩, ⟨7, .bool s.isx, none⟩]

def dec_index_Table_All_L1 (e : Env) (K : ((Option Addr) × Addr) → S_index_Table_All_L1 → Prop) : Prop :=
  oP e 0 fun t_1 =>
  oA e 3 fun k =>
  oS e 5 fun outP outN outC =>
  oI e 6 .i64 fun idx =>
  oB e 7 fun isx =>
    K (t_1, k) ⟨outP, outN, outC, idx, isx⟩

theorem dec_index_Table_All_L1_ok {N : Nat} (e : Env) (a : Act) (K : ((Option Addr) × Addr) → S_index_Table_All_L1 → Prop) (hr : Rep N a e) (h0 : dec_index_Table_All_L1 e K) : ∃ f s, K f s ∧ Rep N a (lit_index_Table_All_L1 f s) := by
  unfold dec_index_Table_All_L1 at h0
  obtain ⟨t_1, g0, h1⟩ := oP_elim h0
  obtain ⟨k, g3, h2⟩ := oA_elim h1
  obtain ⟨outP, outN, outC, g5, h3⟩ := oS_elim h2
  obtain ⟨idx, g6, h4⟩ := oI_elim h3
  obtain ⟨isx, g7, h5⟩ := oB_elim h4
  exact ⟨_, _, h5, rep_less hr (by simp [lit_index_Table_All_L1, g0, g3, g5, g6, g7])⟩

def spec_index_Table_All_L1 (Q : Post) (e : Env) (w : World) : Prop :=
  dec_index_Table_All_L1 e fun f s => F_index_Table_All_L1 f.1 f.2 s w (fun outP_1 outN_1 outC_1 w1 => Q (.exit 0) [⟨5, .slice outP_1 outN_1 outC_1, none⟩] w1)

def G_index_Table_All : Gen where
  loop := lookL [([false, false, true, true, true], spec_index_Table_All_L1)]
  plan := fun _ => none

def dx_index_Table_All_L1_0 (e : Env) (K : ((Option Addr) × Addr) → Option Addr → Nat → Nat → Prop) : Prop :=
  oP e 0 fun t_1 =>
  oA e 3 fun k =>
  oS e 5 fun outP_1 outN_1 outC_1 =>
    K (t_1, k) outP_1 outN_1 outC_1

theorem body_index_Table_All_L1 (f : (Option Addr) × Addr) (s : S_index_Table_All_L1) (w : World) (Kn : ((Option Addr) × Addr) → S_index_Table_All_L1 → World → Prop) (Kx0 : ((Option Addr) × Addr) → Option Addr → Nat → Nat → World → Prop) :
    B_index_Table_All_L1 f.1 f.2 s w (fun s1 w1 => Kn f s1 w1) (fun outP_1 outN_1 outC_1 w1 => Kx0 f outP_1 outN_1 outC_1 w1) =
    den Tryz.prog Tryz.f54.ntmps G_index_Table_All (sub (codeOf Tryz.f54) [false, false, false, true, true, true]) [false, false, false, true, true, true] (roundQ (fun e w => dec_index_Table_All_L1 e fun f s => Kn f s w) (fun e w => False) (fun id e w => match Nat.beq id 0 with | true => dx_index_Table_All_L1_0 e fun f outP_1 outN_1 outC_1 => Kx0 f outP_1 outN_1 outC_1 w | false => False)) (lit_index_Table_All_L1 f s) w := by kernel_rfl

theorem ok_index_Table_All_L1 : OneOk Tryz.prog Tryz.f54.ntmps G_index_Table_All (codeOf Tryz.f54) [false, false, true, true, true] spec_index_Table_All_L1 := by
  intro c hc ih Q e w a hr h
  have hcc : sub (codeOf Tryz.f54) [false, false, false, true, true, true] = c := sub_of_codeAt hc
  obtain ⟨f, s, h, hrep⟩ := dec_index_Table_All_L1_ok e a _ hr h
  obtain ⟨J, μ, hj, hround⟩ := h
  refine loop_rule_deep seat_ok seat_mixed ih lit_index_Table_All_L1 dec_index_Table_All_L1 dec_index_Table_All_L1_ok hc f J μ (Kr := fun e w => False) (Kx := fun id e w => match Nat.beq id 0 with | true => (dx_index_Table_All_L1_0 e fun f1 outP_1 outN_1 outC_1 => f1 = f ∧ Q (.exit 0) [⟨5, .slice outP_1 outN_1 outC_1, none⟩] w) | false => False) ?_ ?_ ?_ s w a hj hrep
  · intro e a w hr h
    exact h.elim
  · intro id e a w hr h0
    (try dsimp only at h0)
    split at h0
    · rename_i hid
      obtain rfl := Nat.eq_of_beq_eq_true hid
      unfold dx_index_Table_All_L1_0 at h0
      obtain ⟨t_1, g0, h1⟩ := oP_elim h0
      obtain ⟨k, g3, h2⟩ := oA_elim h1
      obtain ⟨outP_1, outN_1, outC_1, g5, h3⟩ := oS_elim h2
      obtain ⟨hf, hq⟩ := h3
      subst hf
      exact ⟨_, rep_less hr (by simp [g5]), hq⟩
    · exact h0.elim
  · intro s w hj
    have hb := hround s w hj
    rw [← hcc]
    have e1 := body_index_Table_All_L1 f s w (fun f1 s1 w1 => f1 = f ∧ J s1 w1 ∧ μ s1 w1 < μ s w) (fun f1 outP_1 outN_1 outC_1 w1 => f1 = f ∧ Q (.exit 0) [⟨5, .slice outP_1 outN_1 outC_1, none⟩] w1)
    simp only [true_and] at e1
    exact cast e1 hb

theorem loops_index_Table_All : LoopOk Tryz.prog Tryz.f54.ntmps G_index_Table_All (codeOf Tryz.f54) := loopOk_list rfl ⟨ok_index_Table_All_L1, trivial⟩

theorem C_index_Table_All.of {t : Option Addr} {k0x : Int} {k1x : ByteArray} {k2x : Int} {w : World} {R : Option Addr → Nat → Nat → World → Prop} (h : F_index_Table_All t k0x k1x k2x w R) : C_index_Table_All t k0x k1x k2x w R := ofS9 (Fm := F_index_Table_All t k0x k1x k2x w) Tryz.func54 (by kernel_rfl) loops_index_Table_All rfl (fun _ => by kernel_rfl) h

end Go.Proofs.YtlndgaijekihiaaGreat
