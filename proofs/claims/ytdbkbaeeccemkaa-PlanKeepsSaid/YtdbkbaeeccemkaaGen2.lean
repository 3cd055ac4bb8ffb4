/- The formulas of this seat's functions, held against the loaded program by the kernel. Printed by a program. -/
import Derived.Test.YtdbkbaeeccemkaaGenC
set_option maxRecDepth 100000
set_option linter.unusedVariables false
namespace Go.Proofs.Ytdbkbaeeccemkaa
open Go Go.D Go.Proofs

def F_ref06_Vars (t0 : Int) (t1 : Int) (t2 : ByteArray) (t3P : Option Addr) (t3N : Nat) (t3C : Nat) (w : World) (R : Option Addr → Nat → Nat → World → Prop) : Prop :=
  New w (.cells #[.int .i64 t0, .int .i64 t1, .string t2, .slice t3P t3N t3C] 24) fun r w1 =>
  ∃ t30 : Int, w1.cell? ((⟨r, 0, none⟩ : Addr).add 0) = some (.int .i64 t30) ∧
  ∃ t31 : Int, w1.cell? ((⟨r, 0, none⟩ : Addr).add 1) = some (.int .i64 t31) ∧
  ∃ t32 : ByteArray, w1.cell? ((⟨r, 0, none⟩ : Addr).add 2) = some (.string t32) ∧
  ∃ t33P : Option Addr, ∃ t33N : Nat, ∃ t33C : Nat, w1.cell? ((⟨r, 0, none⟩ : Addr).add 3) = some (.slice t33P t33N t33C) ∧
  C_ref06_vars t30 t31 t32 t33P t33N t33C none 0 0 w1 fun t4P t4N t4C w1_1 =>
  R t4P t4N t4C w1_1

def G_ref06_Vars : Gen where
  loop := lookL []
  plan := fun _ => none

theorem loops_ref06_Vars : LoopOk Try.prog Try.f8.ntmps G_ref06_Vars (codeOf Try.f8) := loopOk_none fun _ => rfl

theorem C_ref06_Vars.of {t0 : Int} {t1 : Int} {t2 : ByteArray} {t3P : Option Addr} {t3N : Nat} {t3C : Nat} {w : World} {R : Option Addr → Nat → Nat → World → Prop} (h : F_ref06_Vars t0 t1 t2 t3P t3N t3C w R) : C_ref06_Vars t0 t1 t2 t3P t3N t3C w R := ofS4 (Fm := F_ref06_Vars t0 t1 t2 t3P t3N t3C w) Try.func8 (by kernel_rfl) loops_ref06_Vars rfl (fun _ => by kernel_rfl) h

def F_plan_Chunk_k1 (R : Int → World → Prop) (w1_2 : World) : Prop :=
  R (-1) w1_2

def F_plan_Chunk (c0 : Int) (c1 : Int) (c2 : ByteArray) (c3P : Option Addr) (c3N : Nat) (c3C : Nat) (c4P : Option Addr) (c4N : Nat) (c4C : Nat) (c5 : Int) (goal : Int) (w : World) (R : Int → World → Prop) : Prop :=
  New w (.cells #[.int .i64 c0, .int .i64 c1, .string c2, .slice c3P c3N c3C, .slice c4P c4N c4C, .int .i64 c5] 27) fun r w1 =>
  ∃ t70 : Int, w1.cell? ((⟨r, 0, none⟩ : Addr).add 0) = some (.int .i64 t70) ∧
  ∃ t71 : Int, w1.cell? ((⟨r, 0, none⟩ : Addr).add 1) = some (.int .i64 t71) ∧
  ∃ t72 : ByteArray, w1.cell? ((⟨r, 0, none⟩ : Addr).add 2) = some (.string t72) ∧
  ∃ t73P : Option Addr, ∃ t73N : Nat, ∃ t73C : Nat, w1.cell? ((⟨r, 0, none⟩ : Addr).add 3) = some (.slice t73P t73N t73C) ∧
  ∃ t74P : Option Addr, ∃ t74N : Nat, ∃ t74C : Nat, w1.cell? ((⟨r, 0, none⟩ : Addr).add 4) = some (.slice t74P t74N t74C) ∧
  ∃ t75 : Int, w1.cell? ((⟨r, 0, none⟩ : Addr).add 5) = some (.int .i64 t75) ∧
  C_plan_may t70 t71 t72 t73P t73N t73C t74P t74N t74C t75 w1 fun t8 w1_1 =>
  If (t8 != (0 : Int))
  (F_plan_Chunk_k1 R w1_1)
  (If (decide (goal < (0 : Int)))
  (F_plan_Chunk_k1 R w1_1)
  (∃ GoalsP : Option Addr, ∃ GoalsN : Nat, ∃ GoalsC : Nat, w1_1.cell? ((⟨r, 0, none⟩ : Addr).add 4) = some (.slice GoalsP GoalsN GoalsC) ∧
  If (decide (goal ≥ (GoalsN : Int)))
  (R (-1) w1_1)
  (∃ GoalsP_1 : Option Addr, ∃ GoalsN_1 : Nat, ∃ GoalsC_1 : Nat, w1_1.cell? ((⟨r, 0, none⟩ : Addr).add 4) = some (.slice GoalsP_1 GoalsN_1 GoalsC_1) ∧
  0 ≤ goal ∧ goal ≤ (GoalsC_1 : Int) ∧
  C_plan_gather (0 : Int) (0 : Int) ⟨#[]⟩ none 0 0 GoalsP_1 goal.toNat GoalsC_1 (0 : Int) w1_1 fun t270 t271 w1_3 =>
  R t271 w1_3)))

def G_plan_Chunk : Gen where
  loop := lookL []
  plan := fun _ => none

theorem loops_plan_Chunk : LoopOk Try.prog Try.f9.ntmps G_plan_Chunk (codeOf Try.f9) := loopOk_none fun _ => rfl

theorem C_plan_Chunk.of {c0 : Int} {c1 : Int} {c2 : ByteArray} {c3P : Option Addr} {c3N : Nat} {c3C : Nat} {c4P : Option Addr} {c4N : Nat} {c4C : Nat} {c5 : Int} {goal : Int} {w : World} {R : Int → World → Prop} (h : F_plan_Chunk c0 c1 c2 c3P c3N c3C c4P c4N c4C c5 goal w R) : C_plan_Chunk c0 c1 c2 c3P c3N c3C c4P c4N c4C c5 goal w R := ofS5 (Fm := F_plan_Chunk c0 c1 c2 c3P c3N c3C c4P c4N c4C c5 goal w) Try.func9 (by kernel_rfl) loops_plan_Chunk rfl (fun _ => by kernel_rfl) h

structure S_law15_has_L1 where
  i : Int

/-- One round. -/
def B_law15_has_L1 (lP_1 : Option Addr) (lN_1 : Nat) (lC_1 : Nat) (n_1 : Int) (s : S_law15_has_L1) (w : World) (Kn : S_law15_has_L1 → World → Prop) (Kx0 : World → Prop) (Kr : Bool → World → Prop) : Prop :=
  If (decide ((s.i : Int) < (lN_1 : Int)))
  (0 ≤ (s.i : Int) ∧ (s.i : Int) < (lN_1 : Int) ∧ NN lP_1 fun a =>
  ∃ t15 : Int, w.cell? (a.add ((s.i : Int).toNat * 1)) = some (.int .i64 t15) ∧
  If (t15 == n_1)
  (Kr true w)
  (Kn ⟨(IntKind.i64.wrap ((s.i : Int) + (1 : Int)))⟩ w))
  (Kx0 w)

def F_law15_has_L1 (lP_1 : Option Addr) (lN_1 : Nat) (lC_1 : Nat) (n_1 : Int) (s : S_law15_has_L1) (w : World) (Kx0 : World → Prop) (Kr : Bool → World → Prop) : Prop :=
  LoopS (fun s w Kn => B_law15_has_L1 lP_1 lN_1 lC_1 n_1 s w Kn Kx0 Kr) s w

def F_law15_has (lP : Option Addr) (lN : Nat) (lC : Nat) (n : Int) (w : World) (R : Bool → World → Prop) : Prop :=
  F_law15_has_L1 lP lN lC n ⟨(0 : Int)⟩ w
  (fun w1 =>
  R false w1)
  (fun t4_1 w1_1 =>
  R t4_1 w1_1)

def lit_law15_has_L1 (f : (Option Addr) × Nat × Nat × Int) (s : S_law15_has_L1) : Env := [⟨0, .slice f.1 f.2.1 f.2.2.1, none⟩, ⟨1, .int .i64 f.2.2.2, none⟩, ⟨5, .int .i64 s.i, none⟩]

def dec_law15_has_L1 (e : Env) (K : ((Option Addr) × Nat × Nat × Int) → S_law15_has_L1 → Prop) : Prop :=
  oS e 0 fun lP_1 lN_1 lC_1 =>
  oI e 1 .i64 fun n_1 =>
  oI e 5 .i64 fun i =>
    K (lP_1, lN_1, lC_1, n_1) ⟨i⟩

theorem dec_law15_has_L1_ok {N : Nat} (e : Env) (a : Act) (K : ((Option Addr) × Nat × Nat × Int) → S_law15_has_L1 → Prop) (hr : Rep N a e) (h0 : dec_law15_has_L1 e K) : ∃ f s, K f s ∧ Rep N a (lit_law15_has_L1 f s) := by
  unfold dec_law15_has_L1 at h0
  obtain ⟨lP_1, lN_1, lC_1, g0, h1⟩ := oS_elim h0
  obtain ⟨n_1, g1, h2⟩ := oI_elim h1
  obtain ⟨i, g5, h3⟩ := oI_elim h2
  exact ⟨_, _, h3, rep_less hr (by simp [lit_law15_has_L1, g0, g1, g5])⟩

def spec_law15_has_L1 (Q : Post) (e : Env) (w : World) : Prop :=
  dec_law15_has_L1 e fun f s => F_law15_has_L1 f.1 f.2.1 f.2.2.1 f.2.2.2 s w (fun w1 => Q (.exit 0) [] w1) (fun t4 w1 => Q .ret [⟨4, .bool t4, none⟩] w1)

def G_law15_has : Gen where
  loop := lookL [([false, true, false, true], spec_law15_has_L1)]
  plan := fun _ => none

def dx_law15_has_L1_0 (e : Env) (K : ((Option Addr) × Nat × Nat × Int) → Prop) : Prop :=
  oS e 0 fun lP_1 lN_1 lC_1 =>
  oI e 1 .i64 fun n_1 =>
    K (lP_1, lN_1, lC_1, n_1)

def dx_law15_has_L1_ret (e : Env) (K : ((Option Addr) × Nat × Nat × Int) → Bool → Prop) : Prop :=
  oS e 0 fun lP_1 lN_1 lC_1 =>
  oI e 1 .i64 fun n_1 =>
  oB e 4 fun t4 =>
    K (lP_1, lN_1, lC_1, n_1) t4

theorem body_law15_has_L1 (f : (Option Addr) × Nat × Nat × Int) (s : S_law15_has_L1) (w : World) (Kn : ((Option Addr) × Nat × Nat × Int) → S_law15_has_L1 → World → Prop) (Kx0 : ((Option Addr) × Nat × Nat × Int) → World → Prop) (Kr : ((Option Addr) × Nat × Nat × Int) → Bool → World → Prop) :
    B_law15_has_L1 f.1 f.2.1 f.2.2.1 f.2.2.2 s w (fun s1 w1 => Kn f s1 w1) (fun w1 => Kx0 f w1) (fun t4 w1 => Kr f t4 w1) =
    den Try.prog Try.f10.ntmps G_law15_has (sub (codeOf Try.f10) [false, false, true, false, true]) [false, false, true, false, true] (roundQ (fun e w => dec_law15_has_L1 e fun f s => Kn f s w) (fun e w => dx_law15_has_L1_ret e fun f t4 => Kr f t4 w) (fun id e w => match Nat.beq id 0 with | true => dx_law15_has_L1_0 e fun f => Kx0 f w | false => False)) (lit_law15_has_L1 f s) w := by kernel_rfl

theorem ok_law15_has_L1 : OneOk Try.prog Try.f10.ntmps G_law15_has (codeOf Try.f10) [false, true, false, true] spec_law15_has_L1 := by
  intro c hc ih Q e w a hr h
  have hcc : sub (codeOf Try.f10) [false, false, true, false, true] = c := sub_of_codeAt hc
  obtain ⟨f, s, h, hrep⟩ := dec_law15_has_L1_ok e a _ hr h
  obtain ⟨J, μ, hj, hround⟩ := h
  refine loop_rule_deep seat_ok seat_mixed ih lit_law15_has_L1 dec_law15_has_L1 dec_law15_has_L1_ok hc f J μ (Kr := fun e w => dx_law15_has_L1_ret e fun f1 t4 => f1 = f ∧ Q .ret [⟨4, .bool t4, none⟩] w) (Kx := fun id e w => match Nat.beq id 0 with | true => (dx_law15_has_L1_0 e fun f1 => f1 = f ∧ Q (.exit 0) [] w) | false => False) ?_ ?_ ?_ s w a hj hrep
  · intro e a w hr h0
    unfold dx_law15_has_L1_ret at h0
    obtain ⟨lP_1, lN_1, lC_1, g0, h1⟩ := oS_elim h0
    obtain ⟨n_1, g1, h2⟩ := oI_elim h1
    obtain ⟨t4, g4, h3⟩ := oB_elim h2
    obtain ⟨hf, hq⟩ := h3
    subst hf
    exact ⟨_, rep_less hr (by simp [g4]), hq⟩
  · intro id e a w hr h0
    (try dsimp only at h0)
    split at h0
    · rename_i hid
      obtain rfl := Nat.eq_of_beq_eq_true hid
      unfold dx_law15_has_L1_0 at h0
      obtain ⟨lP_1, lN_1, lC_1, g0, h1⟩ := oS_elim h0
      obtain ⟨n_1, g1, h2⟩ := oI_elim h1
      obtain ⟨hf, hq⟩ := h2
      subst hf
      exact ⟨_, rep_less hr (by simp), hq⟩
    · exact h0.elim
  · intro s w hj
    have hb := hround s w hj
    rw [← hcc]
    have e1 := body_law15_has_L1 f s w (fun f1 s1 w1 => f1 = f ∧ J s1 w1 ∧ μ s1 w1 < μ s w) (fun f1 w1 => f1 = f ∧ Q (.exit 0) [] w1) (fun f1 t4 w1 => f1 = f ∧ Q .ret [⟨4, .bool t4, none⟩] w1)
    simp only [true_and] at e1
    exact cast e1 hb

theorem loops_law15_has : LoopOk Try.prog Try.f10.ntmps G_law15_has (codeOf Try.f10) := loopOk_list rfl ⟨ok_law15_has_L1, trivial⟩

theorem C_law15_has.of {lP : Option Addr} {lN : Nat} {lC : Nat} {n : Int} {w : World} {R : Bool → World → Prop} (h : F_law15_has lP lN lC n w R) : C_law15_has lP lN lC n w R := ofS2 (Fm := F_law15_has lP lN lC n w) Try.func10 (by kernel_rfl) loops_law15_has rfl (fun _ => by kernel_rfl) h

structure S_law15_ahead_L1 where
  gx : Int

def F_law15_ahead_k2 (s : S_law15_ahead_L1) (Kn : S_law15_ahead_L1 → World → Prop) (w1_8 : World) : Prop :=
  Kn ⟨(IntKind.i64.wrap ((s.gx : Int) + (1 : Int)))⟩ w1_8

def F_law15_ahead_k1 (s : S_law15_ahead_L1) (Kn : S_law15_ahead_L1 → World → Prop) (w1_7 : World) : Prop :=
  F_law15_ahead_k2 s Kn w1_7

/-- One round. -/
def B_law15_ahead_L1 (goal_1 : Int) (n_1 : Int) (cx : Addr) (s : S_law15_ahead_L1) (w : World) (Kn : S_law15_ahead_L1 → World → Prop) (Kx0 : World → Prop) (Kr : Bool → World → Prop) : Prop :=
  If (decide ((s.gx : Int) < goal_1))
  (∃ GoalsP : Option Addr, ∃ GoalsN : Nat, ∃ GoalsC : Nat, (drw w).cell? (cx.add 4) = some (.slice GoalsP GoalsN GoalsC) ∧
  0 ≤ (s.gx : Int) ∧ (s.gx : Int) < (GoalsN : Int) ∧ NN GoalsP fun a =>
  ∃ Kind : Int, (drw w).cell? ((a.add ((s.gx : Int).toNat * 5)).add 0) = some (.int .i64 Kind) ∧
  If (Kind != (2 : Int))
  (∃ t260 : Int, (drw w).cell? (cx.add 0) = some (.int .i64 t260) ∧
  ∃ t261 : Int, (drw w).cell? (cx.add 1) = some (.int .i64 t261) ∧
  ∃ t262 : ByteArray, (drw w).cell? (cx.add 2) = some (.string t262) ∧
  ∃ t263P : Option Addr, ∃ t263N : Nat, ∃ t263C : Nat, (drw w).cell? (cx.add 3) = some (.slice t263P t263N t263C) ∧
  ∃ t264P : Option Addr, ∃ t264N : Nat, ∃ t264C : Nat, (drw w).cell? (cx.add 4) = some (.slice t264P t264N t264C) ∧
  ∃ t265 : Int, (drw w).cell? (cx.add 5) = some (.int .i64 t265) ∧
  ∃ t290 : Int, (drw w).cell? (cx.add 0) = some (.int .i64 t290) ∧
  ∃ t291 : Int, (drw w).cell? (cx.add 1) = some (.int .i64 t291) ∧
  ∃ t292 : ByteArray, (drw w).cell? (cx.add 2) = some (.string t292) ∧
  ∃ t293P : Option Addr, ∃ t293N : Nat, ∃ t293C : Nat, (drw w).cell? (cx.add 3) = some (.slice t293P t293N t293C) ∧
  ∃ t294P : Option Addr, ∃ t294N : Nat, ∃ t294C : Nat, (drw w).cell? (cx.add 4) = some (.slice t294P t294N t294C) ∧
  ∃ t295 : Int, (drw w).cell? (cx.add 5) = some (.int .i64 t295) ∧
  C_ref15_Chunk t260 t261 t262 t263P t263N t263C t264P t264N t264C t265 (s.gx : Int) (drw w) fun t28 w1_3 =>
  (∀ i_, i_ < 6 → w1_3.cell? (cx.add i_) = (drw w).cell? (cx.add i_)) ∧
  C_ref15_Chunk t290 t291 t292 t293P t293N t293C t294P t294N t294C t295 goal_1 w1_3 fun t31 w1_4 =>
  If (decide (t28 < t31))
  (∃ GoalsP_1 : Option Addr, ∃ GoalsN_1 : Nat, ∃ GoalsC_1 : Nat, w1_4.cell? (cx.add 4) = some (.slice GoalsP_1 GoalsN_1 GoalsC_1) ∧
  0 ≤ (s.gx : Int) ∧ (s.gx : Int) < (GoalsN_1 : Int) ∧ NN GoalsP_1 fun a_1 =>
  ∃ Term0 : Int, w1_4.cell? (((a_1.add ((s.gx : Int).toNat * 5)).add 1).add 0) = some (.int .i64 Term0) ∧
  ∃ Term1 : Int, w1_4.cell? (((a_1.add ((s.gx : Int).toNat * 5)).add 1).add 1) = some (.int .i64 Term1) ∧
  ∃ Term2 : ByteArray, w1_4.cell? (((a_1.add ((s.gx : Int).toNat * 5)).add 1).add 2) = some (.string Term2) ∧
  ∃ Term3P : Option Addr, ∃ Term3N : Nat, ∃ Term3C : Nat, w1_4.cell? (((a_1.add ((s.gx : Int).toNat * 5)).add 1).add 3) = some (.slice Term3P Term3N Term3C) ∧
  C_ref06_Vars Term0 Term1 Term2 Term3P Term3N Term3C w1_4 fun t41P t41N t41C w1_5 =>
  C_law15_has t41P t41N t41C n_1 w1_5 fun t43 w1_6 =>
  If t43
  (Kr true w1_6)
  (F_law15_ahead_k2 s Kn w1_6))
  (F_law15_ahead_k1 s Kn w1_4))
  (F_law15_ahead_k1 s Kn (drw w)))
  (Kx0 w)

def F_law15_ahead_L1 (goal_1 : Int) (n_1 : Int) (cx : Addr) (s : S_law15_ahead_L1) (w : World) (Kx0 : World → Prop) (Kr : Bool → World → Prop) : Prop :=
  LoopS (fun s w Kn => B_law15_ahead_L1 goal_1 n_1 cx s w Kn Kx0 Kr) s w

def F_law15_ahead (c0 : Int) (c1 : Int) (c2 : ByteArray) (c3P : Option Addr) (c3N : Nat) (c3C : Nat) (c4P : Option Addr) (c4N : Nat) (c4C : Nat) (c5 : Int) (goal : Int) (n : Int) (w : World) (R : Bool → World → Prop) : Prop :=
  New w (.cells #[.int .i64 c0, .int .i64 c1, .string c2, .slice c3P c3N c3C, .slice c4P c4N c4C, .int .i64 c5] 27) fun r w1 =>
  ∃ Head0 : Int, w1.cell? (((⟨r, 0, none⟩ : Addr).add 0).add 0) = some (.int .i64 Head0) ∧
  ∃ Head1 : Int, w1.cell? (((⟨r, 0, none⟩ : Addr).add 0).add 1) = some (.int .i64 Head1) ∧
  ∃ Head2 : ByteArray, w1.cell? (((⟨r, 0, none⟩ : Addr).add 0).add 2) = some (.string Head2) ∧
  ∃ Head3P : Option Addr, ∃ Head3N : Nat, ∃ Head3C : Nat, w1.cell? (((⟨r, 0, none⟩ : Addr).add 0).add 3) = some (.slice Head3P Head3N Head3C) ∧
  C_ref06_Vars Head0 Head1 Head2 Head3P Head3N Head3C w1 fun t10P t10N t10C w1_1 =>
  C_law15_has t10P t10N t10C n w1_1 fun t12 w1_2 =>
  If t12
  (R true w1_2)
  (F_law15_ahead_L1 goal n ⟨r, 0, none⟩ ⟨(0 : Int)⟩ w1_2
  (fun w1_9 =>
  R false w1_9)
  (fun t6_1 w1_10 =>
  R t6_1 w1_10))

def lit_law15_ahead_L1 (f : Int × Int × Addr) (s : S_law15_ahead_L1) : Env := [⟨1, .int .i64 f.1, none⟩, ⟨2, .int .i64 f.2.1, none⟩, ⟨3, .pointer (some f.2.2), none⟩, ⟨7, .int .i64 s.gx, none⟩]

def dec_law15_ahead_L1 (e : Env) (K : (Int × Int × Addr) → S_law15_ahead_L1 → Prop) : Prop :=
  oI e 1 .i64 fun goal_1 =>
  oI e 2 .i64 fun n_1 =>
  oA e 3 fun cx =>
  oI e 7 .i64 fun gx =>
    K (goal_1, n_1, cx) ⟨gx⟩

theorem dec_law15_ahead_L1_ok {N : Nat} (e : Env) (a : Act) (K : (Int × Int × Addr) → S_law15_ahead_L1 → Prop) (hr : Rep N a e) (h0 : dec_law15_ahead_L1 e K) : ∃ f s, K f s ∧ Rep N a (lit_law15_ahead_L1 f s) := by
  unfold dec_law15_ahead_L1 at h0
  obtain ⟨goal_1, g1, h1⟩ := oI_elim h0
  obtain ⟨n_1, g2, h2⟩ := oI_elim h1
  obtain ⟨cx, g3, h3⟩ := oA_elim h2
  obtain ⟨gx, g7, h4⟩ := oI_elim h3
  exact ⟨_, _, h4, rep_less hr (by simp [lit_law15_ahead_L1, g1, g2, g3, g7])⟩

def spec_law15_ahead_L1 (Q : Post) (e : Env) (w : World) : Prop :=
  dec_law15_ahead_L1 e fun f s => F_law15_ahead_L1 f.1 f.2.1 f.2.2 s w (fun w1 => Q (.exit 0) [] w1) (fun t6 w1 => Q .ret [⟨6, .bool t6, none⟩] w1)

def G_law15_ahead : Gen where
  loop := lookL [([false, true, false, true, true], spec_law15_ahead_L1)]
  plan := fun id =>
    bif Nat.beq id 6 then some ([0, 1, 0, 7, 15, 31, 63, 127, 255, 255, 1023, 255, 255, 8191, 16383, 32767, 65535, 131071, 262143, 131071, 1048575, 2097151, 4194303, 8388607, 131071, 33554431, 67108863], .take 0 (.take 1 (.take 2 (.take 3 (.take 4 (.take 5 (.take 6 (.take 7 (.take 8 (.take 9 (.take 11 (.take 12 (.take 10 (.take 13 (.take 14 (.take 15 (.take 16 (.take 17 (.take 18 (.take 19 (.take 20 (.take 21 (.take 22 (.take 24 (.take 23 (.take 25 (.take 26 .done))))))))))))))))))))))))))) else none

def dx_law15_ahead_L1_0 (e : Env) (K : (Int × Int × Addr) → Prop) : Prop :=
  oI e 1 .i64 fun goal_1 =>
  oI e 2 .i64 fun n_1 =>
  oA e 3 fun cx =>
    K (goal_1, n_1, cx)

def dx_law15_ahead_L1_ret (e : Env) (K : (Int × Int × Addr) → Bool → Prop) : Prop :=
  oI e 1 .i64 fun goal_1 =>
  oI e 2 .i64 fun n_1 =>
  oA e 3 fun cx =>
  oB e 6 fun t6 =>
    K (goal_1, n_1, cx) t6

theorem body_law15_ahead_L1 (f : Int × Int × Addr) (s : S_law15_ahead_L1) (w : World) (Kn : (Int × Int × Addr) → S_law15_ahead_L1 → World → Prop) (Kx0 : (Int × Int × Addr) → World → Prop) (Kr : (Int × Int × Addr) → Bool → World → Prop) :
    B_law15_ahead_L1 f.1 f.2.1 f.2.2 s w (fun s1 w1 => Kn f s1 w1) (fun w1 => Kx0 f w1) (fun t6 w1 => Kr f t6 w1) =
    den Try.prog Try.f11.ntmps G_law15_ahead (sub (codeOf Try.f11) [false, false, true, false, true, true]) [false, false, true, false, true, true] (roundQ (fun e w => dec_law15_ahead_L1 e fun f s => Kn f s w) (fun e w => dx_law15_ahead_L1_ret e fun f t6 => Kr f t6 w) (fun id e w => match Nat.beq id 0 with | true => dx_law15_ahead_L1_0 e fun f => Kx0 f w | false => False)) (lit_law15_ahead_L1 f s) w := by kernel_rfl

theorem ok_law15_ahead_L1 : OneOk Try.prog Try.f11.ntmps G_law15_ahead (codeOf Try.f11) [false, true, false, true, true] spec_law15_ahead_L1 := by
  intro c hc ih Q e w a hr h
  have hcc : sub (codeOf Try.f11) [false, false, true, false, true, true] = c := sub_of_codeAt hc
  obtain ⟨f, s, h, hrep⟩ := dec_law15_ahead_L1_ok e a _ hr h
  obtain ⟨J, μ, hj, hround⟩ := h
  refine loop_rule_deep seat_ok seat_mixed ih lit_law15_ahead_L1 dec_law15_ahead_L1 dec_law15_ahead_L1_ok hc f J μ (Kr := fun e w => dx_law15_ahead_L1_ret e fun f1 t6 => f1 = f ∧ Q .ret [⟨6, .bool t6, none⟩] w) (Kx := fun id e w => match Nat.beq id 0 with | true => (dx_law15_ahead_L1_0 e fun f1 => f1 = f ∧ Q (.exit 0) [] w) | false => False) ?_ ?_ ?_ s w a hj hrep
  · intro e a w hr h0
    unfold dx_law15_ahead_L1_ret at h0
    obtain ⟨goal_1, g1, h1⟩ := oI_elim h0
    obtain ⟨n_1, g2, h2⟩ := oI_elim h1
    obtain ⟨cx, g3, h3⟩ := oA_elim h2
    obtain ⟨t6, g6, h4⟩ := oB_elim h3
    obtain ⟨hf, hq⟩ := h4
    subst hf
    exact ⟨_, rep_less hr (by simp [g6]), hq⟩
  · intro id e a w hr h0
    (try dsimp only at h0)
    split at h0
    · rename_i hid
      obtain rfl := Nat.eq_of_beq_eq_true hid
      unfold dx_law15_ahead_L1_0 at h0
      obtain ⟨goal_1, g1, h1⟩ := oI_elim h0
      obtain ⟨n_1, g2, h2⟩ := oI_elim h1
      obtain ⟨cx, g3, h3⟩ := oA_elim h2
      obtain ⟨hf, hq⟩ := h3
      subst hf
      exact ⟨_, rep_less hr (by simp), hq⟩
    · exact h0.elim
  · intro s w hj
    have hb := hround s w hj
    rw [← hcc]
    have e1 := body_law15_ahead_L1 f s w (fun f1 s1 w1 => f1 = f ∧ J s1 w1 ∧ μ s1 w1 < μ s w) (fun f1 w1 => f1 = f ∧ Q (.exit 0) [] w1) (fun f1 t6 w1 => f1 = f ∧ Q .ret [⟨6, .bool t6, none⟩] w1)
    simp only [true_and] at e1
    exact cast e1 hb

theorem loops_law15_ahead : LoopOk Try.prog Try.f11.ntmps G_law15_ahead (codeOf Try.f11) := loopOk_list rfl ⟨ok_law15_ahead_L1, trivial⟩

theorem C_law15_ahead.of {c0 : Int} {c1 : Int} {c2 : ByteArray} {c3P : Option Addr} {c3N : Nat} {c3C : Nat} {c4P : Option Addr} {c4N : Nat} {c4C : Nat} {c5 : Int} {goal : Int} {n : Int} {w : World} {R : Bool → World → Prop} (h : F_law15_ahead c0 c1 c2 c3P c3N c3C c4P c4N c4C c5 goal n w R) : C_law15_ahead c0 c1 c2 c3P c3N c3C c4P c4N c4C c5 goal n w R := ofS2 (Fm := F_law15_ahead c0 c1 c2 c3P c3N c3C c4P c4N c4C c5 goal n w) Try.func11 (by kernel_rfl) loops_law15_ahead rfl (fun _ => by kernel_rfl) h

def F_ref06_Large (t0 : Int) (t1 : Int) (t2 : ByteArray) (t3P : Option Addr) (t3N : Nat) (t3C : Nat) (w : World) (R : Bool → World → Prop) : Prop :=
  New w (.cells #[.int .i64 t0, .int .i64 t1, .string t2, .slice t3P t3N t3C] 24) fun r w1 =>
  New w1 (.cells #[.int .i64 0] 3) fun r_1 w1_1 =>
  St w1_1 ((⟨r_1, 0, none⟩ : Addr).add 0) (.int .i64 0) fun w1_2 =>
  ∃ t40 : Int, w1_2.cell? ((⟨r, 0, none⟩ : Addr).add 0) = some (.int .i64 t40) ∧
  ∃ t41 : Int, w1_2.cell? ((⟨r, 0, none⟩ : Addr).add 1) = some (.int .i64 t41) ∧
  ∃ t42 : ByteArray, w1_2.cell? ((⟨r, 0, none⟩ : Addr).add 2) = some (.string t42) ∧
  ∃ t43P : Option Addr, ∃ t43N : Nat, ∃ t43C : Nat, w1_2.cell? ((⟨r, 0, none⟩ : Addr).add 3) = some (.slice t43P t43N t43C) ∧
  C_ref06_large t40 t41 t42 t43P t43N t43C (0 : Int) (some ⟨r_1, 0, none⟩) w1_2 fun t5 w1_3 =>
  R t5 w1_3

def G_ref06_Large : Gen where
  loop := lookL []
  plan := fun _ => none

theorem loops_ref06_Large : LoopOk Try.prog Try.f12.ntmps G_ref06_Large (codeOf Try.f12) := loopOk_none fun _ => rfl

theorem C_ref06_Large.of {t0 : Int} {t1 : Int} {t2 : ByteArray} {t3P : Option Addr} {t3N : Nat} {t3C : Nat} {w : World} {R : Bool → World → Prop} (h : F_ref06_Large t0 t1 t2 t3P t3N t3C w R) : C_ref06_Large t0 t1 t2 t3P t3N t3C w R := ofS2 (Fm := F_ref06_Large t0 t1 t2 t3P t3N t3C w) Try.func12 (by kernel_rfl) loops_ref06_Large rfl (fun _ => by kernel_rfl) h

structure S_ref06_Size_L1 where
  n : Int
  i : Int

/-- One round. -/
def B_ref06_Size_L1 (t : Addr) (s : S_ref06_Size_L1) (w : World) (Kn : S_ref06_Size_L1 → World → Prop) (Kx0 : Int → World → Prop) : Prop :=
  ∃ LP : Option Addr, ∃ LN : Nat, ∃ LC : Nat, w.cell? (t.add 3) = some (.slice LP LN LC) ∧
  If (decide ((s.i : Int) < (LN : Int)))
  (∃ LP_1 : Option Addr, ∃ LN_1 : Nat, ∃ LC_1 : Nat, w.cell? (t.add 3) = some (.slice LP_1 LN_1 LC_1) ∧
  0 ≤ (s.i : Int) ∧ (s.i : Int) < (LN_1 : Int) ∧ NN LP_1 fun a =>
  ∃ t170 : Int, w.cell? ((a.add ((s.i : Int).toNat * 4)).add 0) = some (.int .i64 t170) ∧
  ∃ t171 : Int, w.cell? ((a.add ((s.i : Int).toNat * 4)).add 1) = some (.int .i64 t171) ∧
  ∃ t172 : ByteArray, w.cell? ((a.add ((s.i : Int).toNat * 4)).add 2) = some (.string t172) ∧
  ∃ t173P : Option Addr, ∃ t173N : Nat, ∃ t173C : Nat, w.cell? ((a.add ((s.i : Int).toNat * 4)).add 3) = some (.slice t173P t173N t173C) ∧
  C_ref06_Size t170 t171 t172 t173P t173N t173C w fun t18 w1_1 =>
  Kn ⟨(IntKind.i64.wrap ((s.n : Int) + t18)), (IntKind.i64.wrap ((s.i : Int) + (1 : Int)))⟩ w1_1)
  (Kx0 (s.n : Int) w)

def F_ref06_Size_L1 (t : Addr) (s : S_ref06_Size_L1) (w : World) (Kx0 : Int → World → Prop) : Prop :=
  LoopS (fun s w Kn => B_ref06_Size_L1 t s w Kn Kx0) s w

def F_ref06_Size (t0 : Int) (t1 : Int) (t2 : ByteArray) (t3P : Option Addr) (t3N : Nat) (t3C : Nat) (w : World) (R : Int → World → Prop) : Prop :=
  New w (.cells #[.int .i64 t0, .int .i64 t1, .string t2, .slice t3P t3N t3C] 24) fun r w1 =>
  F_ref06_Size_L1 ⟨r, 0, none⟩ ⟨(1 : Int), (0 : Int)⟩ w1
  (fun n_2 w1_2 =>
  R n_2 w1_2)

def lit_ref06_Size_L1 (f : Addr) (s : S_ref06_Size_L1) : Env := [⟨1, .pointer (some f), none⟩, ⟨3, .int .i64 s.n, none⟩, ⟨4, .int .i64 s.i, none⟩]

def dec_ref06_Size_L1 (e : Env) (K : Addr → S_ref06_Size_L1 → Prop) : Prop :=
  oA e 1 fun t =>
  oI e 3 .i64 fun n =>
  oI e 4 .i64 fun i =>
    K (t) ⟨n, i⟩

theorem dec_ref06_Size_L1_ok {N : Nat} (e : Env) (a : Act) (K : Addr → S_ref06_Size_L1 → Prop) (hr : Rep N a e) (h0 : dec_ref06_Size_L1 e K) : ∃ f s, K f s ∧ Rep N a (lit_ref06_Size_L1 f s) := by
  unfold dec_ref06_Size_L1 at h0
  obtain ⟨t, g1, h1⟩ := oA_elim h0
  obtain ⟨n, g3, h2⟩ := oI_elim h1
  obtain ⟨i, g4, h3⟩ := oI_elim h2
  exact ⟨_, _, h3, rep_less hr (by simp [lit_ref06_Size_L1, g1, g3, g4])⟩

def spec_ref06_Size_L1 (Q : Post) (e : Env) (w : World) : Prop :=
  dec_ref06_Size_L1 e fun f s => F_ref06_Size_L1 f s w (fun n_1 w1 => Q (.exit 0) [⟨3, .int .i64 n_1, none⟩] w1)

def G_ref06_Size : Gen where
  loop := lookL [([false, true, false, true, true], spec_ref06_Size_L1)]
  plan := fun _ => none

def dx_ref06_Size_L1_0 (e : Env) (K : Addr → Int → Prop) : Prop :=
  oA e 1 fun t =>
  oI e 3 .i64 fun n_1 =>
    K (t) n_1

theorem body_ref06_Size_L1 (f : Addr) (s : S_ref06_Size_L1) (w : World) (Kn : Addr → S_ref06_Size_L1 → World → Prop) (Kx0 : Addr → Int → World → Prop) :
    B_ref06_Size_L1 f s w (fun s1 w1 => Kn f s1 w1) (fun n_1 w1 => Kx0 f n_1 w1) =
    den Try.prog Try.f13.ntmps G_ref06_Size (sub (codeOf Try.f13) [false, false, true, false, true, true]) [false, false, true, false, true, true] (roundQ (fun e w => dec_ref06_Size_L1 e fun f s => Kn f s w) (fun e w => False) (fun id e w => match Nat.beq id 0 with | true => dx_ref06_Size_L1_0 e fun f n_1 => Kx0 f n_1 w | false => False)) (lit_ref06_Size_L1 f s) w := by kernel_rfl

theorem ok_ref06_Size_L1 : OneOk Try.prog Try.f13.ntmps G_ref06_Size (codeOf Try.f13) [false, true, false, true, true] spec_ref06_Size_L1 := by
  intro c hc ih Q e w a hr h
  have hcc : sub (codeOf Try.f13) [false, false, true, false, true, true] = c := sub_of_codeAt hc
  obtain ⟨f, s, h, hrep⟩ := dec_ref06_Size_L1_ok e a _ hr h
  obtain ⟨J, μ, hj, hround⟩ := h
  refine loop_rule_deep seat_ok seat_mixed ih lit_ref06_Size_L1 dec_ref06_Size_L1 dec_ref06_Size_L1_ok hc f J μ (Kr := fun e w => False) (Kx := fun id e w => match Nat.beq id 0 with | true => (dx_ref06_Size_L1_0 e fun f1 n_1 => f1 = f ∧ Q (.exit 0) [⟨3, .int .i64 n_1, none⟩] w) | false => False) ?_ ?_ ?_ s w a hj hrep
  · intro e a w hr h
    exact h.elim
  · intro id e a w hr h0
    (try dsimp only at h0)
    split at h0
    · rename_i hid
      obtain rfl := Nat.eq_of_beq_eq_true hid
      unfold dx_ref06_Size_L1_0 at h0
      obtain ⟨t, g1, h1⟩ := oA_elim h0
      obtain ⟨n_1, g3, h2⟩ := oI_elim h1
      obtain ⟨hf, hq⟩ := h2
      subst hf
      exact ⟨_, rep_less hr (by simp [g3]), hq⟩
    · exact h0.elim
  · intro s w hj
    have hb := hround s w hj
    rw [← hcc]
    have e1 := body_ref06_Size_L1 f s w (fun f1 s1 w1 => f1 = f ∧ J s1 w1 ∧ μ s1 w1 < μ s w) (fun f1 n_1 w1 => f1 = f ∧ Q (.exit 0) [⟨3, .int .i64 n_1, none⟩] w1)
    simp only [true_and] at e1
    exact cast e1 hb

theorem loops_ref06_Size : LoopOk Try.prog Try.f13.ntmps G_ref06_Size (codeOf Try.f13) := loopOk_list rfl ⟨ok_ref06_Size_L1, trivial⟩

theorem C_ref06_Size.of {t0 : Int} {t1 : Int} {t2 : ByteArray} {t3P : Option Addr} {t3N : Nat} {t3C : Nat} {w : World} {R : Int → World → Prop} (h : F_ref06_Size t0 t1 t2 t3P t3N t3C w R) : C_ref06_Size t0 t1 t2 t3P t3N t3C w R := ofS5 (Fm := F_ref06_Size t0 t1 t2 t3P t3N t3C w) Try.func13 (by kernel_rfl) loops_ref06_Size rfl (fun _ => by kernel_rfl) h

def F_law15_One (w : World) (R : Int → Int → ByteArray → Option Addr → Nat → Nat → Option Addr → Nat → Nat → Int → World → Prop) : Prop :=
  New w (.cells #[.int .i64 0, .int .i64 0, .string ⟨#[]⟩, .slice none 0 0, .slice none 0 0, .int .i64 0] 27) fun r w1 =>
  BSl Try.prog 30 2 [(0, .int .i64 0), (1, .int .i64 1)] w1 fun t1P t1N t1C w1_1 =>
  C_law15_call ⟨#[112]⟩ t1P t1N t1C w1_1 fun t20 t21 t22 t23 t24P t24N t24C w1_2 =>
  BSl Try.prog 30 2 [(0, .int .i64 0), (1, .int .i64 2)] w1_2 fun t4P t4N t4C w1_3 =>
  C_law15_call ⟨#[113]⟩ t4P t4N t4C w1_3 fun t50 t51 t52 t53 t54P t54N t54C w1_4 =>
  BSl Try.prog 30 2 [(0, .int .i64 2), (1, .int .i64 1)] w1_4 fun t6P t6N t6C w1_5 =>
  C_law15_call ⟨#[114]⟩ t6P t6N t6C w1_5 fun t70 t71 t72 t73 t74P t74N t74C w1_6 =>
  BSl Try.prog 30 1 [(0, .int .i64 1)] w1_6 fun t8P t8N t8C w1_7 =>
  C_law15_call ⟨#[115]⟩ t8P t8N t8C w1_7 fun t90 t91 t92 t93 t94P t94N t94C w1_8 =>
  BSl Try.prog 25 3 [(0, .agg #[.int .i64 t50, .int .i64 t51, .int .i64 t52, .string t53, .slice t54P t54N t54C]), (1, .agg #[.int .i64 t70, .int .i64 t71, .int .i64 t72, .string t73, .slice t74P t74N t74C]), (2, .agg #[.int .i64 t90, .int .i64 t91, .int .i64 t92, .string t93, .slice t94P t94N t94C])] w1_8 fun t10P t10N t10C w1_9 =>
  St w1_9 ((⟨r, 0, none⟩ : Addr).add 0) (.int .i64 t21) fun w1_10 =>
  St w1_10 ((⟨r, 0, none⟩ : Addr).add 1) (.int .i64 t22) fun w1_11 =>
  St w1_11 ((⟨r, 0, none⟩ : Addr).add 2) (.string t23) fun w1_12 =>
  St w1_12 ((⟨r, 0, none⟩ : Addr).add 3) (.slice t24P t24N t24C) fun w1_13 =>
  St w1_13 ((⟨r, 0, none⟩ : Addr).add 4) (.slice t10P t10N t10C) fun w1_14 =>
  St w1_14 ((⟨r, 0, none⟩ : Addr).add 5) (.int .i64 3) fun w1_15 =>
  ∃ r_1 : Int, w1_15.cell? ((⟨r, 0, none⟩ : Addr).add 0) = some (.int .i64 r_1) ∧
  ∃ r_2 : Int, w1_15.cell? ((⟨r, 0, none⟩ : Addr).add 1) = some (.int .i64 r_2) ∧
  ∃ r_3 : ByteArray, w1_15.cell? ((⟨r, 0, none⟩ : Addr).add 2) = some (.string r_3) ∧
  ∃ rP : Option Addr, ∃ rN : Nat, ∃ rC : Nat, w1_15.cell? ((⟨r, 0, none⟩ : Addr).add 3) = some (.slice rP rN rC) ∧
  ∃ rP_1 : Option Addr, ∃ rN_1 : Nat, ∃ rC_1 : Nat, w1_15.cell? ((⟨r, 0, none⟩ : Addr).add 4) = some (.slice rP_1 rN_1 rC_1) ∧
  ∃ r_4 : Int, w1_15.cell? ((⟨r, 0, none⟩ : Addr).add 5) = some (.int .i64 r_4) ∧
  R r_1 r_2 r_3 rP rN rC rP_1 rN_1 rC_1 r_4 w1_15

def G_law15_One : Gen where
  loop := lookL []
  plan := fun _ => none

theorem loops_law15_One : LoopOk Try.prog Try.f14.ntmps G_law15_One (codeOf Try.f14) := loopOk_none fun _ => rfl

theorem C_law15_One.of {w : World} {R : Int → Int → ByteArray → Option Addr → Nat → Nat → Option Addr → Nat → Nat → Int → World → Prop} (h : F_law15_One w R) : C_law15_One w R := ofS6 (Fm := F_law15_One w) Try.func14 (by kernel_rfl) loops_law15_One rfl (fun _ => by kernel_rfl) h

def F_ref06_Atom (sx : ByteArray) (w : World) (R : Int → Int → ByteArray → Option Addr → Nat → Nat → World → Prop) : Prop :=
  New w (.cells #[.int .i64 0, .int .i64 0, .string ⟨#[]⟩, .slice none 0 0] 24) fun r w1 =>
  St w1 ((⟨r, 0, none⟩ : Addr).add 0) (.int .i64 3) fun w1_1 =>
  St w1_1 ((⟨r, 0, none⟩ : Addr).add 1) (.int .i64 0) fun w1_2 =>
  St w1_2 ((⟨r, 0, none⟩ : Addr).add 2) (.string sx) fun w1_3 =>
  St w1_3 ((⟨r, 0, none⟩ : Addr).add 3) (.slice none 0 0) fun w1_4 =>
  ∃ r_1 : Int, w1_4.cell? ((⟨r, 0, none⟩ : Addr).add 0) = some (.int .i64 r_1) ∧
  ∃ r_2 : Int, w1_4.cell? ((⟨r, 0, none⟩ : Addr).add 1) = some (.int .i64 r_2) ∧
  ∃ r_3 : ByteArray, w1_4.cell? ((⟨r, 0, none⟩ : Addr).add 2) = some (.string r_3) ∧
  ∃ rP : Option Addr, ∃ rN : Nat, ∃ rC : Nat, w1_4.cell? ((⟨r, 0, none⟩ : Addr).add 3) = some (.slice rP rN rC) ∧
  R r_1 r_2 r_3 rP rN rC w1_4

def G_ref06_Atom : Gen where
  loop := lookL []
  plan := fun _ => none

theorem loops_ref06_Atom : LoopOk Try.prog Try.f15.ntmps G_ref06_Atom (codeOf Try.f15) := loopOk_none fun _ => rfl

theorem C_ref06_Atom.of {sx : ByteArray} {w : World} {R : Int → Int → ByteArray → Option Addr → Nat → Nat → World → Prop} (h : F_ref06_Atom sx w R) : C_ref06_Atom sx w R := ofS7 (Fm := F_ref06_Atom sx w) Try.func15 (by kernel_rfl) loops_ref06_Atom rfl (fun _ => by kernel_rfl) h

structure S_law15_call_L1 where
  lP : Option Addr
  lN : Nat
  lC : Nat
  i : Int

/-- One round. -/
def B_law15_call_L1 (sx_1 : ByteArray) (varsP_1 : Option Addr) (varsN_1 : Nat) (varsC_1 : Nat) (t4 : Addr) (s : S_law15_call_L1) (w : World) (Kn : S_law15_call_L1 → World → Prop) (Kx0 : Option Addr → Nat → Nat → World → Prop) : Prop :=
  If (decide ((s.i : Int) < (varsN_1 : Int)))
  (0 ≤ (s.i : Int) ∧ (s.i : Int) < (varsN_1 : Int) ∧ NN varsP_1 fun a =>
  ∃ t17 : Int, w.cell? (a.add ((s.i : Int).toNat * 1)) = some (.int .i64 t17) ∧
  C_ref06_Var t17 w fun t180 t181 t182 t183P t183N t183C w1_1 =>
  BSl Try.prog 22 1 [(0, .agg #[.int .i64 t180, .int .i64 t181, .string t182, .slice t183P t183N t183C])] w1_1 fun t19P t19N t19C w1_2 =>
  App Try.prog #[22, 22] 22 #[.slice s.lP s.lN s.lC, .slice t19P t19N t19C] w1_2 fun t20P t20N t20C w1_3 =>
  Kn ⟨t20P, t20N, t20C, (IntKind.i64.wrap ((s.i : Int) + (1 : Int)))⟩ w1_3)
  (Kx0 s.lP s.lN s.lC w)

def F_law15_call_L1 (sx_1 : ByteArray) (varsP_1 : Option Addr) (varsN_1 : Nat) (varsC_1 : Nat) (t4 : Addr) (s : S_law15_call_L1) (w : World) (Kx0 : Option Addr → Nat → Nat → World → Prop) : Prop :=
  LoopS (fun s w Kn => B_law15_call_L1 sx_1 varsP_1 varsN_1 varsC_1 t4 s w Kn Kx0) s w

def F_law15_call (sx : ByteArray) (varsP : Option Addr) (varsN : Nat) (varsC : Nat) (w : World) (R : Int → Int → Int → ByteArray → Option Addr → Nat → Nat → World → Prop) : Prop :=
  New w (.cells #[.int .i64 0, .int .i64 0, .int .i64 0, .string ⟨#[]⟩, .slice none 0 0] 38) fun r w1 =>
  F_law15_call_L1 sx varsP varsN varsC ⟨r, 0, none⟩ ⟨none, 0, 0, (0 : Int)⟩ w1
  (fun lP_2 lN_2 lC_2 w1_4 =>
  C_ref06_Comp sx lP_2 lN_2 lC_2 w1_4 fun t230 t231 t232 t233P t233N t233C w1_5 =>
  St w1_5 ((⟨r, 0, none⟩ : Addr).add 0) (.int .i64 1) fun w1_6 =>
  St w1_6 ((⟨r, 0, none⟩ : Addr).add 1) (.int .i64 t230) fun w1_7 =>
  St w1_7 ((⟨r, 0, none⟩ : Addr).add 2) (.int .i64 t231) fun w1_8 =>
  St w1_8 ((⟨r, 0, none⟩ : Addr).add 3) (.string t232) fun w1_9 =>
  St w1_9 ((⟨r, 0, none⟩ : Addr).add 4) (.slice t233P t233N t233C) fun w1_10 =>
  ∃ r_1 : Int, w1_10.cell? ((⟨r, 0, none⟩ : Addr).add 0) = some (.int .i64 r_1) ∧
  ∃ r_2 : Int, w1_10.cell? ((⟨r, 0, none⟩ : Addr).add 1) = some (.int .i64 r_2) ∧
  ∃ r_3 : Int, w1_10.cell? ((⟨r, 0, none⟩ : Addr).add 2) = some (.int .i64 r_3) ∧
  ∃ r_4 : ByteArray, w1_10.cell? ((⟨r, 0, none⟩ : Addr).add 3) = some (.string r_4) ∧
  ∃ rP : Option Addr, ∃ rN : Nat, ∃ rC : Nat, w1_10.cell? ((⟨r, 0, none⟩ : Addr).add 4) = some (.slice rP rN rC) ∧
  R r_1 r_2 r_3 r_4 rP rN rC w1_10)

def lit_law15_call_L1 (f : ByteArray × (Option Addr) × Nat × Nat × Addr) (s : S_law15_call_L1) : Env := [⟨0, .string f.1, none⟩, ⟨1, .slice f.2.1 f.2.2.1 f.2.2.2.1, none⟩, ⟨4, .pointer (some f.2.2.2.2), none⟩, ⟨5, .slice s.lP s.lN s.lC, none⟩, ⟨6, .int .i64 s.i, none⟩]

def dec_law15_call_L1 (e : Env) (K : (ByteArray × (Option Addr) × Nat × Nat × Addr) → S_law15_call_L1 → Prop) : Prop :=
  oT e 0 fun sx_1 =>
  oS e 1 fun varsP_1 varsN_1 varsC_1 =>
  oA e 4 fun t4 =>
  oS e 5 fun lP lN lC =>
  oI e 6 .i64 fun i =>
    K (sx_1, varsP_1, varsN_1, varsC_1, t4) ⟨lP, lN, lC, i⟩

theorem dec_law15_call_L1_ok {N : Nat} (e : Env) (a : Act) (K : (ByteArray × (Option Addr) × Nat × Nat × Addr) → S_law15_call_L1 → Prop) (hr : Rep N a e) (h0 : dec_law15_call_L1 e K) : ∃ f s, K f s ∧ Rep N a (lit_law15_call_L1 f s) := by
  unfold dec_law15_call_L1 at h0
  obtain ⟨sx_1, g0, h1⟩ := oT_elim h0
  obtain ⟨varsP_1, varsN_1, varsC_1, g1, h2⟩ := oS_elim h1
  obtain ⟨t4, g4, h3⟩ := oA_elim h2
  obtain ⟨lP, lN, lC, g5, h4⟩ := oS_elim h3
  obtain ⟨i, g6, h5⟩ := oI_elim h4
  exact ⟨_, _, h5, rep_less hr (by simp [lit_law15_call_L1, g0, g1, g4, g5, g6])⟩

def spec_law15_call_L1 (Q : Post) (e : Env) (w : World) : Prop :=
  dec_law15_call_L1 e fun f s => F_law15_call_L1 f.1 f.2.1 f.2.2.1 f.2.2.2.1 f.2.2.2.2 s w (fun lP_1 lN_1 lC_1 w1 => Q (.exit 0) [⟨0, .string f.1, none⟩, ⟨4, .pointer (some f.2.2.2.2), none⟩, ⟨5, .slice lP_1 lN_1 lC_1, none⟩] w1)

def G_law15_call : Gen where
  loop := lookL [([false, true, false, true, true], spec_law15_call_L1)]
  plan := fun _ => none

def dx_law15_call_L1_0 (e : Env) (K : (ByteArray × (Option Addr) × Nat × Nat × Addr) → Option Addr → Nat → Nat → Prop) : Prop :=
  oT e 0 fun sx_1 =>
  oS e 1 fun varsP_1 varsN_1 varsC_1 =>
  oA e 4 fun t4 =>
  oS e 5 fun lP_1 lN_1 lC_1 =>
    K (sx_1, varsP_1, varsN_1, varsC_1, t4) lP_1 lN_1 lC_1

theorem body_law15_call_L1 (f : ByteArray × (Option Addr) × Nat × Nat × Addr) (s : S_law15_call_L1) (w : World) (Kn : (ByteArray × (Option Addr) × Nat × Nat × Addr) → S_law15_call_L1 → World → Prop) (Kx0 : (ByteArray × (Option Addr) × Nat × Nat × Addr) → Option Addr → Nat → Nat → World → Prop) :
    B_law15_call_L1 f.1 f.2.1 f.2.2.1 f.2.2.2.1 f.2.2.2.2 s w (fun s1 w1 => Kn f s1 w1) (fun lP_1 lN_1 lC_1 w1 => Kx0 f lP_1 lN_1 lC_1 w1) =
    den Try.prog Try.f16.ntmps G_law15_call (sub (codeOf Try.f16) [false, false, true, false, true, true]) [false, false, true, false, true, true] (roundQ (fun e w => dec_law15_call_L1 e fun f s => Kn f s w) (fun e w => False) (fun id e w => match Nat.beq id 0 with | true => dx_law15_call_L1_0 e fun f lP_1 lN_1 lC_1 => Kx0 f lP_1 lN_1 lC_1 w | false => False)) (lit_law15_call_L1 f s) w := by kernel_rfl

theorem ok_law15_call_L1 : OneOk Try.prog Try.f16.ntmps G_law15_call (codeOf Try.f16) [false, true, false, true, true] spec_law15_call_L1 := by
  intro c hc ih Q e w a hr h
  have hcc : sub (codeOf Try.f16) [false, false, true, false, true, true] = c := sub_of_codeAt hc
  obtain ⟨f, s, h, hrep⟩ := dec_law15_call_L1_ok e a _ hr h
  obtain ⟨J, μ, hj, hround⟩ := h
  refine loop_rule_deep seat_ok seat_mixed ih lit_law15_call_L1 dec_law15_call_L1 dec_law15_call_L1_ok hc f J μ (Kr := fun e w => False) (Kx := fun id e w => match Nat.beq id 0 with | true => (dx_law15_call_L1_0 e fun f1 lP_1 lN_1 lC_1 => f1 = f ∧ Q (.exit 0) [⟨0, .string f.1, none⟩, ⟨4, .pointer (some f.2.2.2.2), none⟩, ⟨5, .slice lP_1 lN_1 lC_1, none⟩] w) | false => False) ?_ ?_ ?_ s w a hj hrep
  · intro e a w hr h
    exact h.elim
  · intro id e a w hr h0
    (try dsimp only at h0)
    split at h0
    · rename_i hid
      obtain rfl := Nat.eq_of_beq_eq_true hid
      unfold dx_law15_call_L1_0 at h0
      obtain ⟨sx_1, g0, h1⟩ := oT_elim h0
      obtain ⟨varsP_1, varsN_1, varsC_1, g1, h2⟩ := oS_elim h1
      obtain ⟨t4, g4, h3⟩ := oA_elim h2
      obtain ⟨lP_1, lN_1, lC_1, g5, h4⟩ := oS_elim h3
      obtain ⟨hf, hq⟩ := h4
      subst hf
      exact ⟨_, rep_less hr (by simp [g0, g4, g5]), hq⟩
    · exact h0.elim
  · intro s w hj
    have hb := hround s w hj
    rw [← hcc]
    have e1 := body_law15_call_L1 f s w (fun f1 s1 w1 => f1 = f ∧ J s1 w1 ∧ μ s1 w1 < μ s w) (fun f1 lP_1 lN_1 lC_1 w1 => f1 = f ∧ Q (.exit 0) [⟨0, .string f.1, none⟩, ⟨4, .pointer (some f.2.2.2.2), none⟩, ⟨5, .slice lP_1 lN_1 lC_1, none⟩] w1)
    simp only [true_and] at e1
    exact cast e1 hb

theorem loops_law15_call : LoopOk Try.prog Try.f16.ntmps G_law15_call (codeOf Try.f16) := loopOk_list rfl ⟨ok_law15_call_L1, trivial⟩

theorem C_law15_call.of {sx : ByteArray} {varsP : Option Addr} {varsN : Nat} {varsC : Nat} {w : World} {R : Int → Int → Int → ByteArray → Option Addr → Nat → Nat → World → Prop} (h : F_law15_call sx varsP varsN varsC w R) : C_law15_call sx varsP varsN varsC w R := ofS8 (Fm := F_law15_call sx varsP varsN varsC w) Try.func16 (by kernel_rfl) loops_law15_call rfl (fun _ => by kernel_rfl) h

structure S_plan_Permanent_L1 where
  outP : Option Addr
  outN : Nat
  outC : Nat
  t19 : Int

def F_plan_Permanent_k1 (s : S_plan_Permanent_L1) (Kn : S_plan_Permanent_L1 → World → Prop) (outP_2 : Option Addr) (outN_2 : Nat) (outC_2 : Nat) (w1_10 : World) : Prop :=
  Kn ⟨outP_2, outN_2, outC_2, (IntKind.i64.wrap ((s.t19 : Int) + (1 : Int)))⟩ w1_10

/-- One round. -/
def B_plan_Permanent_L1 (t17P_1 : Option Addr) (t17N_1 : Nat) (t17C_1 : Nat) (t18 : Int) (s : S_plan_Permanent_L1) (w : World) (Kn : S_plan_Permanent_L1 → World → Prop) (Kx0 : Option Addr → Nat → Nat → World → Prop) : Prop :=
  If (decide ((s.t19 : Int) < t18))
  (0 ≤ (s.t19 : Int) ∧ (s.t19 : Int) < (t17N_1 : Int) ∧ NN t17P_1 fun a =>
  ∃ t220 : Int, w.cell? ((a.add ((s.t19 : Int).toNat * 3)).add 0) = some (.int .i64 t220) ∧
  ∃ t221 : Int, w.cell? ((a.add ((s.t19 : Int).toNat * 3)).add 1) = some (.int .i64 t221) ∧
  ∃ t222 : Int, w.cell? ((a.add ((s.t19 : Int).toNat * 3)).add 2) = some (.int .i64 t222) ∧
  New w (.cells #[.int .i64 0, .int .i64 0, .int .i64 0] 58) fun r_1 w1_4 =>
  St w1_4 ((⟨r_1, 0, none⟩ : Addr).add 0) (.int .i64 t220) fun w1_5 =>
  St w1_5 ((⟨r_1, 0, none⟩ : Addr).add 1) (.int .i64 t221) fun w1_6 =>
  St w1_6 ((⟨r_1, 0, none⟩ : Addr).add 2) (.int .i64 t222) fun w1_7 =>
  ∃ n : Int, w1_7.cell? ((⟨r_1, 0, none⟩ : Addr).add 0) = some (.int .i64 n) ∧
  If (n != (-1))
  (∃ n_1 : Int, w1_7.cell? ((⟨r_1, 0, none⟩ : Addr).add 0) = some (.int .i64 n_1) ∧
  BSl Try.prog 30 1 [(0, .int .i64 n_1)] w1_7 fun t29P t29N t29C w1_8 =>
  App Try.prog #[30, 30] 30 #[.slice s.outP s.outN s.outC, .slice t29P t29N t29C] w1_8 fun t30P t30N t30C w1_9 =>
  F_plan_Permanent_k1 s Kn t30P t30N t30C w1_9)
  (F_plan_Permanent_k1 s Kn s.outP s.outN s.outC w1_7))
  (Kx0 s.outP s.outN s.outC w)

def F_plan_Permanent_L1 (t17P_1 : Option Addr) (t17N_1 : Nat) (t17C_1 : Nat) (t18 : Int) (s : S_plan_Permanent_L1) (w : World) (Kx0 : Option Addr → Nat → Nat → World → Prop) : Prop :=
  LoopS (fun s w Kn => B_plan_Permanent_L1 t17P_1 t17N_1 t17C_1 t18 s w Kn Kx0) s w

def F_plan_Permanent (c0 : Int) (c1 : Int) (c2 : ByteArray) (c3P : Option Addr) (c3N : Nat) (c3C : Nat) (c4P : Option Addr) (c4N : Nat) (c4C : Nat) (c5 : Int) (w : World) (R : Option Addr → Nat → Nat → World → Prop) : Prop :=
  New w (.cells #[.int .i64 c0, .int .i64 c1, .string c2, .slice c3P c3N c3C, .slice c4P c4N c4C, .int .i64 c5] 27) fun r w1 =>
  ∃ t80 : Int, w1.cell? ((⟨r, 0, none⟩ : Addr).add 0) = some (.int .i64 t80) ∧
  ∃ t81 : Int, w1.cell? ((⟨r, 0, none⟩ : Addr).add 1) = some (.int .i64 t81) ∧
  ∃ t82 : ByteArray, w1.cell? ((⟨r, 0, none⟩ : Addr).add 2) = some (.string t82) ∧
  ∃ t83P : Option Addr, ∃ t83N : Nat, ∃ t83C : Nat, w1.cell? ((⟨r, 0, none⟩ : Addr).add 3) = some (.slice t83P t83N t83C) ∧
  ∃ t84P : Option Addr, ∃ t84N : Nat, ∃ t84C : Nat, w1.cell? ((⟨r, 0, none⟩ : Addr).add 4) = some (.slice t84P t84N t84C) ∧
  ∃ t85 : Int, w1.cell? ((⟨r, 0, none⟩ : Addr).add 5) = some (.int .i64 t85) ∧
  C_plan_may t80 t81 t82 t83P t83N t83C t84P t84N t84C t85 w1 fun t9 w1_1 =>
  If (t9 != (0 : Int))
  (R none 0 0 w1_1)
  (∃ t120 : Int, w1_1.cell? ((⟨r, 0, none⟩ : Addr).add 0) = some (.int .i64 t120) ∧
  ∃ t121 : Int, w1_1.cell? ((⟨r, 0, none⟩ : Addr).add 1) = some (.int .i64 t121) ∧
  ∃ t122 : ByteArray, w1_1.cell? ((⟨r, 0, none⟩ : Addr).add 2) = some (.string t122) ∧
  ∃ t123P : Option Addr, ∃ t123N : Nat, ∃ t123C : Nat, w1_1.cell? ((⟨r, 0, none⟩ : Addr).add 3) = some (.slice t123P t123N t123C) ∧
  ∃ t124P : Option Addr, ∃ t124N : Nat, ∃ t124C : Nat, w1_1.cell? ((⟨r, 0, none⟩ : Addr).add 4) = some (.slice t124P t124N t124C) ∧
  ∃ t125 : Int, w1_1.cell? ((⟨r, 0, none⟩ : Addr).add 5) = some (.int .i64 t125) ∧
  C_plan_gather t120 t121 t122 t123P t123N t123C t124P t124N t124C t125 w1_1 fun t130 t131 w1_2 =>
  C_plan_spans_slots t130 w1_2 fun t17P t17N t17C w1_3 =>
  F_plan_Permanent_L1 t17P t17N t17C (t17N : Int) ⟨none, 0, 0, (0 : Int)⟩ w1_3
  (fun outP_3 outN_3 outC_3 w1_11 =>
  C_slices_Sort outP_3 outN_3 outC_3 w1_11 fun w1_12 =>
  R outP_3 outN_3 outC_3 w1_12))

def lit_plan_Permanent_L1 (f : (Option Addr) × Nat × Nat × Int) (s : S_plan_Permanent_L1) : Env := [⟨17, .slice f.1 f.2.1 f.2.2.1, none⟩, ⟨18, .int .i64 f.2.2.2, none⟩, ⟨5, .slice s.outP s.outN s.outC, none⟩, ⟨19, .int .i64 s.t19, none⟩]

def dec_plan_Permanent_L1 (e : Env) (K : ((Option Addr) × Nat × Nat × Int) → S_plan_Permanent_L1 → Prop) : Prop :=
  oS e 17 fun t17P_1 t17N_1 t17C_1 =>
  oI e 18 .i64 fun t18 =>
  oS e 5 fun outP outN outC =>
  oI e 19 .i64 fun t19 =>
    K (t17P_1, t17N_1, t17C_1, t18) ⟨outP, outN, outC, t19⟩

theorem dec_plan_Permanent_L1_ok {N : Nat} (e : Env) (a : Act) (K : ((Option Addr) × Nat × Nat × Int) → S_plan_Permanent_L1 → Prop) (hr : Rep N a e) (h0 : dec_plan_Permanent_L1 e K) : ∃ f s, K f s ∧ Rep N a (lit_plan_Permanent_L1 f s) := by
  unfold dec_plan_Permanent_L1 at h0
  obtain ⟨t17P_1, t17N_1, t17C_1, g17, h1⟩ := oS_elim h0
  obtain ⟨t18, g18, h2⟩ := oI_elim h1
  obtain ⟨outP, outN, outC, g5, h3⟩ := oS_elim h2
  obtain ⟨t19, g19, h4⟩ := oI_elim h3
  exact ⟨_, _, h4, rep_less hr (by simp [lit_plan_Permanent_L1, g17, g18, g5, g19])⟩

def spec_plan_Permanent_L1 (Q : Post) (e : Env) (w : World) : Prop :=
  dec_plan_Permanent_L1 e fun f s => F_plan_Permanent_L1 f.1 f.2.1 f.2.2.1 f.2.2.2 s w (fun outP_1 outN_1 outC_1 w1 => Q (.exit 0) [⟨5, .slice outP_1 outN_1 outC_1, none⟩] w1)

def G_plan_Permanent : Gen where
  loop := lookL [([false, true, false, true, true, true, true], spec_plan_Permanent_L1)]
  plan := fun _ => none

def dx_plan_Permanent_L1_0 (e : Env) (K : ((Option Addr) × Nat × Nat × Int) → Option Addr → Nat → Nat → Prop) : Prop :=
  oS e 17 fun t17P_1 t17N_1 t17C_1 =>
  oI e 18 .i64 fun t18 =>
  oS e 5 fun outP_1 outN_1 outC_1 =>
    K (t17P_1, t17N_1, t17C_1, t18) outP_1 outN_1 outC_1

theorem body_plan_Permanent_L1 (f : (Option Addr) × Nat × Nat × Int) (s : S_plan_Permanent_L1) (w : World) (Kn : ((Option Addr) × Nat × Nat × Int) → S_plan_Permanent_L1 → World → Prop) (Kx0 : ((Option Addr) × Nat × Nat × Int) → Option Addr → Nat → Nat → World → Prop) :
    B_plan_Permanent_L1 f.1 f.2.1 f.2.2.1 f.2.2.2 s w (fun s1 w1 => Kn f s1 w1) (fun outP_1 outN_1 outC_1 w1 => Kx0 f outP_1 outN_1 outC_1 w1) =
    den Try.prog Try.f17.ntmps G_plan_Permanent (sub (codeOf Try.f17) [false, false, true, false, true, true, true, true]) [false, false, true, false, true, true, true, true] (roundQ (fun e w => dec_plan_Permanent_L1 e fun f s => Kn f s w) (fun e w => False) (fun id e w => match Nat.beq id 0 with | true => dx_plan_Permanent_L1_0 e fun f outP_1 outN_1 outC_1 => Kx0 f outP_1 outN_1 outC_1 w | false => False)) (lit_plan_Permanent_L1 f s) w := by kernel_rfl

theorem ok_plan_Permanent_L1 : OneOk Try.prog Try.f17.ntmps G_plan_Permanent (codeOf Try.f17) [false, true, false, true, true, true, true] spec_plan_Permanent_L1 := by
  intro c hc ih Q e w a hr h
  have hcc : sub (codeOf Try.f17) [false, false, true, false, true, true, true, true] = c := sub_of_codeAt hc
  obtain ⟨f, s, h, hrep⟩ := dec_plan_Permanent_L1_ok e a _ hr h
  obtain ⟨J, μ, hj, hround⟩ := h
  refine loop_rule_deep seat_ok seat_mixed ih lit_plan_Permanent_L1 dec_plan_Permanent_L1 dec_plan_Permanent_L1_ok hc f J μ (Kr := fun e w => False) (Kx := fun id e w => match Nat.beq id 0 with | true => (dx_plan_Permanent_L1_0 e fun f1 outP_1 outN_1 outC_1 => f1 = f ∧ Q (.exit 0) [⟨5, .slice outP_1 outN_1 outC_1, none⟩] w) | false => False) ?_ ?_ ?_ s w a hj hrep
  · intro e a w hr h
    exact h.elim
  · intro id e a w hr h0
    (try dsimp only at h0)
    split at h0
    · rename_i hid
      obtain rfl := Nat.eq_of_beq_eq_true hid
      unfold dx_plan_Permanent_L1_0 at h0
      obtain ⟨t17P_1, t17N_1, t17C_1, g17, h1⟩ := oS_elim h0
      obtain ⟨t18, g18, h2⟩ := oI_elim h1
      obtain ⟨outP_1, outN_1, outC_1, g5, h3⟩ := oS_elim h2
      obtain ⟨hf, hq⟩ := h3
      subst hf
      exact ⟨_, rep_less hr (by simp [g5]), hq⟩
    · exact h0.elim
  · intro s w hj
    have hb := hround s w hj
    rw [← hcc]
    have e1 := body_plan_Permanent_L1 f s w (fun f1 s1 w1 => f1 = f ∧ J s1 w1 ∧ μ s1 w1 < μ s w) (fun f1 outP_1 outN_1 outC_1 w1 => f1 = f ∧ Q (.exit 0) [⟨5, .slice outP_1 outN_1 outC_1, none⟩] w1)
    simp only [true_and] at e1
    exact cast e1 hb

theorem loops_plan_Permanent : LoopOk Try.prog Try.f17.ntmps G_plan_Permanent (codeOf Try.f17) := loopOk_list rfl ⟨ok_plan_Permanent_L1, trivial⟩

theorem C_plan_Permanent.of {c0 : Int} {c1 : Int} {c2 : ByteArray} {c3P : Option Addr} {c3N : Nat} {c3C : Nat} {c4P : Option Addr} {c4N : Nat} {c4C : Nat} {c5 : Int} {w : World} {R : Option Addr → Nat → Nat → World → Prop} (h : F_plan_Permanent c0 c1 c2 c3P c3N c3C c4P c4N c4C c5 w R) : C_plan_Permanent c0 c1 c2 c3P c3N c3C c4P c4N c4C c5 w R := ofS4 (Fm := F_plan_Permanent c0 c1 c2 c3P c3N c3C c4P c4N c4C c5 w) Try.func17 (by kernel_rfl) loops_plan_Permanent rfl (fun _ => by kernel_rfl) h

structure S_ref15_SameInts_L1 where
  i : Int

/-- One round. -/
def B_ref15_SameInts_L1 (aP_1 : Option Addr) (aN_1 : Nat) (aC_1 : Nat) (bP_1 : Option Addr) (bN_1 : Nat) (bC_1 : Nat) (s : S_ref15_SameInts_L1) (w : World) (Kn : S_ref15_SameInts_L1 → World → Prop) (Kx0 : World → Prop) (Kr : Bool → World → Prop) : Prop :=
  If (decide ((s.i : Int) < (aN_1 : Int)))
  (0 ≤ (s.i : Int) ∧ (s.i : Int) < (aN_1 : Int) ∧ NN aP_1 fun a =>
  ∃ t20 : Int, (drw w).cell? (a.add ((s.i : Int).toNat * 1)) = some (.int .i64 t20) ∧
  0 ≤ (s.i : Int) ∧ (s.i : Int) < (bN_1 : Int) ∧ NN bP_1 fun a_1 =>
  ∃ t24 : Int, (drw w).cell? (a_1.add ((s.i : Int).toNat * 1)) = some (.int .i64 t24) ∧
  If (t20 != t24)
  (Kr false (drw w))
  (Kn ⟨(IntKind.i64.wrap ((s.i : Int) + (1 : Int)))⟩ (drw w)))
  (Kx0 w)

def F_ref15_SameInts_L1 (aP_1 : Option Addr) (aN_1 : Nat) (aC_1 : Nat) (bP_1 : Option Addr) (bN_1 : Nat) (bC_1 : Nat) (s : S_ref15_SameInts_L1) (w : World) (Kx0 : World → Prop) (Kr : Bool → World → Prop) : Prop :=
  LoopS (fun s w Kn => B_ref15_SameInts_L1 aP_1 aN_1 aC_1 bP_1 bN_1 bC_1 s w Kn Kx0 Kr) s w

def F_ref15_SameInts (aP : Option Addr) (aN : Nat) (aC : Nat) (bP : Option Addr) (bN : Nat) (bC : Nat) (w : World) (R : Bool → World → Prop) : Prop :=
  If ((aN : Int) != (bN : Int))
  (R false w)
  (F_ref15_SameInts_L1 aP aN aC bP bN bC ⟨(0 : Int)⟩ w
  (fun w1 =>
  R true w1)
  (fun t4_1 w1_1 =>
  R t4_1 w1_1))

def lit_ref15_SameInts_L1 (f : (Option Addr) × Nat × Nat × (Option Addr) × Nat × Nat) (s : S_ref15_SameInts_L1) : Env := [⟨0, .slice f.1 f.2.1 f.2.2.1, none⟩, ⟨1, .slice f.2.2.2.1 f.2.2.2.2.1 f.2.2.2.2.2, none⟩, ⟨5, .int .i64 s.i, none⟩]

def dec_ref15_SameInts_L1 (e : Env) (K : ((Option Addr) × Nat × Nat × (Option Addr) × Nat × Nat) → S_ref15_SameInts_L1 → Prop) : Prop :=
  oS e 0 fun aP_1 aN_1 aC_1 =>
  oS e 1 fun bP_1 bN_1 bC_1 =>
  oI e 5 .i64 fun i =>
    K (aP_1, aN_1, aC_1, bP_1, bN_1, bC_1) ⟨i⟩

theorem dec_ref15_SameInts_L1_ok {N : Nat} (e : Env) (a : Act) (K : ((Option Addr) × Nat × Nat × (Option Addr) × Nat × Nat) → S_ref15_SameInts_L1 → Prop) (hr : Rep N a e) (h0 : dec_ref15_SameInts_L1 e K) : ∃ f s, K f s ∧ Rep N a (lit_ref15_SameInts_L1 f s) := by
  unfold dec_ref15_SameInts_L1 at h0
  obtain ⟨aP_1, aN_1, aC_1, g0, h1⟩ := oS_elim h0
  obtain ⟨bP_1, bN_1, bC_1, g1, h2⟩ := oS_elim h1
  obtain ⟨i, g5, h3⟩ := oI_elim h2
  exact ⟨_, _, h3, rep_less hr (by simp [lit_ref15_SameInts_L1, g0, g1, g5])⟩

def spec_ref15_SameInts_L1 (Q : Post) (e : Env) (w : World) : Prop :=
  dec_ref15_SameInts_L1 e fun f s => F_ref15_SameInts_L1 f.1 f.2.1 f.2.2.1 f.2.2.2.1 f.2.2.2.2.1 f.2.2.2.2.2 s w (fun w1 => Q (.exit 0) [] w1) (fun t4 w1 => Q .ret [⟨4, .bool t4, none⟩] w1)

def G_ref15_SameInts : Gen where
  loop := lookL [([false, true, false, true, true], spec_ref15_SameInts_L1)]
  plan := fun id =>
    bif Nat.beq id 6 then some ([0, 0, 3, 7, 0, 0, 48, 112, 255], .take 0 (.take 1 (.take 2 (.take 3 (.take 4 (.take 5 (.take 6 (.take 7 (.take 8 .done))))))))) else none

def dx_ref15_SameInts_L1_0 (e : Env) (K : ((Option Addr) × Nat × Nat × (Option Addr) × Nat × Nat) → Prop) : Prop :=
  oS e 0 fun aP_1 aN_1 aC_1 =>
  oS e 1 fun bP_1 bN_1 bC_1 =>
    K (aP_1, aN_1, aC_1, bP_1, bN_1, bC_1)

def dx_ref15_SameInts_L1_ret (e : Env) (K : ((Option Addr) × Nat × Nat × (Option Addr) × Nat × Nat) → Bool → Prop) : Prop :=
  oS e 0 fun aP_1 aN_1 aC_1 =>
  oS e 1 fun bP_1 bN_1 bC_1 =>
  oB e 4 fun t4 =>
    K (aP_1, aN_1, aC_1, bP_1, bN_1, bC_1) t4

theorem body_ref15_SameInts_L1 (f : (Option Addr) × Nat × Nat × (Option Addr) × Nat × Nat) (s : S_ref15_SameInts_L1) (w : World) (Kn : ((Option Addr) × Nat × Nat × (Option Addr) × Nat × Nat) → S_ref15_SameInts_L1 → World → Prop) (Kx0 : ((Option Addr) × Nat × Nat × (Option Addr) × Nat × Nat) → World → Prop) (Kr : ((Option Addr) × Nat × Nat × (Option Addr) × Nat × Nat) → Bool → World → Prop) :
    B_ref15_SameInts_L1 f.1 f.2.1 f.2.2.1 f.2.2.2.1 f.2.2.2.2.1 f.2.2.2.2.2 s w (fun s1 w1 => Kn f s1 w1) (fun w1 => Kx0 f w1) (fun t4 w1 => Kr f t4 w1) =
    den Try.prog Try.f18.ntmps G_ref15_SameInts (sub (codeOf Try.f18) [false, false, true, false, true, true]) [false, false, true, false, true, true] (roundQ (fun e w => dec_ref15_SameInts_L1 e fun f s => Kn f s w) (fun e w => dx_ref15_SameInts_L1_ret e fun f t4 => Kr f t4 w) (fun id e w => match Nat.beq id 0 with | true => dx_ref15_SameInts_L1_0 e fun f => Kx0 f w | false => False)) (lit_ref15_SameInts_L1 f s) w := by kernel_rfl

theorem ok_ref15_SameInts_L1 : OneOk Try.prog Try.f18.ntmps G_ref15_SameInts (codeOf Try.f18) [false, true, false, true, true] spec_ref15_SameInts_L1 := by
  intro c hc ih Q e w a hr h
  have hcc : sub (codeOf Try.f18) [false, false, true, false, true, true] = c := sub_of_codeAt hc
  obtain ⟨f, s, h, hrep⟩ := dec_ref15_SameInts_L1_ok e a _ hr h
  obtain ⟨J, μ, hj, hround⟩ := h
  refine loop_rule_deep seat_ok seat_mixed ih lit_ref15_SameInts_L1 dec_ref15_SameInts_L1 dec_ref15_SameInts_L1_ok hc f J μ (Kr := fun e w => dx_ref15_SameInts_L1_ret e fun f1 t4 => f1 = f ∧ Q .ret [⟨4, .bool t4, none⟩] w) (Kx := fun id e w => match Nat.beq id 0 with | true => (dx_ref15_SameInts_L1_0 e fun f1 => f1 = f ∧ Q (.exit 0) [] w) | false => False) ?_ ?_ ?_ s w a hj hrep
  · intro e a w hr h0
    unfold dx_ref15_SameInts_L1_ret at h0
    obtain ⟨aP_1, aN_1, aC_1, g0, h1⟩ := oS_elim h0
    obtain ⟨bP_1, bN_1, bC_1, g1, h2⟩ := oS_elim h1
    obtain ⟨t4, g4, h3⟩ := oB_elim h2
    obtain ⟨hf, hq⟩ := h3
    subst hf
    exact ⟨_, rep_less hr (by simp [g4]), hq⟩
  · intro id e a w hr h0
    (try dsimp only at h0)
    split at h0
    · rename_i hid
      obtain rfl := Nat.eq_of_beq_eq_true hid
      unfold dx_ref15_SameInts_L1_0 at h0
      obtain ⟨aP_1, aN_1, aC_1, g0, h1⟩ := oS_elim h0
      obtain ⟨bP_1, bN_1, bC_1, g1, h2⟩ := oS_elim h1
      obtain ⟨hf, hq⟩ := h2
      subst hf
      exact ⟨_, rep_less hr (by simp), hq⟩
    · exact h0.elim
  · intro s w hj
    have hb := hround s w hj
    rw [← hcc]
    have e1 := body_ref15_SameInts_L1 f s w (fun f1 s1 w1 => f1 = f ∧ J s1 w1 ∧ μ s1 w1 < μ s w) (fun f1 w1 => f1 = f ∧ Q (.exit 0) [] w1) (fun f1 t4 w1 => f1 = f ∧ Q .ret [⟨4, .bool t4, none⟩] w1)
    simp only [true_and] at e1
    exact cast e1 hb

theorem loops_ref15_SameInts : LoopOk Try.prog Try.f18.ntmps G_ref15_SameInts (codeOf Try.f18) := loopOk_list rfl ⟨ok_ref15_SameInts_L1, trivial⟩

theorem C_ref15_SameInts.of {aP : Option Addr} {aN : Nat} {aC : Nat} {bP : Option Addr} {bN : Nat} {bC : Nat} {w : World} {R : Bool → World → Prop} (h : F_ref15_SameInts aP aN aC bP bN bC w R) : C_ref15_SameInts aP aN aC bP bN bC w R := ofS2 (Fm := F_ref15_SameInts aP aN aC bP bN bC w) Try.func18 (by kernel_rfl) loops_ref15_SameInts rfl (fun _ => by kernel_rfl) h

def F_plan_Calls (c0 : Int) (c1 : Int) (c2 : ByteArray) (c3P : Option Addr) (c3N : Nat) (c3C : Nat) (c4P : Option Addr) (c4N : Nat) (c4C : Nat) (c5 : Int) (w : World) (R : Int → World → Prop) : Prop :=
  New w (.cells #[.int .i64 c0, .int .i64 c1, .string c2, .slice c3P c3N c3C, .slice c4P c4N c4C, .int .i64 c5] 27) fun r w1 =>
  ∃ t50 : Int, w1.cell? ((⟨r, 0, none⟩ : Addr).add 0) = some (.int .i64 t50) ∧
  ∃ t51 : Int, w1.cell? ((⟨r, 0, none⟩ : Addr).add 1) = some (.int .i64 t51) ∧
  ∃ t52 : ByteArray, w1.cell? ((⟨r, 0, none⟩ : Addr).add 2) = some (.string t52) ∧
  ∃ t53P : Option Addr, ∃ t53N : Nat, ∃ t53C : Nat, w1.cell? ((⟨r, 0, none⟩ : Addr).add 3) = some (.slice t53P t53N t53C) ∧
  ∃ t54P : Option Addr, ∃ t54N : Nat, ∃ t54C : Nat, w1.cell? ((⟨r, 0, none⟩ : Addr).add 4) = some (.slice t54P t54N t54C) ∧
  ∃ t55 : Int, w1.cell? ((⟨r, 0, none⟩ : Addr).add 5) = some (.int .i64 t55) ∧
  C_plan_may t50 t51 t52 t53P t53N t53C t54P t54N t54C t55 w1 fun t6 w1_1 =>
  If (t6 != (0 : Int))
  (R (0 : Int) w1_1)
  (∃ t90 : Int, w1_1.cell? ((⟨r, 0, none⟩ : Addr).add 0) = some (.int .i64 t90) ∧
  ∃ t91 : Int, w1_1.cell? ((⟨r, 0, none⟩ : Addr).add 1) = some (.int .i64 t91) ∧
  ∃ t92 : ByteArray, w1_1.cell? ((⟨r, 0, none⟩ : Addr).add 2) = some (.string t92) ∧
  ∃ t93P : Option Addr, ∃ t93N : Nat, ∃ t93C : Nat, w1_1.cell? ((⟨r, 0, none⟩ : Addr).add 3) = some (.slice t93P t93N t93C) ∧
  ∃ t94P : Option Addr, ∃ t94N : Nat, ∃ t94C : Nat, w1_1.cell? ((⟨r, 0, none⟩ : Addr).add 4) = some (.slice t94P t94N t94C) ∧
  ∃ t95 : Int, w1_1.cell? ((⟨r, 0, none⟩ : Addr).add 5) = some (.int .i64 t95) ∧
  C_plan_gather t90 t91 t92 t93P t93N t93C t94P t94N t94C t95 w1_1 fun t100 t101 w1_2 =>
  R t101 w1_2)

def G_plan_Calls : Gen where
  loop := lookL []
  plan := fun _ => none

theorem loops_plan_Calls : LoopOk Try.prog Try.f19.ntmps G_plan_Calls (codeOf Try.f19) := loopOk_none fun _ => rfl

theorem C_plan_Calls.of {c0 : Int} {c1 : Int} {c2 : ByteArray} {c3P : Option Addr} {c3N : Nat} {c3C : Nat} {c4P : Option Addr} {c4N : Nat} {c4C : Nat} {c5 : Int} {w : World} {R : Int → World → Prop} (h : F_plan_Calls c0 c1 c2 c3P c3N c3C c4P c4N c4C c5 w R) : C_plan_Calls c0 c1 c2 c3P c3N c3C c4P c4N c4C c5 w R := ofS5 (Fm := F_plan_Calls c0 c1 c2 c3P c3N c3C c4P c4N c4C c5 w) Try.func19 (by kernel_rfl) loops_plan_Calls rfl (fun _ => by kernel_rfl) h

structure S_plan_may_L1 where
  t17 : Int

def F_plan_may_k1 (R : Int → World → Prop) (w1_12 : World) : Prop :=
  R (1 : Int) w1_12

/-- One round. -/
def B_plan_may_L1 (cx : Addr) (t15P : Option Addr) (t15N : Nat) (t15C : Nat) (t16 : Int) (s : S_plan_may_L1) (w : World) (Kn : S_plan_may_L1 → World → Prop) (Kx0 : World → Prop) (Kr : Int → World → Prop) : Prop :=
  If (decide ((s.t17 : Int) < t16))
  (0 ≤ (s.t17 : Int) ∧ (s.t17 : Int) < (t15N : Int) ∧ NN t15P fun a =>
  ∃ t200 : Int, w.cell? ((a.add ((s.t17 : Int).toNat * 5)).add 0) = some (.int .i64 t200) ∧
  ∃ t201 : Int, w.cell? ((a.add ((s.t17 : Int).toNat * 5)).add 1) = some (.int .i64 t201) ∧
  ∃ t202 : Int, w.cell? ((a.add ((s.t17 : Int).toNat * 5)).add 2) = some (.int .i64 t202) ∧
  ∃ t203 : ByteArray, w.cell? ((a.add ((s.t17 : Int).toNat * 5)).add 3) = some (.string t203) ∧
  ∃ t204P : Option Addr, ∃ t204N : Nat, ∃ t204C : Nat, w.cell? ((a.add ((s.t17 : Int).toNat * 5)).add 4) = some (.slice t204P t204N t204C) ∧
  New w (.cells #[.int .i64 0, .int .i64 0, .int .i64 0, .string ⟨#[]⟩, .slice none 0 0] 38) fun r_1 w1_2 =>
  St w1_2 ((⟨r_1, 0, none⟩ : Addr).add 0) (.int .i64 t200) fun w1_3 =>
  St w1_3 ((⟨r_1, 0, none⟩ : Addr).add 1) (.int .i64 t201) fun w1_4 =>
  St w1_4 ((⟨r_1, 0, none⟩ : Addr).add 2) (.int .i64 t202) fun w1_5 =>
  St w1_5 ((⟨r_1, 0, none⟩ : Addr).add 3) (.string t203) fun w1_6 =>
  St w1_6 ((⟨r_1, 0, none⟩ : Addr).add 4) (.slice t204P t204N t204C) fun w1_7 =>
  ∃ Term0 : Int, w1_7.cell? (((⟨r_1, 0, none⟩ : Addr).add 1).add 0) = some (.int .i64 Term0) ∧
  ∃ Term1 : Int, w1_7.cell? (((⟨r_1, 0, none⟩ : Addr).add 1).add 1) = some (.int .i64 Term1) ∧
  ∃ Term2 : ByteArray, w1_7.cell? (((⟨r_1, 0, none⟩ : Addr).add 1).add 2) = some (.string Term2) ∧
  ∃ Term3P : Option Addr, ∃ Term3N : Nat, ∃ Term3C : Nat, w1_7.cell? (((⟨r_1, 0, none⟩ : Addr).add 1).add 3) = some (.slice Term3P Term3N Term3C) ∧
  C_term_Check Term0 Term1 Term2 Term3P Term3N Term3C w1_7 fun t23 w1_8 =>
  If (t23 != (0 : Int))
  (Kr t23 w1_8)
  (Kn ⟨(IntKind.i64.wrap ((s.t17 : Int) + (1 : Int)))⟩ w1_8))
  (Kx0 w)

def F_plan_may_L1 (cx : Addr) (t15P : Option Addr) (t15N : Nat) (t15C : Nat) (t16 : Int) (s : S_plan_may_L1) (w : World) (Kx0 : World → Prop) (Kr : Int → World → Prop) : Prop :=
  LoopS (fun s w Kn => B_plan_may_L1 cx t15P t15N t15C t16 s w Kn Kx0 Kr) s w

def F_plan_may (c0 : Int) (c1 : Int) (c2 : ByteArray) (c3P : Option Addr) (c3N : Nat) (c3C : Nat) (c4P : Option Addr) (c4N : Nat) (c4C : Nat) (c5 : Int) (w : World) (R : Int → World → Prop) : Prop :=
  New w (.cells #[.int .i64 c0, .int .i64 c1, .string c2, .slice c3P c3N c3C, .slice c4P c4N c4C, .int .i64 c5] 27) fun r w1 =>
  ∃ Head0 : Int, w1.cell? (((⟨r, 0, none⟩ : Addr).add 0).add 0) = some (.int .i64 Head0) ∧
  ∃ Head1 : Int, w1.cell? (((⟨r, 0, none⟩ : Addr).add 0).add 1) = some (.int .i64 Head1) ∧
  ∃ Head2 : ByteArray, w1.cell? (((⟨r, 0, none⟩ : Addr).add 0).add 2) = some (.string Head2) ∧
  ∃ Head3P : Option Addr, ∃ Head3N : Nat, ∃ Head3C : Nat, w1.cell? (((⟨r, 0, none⟩ : Addr).add 0).add 3) = some (.slice Head3P Head3N Head3C) ∧
  C_term_Check Head0 Head1 Head2 Head3P Head3N Head3C w1 fun t10 w1_1 =>
  If (t10 != (0 : Int))
  (R t10 w1_1)
  (∃ GoalsP : Option Addr, ∃ GoalsN : Nat, ∃ GoalsC : Nat, w1_1.cell? ((⟨r, 0, none⟩ : Addr).add 4) = some (.slice GoalsP GoalsN GoalsC) ∧
  F_plan_may_L1 ⟨r, 0, none⟩ GoalsP GoalsN GoalsC (GoalsN : Int) ⟨(0 : Int)⟩ w1_1
  (fun w1_9 =>
  ∃ GoalsP_1 : Option Addr, ∃ GoalsN_1 : Nat, ∃ GoalsC_1 : Nat, w1_9.cell? ((⟨r, 0, none⟩ : Addr).add 4) = some (.slice GoalsP_1 GoalsN_1 GoalsC_1) ∧
  C_slices_ContainsFunc GoalsP_1 GoalsN_1 GoalsC_1 (.func (.func 33) #[] #[]) w1_9 fun t30 w1_11 =>
  If t30
  (F_plan_may_k1 R w1_11)
  (∃ Kind : Int, w1_11.cell? (((⟨r, 0, none⟩ : Addr).add 0).add 0) = some (.int .i64 Kind) ∧
  If (decide (Kind < (3 : Int)))
  (F_plan_may_k1 R w1_11)
  (∃ GoalsP_2 : Option Addr, ∃ GoalsN_2 : Nat, ∃ GoalsC_2 : Nat, w1_11.cell? ((⟨r, 0, none⟩ : Addr).add 4) = some (.slice GoalsP_2 GoalsN_2 GoalsC_2) ∧
  If (decide ((GoalsN_2 : Int) > (64 : Int)))
  (R (1 : Int) w1_11)
  (R (0 : Int) w1_11))))
  (fun t2_1 w1_10 =>
  R t2_1 w1_10))

def lit_plan_may_L1 (f : Addr × (Option Addr) × Nat × Nat × Int) (s : S_plan_may_L1) : Env := [⟨1, .pointer (some f.1), none⟩, ⟨15, .slice f.2.1 f.2.2.1 f.2.2.2.1, none⟩, ⟨16, .int .i64 f.2.2.2.2, none⟩, ⟨17, .int .i64 s.t17, none⟩]

def dec_plan_may_L1 (e : Env) (K : (Addr × (Option Addr) × Nat × Nat × Int) → S_plan_may_L1 → Prop) : Prop :=
  oA e 1 fun cx =>
  oS e 15 fun t15P t15N t15C =>
  oI e 16 .i64 fun t16 =>
  oI e 17 .i64 fun t17 =>
    K (cx, t15P, t15N, t15C, t16) ⟨t17⟩

theorem dec_plan_may_L1_ok {N : Nat} (e : Env) (a : Act) (K : (Addr × (Option Addr) × Nat × Nat × Int) → S_plan_may_L1 → Prop) (hr : Rep N a e) (h0 : dec_plan_may_L1 e K) : ∃ f s, K f s ∧ Rep N a (lit_plan_may_L1 f s) := by
  unfold dec_plan_may_L1 at h0
  obtain ⟨cx, g1, h1⟩ := oA_elim h0
  obtain ⟨t15P, t15N, t15C, g15, h2⟩ := oS_elim h1
  obtain ⟨t16, g16, h3⟩ := oI_elim h2
  obtain ⟨t17, g17, h4⟩ := oI_elim h3
  exact ⟨_, _, h4, rep_less hr (by simp [lit_plan_may_L1, g1, g15, g16, g17])⟩

def spec_plan_may_L1 (Q : Post) (e : Env) (w : World) : Prop :=
  dec_plan_may_L1 e fun f s => F_plan_may_L1 f.1 f.2.1 f.2.2.1 f.2.2.2.1 f.2.2.2.2 s w (fun w1 => Q (.exit 0) [⟨1, .pointer (some f.1), none⟩] w1) (fun t2 w1 => Q .ret [⟨2, .int .i64 t2, none⟩] w1)

def G_plan_may : Gen where
  loop := lookL [([false, true, false, true, true], spec_plan_may_L1)]
  plan := fun _ => none

def dx_plan_may_L1_0 (e : Env) (K : (Addr × (Option Addr) × Nat × Nat × Int) → Prop) : Prop :=
  oA e 1 fun cx =>
  oS e 15 fun t15P t15N t15C =>
  oI e 16 .i64 fun t16 =>
    K (cx, t15P, t15N, t15C, t16)

def dx_plan_may_L1_ret (e : Env) (K : (Addr × (Option Addr) × Nat × Nat × Int) → Int → Prop) : Prop :=
  oA e 1 fun cx =>
  oS e 15 fun t15P t15N t15C =>
  oI e 16 .i64 fun t16 =>
  oI e 2 .i64 fun t2 =>
    K (cx, t15P, t15N, t15C, t16) t2

theorem body_plan_may_L1 (f : Addr × (Option Addr) × Nat × Nat × Int) (s : S_plan_may_L1) (w : World) (Kn : (Addr × (Option Addr) × Nat × Nat × Int) → S_plan_may_L1 → World → Prop) (Kx0 : (Addr × (Option Addr) × Nat × Nat × Int) → World → Prop) (Kr : (Addr × (Option Addr) × Nat × Nat × Int) → Int → World → Prop) :
    B_plan_may_L1 f.1 f.2.1 f.2.2.1 f.2.2.2.1 f.2.2.2.2 s w (fun s1 w1 => Kn f s1 w1) (fun w1 => Kx0 f w1) (fun t2 w1 => Kr f t2 w1) =
    den Try.prog Try.f20.ntmps G_plan_may (sub (codeOf Try.f20) [false, false, true, false, true, true]) [false, false, true, false, true, true] (roundQ (fun e w => dec_plan_may_L1 e fun f s => Kn f s w) (fun e w => dx_plan_may_L1_ret e fun f t2 => Kr f t2 w) (fun id e w => match Nat.beq id 0 with | true => dx_plan_may_L1_0 e fun f => Kx0 f w | false => False)) (lit_plan_may_L1 f s) w := by kernel_rfl

theorem ok_plan_may_L1 : OneOk Try.prog Try.f20.ntmps G_plan_may (codeOf Try.f20) [false, true, false, true, true] spec_plan_may_L1 := by
  intro c hc ih Q e w a hr h
  have hcc : sub (codeOf Try.f20) [false, false, true, false, true, true] = c := sub_of_codeAt hc
  obtain ⟨f, s, h, hrep⟩ := dec_plan_may_L1_ok e a _ hr h
  obtain ⟨J, μ, hj, hround⟩ := h
  refine loop_rule_deep seat_ok seat_mixed ih lit_plan_may_L1 dec_plan_may_L1 dec_plan_may_L1_ok hc f J μ (Kr := fun e w => dx_plan_may_L1_ret e fun f1 t2 => f1 = f ∧ Q .ret [⟨2, .int .i64 t2, none⟩] w) (Kx := fun id e w => match Nat.beq id 0 with | true => (dx_plan_may_L1_0 e fun f1 => f1 = f ∧ Q (.exit 0) [⟨1, .pointer (some f.1), none⟩] w) | false => False) ?_ ?_ ?_ s w a hj hrep
  · intro e a w hr h0
    unfold dx_plan_may_L1_ret at h0
    obtain ⟨cx, g1, h1⟩ := oA_elim h0
    obtain ⟨t15P, t15N, t15C, g15, h2⟩ := oS_elim h1
    obtain ⟨t16, g16, h3⟩ := oI_elim h2
    obtain ⟨t2, g2, h4⟩ := oI_elim h3
    obtain ⟨hf, hq⟩ := h4
    subst hf
    exact ⟨_, rep_less hr (by simp [g2]), hq⟩
  · intro id e a w hr h0
    (try dsimp only at h0)
    split at h0
    · rename_i hid
      obtain rfl := Nat.eq_of_beq_eq_true hid
      unfold dx_plan_may_L1_0 at h0
      obtain ⟨cx, g1, h1⟩ := oA_elim h0
      obtain ⟨t15P, t15N, t15C, g15, h2⟩ := oS_elim h1
      obtain ⟨t16, g16, h3⟩ := oI_elim h2
      obtain ⟨hf, hq⟩ := h3
      subst hf
      exact ⟨_, rep_less hr (by simp [g1]), hq⟩
    · exact h0.elim
  · intro s w hj
    have hb := hround s w hj
    rw [← hcc]
    have e1 := body_plan_may_L1 f s w (fun f1 s1 w1 => f1 = f ∧ J s1 w1 ∧ μ s1 w1 < μ s w) (fun f1 w1 => f1 = f ∧ Q (.exit 0) [⟨1, .pointer (some f.1), none⟩] w1) (fun f1 t2 w1 => f1 = f ∧ Q .ret [⟨2, .int .i64 t2, none⟩] w1)
    simp only [true_and] at e1
    exact cast e1 hb

theorem loops_plan_may : LoopOk Try.prog Try.f20.ntmps G_plan_may (codeOf Try.f20) := loopOk_list rfl ⟨ok_plan_may_L1, trivial⟩

theorem C_plan_may.of {c0 : Int} {c1 : Int} {c2 : ByteArray} {c3P : Option Addr} {c3N : Nat} {c3C : Nat} {c4P : Option Addr} {c4N : Nat} {c4C : Nat} {c5 : Int} {w : World} {R : Int → World → Prop} (h : F_plan_may c0 c1 c2 c3P c3N c3C c4P c4N c4C c5 w R) : C_plan_may c0 c1 c2 c3P c3N c3C c4P c4N c4C c5 w R := ofS5 (Fm := F_plan_may c0 c1 c2 c3P c3N c3C c4P c4N c4C c5 w) Try.func20 (by kernel_rfl) loops_plan_may rfl (fun _ => by kernel_rfl) h

end Go.Proofs.Ytdbkbaeeccemkaa
