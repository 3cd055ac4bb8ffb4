/- The formulas of this seat's functions, held against the loaded program by the kernel. Printed by a program. -/
import Derived.Test.YtcgnligpjfhjlaaGenC
set_option maxRecDepth 100000
set_option linter.unusedVariables false
namespace Go.Proofs.Ytcgnligpjfhjlaa
open Go Go.D Go.Proofs

def F_pool_Pool_Runs_k1 (R : Option Addr → Nat → Nat → World → Prop) (w1_1 : World) : Prop :=
  R none 0 0 w1_1

def F_pool_Pool_Runs (p : Option Addr) (segment : Int) (w : World) (R : Option Addr → Nat → Nat → World → Prop) : Prop :=
  C_pool_Pool_made p w fun t6 w1 =>
  If (!t6)
  (F_pool_Pool_Runs_k1 R w1)
  (If (decide (segment < (0 : Int)))
  (F_pool_Pool_Runs_k1 R w1)
  (NN p fun a =>
  ∃ lP : Option Addr, ∃ lN : Nat, ∃ lC : Nat, w1.cell? (a.add 0) = some (.slice lP lN lC) ∧
  If (decide (segment ≥ (lN : Int)))
  (R none 0 0 w1)
  (NN p fun a_1 =>
  ∃ lP_1 : Option Addr, ∃ lN_1 : Nat, ∃ lC_1 : Nat, w1.cell? (a_1.add 0) = some (.slice lP_1 lN_1 lC_1) ∧
  0 ≤ segment ∧ segment < (lN_1 : Int) ∧ NN lP_1 fun a_2 =>
  ∃ runsP : Option Addr, ∃ runsN : Nat, ∃ runsC : Nat, w1.cell? ((a_2.add (segment.toNat * 2)).add 1) = some (.slice runsP runsN runsC) ∧
  C_slices_Clone runsP runsN runsC w1 fun t29P t29N t29C w1_2 =>
  R t29P t29N t29C w1_2)))

def G_pool_Pool_Runs : Gen where
  loop := lookL []
  plan := fun _ => none

theorem loops_pool_Pool_Runs : LoopOk Try.prog Try.f18.ntmps G_pool_Pool_Runs (codeOf Try.f18) := loopOk_none fun _ => rfl

theorem den_pool_Pool_Runs (p : Option Addr) (segment : Int) (w : World) (R : Value → World → Prop) :
    F_pool_Pool_Runs p segment w (fun rP rN rC w1 => R (.slice rP rN rC) w1) = den Try.prog Try.f18.ntmps G_pool_Pool_Runs (codeOf Try.f18) [] (postD Try.prog Try.f18.results.toList R) (entry [.pointer p, .int .i64 segment] 0) w := by kernel_rfl

theorem C_pool_Pool_Runs.of {p : Option Addr} {segment : Int} {w : World} {R : Option Addr → Nat → Nat → World → Prop} (h : F_pool_Pool_Runs p segment w R) : C_pool_Pool_Runs p segment w R := by
  refine (calls_of_den (c := codeOf Try.f18) seat_ok seat_mixed Try.func18 (by kernel_rfl) loops_pool_Pool_Runs (args := [.pointer p, .int .i64 segment]) rfl (R := fun v w1 => ∃ (rP : Option Addr) (rN : Nat) (rC : Nat), v = (.slice rP rN rC : Value) ∧ R rP rN rC w1) ?_).mono ?_
  · rw [← den_pool_Pool_Runs]
    have e : (fun rP rN rC w1 => ∃ (rP' : Option Addr) (rN' : Nat) (rC' : Nat), (.slice rP rN rC : Value) = (.slice rP' rN' rC' : Value) ∧ R rP' rN' rC' w1) = R := by
      funext rP rN rC w1
      exact propext ⟨fun ⟨rP', rN', rC', he, h⟩ => by simp at he; simp_all, fun h => ⟨_, _, _, rfl, h⟩⟩
    simpa only [e] using h
  · rintro en w1 ⟨v, he, rP, rN, rC, rfl, h⟩
    exact ⟨_, _, _, he, h⟩

structure S_ref03_SameInts_L1 where
  i : Int

/-- One round. -/
def B_ref03_SameInts_L1 (aP_1 : Option Addr) (aN_1 : Nat) (aC_1 : Nat) (bP_1 : Option Addr) (bN_1 : Nat) (bC_1 : Nat) (s : S_ref03_SameInts_L1) (w : World) (Kn : S_ref03_SameInts_L1 → World → Prop) (Kx0 : World → Prop) (Kr : Bool → World → Prop) : Prop :=
  If (decide ((s.i : Int) < (aN_1 : Int)))
  (0 ≤ (s.i : Int) ∧ (s.i : Int) < (aN_1 : Int) ∧ NN aP_1 fun a =>
  ∃ t20 : Int, (drw w).cell? (a.add ((s.i : Int).toNat * 1)) = some (.int .i64 t20) ∧
  0 ≤ (s.i : Int) ∧ (s.i : Int) < (bN_1 : Int) ∧ NN bP_1 fun a_1 =>
  ∃ t24 : Int, (drw w).cell? (a_1.add ((s.i : Int).toNat * 1)) = some (.int .i64 t24) ∧
  If (t20 != t24)
  (Kr false (drw w))
  (Kn ⟨(IntKind.i64.wrap ((s.i : Int) + (1 : Int)))⟩ (drw w)))
  (Kx0 w)

def F_ref03_SameInts_L1 (aP_1 : Option Addr) (aN_1 : Nat) (aC_1 : Nat) (bP_1 : Option Addr) (bN_1 : Nat) (bC_1 : Nat) (s : S_ref03_SameInts_L1) (w : World) (Kx0 : World → Prop) (Kr : Bool → World → Prop) : Prop :=
  LoopS (fun s w Kn => B_ref03_SameInts_L1 aP_1 aN_1 aC_1 bP_1 bN_1 bC_1 s w Kn Kx0 Kr) s w

def F_ref03_SameInts (aP : Option Addr) (aN : Nat) (aC : Nat) (bP : Option Addr) (bN : Nat) (bC : Nat) (w : World) (R : Bool → World → Prop) : Prop :=
  If ((aN : Int) != (bN : Int))
  (R false w)
  (F_ref03_SameInts_L1 aP aN aC bP bN bC ⟨(0 : Int)⟩ w
  (fun w1 =>
  R true w1)
  (fun t4_1 w1_1 =>
  R t4_1 w1_1))

def lit_ref03_SameInts_L1 (f : (Option Addr) × Nat × Nat × (Option Addr) × Nat × Nat) (s : S_ref03_SameInts_L1) : Env := [⟨0, .slice f.1 f.2.1 f.2.2.1, none⟩, ⟨1, .slice f.2.2.2.1 f.2.2.2.2.1 f.2.2.2.2.2, none⟩, ⟨5, .int .i64 s.i, none⟩]

def dec_ref03_SameInts_L1 (e : Env) (K : ((Option Addr) × Nat × Nat × (Option Addr) × Nat × Nat) → S_ref03_SameInts_L1 → Prop) : Prop :=
  onV (getV e 0) fun u1 =>
  asS u1 fun aP_1 aN_1 aC_1 =>
  onV (getV e 1) fun u2 =>
  asS u2 fun bP_1 bN_1 bC_1 =>
  onV (getV e 5) fun u3 =>
  asI .i64 u3 fun i =>
    K (aP_1, aN_1, aC_1, bP_1, bN_1, bC_1) ⟨i⟩

theorem dec_ref03_SameInts_L1_ok {N : Nat} (e : Env) (a : Act) (K : ((Option Addr) × Nat × Nat × (Option Addr) × Nat × Nat) → S_ref03_SameInts_L1 → Prop) (hr : Rep N a e) (h0 : dec_ref03_SameInts_L1 e K) : ∃ f s, K f s ∧ Rep N a (lit_ref03_SameInts_L1 f s) := by
  unfold dec_ref03_SameInts_L1 at h0
  obtain ⟨u1, g0, h1⟩ := onV_elim h0
  obtain ⟨aP_1, aN_1, aC_1, rfl, h2⟩ := asS_elim h1
  obtain ⟨u2, g1, h3⟩ := onV_elim h2
  obtain ⟨bP_1, bN_1, bC_1, rfl, h4⟩ := asS_elim h3
  obtain ⟨u3, g5, h5⟩ := onV_elim h4
  obtain ⟨i, rfl, h6⟩ := asI_elim h5
  exact ⟨_, _, h6, rep_less hr (by simp [lit_ref03_SameInts_L1, g0, g1, g5])⟩

def spec_ref03_SameInts_L1 (Q : Post) (e : Env) (w : World) : Prop :=
  dec_ref03_SameInts_L1 e fun f s => F_ref03_SameInts_L1 f.1 f.2.1 f.2.2.1 f.2.2.2.1 f.2.2.2.2.1 f.2.2.2.2.2 s w (fun w1 => Q (.exit 0) [] w1) (fun t4 w1 => Q .ret [⟨4, .bool t4, none⟩] w1)

def G_ref03_SameInts : Gen where
  loop := lookL [([false, true, false, true, true], spec_ref03_SameInts_L1)]
  plan := fun id =>
    bif Nat.beq id 6 then some ([0, 0, 3, 7, 0, 0, 48, 112, 255], .take 0 (.take 1 (.take 2 (.take 3 (.take 4 (.take 5 (.take 6 (.take 7 (.take 8 .done))))))))) else none

def dx_ref03_SameInts_L1_0 (e : Env) (K : ((Option Addr) × Nat × Nat × (Option Addr) × Nat × Nat) → Prop) : Prop :=
  onV (getV e 0) fun u1 =>
  asS u1 fun aP_1 aN_1 aC_1 =>
  onV (getV e 1) fun u2 =>
  asS u2 fun bP_1 bN_1 bC_1 =>
    K (aP_1, aN_1, aC_1, bP_1, bN_1, bC_1)

def dx_ref03_SameInts_L1_ret (e : Env) (K : ((Option Addr) × Nat × Nat × (Option Addr) × Nat × Nat) → Bool → Prop) : Prop :=
  onV (getV e 0) fun u1 =>
  asS u1 fun aP_1 aN_1 aC_1 =>
  onV (getV e 1) fun u2 =>
  asS u2 fun bP_1 bN_1 bC_1 =>
  onV (getV e 4) fun u3 =>
  asB u3 fun t4 =>
    K (aP_1, aN_1, aC_1, bP_1, bN_1, bC_1) t4

theorem body_ref03_SameInts_L1 (f : (Option Addr) × Nat × Nat × (Option Addr) × Nat × Nat) (s : S_ref03_SameInts_L1) (w : World) (Kn : ((Option Addr) × Nat × Nat × (Option Addr) × Nat × Nat) → S_ref03_SameInts_L1 → World → Prop) (Kx0 : ((Option Addr) × Nat × Nat × (Option Addr) × Nat × Nat) → World → Prop) (Kr : ((Option Addr) × Nat × Nat × (Option Addr) × Nat × Nat) → Bool → World → Prop) :
    B_ref03_SameInts_L1 f.1 f.2.1 f.2.2.1 f.2.2.2.1 f.2.2.2.2.1 f.2.2.2.2.2 s w (fun s1 w1 => Kn f s1 w1) (fun w1 => Kx0 f w1) (fun t4 w1 => Kr f t4 w1) =
    den Try.prog Try.f19.ntmps G_ref03_SameInts (sub (codeOf Try.f19) [false, false, true, false, true, true]) [false, false, true, false, true, true] (roundQ (fun e w => dec_ref03_SameInts_L1 e fun f s => Kn f s w) (fun e w => dx_ref03_SameInts_L1_ret e fun f t4 => Kr f t4 w) (fun id e w => match Nat.beq id 0 with | true => dx_ref03_SameInts_L1_0 e fun f => Kx0 f w | false => False)) (lit_ref03_SameInts_L1 f s) w := by kernel_rfl

theorem ok_ref03_SameInts_L1 : OneOk Try.prog Try.f19.ntmps G_ref03_SameInts (codeOf Try.f19) [false, true, false, true, true] spec_ref03_SameInts_L1 := by
  intro c hc ih Q e w a hr h
  have hcc : sub (codeOf Try.f19) [false, false, true, false, true, true] = c := sub_of_codeAt hc
  obtain ⟨f, s, h, hrep⟩ := dec_ref03_SameInts_L1_ok e a _ hr h
  obtain ⟨J, μ, hj, hround⟩ := h
  refine loop_rule_deep seat_ok seat_mixed ih lit_ref03_SameInts_L1 dec_ref03_SameInts_L1 dec_ref03_SameInts_L1_ok hc f J μ (Kr := fun e w => dx_ref03_SameInts_L1_ret e fun f1 t4 => f1 = f ∧ Q .ret [⟨4, .bool t4, none⟩] w) (Kx := fun id e w => match Nat.beq id 0 with | true => (dx_ref03_SameInts_L1_0 e fun f1 => f1 = f ∧ Q (.exit 0) [] w) | false => False) ?_ ?_ ?_ s w a hj hrep
  · intro e a w hr h0
    unfold dx_ref03_SameInts_L1_ret at h0
    obtain ⟨u1, g0, h1⟩ := onV_elim h0
    obtain ⟨aP_1, aN_1, aC_1, rfl, h2⟩ := asS_elim h1
    obtain ⟨u2, g1, h3⟩ := onV_elim h2
    obtain ⟨bP_1, bN_1, bC_1, rfl, h4⟩ := asS_elim h3
    obtain ⟨u3, g4, h5⟩ := onV_elim h4
    obtain ⟨t4, rfl, h6⟩ := asB_elim h5
    obtain ⟨hf, hq⟩ := h6
    subst hf
    exact ⟨_, rep_less hr (by simp [g4]), hq⟩
  · intro id e a w hr h0
    (try dsimp only at h0)
    split at h0
    · rename_i hid
      obtain rfl := Nat.eq_of_beq_eq_true hid
      unfold dx_ref03_SameInts_L1_0 at h0
      obtain ⟨u1, g0, h1⟩ := onV_elim h0
      obtain ⟨aP_1, aN_1, aC_1, rfl, h2⟩ := asS_elim h1
      obtain ⟨u2, g1, h3⟩ := onV_elim h2
      obtain ⟨bP_1, bN_1, bC_1, rfl, h4⟩ := asS_elim h3
      obtain ⟨hf, hq⟩ := h4
      subst hf
      exact ⟨_, rep_less hr (by simp), hq⟩
    · exact h0.elim
  · intro s w hj
    have hb := hround s w hj
    rw [← hcc]
    have e1 := body_ref03_SameInts_L1 f s w (fun f1 s1 w1 => f1 = f ∧ J s1 w1 ∧ μ s1 w1 < μ s w) (fun f1 w1 => f1 = f ∧ Q (.exit 0) [] w1) (fun f1 t4 w1 => f1 = f ∧ Q .ret [⟨4, .bool t4, none⟩] w1)
    simp only [true_and] at e1
    exact cast e1 hb

theorem loops_ref03_SameInts : LoopOk Try.prog Try.f19.ntmps G_ref03_SameInts (codeOf Try.f19) := loopOk_list rfl ⟨ok_ref03_SameInts_L1, trivial⟩

theorem den_ref03_SameInts (aP : Option Addr) (aN : Nat) (aC : Nat) (bP : Option Addr) (bN : Nat) (bC : Nat) (w : World) (R : Value → World → Prop) :
    F_ref03_SameInts aP aN aC bP bN bC w (fun r w1 => R (.bool r) w1) = den Try.prog Try.f19.ntmps G_ref03_SameInts (codeOf Try.f19) [] (postD Try.prog Try.f19.results.toList R) (entry [.slice aP aN aC, .slice bP bN bC] 0) w := by kernel_rfl

theorem C_ref03_SameInts.of {aP : Option Addr} {aN : Nat} {aC : Nat} {bP : Option Addr} {bN : Nat} {bC : Nat} {w : World} {R : Bool → World → Prop} (h : F_ref03_SameInts aP aN aC bP bN bC w R) : C_ref03_SameInts aP aN aC bP bN bC w R := by
  refine (calls_of_den (c := codeOf Try.f19) seat_ok seat_mixed Try.func19 (by kernel_rfl) loops_ref03_SameInts (args := [.slice aP aN aC, .slice bP bN bC]) rfl (R := fun v w1 => ∃ (r : Bool), v = (.bool r : Value) ∧ R r w1) ?_).mono ?_
  · rw [← den_ref03_SameInts]
    have e : (fun r w1 => ∃ (r' : Bool), (.bool r : Value) = (.bool r' : Value) ∧ R r' w1) = R := by
      funext r w1
      exact propext ⟨fun ⟨r', he, h⟩ => by simp at he; simp_all, fun h => ⟨_, rfl, h⟩⟩
    simpa only [e] using h
  · rintro en w1 ⟨v, he, r, rfl, h⟩
    exact ⟨_, he, h⟩

structure S_ref03_SameRuns_L1 where
  i : Int

/-- One round. -/
def B_ref03_SameRuns_L1 (aP_1 : Option Addr) (aN_1 : Nat) (aC_1 : Nat) (bP_1 : Option Addr) (bN_1 : Nat) (bC_1 : Nat) (s : S_ref03_SameRuns_L1) (w : World) (Kn : S_ref03_SameRuns_L1 → World → Prop) (Kx0 : World → Prop) (Kr : Bool → World → Prop) : Prop :=
  If (decide ((s.i : Int) < (aN_1 : Int)))
  (0 ≤ (s.i : Int) ∧ (s.i : Int) < (aN_1 : Int) ∧ NN aP_1 fun a =>
  ∃ t200 : Int, (drw w).cell? ((a.add ((s.i : Int).toNat * 2)).add 0) = some (.int .i64 t200) ∧
  ∃ t201 : Int, (drw w).cell? ((a.add ((s.i : Int).toNat * 2)).add 1) = some (.int .i64 t201) ∧
  0 ≤ (s.i : Int) ∧ (s.i : Int) < (bN_1 : Int) ∧ NN bP_1 fun a_1 =>
  ∃ t240 : Int, (drw w).cell? ((a_1.add ((s.i : Int).toNat * 2)).add 0) = some (.int .i64 t240) ∧
  ∃ t241 : Int, (drw w).cell? ((a_1.add ((s.i : Int).toNat * 2)).add 1) = some (.int .i64 t241) ∧
  AggEq Try.prog 58 (.agg #[.int .i64 t200, .int .i64 t201]) (.agg #[.int .i64 t240, .int .i64 t241]) fun bb =>
  If (!bb)
  (Kr false (drw w))
  (Kn ⟨(IntKind.i64.wrap ((s.i : Int) + (1 : Int)))⟩ (drw w)))
  (Kx0 w)

def F_ref03_SameRuns_L1 (aP_1 : Option Addr) (aN_1 : Nat) (aC_1 : Nat) (bP_1 : Option Addr) (bN_1 : Nat) (bC_1 : Nat) (s : S_ref03_SameRuns_L1) (w : World) (Kx0 : World → Prop) (Kr : Bool → World → Prop) : Prop :=
  LoopS (fun s w Kn => B_ref03_SameRuns_L1 aP_1 aN_1 aC_1 bP_1 bN_1 bC_1 s w Kn Kx0 Kr) s w

def F_ref03_SameRuns (aP : Option Addr) (aN : Nat) (aC : Nat) (bP : Option Addr) (bN : Nat) (bC : Nat) (w : World) (R : Bool → World → Prop) : Prop :=
  If ((aN : Int) != (bN : Int))
  (R false w)
  (F_ref03_SameRuns_L1 aP aN aC bP bN bC ⟨(0 : Int)⟩ w
  (fun w1 =>
  R true w1)
  (fun t4_1 w1_1 =>
  R t4_1 w1_1))

def lit_ref03_SameRuns_L1 (f : (Option Addr) × Nat × Nat × (Option Addr) × Nat × Nat) (s : S_ref03_SameRuns_L1) : Env := [⟨0, .slice f.1 f.2.1 f.2.2.1, none⟩, ⟨1, .slice f.2.2.2.1 f.2.2.2.2.1 f.2.2.2.2.2, none⟩, ⟨5, .int .i64 s.i, none⟩]

def dec_ref03_SameRuns_L1 (e : Env) (K : ((Option Addr) × Nat × Nat × (Option Addr) × Nat × Nat) → S_ref03_SameRuns_L1 → Prop) : Prop :=
  onV (getV e 0) fun u1 =>
  asS u1 fun aP_1 aN_1 aC_1 =>
  onV (getV e 1) fun u2 =>
  asS u2 fun bP_1 bN_1 bC_1 =>
  onV (getV e 5) fun u3 =>
  asI .i64 u3 fun i =>
    K (aP_1, aN_1, aC_1, bP_1, bN_1, bC_1) ⟨i⟩

theorem dec_ref03_SameRuns_L1_ok {N : Nat} (e : Env) (a : Act) (K : ((Option Addr) × Nat × Nat × (Option Addr) × Nat × Nat) → S_ref03_SameRuns_L1 → Prop) (hr : Rep N a e) (h0 : dec_ref03_SameRuns_L1 e K) : ∃ f s, K f s ∧ Rep N a (lit_ref03_SameRuns_L1 f s) := by
  unfold dec_ref03_SameRuns_L1 at h0
  obtain ⟨u1, g0, h1⟩ := onV_elim h0
  obtain ⟨aP_1, aN_1, aC_1, rfl, h2⟩ := asS_elim h1
  obtain ⟨u2, g1, h3⟩ := onV_elim h2
  obtain ⟨bP_1, bN_1, bC_1, rfl, h4⟩ := asS_elim h3
  obtain ⟨u3, g5, h5⟩ := onV_elim h4
  obtain ⟨i, rfl, h6⟩ := asI_elim h5
  exact ⟨_, _, h6, rep_less hr (by simp [lit_ref03_SameRuns_L1, g0, g1, g5])⟩

def spec_ref03_SameRuns_L1 (Q : Post) (e : Env) (w : World) : Prop :=
  dec_ref03_SameRuns_L1 e fun f s => F_ref03_SameRuns_L1 f.1 f.2.1 f.2.2.1 f.2.2.2.1 f.2.2.2.2.1 f.2.2.2.2.2 s w (fun w1 => Q (.exit 0) [] w1) (fun t4 w1 => Q .ret [⟨4, .bool t4, none⟩] w1)

def G_ref03_SameRuns : Gen where
  loop := lookL [([false, true, false, true, true], spec_ref03_SameRuns_L1)]
  plan := fun id =>
    bif Nat.beq id 6 then some ([0, 0, 3, 7, 0, 0, 48, 112, 255], .take 0 (.take 1 (.take 2 (.take 3 (.take 4 (.take 5 (.take 6 (.take 7 (.take 8 .done))))))))) else none

def dx_ref03_SameRuns_L1_0 (e : Env) (K : ((Option Addr) × Nat × Nat × (Option Addr) × Nat × Nat) → Prop) : Prop :=
  onV (getV e 0) fun u1 =>
  asS u1 fun aP_1 aN_1 aC_1 =>
  onV (getV e 1) fun u2 =>
  asS u2 fun bP_1 bN_1 bC_1 =>
    K (aP_1, aN_1, aC_1, bP_1, bN_1, bC_1)

def dx_ref03_SameRuns_L1_ret (e : Env) (K : ((Option Addr) × Nat × Nat × (Option Addr) × Nat × Nat) → Bool → Prop) : Prop :=
  onV (getV e 0) fun u1 =>
  asS u1 fun aP_1 aN_1 aC_1 =>
  onV (getV e 1) fun u2 =>
  asS u2 fun bP_1 bN_1 bC_1 =>
  onV (getV e 4) fun u3 =>
  asB u3 fun t4 =>
    K (aP_1, aN_1, aC_1, bP_1, bN_1, bC_1) t4

theorem body_ref03_SameRuns_L1 (f : (Option Addr) × Nat × Nat × (Option Addr) × Nat × Nat) (s : S_ref03_SameRuns_L1) (w : World) (Kn : ((Option Addr) × Nat × Nat × (Option Addr) × Nat × Nat) → S_ref03_SameRuns_L1 → World → Prop) (Kx0 : ((Option Addr) × Nat × Nat × (Option Addr) × Nat × Nat) → World → Prop) (Kr : ((Option Addr) × Nat × Nat × (Option Addr) × Nat × Nat) → Bool → World → Prop) :
    B_ref03_SameRuns_L1 f.1 f.2.1 f.2.2.1 f.2.2.2.1 f.2.2.2.2.1 f.2.2.2.2.2 s w (fun s1 w1 => Kn f s1 w1) (fun w1 => Kx0 f w1) (fun t4 w1 => Kr f t4 w1) =
    den Try.prog Try.f20.ntmps G_ref03_SameRuns (sub (codeOf Try.f20) [false, false, true, false, true, true]) [false, false, true, false, true, true] (roundQ (fun e w => dec_ref03_SameRuns_L1 e fun f s => Kn f s w) (fun e w => dx_ref03_SameRuns_L1_ret e fun f t4 => Kr f t4 w) (fun id e w => match Nat.beq id 0 with | true => dx_ref03_SameRuns_L1_0 e fun f => Kx0 f w | false => False)) (lit_ref03_SameRuns_L1 f s) w := by kernel_rfl

theorem ok_ref03_SameRuns_L1 : OneOk Try.prog Try.f20.ntmps G_ref03_SameRuns (codeOf Try.f20) [false, true, false, true, true] spec_ref03_SameRuns_L1 := by
  intro c hc ih Q e w a hr h
  have hcc : sub (codeOf Try.f20) [false, false, true, false, true, true] = c := sub_of_codeAt hc
  obtain ⟨f, s, h, hrep⟩ := dec_ref03_SameRuns_L1_ok e a _ hr h
  obtain ⟨J, μ, hj, hround⟩ := h
  refine loop_rule_deep seat_ok seat_mixed ih lit_ref03_SameRuns_L1 dec_ref03_SameRuns_L1 dec_ref03_SameRuns_L1_ok hc f J μ (Kr := fun e w => dx_ref03_SameRuns_L1_ret e fun f1 t4 => f1 = f ∧ Q .ret [⟨4, .bool t4, none⟩] w) (Kx := fun id e w => match Nat.beq id 0 with | true => (dx_ref03_SameRuns_L1_0 e fun f1 => f1 = f ∧ Q (.exit 0) [] w) | false => False) ?_ ?_ ?_ s w a hj hrep
  · intro e a w hr h0
    unfold dx_ref03_SameRuns_L1_ret at h0
    obtain ⟨u1, g0, h1⟩ := onV_elim h0
    obtain ⟨aP_1, aN_1, aC_1, rfl, h2⟩ := asS_elim h1
    obtain ⟨u2, g1, h3⟩ := onV_elim h2
    obtain ⟨bP_1, bN_1, bC_1, rfl, h4⟩ := asS_elim h3
    obtain ⟨u3, g4, h5⟩ := onV_elim h4
    obtain ⟨t4, rfl, h6⟩ := asB_elim h5
    obtain ⟨hf, hq⟩ := h6
    subst hf
    exact ⟨_, rep_less hr (by simp [g4]), hq⟩
  · intro id e a w hr h0
    (try dsimp only at h0)
    split at h0
    · rename_i hid
      obtain rfl := Nat.eq_of_beq_eq_true hid
      unfold dx_ref03_SameRuns_L1_0 at h0
      obtain ⟨u1, g0, h1⟩ := onV_elim h0
      obtain ⟨aP_1, aN_1, aC_1, rfl, h2⟩ := asS_elim h1
      obtain ⟨u2, g1, h3⟩ := onV_elim h2
      obtain ⟨bP_1, bN_1, bC_1, rfl, h4⟩ := asS_elim h3
      obtain ⟨hf, hq⟩ := h4
      subst hf
      exact ⟨_, rep_less hr (by simp), hq⟩
    · exact h0.elim
  · intro s w hj
    have hb := hround s w hj
    rw [← hcc]
    have e1 := body_ref03_SameRuns_L1 f s w (fun f1 s1 w1 => f1 = f ∧ J s1 w1 ∧ μ s1 w1 < μ s w) (fun f1 w1 => f1 = f ∧ Q (.exit 0) [] w1) (fun f1 t4 w1 => f1 = f ∧ Q .ret [⟨4, .bool t4, none⟩] w1)
    simp only [true_and] at e1
    exact cast e1 hb

theorem loops_ref03_SameRuns : LoopOk Try.prog Try.f20.ntmps G_ref03_SameRuns (codeOf Try.f20) := loopOk_list rfl ⟨ok_ref03_SameRuns_L1, trivial⟩

theorem den_ref03_SameRuns (aP : Option Addr) (aN : Nat) (aC : Nat) (bP : Option Addr) (bN : Nat) (bC : Nat) (w : World) (R : Value → World → Prop) :
    F_ref03_SameRuns aP aN aC bP bN bC w (fun r w1 => R (.bool r) w1) = den Try.prog Try.f20.ntmps G_ref03_SameRuns (codeOf Try.f20) [] (postD Try.prog Try.f20.results.toList R) (entry [.slice aP aN aC, .slice bP bN bC] 0) w := by kernel_rfl

theorem C_ref03_SameRuns.of {aP : Option Addr} {aN : Nat} {aC : Nat} {bP : Option Addr} {bN : Nat} {bC : Nat} {w : World} {R : Bool → World → Prop} (h : F_ref03_SameRuns aP aN aC bP bN bC w R) : C_ref03_SameRuns aP aN aC bP bN bC w R := by
  refine (calls_of_den (c := codeOf Try.f20) seat_ok seat_mixed Try.func20 (by kernel_rfl) loops_ref03_SameRuns (args := [.slice aP aN aC, .slice bP bN bC]) rfl (R := fun v w1 => ∃ (r : Bool), v = (.bool r : Value) ∧ R r w1) ?_).mono ?_
  · rw [← den_ref03_SameRuns]
    have e : (fun r w1 => ∃ (r' : Bool), (.bool r : Value) = (.bool r' : Value) ∧ R r' w1) = R := by
      funext r w1
      exact propext ⟨fun ⟨r', he, h⟩ => by simp at he; simp_all, fun h => ⟨_, rfl, h⟩⟩
    simpa only [e] using h
  · rintro en w1 ⟨v, he, r, rfl, h⟩
    exact ⟨_, he, h⟩

def F_ref03_New (limitx : Int) (w : World) (R : Option Addr → World → Prop) : Prop :=
  If (decide (limitx < (0 : Int)))
  (R none w)
  (If (decide (limitx > (1048576 : Int)))
  (R none w)
  (BSl Try.prog 33 1 [(0, .int .i64 0)] w fun t9P t9N t9C w1 =>
  New w1 (.cells #[.slice none 0 0, .slice t9P t9N t9C, .int .i64 limitx] 70) fun r w1_1 =>
  R (some ⟨r, 0, none⟩) w1_1))

def G_ref03_New : Gen where
  loop := lookL []
  plan := fun _ => none

theorem loops_ref03_New : LoopOk Try.prog Try.f21.ntmps G_ref03_New (codeOf Try.f21) := loopOk_none fun _ => rfl

theorem den_ref03_New (limitx : Int) (w : World) (R : Value → World → Prop) :
    F_ref03_New limitx w (fun r w1 => R (.pointer r) w1) = den Try.prog Try.f21.ntmps G_ref03_New (codeOf Try.f21) [] (postD Try.prog Try.f21.results.toList R) (entry [.int .i64 limitx] 0) w := by kernel_rfl

theorem C_ref03_New.of {limitx : Int} {w : World} {R : Option Addr → World → Prop} (h : F_ref03_New limitx w R) : C_ref03_New limitx w R := by
  refine (calls_of_den (c := codeOf Try.f21) seat_ok seat_mixed Try.func21 (by kernel_rfl) loops_ref03_New (args := [.int .i64 limitx]) rfl (R := fun v w1 => ∃ (r : Option Addr), v = (.pointer r : Value) ∧ R r w1) ?_).mono ?_
  · rw [← den_ref03_New]
    have e : (fun r w1 => ∃ (r' : Option Addr), (.pointer r : Value) = (.pointer r' : Value) ∧ R r' w1) = R := by
      funext r w1
      exact propext ⟨fun ⟨r', he, h⟩ => by simp at he; simp_all, fun h => ⟨_, rfl, h⟩⟩
    simpa only [e] using h
  · rintro en w1 ⟨v, he, r, rfl, h⟩
    exact ⟨_, he, h⟩

def F_law03_do_k1 (p : Option Addr) (x : Option Addr) (R : Bool → World → Prop) (n : Int) (w1_1 : World) : Prop :=
  C_pool_Pool_Take p n w1_1 fun t270 t271 w1_2 =>
  C_ref03_Pool_Take x n w1_2 fun t330 t331 w1_3 =>
  If (t270 == t330)
  (R (t271 == t331) w1_3)
  (R false w1_3)

def F_law03_do (p : Option Addr) (x : Option Addr) (o0 : Int) (o1 : Int) (o2 : Int) (w : World) (R : Bool → World → Prop) : Prop :=
  New w (.cells #[.int .i64 o0, .int .i64 o1, .int .i64 o2] 30) fun r w1 =>
  ∃ Kind : Int, w1.cell? ((⟨r, 0, none⟩ : Addr).add 0) = some (.int .i64 Kind) ∧
  If (Kind == (1 : Int))
  (∃ N : Int, w1.cell? ((⟨r, 0, none⟩ : Addr).add 2) = some (.int .i64 N) ∧
  If (decide (N > (1000 : Int)))
  (If (decide (N ≤ (1048576 : Int)))
  (F_law03_do_k1 p x R (1000 : Int) w1)
  (F_law03_do_k1 p x R N w1))
  (F_law03_do_k1 p x R N w1))
  (If (Kind == (2 : Int))
  (∃ At : Int, (drw w1).cell? ((⟨r, 0, none⟩ : Addr).add 1) = some (.int .i64 At) ∧
  ∃ N_1 : Int, (drw w1).cell? ((⟨r, 0, none⟩ : Addr).add 2) = some (.int .i64 N_1) ∧
  ∃ At_1 : Int, (drw w1).cell? ((⟨r, 0, none⟩ : Addr).add 1) = some (.int .i64 At_1) ∧
  ∃ N_2 : Int, (drw w1).cell? ((⟨r, 0, none⟩ : Addr).add 2) = some (.int .i64 N_2) ∧
  C_pool_Pool_Give p At N_1 (drw w1) fun t51 w1_4 =>
  w1_4.cell? ((⟨r, 0, none⟩ : Addr).add 2) = (drw w1).cell? ((⟨r, 0, none⟩ : Addr).add 2) ∧
  w1_4.cell? ((⟨r, 0, none⟩ : Addr).add 1) = (drw w1).cell? ((⟨r, 0, none⟩ : Addr).add 1) ∧
  C_ref03_Pool_Give x At_1 N_2 w1_4 fun t57 w1_5 =>
  R (t51 == t57) w1_5)
  (If (Kind == (3 : Int))
  (C_pool_Pool_Open p w1 fun t62 w1_6 =>
  C_ref03_Pool_Open x w1_6 fun t64 w1_7 =>
  R (t62 == t64) w1_7)
  (If (Kind == (4 : Int))
  (C_pool_Pool_Close p w1 fun t69 w1_8 =>
  C_ref03_Pool_Close x w1_8 fun t71 w1_9 =>
  R (t69 == t71) w1_9)
  (If (Kind == (5 : Int))
  (C_ref03_Pool_Back x w1 fun w1_10 =>
  C_pool_Pool_Back p w1_10 fun t78 w1_11 =>
  R (t78 == (0 : Int)) w1_11)
  (If (Kind == (6 : Int))
  (∃ N_3 : Int, w1.cell? ((⟨r, 0, none⟩ : Addr).add 2) = some (.int .i64 N_3) ∧
  C_law03_sweep p x N_3 w1 fun t86 w1_12 =>
  R t86 w1_12)
  (R true w1))))))

def G_law03_do : Gen where
  loop := lookL []
  plan := fun id =>
    bif Nat.beq id 10 then some ([0, 0, 2, 0, 8, 31, 0, 0, 128, 0, 512, 2047, 4095, 8191], .take 0 (.take 1 (.take 2 (.take 3 (.take 4 (.take 6 (.take 7 (.take 8 (.take 9 (.take 10 (.take 5 (.take 11 (.take 12 (.take 13 .done)))))))))))))) else none

theorem loops_law03_do : LoopOk Try.prog Try.f22.ntmps G_law03_do (codeOf Try.f22) := loopOk_none fun _ => rfl

theorem den_law03_do (p : Option Addr) (x : Option Addr) (o0 : Int) (o1 : Int) (o2 : Int) (w : World) (R : Value → World → Prop) :
    F_law03_do p x o0 o1 o2 w (fun r w1 => R (.bool r) w1) = den Try.prog Try.f22.ntmps G_law03_do (codeOf Try.f22) [] (postD Try.prog Try.f22.results.toList R) (entry [.pointer p, .pointer x, .agg #[.int .i64 o0, .int .i64 o1, .int .i64 o2]] 0) w := by kernel_rfl

theorem C_law03_do.of {p : Option Addr} {x : Option Addr} {o0 : Int} {o1 : Int} {o2 : Int} {w : World} {R : Bool → World → Prop} (h : F_law03_do p x o0 o1 o2 w R) : C_law03_do p x o0 o1 o2 w R := by
  refine (calls_of_den (c := codeOf Try.f22) seat_ok seat_mixed Try.func22 (by kernel_rfl) loops_law03_do (args := [.pointer p, .pointer x, .agg #[.int .i64 o0, .int .i64 o1, .int .i64 o2]]) rfl (R := fun v w1 => ∃ (r : Bool), v = (.bool r : Value) ∧ R r w1) ?_).mono ?_
  · rw [← den_law03_do]
    have e : (fun r w1 => ∃ (r' : Bool), (.bool r : Value) = (.bool r' : Value) ∧ R r' w1) = R := by
      funext r w1
      exact propext ⟨fun ⟨r', he, h⟩ => by simp at he; simp_all, fun h => ⟨_, rfl, h⟩⟩
    simpa only [e] using h
  · rintro en w1 ⟨v, he, r, rfl, h⟩
    exact ⟨_, he, h⟩

structure S_law03_alike_L1 where
  sx : Int

def F_law03_alike_k1 (R : Bool → World → Prop) (w1_9 : World) : Prop :=
  R false w1_9

/-- One round. -/
def B_law03_alike_L1 (p_1 : Option Addr) (x_1 : Option Addr) (s : S_law03_alike_L1) (w : World) (Kn : S_law03_alike_L1 → World → Prop) (Kx0 : World → Prop) (Kr : Bool → World → Prop) : Prop :=
  NN x_1 fun a_6 =>
  ∃ StartsP_1 : Option Addr, ∃ StartsN_1 : Nat, ∃ StartsC_1 : Nat, w.cell? (a_6.add 1) = some (.slice StartsP_1 StartsN_1 StartsC_1) ∧
  If (decide ((s.sx : Int) ≤ (StartsN_1 : Int)))
  (C_pool_Pool_Runs p_1 (s.sx : Int) w fun t88P t88N t88C w1_11 =>
  C_ref03_Pool_Runs x_1 (s.sx : Int) w1_11 fun t91P t91N t91C w1_12 =>
  C_ref03_SameRuns t88P t88N t88C t91P t91N t91C w1_12 fun t92 w1_13 =>
  If (!t92)
  (Kr false w1_13)
  (Kn ⟨(IntKind.i64.wrap ((s.sx : Int) + (1 : Int)))⟩ w1_13))
  (Kx0 w)

def F_law03_alike_L1 (p_1 : Option Addr) (x_1 : Option Addr) (s : S_law03_alike_L1) (w : World) (Kx0 : World → Prop) (Kr : Bool → World → Prop) : Prop :=
  LoopS (fun s w Kn => B_law03_alike_L1 p_1 x_1 s w Kn Kx0 Kr) s w

def F_law03_alike_k2 (p : Option Addr) (x : Option Addr) (R : Bool → World → Prop) (t76 : Bool) (w1_10 : World) : Prop :=
  If t76
  (R false w1_10)
  (F_law03_alike_L1 p x ⟨(-1)⟩ w1_10
  (fun w1_14 =>
  R true w1_14)
  (fun t6_1 w1_15 =>
  R t6_1 w1_15))

def F_law03_alike (p : Option Addr) (x : Option Addr) (atx : Int) (w : World) (R : Bool → World → Prop) : Prop :=
  NN x fun a =>
  ∃ FP : Option Addr, ∃ FN : Nat, ∃ FC : Nat, (drw w).cell? (a.add 0) = some (.slice FP FN FC) ∧
  C_pool_Pool_Top p (drw w) fun t9 w1 =>
  w1.cell? (a.add 0) = (drw w).cell? (a.add 0) ∧
  If (t9 != (FN : Int))
  (F_law03_alike_k1 R w1)
  (NN x fun a_1 =>
  ∃ Limit : Int, w1.cell? (a_1.add 2) = some (.int .i64 Limit) ∧
  C_pool_Pool_Limit p w1 fun t18 w1_1 =>
  w1_1.cell? (a_1.add 2) = w1.cell? (a_1.add 2) ∧
  If (t18 != Limit)
  (F_law03_alike_k1 R w1_1)
  (C_pool_Pool_Left p w1_1 fun t27 w1_2 =>
  C_ref03_Pool_Left x w1_2 fun t29 w1_3 =>
  If (t27 != t29)
  (F_law03_alike_k1 R w1_3)
  (NN x fun a_2 =>
  ∃ StartsP : Option Addr, ∃ StartsN : Nat, ∃ StartsC : Nat, w1_3.cell? (a_2.add 1) = some (.slice StartsP StartsN StartsC) ∧
  C_pool_Pool_Starts p w1_3 fun t34P t34N t34C w1_4 =>
  w1_4.cell? (a_2.add 1) = w1_3.cell? (a_2.add 1) ∧
  C_ref03_SameInts t34P t34N t34C StartsP StartsN StartsC w1_4 fun t39 w1_5 =>
  If (!t39)
  (F_law03_alike_k1 R w1_5)
  (C_pool_Pool_Segment p atx w1_5 fun t45 w1_6 =>
  C_ref03_Pool_Segment x atx w1_6 fun t48 w1_7 =>
  If (t45 != t48)
  (F_law03_alike_k1 R w1_7)
  (C_pool_Pool_Free p atx w1_7 fun t54 w1_8 =>
  If (decide (atx ≥ (0 : Int)))
  (NN x fun a_3 =>
  ∃ FP_1 : Option Addr, ∃ FN_1 : Nat, ∃ FC_1 : Nat, w1_8.cell? (a_3.add 0) = some (.slice FP_1 FN_1 FC_1) ∧
  If (decide (atx < (FN_1 : Int)))
  (NN x fun a_4 =>
  ∃ FP_2 : Option Addr, ∃ FN_2 : Nat, ∃ FC_2 : Nat, w1_8.cell? (a_4.add 0) = some (.slice FP_2 FN_2 FC_2) ∧
  0 ≤ atx ∧ atx < (FN_2 : Int) ∧ NN FP_2 fun a_5 =>
  ∃ t73 : Bool, w1_8.cell? (a_5.add (atx.toNat * 1)) = some (.bool t73) ∧
  F_law03_alike_k2 p x R (!(t54 == t73)) w1_8)
  (F_law03_alike_k2 p x R (!(t54 == false)) w1_8))
  (F_law03_alike_k2 p x R (!(t54 == false)) w1_8))))))

def lit_law03_alike_L1 (f : (Option Addr) × (Option Addr)) (s : S_law03_alike_L1) : Env := [⟨0, .pointer f.1, none⟩, ⟨1, .pointer f.2, none⟩, ⟨7, .int .i64 s.sx, none⟩]

def dec_law03_alike_L1 (e : Env) (K : ((Option Addr) × (Option Addr)) → S_law03_alike_L1 → Prop) : Prop :=
  onV (getV e 0) fun u1 =>
  asP u1 fun p_1 =>
  onV (getV e 1) fun u2 =>
  asP u2 fun x_1 =>
  onV (getV e 7) fun u3 =>
  asI .i64 u3 fun sx =>
    K (p_1, x_1) ⟨sx⟩

theorem dec_law03_alike_L1_ok {N : Nat} (e : Env) (a : Act) (K : ((Option Addr) × (Option Addr)) → S_law03_alike_L1 → Prop) (hr : Rep N a e) (h0 : dec_law03_alike_L1 e K) : ∃ f s, K f s ∧ Rep N a (lit_law03_alike_L1 f s) := by
  unfold dec_law03_alike_L1 at h0
  obtain ⟨u1, g0, h1⟩ := onV_elim h0
  obtain ⟨p_1, rfl, h2⟩ := asP_elim h1
  obtain ⟨u2, g1, h3⟩ := onV_elim h2
  obtain ⟨x_1, rfl, h4⟩ := asP_elim h3
  obtain ⟨u3, g7, h5⟩ := onV_elim h4
  obtain ⟨sx, rfl, h6⟩ := asI_elim h5
  exact ⟨_, _, h6, rep_less hr (by simp [lit_law03_alike_L1, g0, g1, g7])⟩

def spec_law03_alike_L1 (Q : Post) (e : Env) (w : World) : Prop :=
  dec_law03_alike_L1 e fun f s => F_law03_alike_L1 f.1 f.2 s w (fun w1 => Q (.exit 0) [] w1) (fun t6 w1 => Q .ret [⟨6, .bool t6, none⟩] w1)

def G_law03_alike : Gen where
  loop := lookL [([false, true, false, true, true], spec_law03_alike_L1)]
  plan := fun id =>
    bif Nat.beq id 1 then some ([0, 1, 0, 4, 12, 28, 60, 127, 255, 511, 1023, 511, 2559, 6655, 14847, 32767, 65535, 131071, 262143, 524287, 262143, 2097151, 4194303, 8388607, 16777215, 33554431, 67108863, 33554431, 167772159, 436207615, 973078527, 2147483647, 4294967295, 8589934591, 17179869183, 34359738367, 34359738367, 137438953471, 34359738367, 34359738367, 1099511627775, 2199023255551, 4398046511103, 8796093022207, 17592186044415, 17592186044415, 70368744177663, 17592186044415, 158329674399743, 562949953421311, 1125899906842623, 1125899906842623, 3377699720527871, 7881299347898367, 16888498602639359, 34902897112121343, 72057594037927935, 144115188075855871, 288230376151711743, 576460752303423487, 1152921504606846975, 2305843009213693951, 4611686018427387903, 576460752303423487, 18446744073709551615, 36893488147419103231, 73786976294838206463, 147573952589676412927, 295147905179352825855], .take 0 (.take 2 (.take 3 (.take 4 (.take 5 (.take 6 (.take 1 (.take 7 (.take 8 (.take 9 (.take 11 (.take 12 (.take 13 (.take 14 (.take 10 (.take 15 (.take 16 (.take 17 (.take 18 (.take 20 (.take 19 (.take 21 (.take 22 (.take 23 (.take 24 (.take 25 (.take 27 (.take 28 (.take 29 (.take 30 (.take 26 (.take 31 (.take 32 (.take 33 (.take 34 (.take 35 (.take 36 (.take 38 (.take 39 (.take 37 (.take 40 (.take 41 (.take 42 (.take 43 (.take 44 (.take 45 (.take 47 (.take 48 (.take 46 (.take 49 (.take 50 (.take 51 (.take 52 (.take 53 (.take 54 (.take 55 (.take 56 (.take 57 (.take 58 (.take 59 (.take 60 (.take 61 (.take 62 (.take 63 (.take 64 (.take 65 (.take 66 (.take 67 (.take 68 .done))))))))))))))))))))))))))))))))))))))))))))))))))))))))))))))))))))) else none

def dx_law03_alike_L1_0 (e : Env) (K : ((Option Addr) × (Option Addr)) → Prop) : Prop :=
  onV (getV e 0) fun u1 =>
  asP u1 fun p_1 =>
  onV (getV e 1) fun u2 =>
  asP u2 fun x_1 =>
    K (p_1, x_1)

def dx_law03_alike_L1_ret (e : Env) (K : ((Option Addr) × (Option Addr)) → Bool → Prop) : Prop :=
  onV (getV e 0) fun u1 =>
  asP u1 fun p_1 =>
  onV (getV e 1) fun u2 =>
  asP u2 fun x_1 =>
  onV (getV e 6) fun u3 =>
  asB u3 fun t6 =>
    K (p_1, x_1) t6

theorem body_law03_alike_L1 (f : (Option Addr) × (Option Addr)) (s : S_law03_alike_L1) (w : World) (Kn : ((Option Addr) × (Option Addr)) → S_law03_alike_L1 → World → Prop) (Kx0 : ((Option Addr) × (Option Addr)) → World → Prop) (Kr : ((Option Addr) × (Option Addr)) → Bool → World → Prop) :
    B_law03_alike_L1 f.1 f.2 s w (fun s1 w1 => Kn f s1 w1) (fun w1 => Kx0 f w1) (fun t6 w1 => Kr f t6 w1) =
    den Try.prog Try.f23.ntmps G_law03_alike (sub (codeOf Try.f23) [false, false, true, false, true, true]) [false, false, true, false, true, true] (roundQ (fun e w => dec_law03_alike_L1 e fun f s => Kn f s w) (fun e w => dx_law03_alike_L1_ret e fun f t6 => Kr f t6 w) (fun id e w => match Nat.beq id 0 with | true => dx_law03_alike_L1_0 e fun f => Kx0 f w | false => False)) (lit_law03_alike_L1 f s) w := by kernel_rfl

theorem ok_law03_alike_L1 : OneOk Try.prog Try.f23.ntmps G_law03_alike (codeOf Try.f23) [false, true, false, true, true] spec_law03_alike_L1 := by
  intro c hc ih Q e w a hr h
  have hcc : sub (codeOf Try.f23) [false, false, true, false, true, true] = c := sub_of_codeAt hc
  obtain ⟨f, s, h, hrep⟩ := dec_law03_alike_L1_ok e a _ hr h
  obtain ⟨J, μ, hj, hround⟩ := h
  refine loop_rule_deep seat_ok seat_mixed ih lit_law03_alike_L1 dec_law03_alike_L1 dec_law03_alike_L1_ok hc f J μ (Kr := fun e w => dx_law03_alike_L1_ret e fun f1 t6 => f1 = f ∧ Q .ret [⟨6, .bool t6, none⟩] w) (Kx := fun id e w => match Nat.beq id 0 with | true => (dx_law03_alike_L1_0 e fun f1 => f1 = f ∧ Q (.exit 0) [] w) | false => False) ?_ ?_ ?_ s w a hj hrep
  · intro e a w hr h0
    unfold dx_law03_alike_L1_ret at h0
    obtain ⟨u1, g0, h1⟩ := onV_elim h0
    obtain ⟨p_1, rfl, h2⟩ := asP_elim h1
    obtain ⟨u2, g1, h3⟩ := onV_elim h2
    obtain ⟨x_1, rfl, h4⟩ := asP_elim h3
    obtain ⟨u3, g6, h5⟩ := onV_elim h4
    obtain ⟨t6, rfl, h6⟩ := asB_elim h5
    obtain ⟨hf, hq⟩ := h6
    subst hf
    exact ⟨_, rep_less hr (by simp [g6]), hq⟩
  · intro id e a w hr h0
    (try dsimp only at h0)
    split at h0
    · rename_i hid
      obtain rfl := Nat.eq_of_beq_eq_true hid
      unfold dx_law03_alike_L1_0 at h0
      obtain ⟨u1, g0, h1⟩ := onV_elim h0
      obtain ⟨p_1, rfl, h2⟩ := asP_elim h1
      obtain ⟨u2, g1, h3⟩ := onV_elim h2
      obtain ⟨x_1, rfl, h4⟩ := asP_elim h3
      obtain ⟨hf, hq⟩ := h4
      subst hf
      exact ⟨_, rep_less hr (by simp), hq⟩
    · exact h0.elim
  · intro s w hj
    have hb := hround s w hj
    rw [← hcc]
    have e1 := body_law03_alike_L1 f s w (fun f1 s1 w1 => f1 = f ∧ J s1 w1 ∧ μ s1 w1 < μ s w) (fun f1 w1 => f1 = f ∧ Q (.exit 0) [] w1) (fun f1 t6 w1 => f1 = f ∧ Q .ret [⟨6, .bool t6, none⟩] w1)
    simp only [true_and] at e1
    exact cast e1 hb

theorem loops_law03_alike : LoopOk Try.prog Try.f23.ntmps G_law03_alike (codeOf Try.f23) := loopOk_list rfl ⟨ok_law03_alike_L1, trivial⟩

theorem den_law03_alike (p : Option Addr) (x : Option Addr) (atx : Int) (w : World) (R : Value → World → Prop) :
    F_law03_alike p x atx w (fun r w1 => R (.bool r) w1) = den Try.prog Try.f23.ntmps G_law03_alike (codeOf Try.f23) [] (postD Try.prog Try.f23.results.toList R) (entry [.pointer p, .pointer x, .int .i64 atx] 0) w := by kernel_rfl

theorem C_law03_alike.of {p : Option Addr} {x : Option Addr} {atx : Int} {w : World} {R : Bool → World → Prop} (h : F_law03_alike p x atx w R) : C_law03_alike p x atx w R := by
  refine (calls_of_den (c := codeOf Try.f23) seat_ok seat_mixed Try.func23 (by kernel_rfl) loops_law03_alike (args := [.pointer p, .pointer x, .int .i64 atx]) rfl (R := fun v w1 => ∃ (r : Bool), v = (.bool r : Value) ∧ R r w1) ?_).mono ?_
  · rw [← den_law03_alike]
    have e : (fun r w1 => ∃ (r' : Bool), (.bool r : Value) = (.bool r' : Value) ∧ R r' w1) = R := by
      funext r w1
      exact propext ⟨fun ⟨r', he, h⟩ => by simp at he; simp_all, fun h => ⟨_, rfl, h⟩⟩
    simpa only [e] using h
  · rintro en w1 ⟨v, he, r, rfl, h⟩
    exact ⟨_, he, h⟩

def F_pool_Pool_Limit (p : Option Addr) (w : World) (R : Int → World → Prop) : Prop :=
  C_pool_Pool_made p w fun t4 w1 =>
  If (!t4)
  (R (0 : Int) w1)
  (NN p fun a =>
  ∃ limitx : Int, w1.cell? (a.add 2) = some (.int .i64 limitx) ∧
  R limitx w1)

def G_pool_Pool_Limit : Gen where
  loop := lookL []
  plan := fun _ => none

theorem loops_pool_Pool_Limit : LoopOk Try.prog Try.f24.ntmps G_pool_Pool_Limit (codeOf Try.f24) := loopOk_none fun _ => rfl

theorem den_pool_Pool_Limit (p : Option Addr) (w : World) (R : Value → World → Prop) :
    F_pool_Pool_Limit p w (fun r w1 => R (.int .i64 r) w1) = den Try.prog Try.f24.ntmps G_pool_Pool_Limit (codeOf Try.f24) [] (postD Try.prog Try.f24.results.toList R) (entry [.pointer p] 0) w := by kernel_rfl

theorem C_pool_Pool_Limit.of {p : Option Addr} {w : World} {R : Int → World → Prop} (h : F_pool_Pool_Limit p w R) : C_pool_Pool_Limit p w R := by
  refine (calls_of_den (c := codeOf Try.f24) seat_ok seat_mixed Try.func24 (by kernel_rfl) loops_pool_Pool_Limit (args := [.pointer p]) rfl (R := fun v w1 => ∃ (r : Int), v = (.int .i64 r : Value) ∧ R r w1) ?_).mono ?_
  · rw [← den_pool_Pool_Limit]
    have e : (fun r w1 => ∃ (r' : Int), (.int .i64 r : Value) = (.int .i64 r' : Value) ∧ R r' w1) = R := by
      funext r w1
      exact propext ⟨fun ⟨r', he, h⟩ => by simp at he; simp_all, fun h => ⟨_, rfl, h⟩⟩
    simpa only [e] using h
  · rintro en w1 ⟨v, he, r, rfl, h⟩
    exact ⟨_, he, h⟩

structure S_pool_Pool_Sweep_L1 where
  n : Int
  t15 : Int

/-- One round. -/
def B_pool_Pool_Sweep_L1 (p_1 : Option Addr) (livex_1 : Value) (t14 : Int) (s : S_pool_Pool_Sweep_L1) (w : World) (Kn : S_pool_Pool_Sweep_L1 → World → Prop) (Kx0 : Int → World → Prop) : Prop :=
  If (decide ((s.t15 : Int) < t14))
  (C_pool_Pool_sweep p_1 (s.t15 : Int) livex_1 w fun t22 w1_1 =>
  Kn ⟨(IntKind.i64.wrap ((s.n : Int) + t22)), (IntKind.i64.wrap ((s.t15 : Int) + (1 : Int)))⟩ w1_1)
  (Kx0 (s.n : Int) w)

def F_pool_Pool_Sweep_L1 (p_1 : Option Addr) (livex_1 : Value) (t14 : Int) (s : S_pool_Pool_Sweep_L1) (w : World) (Kx0 : Int → World → Prop) : Prop :=
  LoopS (fun s w Kn => B_pool_Pool_Sweep_L1 p_1 livex_1 t14 s w Kn Kx0) s w

def F_pool_Pool_Sweep (p : Option Addr) (livex : Value) (w : World) (R : Int → World → Prop) : Prop :=
  C_pool_Pool_made p w fun t8 w1 =>
  If (!t8)
  (R (0 : Int) w1)
  (NN p fun a =>
  ∃ lP : Option Addr, ∃ lN : Nat, ∃ lC : Nat, w1.cell? (a.add 0) = some (.slice lP lN lC) ∧
  F_pool_Pool_Sweep_L1 p livex (lN : Int) ⟨(0 : Int), (0 : Int)⟩ w1
  (fun n_2 w1_2 =>
  R n_2 w1_2))

def lit_pool_Pool_Sweep_L1 (f : (Option Addr) × Value × Int) (s : S_pool_Pool_Sweep_L1) : Env := [⟨0, .pointer f.1, none⟩, ⟨1, f.2.1, none⟩, ⟨14, .int .i64 f.2.2, none⟩, ⟨5, .int .i64 s.n, none⟩, ⟨15, .int .i64 s.t15, none⟩]

def dec_pool_Pool_Sweep_L1 (e : Env) (K : ((Option Addr) × Value × Int) → S_pool_Pool_Sweep_L1 → Prop) : Prop :=
  onV (getV e 0) fun u1 =>
  asP u1 fun p_1 =>
  onV (getV e 1) fun u2 =>
  asV u2 fun livex_1 =>
  onV (getV e 14) fun u3 =>
  asI .i64 u3 fun t14 =>
  onV (getV e 5) fun u4 =>
  asI .i64 u4 fun n =>
  onV (getV e 15) fun u5 =>
  asI .i64 u5 fun t15 =>
    K (p_1, livex_1, t14) ⟨n, t15⟩

theorem dec_pool_Pool_Sweep_L1_ok {N : Nat} (e : Env) (a : Act) (K : ((Option Addr) × Value × Int) → S_pool_Pool_Sweep_L1 → Prop) (hr : Rep N a e) (h0 : dec_pool_Pool_Sweep_L1 e K) : ∃ f s, K f s ∧ Rep N a (lit_pool_Pool_Sweep_L1 f s) := by
  unfold dec_pool_Pool_Sweep_L1 at h0
  obtain ⟨u1, g0, h1⟩ := onV_elim h0
  obtain ⟨p_1, rfl, h2⟩ := asP_elim h1
  obtain ⟨u2, g1, h3⟩ := onV_elim h2
  obtain ⟨livex_1, rfl, h4⟩ := asV_elim h3
  obtain ⟨u3, g14, h5⟩ := onV_elim h4
  obtain ⟨t14, rfl, h6⟩ := asI_elim h5
  obtain ⟨u4, g5, h7⟩ := onV_elim h6
  obtain ⟨n, rfl, h8⟩ := asI_elim h7
  obtain ⟨u5, g15, h9⟩ := onV_elim h8
  obtain ⟨t15, rfl, h10⟩ := asI_elim h9
  exact ⟨_, _, h10, rep_less hr (by simp [lit_pool_Pool_Sweep_L1, g0, g1, g14, g5, g15])⟩

def spec_pool_Pool_Sweep_L1 (Q : Post) (e : Env) (w : World) : Prop :=
  dec_pool_Pool_Sweep_L1 e fun f s => F_pool_Pool_Sweep_L1 f.1 f.2.1 f.2.2 s w (fun n_1 w1 => Q (.exit 0) [⟨5, .int .i64 n_1, none⟩] w1)

def G_pool_Pool_Sweep : Gen where
  loop := lookL [([false, true, false, true, true, true], spec_pool_Pool_Sweep_L1)]
  plan := fun _ => none

def dx_pool_Pool_Sweep_L1_0 (e : Env) (K : ((Option Addr) × Value × Int) → Int → Prop) : Prop :=
  onV (getV e 0) fun u1 =>
  asP u1 fun p_1 =>
  onV (getV e 1) fun u2 =>
  asV u2 fun livex_1 =>
  onV (getV e 14) fun u3 =>
  asI .i64 u3 fun t14 =>
  onV (getV e 5) fun u4 =>
  asI .i64 u4 fun n_1 =>
    K (p_1, livex_1, t14) n_1

theorem body_pool_Pool_Sweep_L1 (f : (Option Addr) × Value × Int) (s : S_pool_Pool_Sweep_L1) (w : World) (Kn : ((Option Addr) × Value × Int) → S_pool_Pool_Sweep_L1 → World → Prop) (Kx0 : ((Option Addr) × Value × Int) → Int → World → Prop) :
    B_pool_Pool_Sweep_L1 f.1 f.2.1 f.2.2 s w (fun s1 w1 => Kn f s1 w1) (fun n_1 w1 => Kx0 f n_1 w1) =
    den Try.prog Try.f25.ntmps G_pool_Pool_Sweep (sub (codeOf Try.f25) [false, false, true, false, true, true, true]) [false, false, true, false, true, true, true] (roundQ (fun e w => dec_pool_Pool_Sweep_L1 e fun f s => Kn f s w) (fun e w => False) (fun id e w => match Nat.beq id 0 with | true => dx_pool_Pool_Sweep_L1_0 e fun f n_1 => Kx0 f n_1 w | false => False)) (lit_pool_Pool_Sweep_L1 f s) w := by kernel_rfl

theorem ok_pool_Pool_Sweep_L1 : OneOk Try.prog Try.f25.ntmps G_pool_Pool_Sweep (codeOf Try.f25) [false, true, false, true, true, true] spec_pool_Pool_Sweep_L1 := by
  intro c hc ih Q e w a hr h
  have hcc : sub (codeOf Try.f25) [false, false, true, false, true, true, true] = c := sub_of_codeAt hc
  obtain ⟨f, s, h, hrep⟩ := dec_pool_Pool_Sweep_L1_ok e a _ hr h
  obtain ⟨J, μ, hj, hround⟩ := h
  refine loop_rule_deep seat_ok seat_mixed ih lit_pool_Pool_Sweep_L1 dec_pool_Pool_Sweep_L1 dec_pool_Pool_Sweep_L1_ok hc f J μ (Kr := fun e w => False) (Kx := fun id e w => match Nat.beq id 0 with | true => (dx_pool_Pool_Sweep_L1_0 e fun f1 n_1 => f1 = f ∧ Q (.exit 0) [⟨5, .int .i64 n_1, none⟩] w) | false => False) ?_ ?_ ?_ s w a hj hrep
  · intro e a w hr h
    exact h.elim
  · intro id e a w hr h0
    (try dsimp only at h0)
    split at h0
    · rename_i hid
      obtain rfl := Nat.eq_of_beq_eq_true hid
      unfold dx_pool_Pool_Sweep_L1_0 at h0
      obtain ⟨u1, g0, h1⟩ := onV_elim h0
      obtain ⟨p_1, rfl, h2⟩ := asP_elim h1
      obtain ⟨u2, g1, h3⟩ := onV_elim h2
      obtain ⟨livex_1, rfl, h4⟩ := asV_elim h3
      obtain ⟨u3, g14, h5⟩ := onV_elim h4
      obtain ⟨t14, rfl, h6⟩ := asI_elim h5
      obtain ⟨u4, g5, h7⟩ := onV_elim h6
      obtain ⟨n_1, rfl, h8⟩ := asI_elim h7
      obtain ⟨hf, hq⟩ := h8
      subst hf
      exact ⟨_, rep_less hr (by simp [g5]), hq⟩
    · exact h0.elim
  · intro s w hj
    have hb := hround s w hj
    rw [← hcc]
    have e1 := body_pool_Pool_Sweep_L1 f s w (fun f1 s1 w1 => f1 = f ∧ J s1 w1 ∧ μ s1 w1 < μ s w) (fun f1 n_1 w1 => f1 = f ∧ Q (.exit 0) [⟨5, .int .i64 n_1, none⟩] w1)
    simp only [true_and] at e1
    exact cast e1 hb

theorem loops_pool_Pool_Sweep : LoopOk Try.prog Try.f25.ntmps G_pool_Pool_Sweep (codeOf Try.f25) := loopOk_list rfl ⟨ok_pool_Pool_Sweep_L1, trivial⟩

theorem den_pool_Pool_Sweep (p : Option Addr) (livex : Value) (w : World) (R : Value → World → Prop) :
    F_pool_Pool_Sweep p livex w (fun r w1 => R (.int .i64 r) w1) = den Try.prog Try.f25.ntmps G_pool_Pool_Sweep (codeOf Try.f25) [] (postD Try.prog Try.f25.results.toList R) (entry [.pointer p, livex] 0) w := by kernel_rfl

theorem C_pool_Pool_Sweep.of {p : Option Addr} {livex : Value} {w : World} {R : Int → World → Prop} (h : F_pool_Pool_Sweep p livex w R) : C_pool_Pool_Sweep p livex w R := by
  refine (calls_of_den (c := codeOf Try.f25) seat_ok seat_mixed Try.func25 (by kernel_rfl) loops_pool_Pool_Sweep (args := [.pointer p, livex]) rfl (R := fun v w1 => ∃ (r : Int), v = (.int .i64 r : Value) ∧ R r w1) ?_).mono ?_
  · rw [← den_pool_Pool_Sweep]
    have e : (fun r w1 => ∃ (r' : Int), (.int .i64 r : Value) = (.int .i64 r' : Value) ∧ R r' w1) = R := by
      funext r w1
      exact propext ⟨fun ⟨r', he, h⟩ => by simp at he; simp_all, fun h => ⟨_, rfl, h⟩⟩
    simpa only [e] using h
  · rintro en w1 ⟨v, he, r, rfl, h⟩
    exact ⟨_, he, h⟩

def F_law03_dead (atx : Int) (w : World) (R : Bool → World → Prop) : Prop :=
  R false w

def G_law03_dead : Gen where
  loop := lookL []
  plan := fun _ => none

theorem loops_law03_dead : LoopOk Try.prog Try.f26.ntmps G_law03_dead (codeOf Try.f26) := loopOk_none fun _ => rfl

theorem den_law03_dead (atx : Int) (w : World) (R : Value → World → Prop) :
    F_law03_dead atx w (fun r w1 => R (.bool r) w1) = den Try.prog Try.f26.ntmps G_law03_dead (codeOf Try.f26) [] (postD Try.prog Try.f26.results.toList R) (entry [.int .i64 atx] 0) w := by kernel_rfl

theorem C_law03_dead.of {atx : Int} {w : World} {R : Bool → World → Prop} (h : F_law03_dead atx w R) : C_law03_dead atx w R := by
  refine (calls_of_den (c := codeOf Try.f26) seat_ok seat_mixed Try.func26 (by kernel_rfl) loops_law03_dead (args := [.int .i64 atx]) rfl (R := fun v w1 => ∃ (r : Bool), v = (.bool r : Value) ∧ R r w1) ?_).mono ?_
  · rw [← den_law03_dead]
    have e : (fun r w1 => ∃ (r' : Bool), (.bool r : Value) = (.bool r' : Value) ∧ R r' w1) = R := by
      funext r w1
      exact propext ⟨fun ⟨r', he, h⟩ => by simp at he; simp_all, fun h => ⟨_, rfl, h⟩⟩
    simpa only [e] using h
  · rintro en w1 ⟨v, he, r, rfl, h⟩
    exact ⟨_, he, h⟩

structure S_pool_Pool_Segment_L1 where
  i : Int

def F_pool_Pool_Segment_k1 (R : Int → World → Prop) (w1_1 : World) : Prop :=
  R (-1) w1_1

/-- One round. -/
def B_pool_Pool_Segment_L1 (p_1 : Option Addr) (atx_1 : Int) (s : S_pool_Pool_Segment_L1) (w : World) (Kn : S_pool_Pool_Segment_L1 → World → Prop) (Kx0 : Int → World → Prop) : Prop :=
  NN p_1 fun a_2 =>
  ∃ lP_1 : Option Addr, ∃ lN_1 : Nat, ∃ lC_1 : Nat, w.cell? (a_2.add 0) = some (.slice lP_1 lN_1 lC_1) ∧
  If (decide ((IntKind.i64.wrap ((s.i : Int) + (1 : Int))) < (lN_1 : Int)))
  (NN p_1 fun a_3 =>
  ∃ lP_2 : Option Addr, ∃ lN_2 : Nat, ∃ lC_2 : Nat, w.cell? (a_3.add 0) = some (.slice lP_2 lN_2 lC_2) ∧
  0 ≤ (IntKind.i64.wrap ((s.i : Int) + (1 : Int))) ∧ (IntKind.i64.wrap ((s.i : Int) + (1 : Int))) < (lN_2 : Int) ∧ NN lP_2 fun a_4 =>
  ∃ startx : Int, w.cell? ((a_4.add ((IntKind.i64.wrap ((s.i : Int) + (1 : Int))).toNat * 2)).add 0) = some (.int .i64 startx) ∧
  If (startx == atx_1)
  (Kn ⟨(IntKind.i64.wrap ((s.i : Int) + (1 : Int)))⟩ w)
  (Kx0 (s.i : Int) w))
  (Kx0 (s.i : Int) w)

def F_pool_Pool_Segment_L1 (p_1 : Option Addr) (atx_1 : Int) (s : S_pool_Pool_Segment_L1) (w : World) (Kx0 : Int → World → Prop) : Prop :=
  LoopS (fun s w Kn => B_pool_Pool_Segment_L1 p_1 atx_1 s w Kn Kx0) s w

def F_pool_Pool_Segment (p : Option Addr) (atx : Int) (w : World) (R : Int → World → Prop) : Prop :=
  C_pool_Pool_made p w fun t8 w1 =>
  If (!t8)
  (F_pool_Pool_Segment_k1 R w1)
  (If (decide (atx < (0 : Int)))
  (F_pool_Pool_Segment_k1 R w1)
  (NN p fun a =>
  ∃ topx : Int, w1.cell? (a.add 1) = some (.int .i64 topx) ∧
  If (decide (atx ≥ topx))
  (R (-1) w1)
  (NN p fun a_1 =>
  ∃ lP : Option Addr, ∃ lN : Nat, ∃ lC : Nat, w1.cell? (a_1.add 0) = some (.slice lP lN lC) ∧
  C_slices_BinarySearchFunc lP lN lC atx (.func (.func 48) #[] #[]) w1 fun t280 t281 w1_2 =>
  If (!t281)
  (R (IntKind.i64.wrap (t280 - (1 : Int))) w1_2)
  (F_pool_Pool_Segment_L1 p atx ⟨t280⟩ w1_2
  (fun i_2 w1_3 =>
  R i_2 w1_3)))))

def lit_pool_Pool_Segment_L1 (f : (Option Addr) × Int) (s : S_pool_Pool_Segment_L1) : Env := [⟨0, .pointer f.1, none⟩, ⟨1, .int .i64 f.2, none⟩, ⟨5, .int .i64 s.i, none⟩]

def dec_pool_Pool_Segment_L1 (e : Env) (K : ((Option Addr) × Int) → S_pool_Pool_Segment_L1 → Prop) : Prop :=
  onV (getV e 0) fun u1 =>
  asP u1 fun p_1 =>
  onV (getV e 1) fun u2 =>
  asI .i64 u2 fun atx_1 =>
  onV (getV e 5) fun u3 =>
  asI .i64 u3 fun i =>
    K (p_1, atx_1) ⟨i⟩

theorem dec_pool_Pool_Segment_L1_ok {N : Nat} (e : Env) (a : Act) (K : ((Option Addr) × Int) → S_pool_Pool_Segment_L1 → Prop) (hr : Rep N a e) (h0 : dec_pool_Pool_Segment_L1 e K) : ∃ f s, K f s ∧ Rep N a (lit_pool_Pool_Segment_L1 f s) := by
  unfold dec_pool_Pool_Segment_L1 at h0
  obtain ⟨u1, g0, h1⟩ := onV_elim h0
  obtain ⟨p_1, rfl, h2⟩ := asP_elim h1
  obtain ⟨u2, g1, h3⟩ := onV_elim h2
  obtain ⟨atx_1, rfl, h4⟩ := asI_elim h3
  obtain ⟨u3, g5, h5⟩ := onV_elim h4
  obtain ⟨i, rfl, h6⟩ := asI_elim h5
  exact ⟨_, _, h6, rep_less hr (by simp [lit_pool_Pool_Segment_L1, g0, g1, g5])⟩

def spec_pool_Pool_Segment_L1 (Q : Post) (e : Env) (w : World) : Prop :=
  dec_pool_Pool_Segment_L1 e fun f s => F_pool_Pool_Segment_L1 f.1 f.2 s w (fun i_1 w1 => Q (.exit 0) [⟨5, .int .i64 i_1, none⟩] w1)

def G_pool_Pool_Segment : Gen where
  loop := lookL [([false, false, true, true, true, true], spec_pool_Pool_Segment_L1)]
  plan := fun _ => none

def dx_pool_Pool_Segment_L1_0 (e : Env) (K : ((Option Addr) × Int) → Int → Prop) : Prop :=
  onV (getV e 0) fun u1 =>
  asP u1 fun p_1 =>
  onV (getV e 1) fun u2 =>
  asI .i64 u2 fun atx_1 =>
  onV (getV e 5) fun u3 =>
  asI .i64 u3 fun i_1 =>
    K (p_1, atx_1) i_1

theorem body_pool_Pool_Segment_L1 (f : (Option Addr) × Int) (s : S_pool_Pool_Segment_L1) (w : World) (Kn : ((Option Addr) × Int) → S_pool_Pool_Segment_L1 → World → Prop) (Kx0 : ((Option Addr) × Int) → Int → World → Prop) :
    B_pool_Pool_Segment_L1 f.1 f.2 s w (fun s1 w1 => Kn f s1 w1) (fun i_1 w1 => Kx0 f i_1 w1) =
    den Try.prog Try.f27.ntmps G_pool_Pool_Segment (sub (codeOf Try.f27) [false, false, false, true, true, true, true]) [false, false, false, true, true, true, true] (roundQ (fun e w => dec_pool_Pool_Segment_L1 e fun f s => Kn f s w) (fun e w => False) (fun id e w => match Nat.beq id 0 with | true => dx_pool_Pool_Segment_L1_0 e fun f i_1 => Kx0 f i_1 w | false => False)) (lit_pool_Pool_Segment_L1 f s) w := by kernel_rfl

theorem ok_pool_Pool_Segment_L1 : OneOk Try.prog Try.f27.ntmps G_pool_Pool_Segment (codeOf Try.f27) [false, false, true, true, true, true] spec_pool_Pool_Segment_L1 := by
  intro c hc ih Q e w a hr h
  have hcc : sub (codeOf Try.f27) [false, false, false, true, true, true, true] = c := sub_of_codeAt hc
  obtain ⟨f, s, h, hrep⟩ := dec_pool_Pool_Segment_L1_ok e a _ hr h
  obtain ⟨J, μ, hj, hround⟩ := h
  refine loop_rule_deep seat_ok seat_mixed ih lit_pool_Pool_Segment_L1 dec_pool_Pool_Segment_L1 dec_pool_Pool_Segment_L1_ok hc f J μ (Kr := fun e w => False) (Kx := fun id e w => match Nat.beq id 0 with | true => (dx_pool_Pool_Segment_L1_0 e fun f1 i_1 => f1 = f ∧ Q (.exit 0) [⟨5, .int .i64 i_1, none⟩] w) | false => False) ?_ ?_ ?_ s w a hj hrep
  · intro e a w hr h
    exact h.elim
  · intro id e a w hr h0
    (try dsimp only at h0)
    split at h0
    · rename_i hid
      obtain rfl := Nat.eq_of_beq_eq_true hid
      unfold dx_pool_Pool_Segment_L1_0 at h0
      obtain ⟨u1, g0, h1⟩ := onV_elim h0
      obtain ⟨p_1, rfl, h2⟩ := asP_elim h1
      obtain ⟨u2, g1, h3⟩ := onV_elim h2
      obtain ⟨atx_1, rfl, h4⟩ := asI_elim h3
      obtain ⟨u3, g5, h5⟩ := onV_elim h4
      obtain ⟨i_1, rfl, h6⟩ := asI_elim h5
      obtain ⟨hf, hq⟩ := h6
      subst hf
      exact ⟨_, rep_less hr (by simp [g5]), hq⟩
    · exact h0.elim
  · intro s w hj
    have hb := hround s w hj
    rw [← hcc]
    have e1 := body_pool_Pool_Segment_L1 f s w (fun f1 s1 w1 => f1 = f ∧ J s1 w1 ∧ μ s1 w1 < μ s w) (fun f1 i_1 w1 => f1 = f ∧ Q (.exit 0) [⟨5, .int .i64 i_1, none⟩] w1)
    simp only [true_and] at e1
    exact cast e1 hb

theorem loops_pool_Pool_Segment : LoopOk Try.prog Try.f27.ntmps G_pool_Pool_Segment (codeOf Try.f27) := loopOk_list rfl ⟨ok_pool_Pool_Segment_L1, trivial⟩

theorem den_pool_Pool_Segment (p : Option Addr) (atx : Int) (w : World) (R : Value → World → Prop) :
    F_pool_Pool_Segment p atx w (fun r w1 => R (.int .i64 r) w1) = den Try.prog Try.f27.ntmps G_pool_Pool_Segment (codeOf Try.f27) [] (postD Try.prog Try.f27.results.toList R) (entry [.pointer p, .int .i64 atx] 0) w := by kernel_rfl

theorem C_pool_Pool_Segment.of {p : Option Addr} {atx : Int} {w : World} {R : Int → World → Prop} (h : F_pool_Pool_Segment p atx w R) : C_pool_Pool_Segment p atx w R := by
  refine (calls_of_den (c := codeOf Try.f27) seat_ok seat_mixed Try.func27 (by kernel_rfl) loops_pool_Pool_Segment (args := [.pointer p, .int .i64 atx]) rfl (R := fun v w1 => ∃ (r : Int), v = (.int .i64 r : Value) ∧ R r w1) ?_).mono ?_
  · rw [← den_pool_Pool_Segment]
    have e : (fun r w1 => ∃ (r' : Int), (.int .i64 r : Value) = (.int .i64 r' : Value) ∧ R r' w1) = R := by
      funext r w1
      exact propext ⟨fun ⟨r', he, h⟩ => by simp at he; simp_all, fun h => ⟨_, rfl, h⟩⟩
    simpa only [e] using h
  · rintro en w1 ⟨v, he, r, rfl, h⟩
    exact ⟨_, he, h⟩

def F_pool_Pool_made (p : Option Addr) (w : World) (R : Bool → World → Prop) : Prop :=
  If (!p.isNone)
  (NN p fun a =>
  ∃ lP : Option Addr, ∃ lN : Nat, ∃ lC : Nat, w.cell? (a.add 0) = some (.slice lP lN lC) ∧
  R (decide ((lN : Int) > (0 : Int))) w)
  (R false w)

def G_pool_Pool_made : Gen where
  loop := lookL []
  plan := fun _ => none

theorem loops_pool_Pool_made : LoopOk Try.prog Try.f28.ntmps G_pool_Pool_made (codeOf Try.f28) := loopOk_none fun _ => rfl

theorem den_pool_Pool_made (p : Option Addr) (w : World) (R : Value → World → Prop) :
    F_pool_Pool_made p w (fun r w1 => R (.bool r) w1) = den Try.prog Try.f28.ntmps G_pool_Pool_made (codeOf Try.f28) [] (postD Try.prog Try.f28.results.toList R) (entry [.pointer p] 0) w := by kernel_rfl

theorem C_pool_Pool_made.of {p : Option Addr} {w : World} {R : Bool → World → Prop} (h : F_pool_Pool_made p w R) : C_pool_Pool_made p w R := by
  refine (calls_of_den (c := codeOf Try.f28) seat_ok seat_mixed Try.func28 (by kernel_rfl) loops_pool_Pool_made (args := [.pointer p]) rfl (R := fun v w1 => ∃ (r : Bool), v = (.bool r : Value) ∧ R r w1) ?_).mono ?_
  · rw [← den_pool_Pool_made]
    have e : (fun r w1 => ∃ (r' : Bool), (.bool r : Value) = (.bool r' : Value) ∧ R r' w1) = R := by
      funext r w1
      exact propext ⟨fun ⟨r', he, h⟩ => by simp at he; simp_all, fun h => ⟨_, rfl, h⟩⟩
    simpa only [e] using h
  · rintro en w1 ⟨v, he, r, rfl, h⟩
    exact ⟨_, he, h⟩

def F_pool_Pool_last (p : Option Addr) (w : World) (R : Option Addr → World → Prop) : Prop :=
  NN p fun a =>
  ∃ lP : Option Addr, ∃ lN : Nat, ∃ lC : Nat, (drw w).cell? (a.add 0) = some (.slice lP lN lC) ∧
  NN p fun a_1 =>
  ∃ lP_1 : Option Addr, ∃ lN_1 : Nat, ∃ lC_1 : Nat, (drw w).cell? (a_1.add 0) = some (.slice lP_1 lN_1 lC_1) ∧
  0 ≤ (IntKind.i64.wrap ((lN_1 : Int) - (1 : Int))) ∧ (IntKind.i64.wrap ((lN_1 : Int) - (1 : Int))) < (lN : Int) ∧ NN lP fun a_2 =>
  R (some (a_2.add ((IntKind.i64.wrap ((lN_1 : Int) - (1 : Int))).toNat * 2))) (drw w)

def G_pool_Pool_last : Gen where
  loop := lookL []
  plan := fun id =>
    bif Nat.beq id 1 then some ([0, 1, 3, 7, 0, 16, 48, 112, 240, 496, 1023, 2047], .take 0 (.take 1 (.take 2 (.take 3 (.take 4 (.take 5 (.take 6 (.take 7 (.take 8 (.take 9 (.take 10 (.take 11 .done)))))))))))) else none

theorem loops_pool_Pool_last : LoopOk Try.prog Try.f29.ntmps G_pool_Pool_last (codeOf Try.f29) := loopOk_none fun _ => rfl

theorem den_pool_Pool_last (p : Option Addr) (w : World) (R : Value → World → Prop) :
    F_pool_Pool_last p w (fun r w1 => R (.pointer r) w1) = den Try.prog Try.f29.ntmps G_pool_Pool_last (codeOf Try.f29) [] (postD Try.prog Try.f29.results.toList R) (entry [.pointer p] 0) w := by kernel_rfl

theorem C_pool_Pool_last.of {p : Option Addr} {w : World} {R : Option Addr → World → Prop} (h : F_pool_Pool_last p w R) : C_pool_Pool_last p w R := by
  refine (calls_of_den (c := codeOf Try.f29) seat_ok seat_mixed Try.func29 (by kernel_rfl) loops_pool_Pool_last (args := [.pointer p]) rfl (R := fun v w1 => ∃ (r : Option Addr), v = (.pointer r : Value) ∧ R r w1) ?_).mono ?_
  · rw [← den_pool_Pool_last]
    have e : (fun r w1 => ∃ (r' : Option Addr), (.pointer r : Value) = (.pointer r' : Value) ∧ R r' w1) = R := by
      funext r w1
      exact propext ⟨fun ⟨r', he, h⟩ => by simp at he; simp_all, fun h => ⟨_, rfl, h⟩⟩
    simpa only [e] using h
  · rintro en w1 ⟨v, he, r, rfl, h⟩
    exact ⟨_, he, h⟩

structure S_slices_IndexFunc_L1 where
  t8 : Int

/-- One round. -/
def B_slices_IndexFunc_L1 (sP_1 : Option Addr) (sN_1 : Nat) (sC_1 : Nat) (fx_1 : Value) (t7 : Int) (s : S_slices_IndexFunc_L1) (w : World) (Kn : S_slices_IndexFunc_L1 → World → Prop) (Kx0 : World → Prop) (Kr : Int → World → Prop) : Prop :=
  If (decide ((s.t8 : Int) < t7))
  (0 ≤ (s.t8 : Int) ∧ (s.t8 : Int) < (sN_1 : Int) ∧ NN sP_1 fun a =>
  ∃ t150 : Int, w.cell? ((a.add ((s.t8 : Int).toNat * 2)).add 0) = some (.int .i64 t150) ∧
  ∃ t151 : Int, w.cell? ((a.add ((s.t8 : Int).toNat * 2)).add 1) = some (.int .i64 t151) ∧
  CallV Try.prog fx_1 [.agg #[.int .i64 t150, .int .i64 t151]] w fun v w1 => ∃ t16 : Bool, v = (.bool t16) ∧
  If t16
  (Kr (s.t8 : Int) w1)
  (Kn ⟨(IntKind.i64.wrap ((s.t8 : Int) + (1 : Int)))⟩ w1))
  (Kx0 w)

def F_slices_IndexFunc_L1 (sP_1 : Option Addr) (sN_1 : Nat) (sC_1 : Nat) (fx_1 : Value) (t7 : Int) (s : S_slices_IndexFunc_L1) (w : World) (Kx0 : World → Prop) (Kr : Int → World → Prop) : Prop :=
  LoopS (fun s w Kn => B_slices_IndexFunc_L1 sP_1 sN_1 sC_1 fx_1 t7 s w Kn Kx0 Kr) s w

def F_slices_IndexFunc (sP : Option Addr) (sN : Nat) (sC : Nat) (fx : Value) (w : World) (R : Int → World → Prop) : Prop :=
  F_slices_IndexFunc_L1 sP sN sC fx (sN : Int) ⟨(0 : Int)⟩ w
  (fun w1_1 =>
  R (-1) w1_1)
  (fun t4_1 w1_2 =>
  R t4_1 w1_2)

def lit_slices_IndexFunc_L1 (f : (Option Addr) × Nat × Nat × Value × Int) (s : S_slices_IndexFunc_L1) : Env := [⟨0, .slice f.1 f.2.1 f.2.2.1, none⟩, ⟨1, f.2.2.2.1, none⟩, ⟨7, .int .i64 f.2.2.2.2, none⟩, ⟨8, .int .i64 s.t8, none⟩]

def dec_slices_IndexFunc_L1 (e : Env) (K : ((Option Addr) × Nat × Nat × Value × Int) → S_slices_IndexFunc_L1 → Prop) : Prop :=
  onV (getV e 0) fun u1 =>
  asS u1 fun sP_1 sN_1 sC_1 =>
  onV (getV e 1) fun u2 =>
  asV u2 fun fx_1 =>
  onV (getV e 7) fun u3 =>
  asI .i64 u3 fun t7 =>
  onV (getV e 8) fun u4 =>
  asI .i64 u4 fun t8 =>
    K (sP_1, sN_1, sC_1, fx_1, t7) ⟨t8⟩

theorem dec_slices_IndexFunc_L1_ok {N : Nat} (e : Env) (a : Act) (K : ((Option Addr) × Nat × Nat × Value × Int) → S_slices_IndexFunc_L1 → Prop) (hr : Rep N a e) (h0 : dec_slices_IndexFunc_L1 e K) : ∃ f s, K f s ∧ Rep N a (lit_slices_IndexFunc_L1 f s) := by
  unfold dec_slices_IndexFunc_L1 at h0
  obtain ⟨u1, g0, h1⟩ := onV_elim h0
  obtain ⟨sP_1, sN_1, sC_1, rfl, h2⟩ := asS_elim h1
  obtain ⟨u2, g1, h3⟩ := onV_elim h2
  obtain ⟨fx_1, rfl, h4⟩ := asV_elim h3
  obtain ⟨u3, g7, h5⟩ := onV_elim h4
  obtain ⟨t7, rfl, h6⟩ := asI_elim h5
  obtain ⟨u4, g8, h7⟩ := onV_elim h6
  obtain ⟨t8, rfl, h8⟩ := asI_elim h7
  exact ⟨_, _, h8, rep_less hr (by simp [lit_slices_IndexFunc_L1, g0, g1, g7, g8])⟩

def spec_slices_IndexFunc_L1 (Q : Post) (e : Env) (w : World) : Prop :=
  dec_slices_IndexFunc_L1 e fun f s => F_slices_IndexFunc_L1 f.1 f.2.1 f.2.2.1 f.2.2.2.1 f.2.2.2.2 s w (fun w1 => Q (.exit 0) [] w1) (fun t4 w1 => Q .ret [⟨4, .int .i64 t4, none⟩] w1)

def G_slices_IndexFunc : Gen where
  loop := lookL [([false, true, false, true], spec_slices_IndexFunc_L1)]
  plan := fun _ => none

def dx_slices_IndexFunc_L1_0 (e : Env) (K : ((Option Addr) × Nat × Nat × Value × Int) → Prop) : Prop :=
  onV (getV e 0) fun u1 =>
  asS u1 fun sP_1 sN_1 sC_1 =>
  onV (getV e 1) fun u2 =>
  asV u2 fun fx_1 =>
  onV (getV e 7) fun u3 =>
  asI .i64 u3 fun t7 =>
    K (sP_1, sN_1, sC_1, fx_1, t7)

def dx_slices_IndexFunc_L1_ret (e : Env) (K : ((Option Addr) × Nat × Nat × Value × Int) → Int → Prop) : Prop :=
  onV (getV e 0) fun u1 =>
  asS u1 fun sP_1 sN_1 sC_1 =>
  onV (getV e 1) fun u2 =>
  asV u2 fun fx_1 =>
  onV (getV e 7) fun u3 =>
  asI .i64 u3 fun t7 =>
  onV (getV e 4) fun u4 =>
  asI .i64 u4 fun t4 =>
    K (sP_1, sN_1, sC_1, fx_1, t7) t4

theorem body_slices_IndexFunc_L1 (f : (Option Addr) × Nat × Nat × Value × Int) (s : S_slices_IndexFunc_L1) (w : World) (Kn : ((Option Addr) × Nat × Nat × Value × Int) → S_slices_IndexFunc_L1 → World → Prop) (Kx0 : ((Option Addr) × Nat × Nat × Value × Int) → World → Prop) (Kr : ((Option Addr) × Nat × Nat × Value × Int) → Int → World → Prop) :
    B_slices_IndexFunc_L1 f.1 f.2.1 f.2.2.1 f.2.2.2.1 f.2.2.2.2 s w (fun s1 w1 => Kn f s1 w1) (fun w1 => Kx0 f w1) (fun t4 w1 => Kr f t4 w1) =
    den Try.prog Try.f30.ntmps G_slices_IndexFunc (sub (codeOf Try.f30) [false, false, true, false, true]) [false, false, true, false, true] (roundQ (fun e w => dec_slices_IndexFunc_L1 e fun f s => Kn f s w) (fun e w => dx_slices_IndexFunc_L1_ret e fun f t4 => Kr f t4 w) (fun id e w => match Nat.beq id 0 with | true => dx_slices_IndexFunc_L1_0 e fun f => Kx0 f w | false => False)) (lit_slices_IndexFunc_L1 f s) w := by kernel_rfl

theorem ok_slices_IndexFunc_L1 : OneOk Try.prog Try.f30.ntmps G_slices_IndexFunc (codeOf Try.f30) [false, true, false, true] spec_slices_IndexFunc_L1 := by
  intro c hc ih Q e w a hr h
  have hcc : sub (codeOf Try.f30) [false, false, true, false, true] = c := sub_of_codeAt hc
  obtain ⟨f, s, h, hrep⟩ := dec_slices_IndexFunc_L1_ok e a _ hr h
  obtain ⟨J, μ, hj, hround⟩ := h
  refine loop_rule_deep seat_ok seat_mixed ih lit_slices_IndexFunc_L1 dec_slices_IndexFunc_L1 dec_slices_IndexFunc_L1_ok hc f J μ (Kr := fun e w => dx_slices_IndexFunc_L1_ret e fun f1 t4 => f1 = f ∧ Q .ret [⟨4, .int .i64 t4, none⟩] w) (Kx := fun id e w => match Nat.beq id 0 with | true => (dx_slices_IndexFunc_L1_0 e fun f1 => f1 = f ∧ Q (.exit 0) [] w) | false => False) ?_ ?_ ?_ s w a hj hrep
  · intro e a w hr h0
    unfold dx_slices_IndexFunc_L1_ret at h0
    obtain ⟨u1, g0, h1⟩ := onV_elim h0
    obtain ⟨sP_1, sN_1, sC_1, rfl, h2⟩ := asS_elim h1
    obtain ⟨u2, g1, h3⟩ := onV_elim h2
    obtain ⟨fx_1, rfl, h4⟩ := asV_elim h3
    obtain ⟨u3, g7, h5⟩ := onV_elim h4
    obtain ⟨t7, rfl, h6⟩ := asI_elim h5
    obtain ⟨u4, g4, h7⟩ := onV_elim h6
    obtain ⟨t4, rfl, h8⟩ := asI_elim h7
    obtain ⟨hf, hq⟩ := h8
    subst hf
    exact ⟨_, rep_less hr (by simp [g4]), hq⟩
  · intro id e a w hr h0
    (try dsimp only at h0)
    split at h0
    · rename_i hid
      obtain rfl := Nat.eq_of_beq_eq_true hid
      unfold dx_slices_IndexFunc_L1_0 at h0
      obtain ⟨u1, g0, h1⟩ := onV_elim h0
      obtain ⟨sP_1, sN_1, sC_1, rfl, h2⟩ := asS_elim h1
      obtain ⟨u2, g1, h3⟩ := onV_elim h2
      obtain ⟨fx_1, rfl, h4⟩ := asV_elim h3
      obtain ⟨u3, g7, h5⟩ := onV_elim h4
      obtain ⟨t7, rfl, h6⟩ := asI_elim h5
      obtain ⟨hf, hq⟩ := h6
      subst hf
      exact ⟨_, rep_less hr (by simp), hq⟩
    · exact h0.elim
  · intro s w hj
    have hb := hround s w hj
    rw [← hcc]
    have e1 := body_slices_IndexFunc_L1 f s w (fun f1 s1 w1 => f1 = f ∧ J s1 w1 ∧ μ s1 w1 < μ s w) (fun f1 w1 => f1 = f ∧ Q (.exit 0) [] w1) (fun f1 t4 w1 => f1 = f ∧ Q .ret [⟨4, .int .i64 t4, none⟩] w1)
    simp only [true_and] at e1
    exact cast e1 hb

theorem loops_slices_IndexFunc : LoopOk Try.prog Try.f30.ntmps G_slices_IndexFunc (codeOf Try.f30) := loopOk_list rfl ⟨ok_slices_IndexFunc_L1, trivial⟩

theorem den_slices_IndexFunc (sP : Option Addr) (sN : Nat) (sC : Nat) (fx : Value) (w : World) (R : Value → World → Prop) :
    F_slices_IndexFunc sP sN sC fx w (fun r w1 => R (.int .i64 r) w1) = den Try.prog Try.f30.ntmps G_slices_IndexFunc (codeOf Try.f30) [] (postD Try.prog Try.f30.results.toList R) (entry [.slice sP sN sC, fx] 0) w := by kernel_rfl

theorem C_slices_IndexFunc.of {sP : Option Addr} {sN : Nat} {sC : Nat} {fx : Value} {w : World} {R : Int → World → Prop} (h : F_slices_IndexFunc sP sN sC fx w R) : C_slices_IndexFunc sP sN sC fx w R := by
  refine (calls_of_den (c := codeOf Try.f30) seat_ok seat_mixed Try.func30 (by kernel_rfl) loops_slices_IndexFunc (args := [.slice sP sN sC, fx]) rfl (R := fun v w1 => ∃ (r : Int), v = (.int .i64 r : Value) ∧ R r w1) ?_).mono ?_
  · rw [← den_slices_IndexFunc]
    have e : (fun r w1 => ∃ (r' : Int), (.int .i64 r : Value) = (.int .i64 r' : Value) ∧ R r' w1) = R := by
      funext r w1
      exact propext ⟨fun ⟨r', he, h⟩ => by simp at he; simp_all, fun h => ⟨_, rfl, h⟩⟩
    simpa only [e] using h
  · rintro en w1 ⟨v, he, r, rfl, h⟩
    exact ⟨_, he, h⟩

end Go.Proofs.Ytcgnligpjfhjlaa
