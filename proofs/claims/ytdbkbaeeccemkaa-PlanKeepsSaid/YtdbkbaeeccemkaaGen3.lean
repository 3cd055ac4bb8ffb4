/- The formulas of this seat's functions, held against the loaded program by the kernel. Printed by a program. -/
import Derived.Test.YtdbkbaeeccemkaaGenC
set_option maxRecDepth 100000
set_option linter.unusedVariables false
namespace Go.Proofs.Ytdbkbaeeccemkaa
open Go Go.D Go.Proofs

structure S_plan_gather_L1 where
  chunk : Int
  t18 : Int

def F_plan_gather_k2 (s : S_plan_gather_L1) (Kn : S_plan_gather_L1 → World → Prop) (chunk_2 : Int) (w1_21 : World) : Prop :=
  Kn ⟨chunk_2, (IntKind.i64.wrap ((s.t18 : Int) + (1 : Int)))⟩ w1_21

def F_plan_gather_k1 (sx : Option Nat) (s : S_plan_gather_L1) (Kn : S_plan_gather_L1 → World → Prop) (r_2 : Nat) (Kind : Int) (w1_18 : World) : Prop :=
  If (!(Kind == (2 : Int)))
  (∃ Term0 : Int, w1_18.cell? (((⟨r_2, 0, none⟩ : Addr).add 1).add 0) = some (.int .i64 Term0) ∧
  ∃ Term1 : Int, w1_18.cell? (((⟨r_2, 0, none⟩ : Addr).add 1).add 1) = some (.int .i64 Term1) ∧
  ∃ Term2 : ByteArray, w1_18.cell? (((⟨r_2, 0, none⟩ : Addr).add 1).add 2) = some (.string Term2) ∧
  ∃ Term3P : Option Addr, ∃ Term3N : Nat, ∃ Term3C : Nat, w1_18.cell? (((⟨r_2, 0, none⟩ : Addr).add 1).add 3) = some (.slice Term3P Term3N Term3C) ∧
  C_term_Vars Term0 Term1 Term2 Term3P Term3N Term3C w1_18 fun t48P t48N t48C w1_19 =>
  C_plan_spans_note sx (s.chunk : Int) t48P t48N t48C w1_19 fun w1_20 =>
  F_plan_gather_k2 s Kn (IntKind.i64.wrap ((s.chunk : Int) + (1 : Int))) w1_20)
  (F_plan_gather_k2 s Kn (s.chunk : Int) w1_18)

/-- One round. -/
def B_plan_gather_L1 (sx : Option Nat) (t16P : Option Addr) (t16N : Nat) (t16C : Nat) (t17 : Int) (s : S_plan_gather_L1) (w : World) (Kn : S_plan_gather_L1 → World → Prop) (Kx0 : Int → World → Prop) : Prop :=
  If (decide ((s.t18 : Int) < t17))
  (0 ≤ (s.t18 : Int) ∧ (s.t18 : Int) < (t16N : Int) ∧ NN t16P fun a =>
  ∃ t210 : Int, w.cell? ((a.add ((s.t18 : Int).toNat * 5)).add 0) = some (.int .i64 t210) ∧
  ∃ t211 : Int, w.cell? ((a.add ((s.t18 : Int).toNat * 5)).add 1) = some (.int .i64 t211) ∧
  ∃ t212 : Int, w.cell? ((a.add ((s.t18 : Int).toNat * 5)).add 2) = some (.int .i64 t212) ∧
  ∃ t213 : ByteArray, w.cell? ((a.add ((s.t18 : Int).toNat * 5)).add 3) = some (.string t213) ∧
  ∃ t214P : Option Addr, ∃ t214N : Nat, ∃ t214C : Nat, w.cell? ((a.add ((s.t18 : Int).toNat * 5)).add 4) = some (.slice t214P t214N t214C) ∧
  New w (.cells #[.int .i64 0, .int .i64 0, .int .i64 0, .string ⟨#[]⟩, .slice none 0 0] 38) fun r_2 w1_4 =>
  St w1_4 ((⟨r_2, 0, none⟩ : Addr).add 0) (.int .i64 t210) fun w1_5 =>
  St w1_5 ((⟨r_2, 0, none⟩ : Addr).add 1) (.int .i64 t211) fun w1_6 =>
  St w1_6 ((⟨r_2, 0, none⟩ : Addr).add 2) (.int .i64 t212) fun w1_7 =>
  St w1_7 ((⟨r_2, 0, none⟩ : Addr).add 3) (.string t213) fun w1_8 =>
  St w1_8 ((⟨r_2, 0, none⟩ : Addr).add 4) (.slice t214P t214N t214C) fun w1_9 =>
  ∃ Kind : Int, w1_9.cell? ((⟨r_2, 0, none⟩ : Addr).add 0) = some (.int .i64 Kind) ∧
  ∃ Kind_1 : Int, w1_9.cell? ((⟨r_2, 0, none⟩ : Addr).add 0) = some (.int .i64 Kind_1) ∧
  If (Kind_1 == (3 : Int))
  (BSl Try.prog 30 1 [(0, .int .i64 (-1))] w1_9 fun t36P t36N t36C w1_10 =>
  C_plan_spans_note sx (0 : Int) t36P t36N t36C w1_10 fun w1_11 =>
  BSl Try.prog 30 1 [(0, .int .i64 (-1))] w1_11 fun t40P t40N t40C w1_12 =>
  C_plan_spans_note sx (s.chunk : Int) t40P t40N t40C w1_12 fun w1_13 =>
  F_plan_gather_k1 sx s Kn r_2 Kind w1_13)
  (If (Kind == (2 : Int))
  (If (decide ((s.chunk : Int) > (0 : Int)))
  (BSl Try.prog 30 1 [(0, .int .i64 (-1))] w1_9 fun t36P_1 t36N_1 t36C_1 w1_14 =>
  C_plan_spans_note sx (0 : Int) t36P_1 t36N_1 t36C_1 w1_14 fun w1_15 =>
  BSl Try.prog 30 1 [(0, .int .i64 (-1))] w1_15 fun t40P_1 t40N_1 t40C_1 w1_16 =>
  C_plan_spans_note sx (s.chunk : Int) t40P_1 t40N_1 t40C_1 w1_16 fun w1_17 =>
  F_plan_gather_k1 sx s Kn r_2 Kind w1_17)
  (F_plan_gather_k1 sx s Kn r_2 Kind w1_9))
  (F_plan_gather_k1 sx s Kn r_2 Kind w1_9)))
  (Kx0 (s.chunk : Int) w)

def F_plan_gather_L1 (sx : Option Nat) (t16P : Option Addr) (t16N : Nat) (t16C : Nat) (t17 : Int) (s : S_plan_gather_L1) (w : World) (Kx0 : Int → World → Prop) : Prop :=
  LoopS (fun s w Kn => B_plan_gather_L1 sx t16P t16N t16C t17 s w Kn Kx0) s w

def F_plan_gather (c0 : Int) (c1 : Int) (c2 : ByteArray) (c3P : Option Addr) (c3N : Nat) (c3C : Nat) (c4P : Option Addr) (c4N : Nat) (c4C : Nat) (c5 : Int) (w : World) (R : Option Nat → Int → World → Prop) : Prop :=
  New w (.cells #[.int .i64 c0, .int .i64 c1, .string c2, .slice c3P c3N c3C, .slice c4P c4N c4C, .int .i64 c5] 27) fun r w1 =>
  New w1 (.map #[] 0) fun r_1 w1_1 =>
  ∃ Head0 : Int, w1_1.cell? (((⟨r, 0, none⟩ : Addr).add 0).add 0) = some (.int .i64 Head0) ∧
  ∃ Head1 : Int, w1_1.cell? (((⟨r, 0, none⟩ : Addr).add 0).add 1) = some (.int .i64 Head1) ∧
  ∃ Head2 : ByteArray, w1_1.cell? (((⟨r, 0, none⟩ : Addr).add 0).add 2) = some (.string Head2) ∧
  ∃ Head3P : Option Addr, ∃ Head3N : Nat, ∃ Head3C : Nat, w1_1.cell? (((⟨r, 0, none⟩ : Addr).add 0).add 3) = some (.slice Head3P Head3N Head3C) ∧
  C_term_Vars Head0 Head1 Head2 Head3P Head3N Head3C w1_1 fun t13P t13N t13C w1_2 =>
  C_plan_spans_note (some r_1) (0 : Int) t13P t13N t13C w1_2 fun w1_3 =>
  ∃ GoalsP : Option Addr, ∃ GoalsN : Nat, ∃ GoalsC : Nat, w1_3.cell? ((⟨r, 0, none⟩ : Addr).add 4) = some (.slice GoalsP GoalsN GoalsC) ∧
  F_plan_gather_L1 (some r_1) GoalsP GoalsN GoalsC (GoalsN : Int) ⟨(0 : Int), (0 : Int)⟩ w1_3
  (fun chunk_3 w1_22 =>
  R (some r_1) chunk_3 w1_22)

def lit_plan_gather_L1 (f : (Option Nat) × (Option Addr) × Nat × Nat × Int) (s : S_plan_gather_L1) : Env := [⟨4, .map f.1, none⟩, ⟨16, .slice f.2.1 f.2.2.1 f.2.2.2.1, none⟩, ⟨17, .int .i64 f.2.2.2.2, none⟩, ⟨5, .int .i64 s.chunk, none⟩, ⟨18, .int .i64 s.t18, none⟩]

def dec_plan_gather_L1 (e : Env) (K : ((Option Nat) × (Option Addr) × Nat × Nat × Int) → S_plan_gather_L1 → Prop) : Prop :=
  oM e 4 fun sx =>
  oS e 16 fun t16P t16N t16C =>
  oI e 17 .i64 fun t17 =>
  oI e 5 .i64 fun chunk =>
  oI e 18 .i64 fun t18 =>
    K (sx, t16P, t16N, t16C, t17) ⟨chunk, t18⟩

theorem dec_plan_gather_L1_ok {N : Nat} (e : Env) (a : Act) (K : ((Option Nat) × (Option Addr) × Nat × Nat × Int) → S_plan_gather_L1 → Prop) (hr : Rep N a e) (h0 : dec_plan_gather_L1 e K) : ∃ f s, K f s ∧ Rep N a (lit_plan_gather_L1 f s) := by
  unfold dec_plan_gather_L1 at h0
  obtain ⟨sx, g4, h1⟩ := oM_elim h0
  obtain ⟨t16P, t16N, t16C, g16, h2⟩ := oS_elim h1
  obtain ⟨t17, g17, h3⟩ := oI_elim h2
  obtain ⟨chunk, g5, h4⟩ := oI_elim h3
  obtain ⟨t18, g18, h5⟩ := oI_elim h4
  exact ⟨_, _, h5, rep_less hr (by simp [lit_plan_gather_L1, g4, g16, g17, g5, g18])⟩

def spec_plan_gather_L1 (Q : Post) (e : Env) (w : World) : Prop :=
  dec_plan_gather_L1 e fun f s => F_plan_gather_L1 f.1 f.2.1 f.2.2.1 f.2.2.2.1 f.2.2.2.2 s w (fun chunk_1 w1 => Q (.exit 0) [⟨4, .map f.1, none⟩, ⟨5, .int .i64 chunk_1, none⟩] w1)

def G_plan_gather : Gen where
  loop := lookL [([false, true, false, true, true, true, true], spec_plan_gather_L1)]
  plan := fun _ => none

def dx_plan_gather_L1_0 (e : Env) (K : ((Option Nat) × (Option Addr) × Nat × Nat × Int) → Int → Prop) : Prop :=
  oM e 4 fun sx =>
  oS e 16 fun t16P t16N t16C =>
  oI e 17 .i64 fun t17 =>
  oI e 5 .i64 fun chunk_1 =>
    K (sx, t16P, t16N, t16C, t17) chunk_1

theorem body_plan_gather_L1 (f : (Option Nat) × (Option Addr) × Nat × Nat × Int) (s : S_plan_gather_L1) (w : World) (Kn : ((Option Nat) × (Option Addr) × Nat × Nat × Int) → S_plan_gather_L1 → World → Prop) (Kx0 : ((Option Nat) × (Option Addr) × Nat × Nat × Int) → Int → World → Prop) :
    B_plan_gather_L1 f.1 f.2.1 f.2.2.1 f.2.2.2.1 f.2.2.2.2 s w (fun s1 w1 => Kn f s1 w1) (fun chunk_1 w1 => Kx0 f chunk_1 w1) =
    den Try.prog Try.f21.ntmps G_plan_gather (sub (codeOf Try.f21) [false, false, true, false, true, true, true, true]) [false, false, true, false, true, true, true, true] (roundQ (fun e w => dec_plan_gather_L1 e fun f s => Kn f s w) (fun e w => False) (fun id e w => match Nat.beq id 0 with | true => dx_plan_gather_L1_0 e fun f chunk_1 => Kx0 f chunk_1 w | false => False)) (lit_plan_gather_L1 f s) w := by kernel_rfl

theorem ok_plan_gather_L1 : OneOk Try.prog Try.f21.ntmps G_plan_gather (codeOf Try.f21) [false, true, false, true, true, true, true] spec_plan_gather_L1 := by
  intro c hc ih Q e w a hr h
  have hcc : sub (codeOf Try.f21) [false, false, true, false, true, true, true, true] = c := sub_of_codeAt hc
  obtain ⟨f, s, h, hrep⟩ := dec_plan_gather_L1_ok e a _ hr h
  obtain ⟨J, μ, hj, hround⟩ := h
  refine loop_rule_deep seat_ok seat_mixed ih lit_plan_gather_L1 dec_plan_gather_L1 dec_plan_gather_L1_ok hc f J μ (Kr := fun e w => False) (Kx := fun id e w => match Nat.beq id 0 with | true => (dx_plan_gather_L1_0 e fun f1 chunk_1 => f1 = f ∧ Q (.exit 0) [⟨4, .map f.1, none⟩, ⟨5, .int .i64 chunk_1, none⟩] w) | false => False) ?_ ?_ ?_ s w a hj hrep
  · intro e a w hr h
    exact h.elim
  · intro id e a w hr h0
    (try dsimp only at h0)
    split at h0
    · rename_i hid
      obtain rfl := Nat.eq_of_beq_eq_true hid
      unfold dx_plan_gather_L1_0 at h0
      obtain ⟨sx, g4, h1⟩ := oM_elim h0
      obtain ⟨t16P, t16N, t16C, g16, h2⟩ := oS_elim h1
      obtain ⟨t17, g17, h3⟩ := oI_elim h2
      obtain ⟨chunk_1, g5, h4⟩ := oI_elim h3
      obtain ⟨hf, hq⟩ := h4
      subst hf
      exact ⟨_, rep_less hr (by simp [g4, g5]), hq⟩
    · exact h0.elim
  · intro s w hj
    have hb := hround s w hj
    rw [← hcc]
    have e1 := body_plan_gather_L1 f s w (fun f1 s1 w1 => f1 = f ∧ J s1 w1 ∧ μ s1 w1 < μ s w) (fun f1 chunk_1 w1 => f1 = f ∧ Q (.exit 0) [⟨4, .map f.1, none⟩, ⟨5, .int .i64 chunk_1, none⟩] w1)
    simp only [true_and] at e1
    exact cast e1 hb

theorem loops_plan_gather : LoopOk Try.prog Try.f21.ntmps G_plan_gather (codeOf Try.f21) := loopOk_list rfl ⟨ok_plan_gather_L1, trivial⟩

theorem C_plan_gather.of {c0 : Int} {c1 : Int} {c2 : ByteArray} {c3P : Option Addr} {c3N : Nat} {c3C : Nat} {c4P : Option Addr} {c4N : Nat} {c4C : Nat} {c5 : Int} {w : World} {R : Option Nat → Int → World → Prop} (h : F_plan_gather c0 c1 c2 c3P c3N c3C c4P c4N c4C c5 w R) : C_plan_gather c0 c1 c2 c3P c3N c3C c4P c4N c4C c5 w R := ofS9 (Fm := F_plan_gather c0 c1 c2 c3P c3N c3C c4P c4N c4C c5 w) Try.func21 (by kernel_rfl) loops_plan_gather rfl (fun _ => by kernel_rfl) h

def F_plan_spans_slots (sx : Option Nat) (w : World) (R : Option Addr → Nat → Nat → World → Prop) : Prop :=
  C_maps_Values sx w fun t5 w1 =>
  C_slices_Collect t5 w1 fun t6P t6N t6C w1_1 =>
  C_slices_DeleteFunc t6P t6N t6C (.func (.func 39) #[] #[]) w1_1 fun t8P t8N t8C w1_2 =>
  C_slices_SortFunc t8P t8N t8C (.func (.func 41) #[] #[]) w1_2 fun w1_3 =>
  R t8P t8N t8C w1_3

def G_plan_spans_slots : Gen where
  loop := lookL []
  plan := fun _ => none

theorem loops_plan_spans_slots : LoopOk Try.prog Try.f22.ntmps G_plan_spans_slots (codeOf Try.f22) := loopOk_none fun _ => rfl

theorem C_plan_spans_slots.of {sx : Option Nat} {w : World} {R : Option Addr → Nat → Nat → World → Prop} (h : F_plan_spans_slots sx w R) : C_plan_spans_slots sx w R := ofS4 (Fm := F_plan_spans_slots sx w) Try.func22 (by kernel_rfl) loops_plan_spans_slots rfl (fun _ => by kernel_rfl) h

structure S_slices_IndexFunc_L1 where
  t8 : Int

/-- One round. -/
def B_slices_IndexFunc_L1 (sP_1 : Option Addr) (sN_1 : Nat) (sC_1 : Nat) (fx_1 : Value) (t7 : Int) (s : S_slices_IndexFunc_L1) (w : World) (Kn : S_slices_IndexFunc_L1 → World → Prop) (Kx0 : World → Prop) (Kr : Int → World → Prop) : Prop :=
  If (decide ((s.t8 : Int) < t7))
  (0 ≤ (s.t8 : Int) ∧ (s.t8 : Int) < (sN_1 : Int) ∧ NN sP_1 fun a =>
  ∃ t150 : Int, w.cell? ((a.add ((s.t8 : Int).toNat * 3)).add 0) = some (.int .i64 t150) ∧
  ∃ t151 : Int, w.cell? ((a.add ((s.t8 : Int).toNat * 3)).add 1) = some (.int .i64 t151) ∧
  ∃ t152 : Int, w.cell? ((a.add ((s.t8 : Int).toNat * 3)).add 2) = some (.int .i64 t152) ∧
  CallV Try.prog fx_1 [.agg #[.int .i64 t150, .int .i64 t151, .int .i64 t152]] w fun v w1 => ∃ t16 : Bool, v = (.bool t16) ∧
  If t16
  (Kr (s.t8 : Int) w1)
  (Kn ⟨(IntKind.i64.wrap ((s.t8 : Int) + (1 : Int)))⟩ w1))
  (Kx0 w)

def F_slices_IndexFunc_L1 (sP_1 : Option Addr) (sN_1 : Nat) (sC_1 : Nat) (fx_1 : Value) (t7 : Int) (s : S_slices_IndexFunc_L1) (w : World) (Kx0 : World → Prop) (Kr : Int → World → Prop) : Prop :=
  LoopS (fun s w Kn => B_slices_IndexFunc_L1 sP_1 sN_1 sC_1 fx_1 t7 s w Kn Kx0 Kr) s w

def F_slices_IndexFunc (sP : Option Addr) (sN : Nat) (sC : Nat) (fx : Value) (w : World) (R : Int → World → Prop) : Prop :=
  F_slices_IndexFunc_L1 sP sN sC fx (sN : Int) ⟨(0 : Int)⟩ w
  (fun w1_1 =>
  R (-1) w1_1)
  (fun t4_1 w1_2 =>
  R t4_1 w1_2)

def lit_slices_IndexFunc_L1 (f : (Option Addr) × Nat × Nat × Value × Int) (s : S_slices_IndexFunc_L1) : Env := [⟨0, .slice f.1 f.2.1 f.2.2.1, none⟩, ⟨1, f.2.2.2.1, none⟩, ⟨7, .int .i64 f.2.2.2.2, none⟩, ⟨8, .int .i64 s.t8, none⟩]

def dec_slices_IndexFunc_L1 (e : Env) (K : ((Option Addr) × Nat × Nat × Value × Int) → S_slices_IndexFunc_L1 → Prop) : Prop :=
  oS e 0 fun sP_1 sN_1 sC_1 =>
  oV e 1 fun fx_1 =>
  oI e 7 .i64 fun t7 =>
  oI e 8 .i64 fun t8 =>
    K (sP_1, sN_1, sC_1, fx_1, t7) ⟨t8⟩

theorem dec_slices_IndexFunc_L1_ok {N : Nat} (e : Env) (a : Act) (K : ((Option Addr) × Nat × Nat × Value × Int) → S_slices_IndexFunc_L1 → Prop) (hr : Rep N a e) (h0 : dec_slices_IndexFunc_L1 e K) : ∃ f s, K f s ∧ Rep N a (lit_slices_IndexFunc_L1 f s) := by
  unfold dec_slices_IndexFunc_L1 at h0
  obtain ⟨sP_1, sN_1, sC_1, g0, h1⟩ := oS_elim h0
  obtain ⟨fx_1, g1, h2⟩ := oV_elim h1
  obtain ⟨t7, g7, h3⟩ := oI_elim h2
  obtain ⟨t8, g8, h4⟩ := oI_elim h3
  exact ⟨_, _, h4, rep_less hr (by simp [lit_slices_IndexFunc_L1, g0, g1, g7, g8])⟩

def spec_slices_IndexFunc_L1 (Q : Post) (e : Env) (w : World) : Prop :=
  dec_slices_IndexFunc_L1 e fun f s => F_slices_IndexFunc_L1 f.1 f.2.1 f.2.2.1 f.2.2.2.1 f.2.2.2.2 s w (fun w1 => Q (.exit 0) [] w1) (fun t4 w1 => Q .ret [⟨4, .int .i64 t4, none⟩] w1)

def G_slices_IndexFunc : Gen where
  loop := lookL [([false, true, false, true], spec_slices_IndexFunc_L1)]
  plan := fun _ => none

def dx_slices_IndexFunc_L1_0 (e : Env) (K : ((Option Addr) × Nat × Nat × Value × Int) → Prop) : Prop :=
  oS e 0 fun sP_1 sN_1 sC_1 =>
  oV e 1 fun fx_1 =>
  oI e 7 .i64 fun t7 =>
    K (sP_1, sN_1, sC_1, fx_1, t7)

def dx_slices_IndexFunc_L1_ret (e : Env) (K : ((Option Addr) × Nat × Nat × Value × Int) → Int → Prop) : Prop :=
  oS e 0 fun sP_1 sN_1 sC_1 =>
  oV e 1 fun fx_1 =>
  oI e 7 .i64 fun t7 =>
  oI e 4 .i64 fun t4 =>
    K (sP_1, sN_1, sC_1, fx_1, t7) t4

theorem body_slices_IndexFunc_L1 (f : (Option Addr) × Nat × Nat × Value × Int) (s : S_slices_IndexFunc_L1) (w : World) (Kn : ((Option Addr) × Nat × Nat × Value × Int) → S_slices_IndexFunc_L1 → World → Prop) (Kx0 : ((Option Addr) × Nat × Nat × Value × Int) → World → Prop) (Kr : ((Option Addr) × Nat × Nat × Value × Int) → Int → World → Prop) :
    B_slices_IndexFunc_L1 f.1 f.2.1 f.2.2.1 f.2.2.2.1 f.2.2.2.2 s w (fun s1 w1 => Kn f s1 w1) (fun w1 => Kx0 f w1) (fun t4 w1 => Kr f t4 w1) =
    den Try.prog Try.f23.ntmps G_slices_IndexFunc (sub (codeOf Try.f23) [false, false, true, false, true]) [false, false, true, false, true] (roundQ (fun e w => dec_slices_IndexFunc_L1 e fun f s => Kn f s w) (fun e w => dx_slices_IndexFunc_L1_ret e fun f t4 => Kr f t4 w) (fun id e w => match Nat.beq id 0 with | true => dx_slices_IndexFunc_L1_0 e fun f => Kx0 f w | false => False)) (lit_slices_IndexFunc_L1 f s) w := by kernel_rfl

theorem ok_slices_IndexFunc_L1 : OneOk Try.prog Try.f23.ntmps G_slices_IndexFunc (codeOf Try.f23) [false, true, false, true] spec_slices_IndexFunc_L1 := by
  intro c hc ih Q e w a hr h
  have hcc : sub (codeOf Try.f23) [false, false, true, false, true] = c := sub_of_codeAt hc
  obtain ⟨f, s, h, hrep⟩ := dec_slices_IndexFunc_L1_ok e a _ hr h
  obtain ⟨J, μ, hj, hround⟩ := h
  refine loop_rule_deep seat_ok seat_mixed ih lit_slices_IndexFunc_L1 dec_slices_IndexFunc_L1 dec_slices_IndexFunc_L1_ok hc f J μ (Kr := fun e w => dx_slices_IndexFunc_L1_ret e fun f1 t4 => f1 = f ∧ Q .ret [⟨4, .int .i64 t4, none⟩] w) (Kx := fun id e w => match Nat.beq id 0 with | true => (dx_slices_IndexFunc_L1_0 e fun f1 => f1 = f ∧ Q (.exit 0) [] w) | false => False) ?_ ?_ ?_ s w a hj hrep
  · intro e a w hr h0
    unfold dx_slices_IndexFunc_L1_ret at h0
    obtain ⟨sP_1, sN_1, sC_1, g0, h1⟩ := oS_elim h0
    obtain ⟨fx_1, g1, h2⟩ := oV_elim h1
    obtain ⟨t7, g7, h3⟩ := oI_elim h2
    obtain ⟨t4, g4, h4⟩ := oI_elim h3
    obtain ⟨hf, hq⟩ := h4
    subst hf
    exact ⟨_, rep_less hr (by simp [g4]), hq⟩
  · intro id e a w hr h0
    (try dsimp only at h0)
    split at h0
    · rename_i hid
      obtain rfl := Nat.eq_of_beq_eq_true hid
      unfold dx_slices_IndexFunc_L1_0 at h0
      obtain ⟨sP_1, sN_1, sC_1, g0, h1⟩ := oS_elim h0
      obtain ⟨fx_1, g1, h2⟩ := oV_elim h1
      obtain ⟨t7, g7, h3⟩ := oI_elim h2
      obtain ⟨hf, hq⟩ := h3
      subst hf
      exact ⟨_, rep_less hr (by simp), hq⟩
    · exact h0.elim
  · intro s w hj
    have hb := hround s w hj
    rw [← hcc]
    have e1 := body_slices_IndexFunc_L1 f s w (fun f1 s1 w1 => f1 = f ∧ J s1 w1 ∧ μ s1 w1 < μ s w) (fun f1 w1 => f1 = f ∧ Q (.exit 0) [] w1) (fun f1 t4 w1 => f1 = f ∧ Q .ret [⟨4, .int .i64 t4, none⟩] w1)
    simp only [true_and] at e1
    exact cast e1 hb

theorem loops_slices_IndexFunc : LoopOk Try.prog Try.f23.ntmps G_slices_IndexFunc (codeOf Try.f23) := loopOk_list rfl ⟨ok_slices_IndexFunc_L1, trivial⟩

theorem C_slices_IndexFunc.of {sP : Option Addr} {sN : Nat} {sC : Nat} {fx : Value} {w : World} {R : Int → World → Prop} (h : F_slices_IndexFunc sP sN sC fx w R) : C_slices_IndexFunc sP sN sC fx w R := ofS5 (Fm := F_slices_IndexFunc sP sN sC fx w) Try.func23 (by kernel_rfl) loops_slices_IndexFunc rfl (fun _ => by kernel_rfl) h

def F_plan_Of_1 (x0 : Int) (x1 : Int) (x2 : Int) (c0 : Addr) (w : World) (R : Bool → World → Prop) : Prop :=
  New w (.cells #[.int .i64 x0, .int .i64 x1, .int .i64 x2] 58) fun r w1 =>
  ∃ last : Int, w1.cell? ((⟨r, 0, none⟩ : Addr).add 2) = some (.int .i64 last) ∧
  ∃ t6 : Int, w1.cell? c0 = some (.int .i64 t6) ∧
  R (decide (last ≤ t6)) w1

def G_plan_Of_1 : Gen where
  loop := lookL []
  plan := fun _ => none

theorem loops_plan_Of_1 : LoopOk Try.prog Try.f24.ntmps G_plan_Of_1 (codeOf Try.f24) := loopOk_none fun _ => rfl

theorem C_plan_Of_1.of {x0 : Int} {x1 : Int} {x2 : Int} {c0 : Addr} {w : World} {R : Bool → World → Prop} (h : F_plan_Of_1 x0 x1 x2 c0 w R) : C_plan_Of_1 x0 x1 x2 c0 w R := ofS2 (Fm := F_plan_Of_1 x0 x1 x2 c0 w) Try.func24 (by kernel_rfl) loops_plan_Of_1 rfl (fun _ => by kernel_rfl) h

structure S_ref06_vars_L1 where
  i : Int

structure S_ref06_vars_L2 where
  outP_2 : Option Addr
  outN_2 : Nat
  outC_2 : Nat
  i_1 : Int

/-- One round. -/
def B_ref06_vars_L1 (outP_1 : Option Addr) (outN_1 : Nat) (outC_1 : Nat) (t : Addr) (s : S_ref06_vars_L1) (w : World) (Kn : S_ref06_vars_L1 → World → Prop) (Kx0 : World → Prop) (Kr : Option Addr → Nat → Nat → World → Prop) : Prop :=
  If (decide ((s.i : Int) < (outN_1 : Int)))
  (0 ≤ (s.i : Int) ∧ (s.i : Int) < (outN_1 : Int) ∧ NN outP_1 fun a =>
  ∃ t19 : Int, (drw w).cell? (a.add ((s.i : Int).toNat * 1)) = some (.int .i64 t19) ∧
  ∃ N : Int, (drw w).cell? (t.add 1) = some (.int .i64 N) ∧
  If (t19 == N)
  (Kr outP_1 outN_1 outC_1 (drw w))
  (Kn ⟨(IntKind.i64.wrap ((s.i : Int) + (1 : Int)))⟩ (drw w)))
  (Kx0 w)

def F_ref06_vars_L1 (outP_1 : Option Addr) (outN_1 : Nat) (outC_1 : Nat) (t : Addr) (s : S_ref06_vars_L1) (w : World) (Kx0 : World → Prop) (Kr : Option Addr → Nat → Nat → World → Prop) : Prop :=
  LoopS (fun s w Kn => B_ref06_vars_L1 outP_1 outN_1 outC_1 t s w Kn Kx0 Kr) s w

/-- One round. -/
def B_ref06_vars_L2 (t_1 : Addr) (s : S_ref06_vars_L2) (w : World) (Kn : S_ref06_vars_L2 → World → Prop) (Kx2 : Option Addr → Nat → Nat → World → Prop) : Prop :=
  ∃ LP : Option Addr, ∃ LN : Nat, ∃ LC : Nat, w.cell? (t_1.add 3) = some (.slice LP LN LC) ∧
  If (decide ((s.i_1 : Int) < (LN : Int)))
  (∃ LP_1 : Option Addr, ∃ LN_1 : Nat, ∃ LC_1 : Nat, w.cell? (t_1.add 3) = some (.slice LP_1 LN_1 LC_1) ∧
  0 ≤ (s.i_1 : Int) ∧ (s.i_1 : Int) < (LN_1 : Int) ∧ NN LP_1 fun a_1 =>
  ∃ t400 : Int, w.cell? ((a_1.add ((s.i_1 : Int).toNat * 4)).add 0) = some (.int .i64 t400) ∧
  ∃ t401 : Int, w.cell? ((a_1.add ((s.i_1 : Int).toNat * 4)).add 1) = some (.int .i64 t401) ∧
  ∃ t402 : ByteArray, w.cell? ((a_1.add ((s.i_1 : Int).toNat * 4)).add 2) = some (.string t402) ∧
  ∃ t403P : Option Addr, ∃ t403N : Nat, ∃ t403C : Nat, w.cell? ((a_1.add ((s.i_1 : Int).toNat * 4)).add 3) = some (.slice t403P t403N t403C) ∧
  C_ref06_vars t400 t401 t402 t403P t403N t403C s.outP_2 s.outN_2 s.outC_2 w fun t42P t42N t42C w1_5 =>
  Kn ⟨t42P, t42N, t42C, (IntKind.i64.wrap ((s.i_1 : Int) + (1 : Int)))⟩ w1_5)
  (Kx2 s.outP_2 s.outN_2 s.outC_2 w)

def F_ref06_vars_L2 (t_1 : Addr) (s : S_ref06_vars_L2) (w : World) (Kx2 : Option Addr → Nat → Nat → World → Prop) : Prop :=
  LoopS (fun s w Kn => B_ref06_vars_L2 t_1 s w Kn Kx2) s w

def F_ref06_vars (t0 : Int) (t1 : Int) (t2 : ByteArray) (t3P : Option Addr) (t3N : Nat) (t3C : Nat) (outP : Option Addr) (outN : Nat) (outC : Nat) (w : World) (R : Option Addr → Nat → Nat → World → Prop) : Prop :=
  New w (.cells #[.int .i64 t0, .int .i64 t1, .string t2, .slice t3P t3N t3C] 24) fun r w1 =>
  ∃ Kind : Int, w1.cell? ((⟨r, 0, none⟩ : Addr).add 0) = some (.int .i64 Kind) ∧
  If (Kind == (1 : Int))
  (F_ref06_vars_L1 outP outN outC ⟨r, 0, none⟩ ⟨(0 : Int)⟩ w1
  (fun w1_1 =>
  ∃ N_1 : Int, w1_1.cell? ((⟨r, 0, none⟩ : Addr).add 1) = some (.int .i64 N_1) ∧
  BSl Try.prog 30 1 [(0, .int .i64 N_1)] w1_1 fun t27P t27N t27C w1_3 =>
  App Try.prog #[30, 30] 30 #[.slice outP outN outC, .slice t27P t27N t27C] w1_3 fun t28P t28N t28C w1_4 =>
  R t28P t28N t28C w1_4)
  (fun t4P_1 t4N_1 t4C_1 w1_2 =>
  R t4P_1 t4N_1 t4C_1 w1_2))
  (F_ref06_vars_L2 ⟨r, 0, none⟩ ⟨outP, outN, outC, (0 : Int)⟩ w1
  (fun outP_4 outN_4 outC_4 w1_6 =>
  R outP_4 outN_4 outC_4 w1_6))

def lit_ref06_vars_L1 (f : (Option Addr) × Nat × Nat × Addr) (s : S_ref06_vars_L1) : Env := [⟨1, .slice f.1 f.2.1 f.2.2.1, none⟩, ⟨2, .pointer (some f.2.2.2), none⟩, ⟨5, .int .i64 s.i, none⟩]

def dec_ref06_vars_L1 (e : Env) (K : ((Option Addr) × Nat × Nat × Addr) → S_ref06_vars_L1 → Prop) : Prop :=
  oS e 1 fun outP_1 outN_1 outC_1 =>
  oA e 2 fun t =>
  oI e 5 .i64 fun i =>
    K (outP_1, outN_1, outC_1, t) ⟨i⟩

theorem dec_ref06_vars_L1_ok {N : Nat} (e : Env) (a : Act) (K : ((Option Addr) × Nat × Nat × Addr) → S_ref06_vars_L1 → Prop) (hr : Rep N a e) (h0 : dec_ref06_vars_L1 e K) : ∃ f s, K f s ∧ Rep N a (lit_ref06_vars_L1 f s) := by
  unfold dec_ref06_vars_L1 at h0
  obtain ⟨outP_1, outN_1, outC_1, g1, h1⟩ := oS_elim h0
  obtain ⟨t, g2, h2⟩ := oA_elim h1
  obtain ⟨i, g5, h3⟩ := oI_elim h2
  exact ⟨_, _, h3, rep_less hr (by simp [lit_ref06_vars_L1, g1, g2, g5])⟩

def spec_ref06_vars_L1 (Q : Post) (e : Env) (w : World) : Prop :=
  dec_ref06_vars_L1 e fun f s => F_ref06_vars_L1 f.1 f.2.1 f.2.2.1 f.2.2.2 s w (fun w1 => Q (.exit 0) [⟨1, .slice f.1 f.2.1 f.2.2.1, none⟩, ⟨2, .pointer (some f.2.2.2), none⟩] w1) (fun t4P t4N t4C w1 => Q .ret [⟨4, .slice t4P t4N t4C, none⟩] w1)

def lit_ref06_vars_L2 (f : Addr) (s : S_ref06_vars_L2) : Env := [⟨2, .pointer (some f), none⟩, ⟨1, .slice s.outP_2 s.outN_2 s.outC_2, none⟩, ⟨6, .int .i64 s.i_1, none⟩]

def dec_ref06_vars_L2 (e : Env) (K : Addr → S_ref06_vars_L2 → Prop) : Prop :=
  oA e 2 fun t_1 =>
  oS e 1 fun outP_2 outN_2 outC_2 =>
  oI e 6 .i64 fun i_1 =>
    K (t_1) ⟨outP_2, outN_2, outC_2, i_1⟩

theorem dec_ref06_vars_L2_ok {N : Nat} (e : Env) (a : Act) (K : Addr → S_ref06_vars_L2 → Prop) (hr : Rep N a e) (h0 : dec_ref06_vars_L2 e K) : ∃ f s, K f s ∧ Rep N a (lit_ref06_vars_L2 f s) := by
  unfold dec_ref06_vars_L2 at h0
  obtain ⟨t_1, g2, h1⟩ := oA_elim h0
  obtain ⟨outP_2, outN_2, outC_2, g1, h2⟩ := oS_elim h1
  obtain ⟨i_1, g6, h3⟩ := oI_elim h2
  exact ⟨_, _, h3, rep_less hr (by simp [lit_ref06_vars_L2, g2, g1, g6])⟩

def spec_ref06_vars_L2 (Q : Post) (e : Env) (w : World) : Prop :=
  dec_ref06_vars_L2 e fun f s => F_ref06_vars_L2 f s w (fun outP_3 outN_3 outC_3 w1 => Q (.exit 2) [⟨1, .slice outP_3 outN_3 outC_3, none⟩] w1)

def G_ref06_vars : Gen where
  loop := lookL [([false, true, false, false, true, false, true], spec_ref06_vars_L1), ([false, true, false, true, true], spec_ref06_vars_L2)]
  plan := fun id =>
    bif Nat.beq id 5 then some ([0, 0, 3, 7, 0, 16, 63], .take 0 (.take 1 (.take 2 (.take 3 (.take 4 (.take 5 (.take 6 .done))))))) else none

def dx_ref06_vars_L1_0 (e : Env) (K : ((Option Addr) × Nat × Nat × Addr) → Prop) : Prop :=
  oS e 1 fun outP_1 outN_1 outC_1 =>
  oA e 2 fun t =>
    K (outP_1, outN_1, outC_1, t)

def dx_ref06_vars_L1_ret (e : Env) (K : ((Option Addr) × Nat × Nat × Addr) → Option Addr → Nat → Nat → Prop) : Prop :=
  oS e 1 fun outP_1 outN_1 outC_1 =>
  oA e 2 fun t =>
  oS e 4 fun t4P t4N t4C =>
    K (outP_1, outN_1, outC_1, t) t4P t4N t4C

theorem body_ref06_vars_L1 (f : (Option Addr) × Nat × Nat × Addr) (s : S_ref06_vars_L1) (w : World) (Kn : ((Option Addr) × Nat × Nat × Addr) → S_ref06_vars_L1 → World → Prop) (Kx0 : ((Option Addr) × Nat × Nat × Addr) → World → Prop) (Kr : ((Option Addr) × Nat × Nat × Addr) → Option Addr → Nat → Nat → World → Prop) :
    B_ref06_vars_L1 f.1 f.2.1 f.2.2.1 f.2.2.2 s w (fun s1 w1 => Kn f s1 w1) (fun w1 => Kx0 f w1) (fun t4P t4N t4C w1 => Kr f t4P t4N t4C w1) =
    den Try.prog Try.f25.ntmps G_ref06_vars (sub (codeOf Try.f25) [false, false, true, false, false, true, false, true]) [false, false, true, false, false, true, false, true] (roundQ (fun e w => dec_ref06_vars_L1 e fun f s => Kn f s w) (fun e w => dx_ref06_vars_L1_ret e fun f t4P t4N t4C => Kr f t4P t4N t4C w) (fun id e w => match Nat.beq id 0 with | true => dx_ref06_vars_L1_0 e fun f => Kx0 f w | false => False)) (lit_ref06_vars_L1 f s) w := by kernel_rfl

def dx_ref06_vars_L2_2 (e : Env) (K : Addr → Option Addr → Nat → Nat → Prop) : Prop :=
  oA e 2 fun t_1 =>
  oS e 1 fun outP_3 outN_3 outC_3 =>
    K (t_1) outP_3 outN_3 outC_3

theorem body_ref06_vars_L2 (f : Addr) (s : S_ref06_vars_L2) (w : World) (Kn : Addr → S_ref06_vars_L2 → World → Prop) (Kx2 : Addr → Option Addr → Nat → Nat → World → Prop) :
    B_ref06_vars_L2 f s w (fun s1 w1 => Kn f s1 w1) (fun outP_3 outN_3 outC_3 w1 => Kx2 f outP_3 outN_3 outC_3 w1) =
    den Try.prog Try.f25.ntmps G_ref06_vars (sub (codeOf Try.f25) [false, false, true, false, true, true]) [false, false, true, false, true, true] (roundQ (fun e w => dec_ref06_vars_L2 e fun f s => Kn f s w) (fun e w => False) (fun id e w => match Nat.beq id 2 with | true => dx_ref06_vars_L2_2 e fun f outP_3 outN_3 outC_3 => Kx2 f outP_3 outN_3 outC_3 w | false => False)) (lit_ref06_vars_L2 f s) w := by kernel_rfl

theorem ok_ref06_vars_L1 : OneOk Try.prog Try.f25.ntmps G_ref06_vars (codeOf Try.f25) [false, true, false, false, true, false, true] spec_ref06_vars_L1 := by
  intro c hc ih Q e w a hr h
  have hcc : sub (codeOf Try.f25) [false, false, true, false, false, true, false, true] = c := sub_of_codeAt hc
  obtain ⟨f, s, h, hrep⟩ := dec_ref06_vars_L1_ok e a _ hr h
  obtain ⟨J, μ, hj, hround⟩ := h
  refine loop_rule_deep seat_ok seat_mixed ih lit_ref06_vars_L1 dec_ref06_vars_L1 dec_ref06_vars_L1_ok hc f J μ (Kr := fun e w => dx_ref06_vars_L1_ret e fun f1 t4P t4N t4C => f1 = f ∧ Q .ret [⟨4, .slice t4P t4N t4C, none⟩] w) (Kx := fun id e w => match Nat.beq id 0 with | true => (dx_ref06_vars_L1_0 e fun f1 => f1 = f ∧ Q (.exit 0) [⟨1, .slice f.1 f.2.1 f.2.2.1, none⟩, ⟨2, .pointer (some f.2.2.2), none⟩] w) | false => False) ?_ ?_ ?_ s w a hj hrep
  · intro e a w hr h0
    unfold dx_ref06_vars_L1_ret at h0
    obtain ⟨outP_1, outN_1, outC_1, g1, h1⟩ := oS_elim h0
    obtain ⟨t, g2, h2⟩ := oA_elim h1
    obtain ⟨t4P, t4N, t4C, g4, h3⟩ := oS_elim h2
    obtain ⟨hf, hq⟩ := h3
    subst hf
    exact ⟨_, rep_less hr (by simp [g4]), hq⟩
  · intro id e a w hr h0
    (try dsimp only at h0)
    split at h0
    · rename_i hid
      obtain rfl := Nat.eq_of_beq_eq_true hid
      unfold dx_ref06_vars_L1_0 at h0
      obtain ⟨outP_1, outN_1, outC_1, g1, h1⟩ := oS_elim h0
      obtain ⟨t, g2, h2⟩ := oA_elim h1
      obtain ⟨hf, hq⟩ := h2
      subst hf
      exact ⟨_, rep_less hr (by simp [g1, g2]), hq⟩
    · exact h0.elim
  · intro s w hj
    have hb := hround s w hj
    rw [← hcc]
    have e1 := body_ref06_vars_L1 f s w (fun f1 s1 w1 => f1 = f ∧ J s1 w1 ∧ μ s1 w1 < μ s w) (fun f1 w1 => f1 = f ∧ Q (.exit 0) [⟨1, .slice f.1 f.2.1 f.2.2.1, none⟩, ⟨2, .pointer (some f.2.2.2), none⟩] w1) (fun f1 t4P t4N t4C w1 => f1 = f ∧ Q .ret [⟨4, .slice t4P t4N t4C, none⟩] w1)
    simp only [true_and] at e1
    exact cast e1 hb

theorem ok_ref06_vars_L2 : OneOk Try.prog Try.f25.ntmps G_ref06_vars (codeOf Try.f25) [false, true, false, true, true] spec_ref06_vars_L2 := by
  intro c hc ih Q e w a hr h
  have hcc : sub (codeOf Try.f25) [false, false, true, false, true, true] = c := sub_of_codeAt hc
  obtain ⟨f, s, h, hrep⟩ := dec_ref06_vars_L2_ok e a _ hr h
  obtain ⟨J, μ, hj, hround⟩ := h
  refine loop_rule_deep seat_ok seat_mixed ih lit_ref06_vars_L2 dec_ref06_vars_L2 dec_ref06_vars_L2_ok hc f J μ (Kr := fun e w => False) (Kx := fun id e w => match Nat.beq id 2 with | true => (dx_ref06_vars_L2_2 e fun f1 outP_3 outN_3 outC_3 => f1 = f ∧ Q (.exit 2) [⟨1, .slice outP_3 outN_3 outC_3, none⟩] w) | false => False) ?_ ?_ ?_ s w a hj hrep
  · intro e a w hr h
    exact h.elim
  · intro id e a w hr h0
    (try dsimp only at h0)
    split at h0
    · rename_i hid
      obtain rfl := Nat.eq_of_beq_eq_true hid
      unfold dx_ref06_vars_L2_2 at h0
      obtain ⟨t_1, g2, h1⟩ := oA_elim h0
      obtain ⟨outP_3, outN_3, outC_3, g1, h2⟩ := oS_elim h1
      obtain ⟨hf, hq⟩ := h2
      subst hf
      exact ⟨_, rep_less hr (by simp [g1]), hq⟩
    · exact h0.elim
  · intro s w hj
    have hb := hround s w hj
    rw [← hcc]
    have e1 := body_ref06_vars_L2 f s w (fun f1 s1 w1 => f1 = f ∧ J s1 w1 ∧ μ s1 w1 < μ s w) (fun f1 outP_3 outN_3 outC_3 w1 => f1 = f ∧ Q (.exit 2) [⟨1, .slice outP_3 outN_3 outC_3, none⟩] w1)
    simp only [true_and] at e1
    exact cast e1 hb

theorem loops_ref06_vars : LoopOk Try.prog Try.f25.ntmps G_ref06_vars (codeOf Try.f25) := loopOk_list rfl ⟨ok_ref06_vars_L1, ⟨ok_ref06_vars_L2, trivial⟩⟩

theorem C_ref06_vars.of {t0 : Int} {t1 : Int} {t2 : ByteArray} {t3P : Option Addr} {t3N : Nat} {t3C : Nat} {outP : Option Addr} {outN : Nat} {outC : Nat} {w : World} {R : Option Addr → Nat → Nat → World → Prop} (h : F_ref06_vars t0 t1 t2 t3P t3N t3C outP outN outC w R) : C_ref06_vars t0 t1 t2 t3P t3N t3C outP outN outC w R := ofS4 (Fm := F_ref06_vars t0 t1 t2 t3P t3N t3C outP outN outC w) Try.func25 (by kernel_rfl) loops_ref06_vars rfl (fun _ => by kernel_rfl) h

structure S_ref15_Chunk_L1 where
  n : Int
  i : Int

def F_ref15_Chunk_k1 (s : S_ref15_Chunk_L1) (Kn : S_ref15_Chunk_L1 → World → Prop) (n_2 : Int) (w1_1 : World) : Prop :=
  Kn ⟨n_2, (IntKind.i64.wrap ((s.i : Int) + (1 : Int)))⟩ w1_1

/-- One round. -/
def B_ref15_Chunk_L1 (goal_1 : Int) (cx : Addr) (s : S_ref15_Chunk_L1) (w : World) (Kn : S_ref15_Chunk_L1 → World → Prop) (Kx0 : Int → World → Prop) : Prop :=
  If (decide ((s.i : Int) < goal_1))
  (∃ GoalsP : Option Addr, ∃ GoalsN : Nat, ∃ GoalsC : Nat, w.cell? (cx.add 4) = some (.slice GoalsP GoalsN GoalsC) ∧
  0 ≤ (s.i : Int) ∧ (s.i : Int) < (GoalsN : Int) ∧ NN GoalsP fun a =>
  ∃ Kind : Int, w.cell? ((a.add ((s.i : Int).toNat * 5)).add 0) = some (.int .i64 Kind) ∧
  If (Kind != (2 : Int))
  (F_ref15_Chunk_k1 s Kn (IntKind.i64.wrap ((s.n : Int) + (1 : Int))) w)
  (F_ref15_Chunk_k1 s Kn (s.n : Int) w))
  (Kx0 (s.n : Int) w)

def F_ref15_Chunk_L1 (goal_1 : Int) (cx : Addr) (s : S_ref15_Chunk_L1) (w : World) (Kx0 : Int → World → Prop) : Prop :=
  LoopS (fun s w Kn => B_ref15_Chunk_L1 goal_1 cx s w Kn Kx0) s w

def F_ref15_Chunk (c0 : Int) (c1 : Int) (c2 : ByteArray) (c3P : Option Addr) (c3N : Nat) (c3C : Nat) (c4P : Option Addr) (c4N : Nat) (c4C : Nat) (c5 : Int) (goal : Int) (w : World) (R : Int → World → Prop) : Prop :=
  New w (.cells #[.int .i64 c0, .int .i64 c1, .string c2, .slice c3P c3N c3C, .slice c4P c4N c4C, .int .i64 c5] 27) fun r w1 =>
  F_ref15_Chunk_L1 goal ⟨r, 0, none⟩ ⟨(0 : Int), (0 : Int)⟩ w1
  (fun n_3 w1_2 =>
  R n_3 w1_2)

def lit_ref15_Chunk_L1 (f : Int × Addr) (s : S_ref15_Chunk_L1) : Env := [⟨1, .int .i64 f.1, none⟩, ⟨2, .pointer (some f.2), none⟩, ⟨5, .int .i64 s.n, none⟩, ⟨6, .int .i64 s.i, none⟩]

def dec_ref15_Chunk_L1 (e : Env) (K : (Int × Addr) → S_ref15_Chunk_L1 → Prop) : Prop :=
  oI e 1 .i64 fun goal_1 =>
  oA e 2 fun cx =>
  oI e 5 .i64 fun n =>
  oI e 6 .i64 fun i =>
    K (goal_1, cx) ⟨n, i⟩

theorem dec_ref15_Chunk_L1_ok {N : Nat} (e : Env) (a : Act) (K : (Int × Addr) → S_ref15_Chunk_L1 → Prop) (hr : Rep N a e) (h0 : dec_ref15_Chunk_L1 e K) : ∃ f s, K f s ∧ Rep N a (lit_ref15_Chunk_L1 f s) := by
  unfold dec_ref15_Chunk_L1 at h0
  obtain ⟨goal_1, g1, h1⟩ := oI_elim h0
  obtain ⟨cx, g2, h2⟩ := oA_elim h1
  obtain ⟨n, g5, h3⟩ := oI_elim h2
  obtain ⟨i, g6, h4⟩ := oI_elim h3
  exact ⟨_, _, h4, rep_less hr (by simp [lit_ref15_Chunk_L1, g1, g2, g5, g6])⟩

def spec_ref15_Chunk_L1 (Q : Post) (e : Env) (w : World) : Prop :=
  dec_ref15_Chunk_L1 e fun f s => F_ref15_Chunk_L1 f.1 f.2 s w (fun n_1 w1 => Q (.exit 0) [⟨5, .int .i64 n_1, none⟩] w1)

def G_ref15_Chunk : Gen where
  loop := lookL [([false, true, false, true, true], spec_ref15_Chunk_L1)]
  plan := fun _ => none

def dx_ref15_Chunk_L1_0 (e : Env) (K : (Int × Addr) → Int → Prop) : Prop :=
  oI e 1 .i64 fun goal_1 =>
  oA e 2 fun cx =>
  oI e 5 .i64 fun n_1 =>
    K (goal_1, cx) n_1

theorem body_ref15_Chunk_L1 (f : Int × Addr) (s : S_ref15_Chunk_L1) (w : World) (Kn : (Int × Addr) → S_ref15_Chunk_L1 → World → Prop) (Kx0 : (Int × Addr) → Int → World → Prop) :
    B_ref15_Chunk_L1 f.1 f.2 s w (fun s1 w1 => Kn f s1 w1) (fun n_1 w1 => Kx0 f n_1 w1) =
    den Try.prog Try.f26.ntmps G_ref15_Chunk (sub (codeOf Try.f26) [false, false, true, false, true, true]) [false, false, true, false, true, true] (roundQ (fun e w => dec_ref15_Chunk_L1 e fun f s => Kn f s w) (fun e w => False) (fun id e w => match Nat.beq id 0 with | true => dx_ref15_Chunk_L1_0 e fun f n_1 => Kx0 f n_1 w | false => False)) (lit_ref15_Chunk_L1 f s) w := by kernel_rfl

theorem ok_ref15_Chunk_L1 : OneOk Try.prog Try.f26.ntmps G_ref15_Chunk (codeOf Try.f26) [false, true, false, true, true] spec_ref15_Chunk_L1 := by
  intro c hc ih Q e w a hr h
  have hcc : sub (codeOf Try.f26) [false, false, true, false, true, true] = c := sub_of_codeAt hc
  obtain ⟨f, s, h, hrep⟩ := dec_ref15_Chunk_L1_ok e a _ hr h
  obtain ⟨J, μ, hj, hround⟩ := h
  refine loop_rule_deep seat_ok seat_mixed ih lit_ref15_Chunk_L1 dec_ref15_Chunk_L1 dec_ref15_Chunk_L1_ok hc f J μ (Kr := fun e w => False) (Kx := fun id e w => match Nat.beq id 0 with | true => (dx_ref15_Chunk_L1_0 e fun f1 n_1 => f1 = f ∧ Q (.exit 0) [⟨5, .int .i64 n_1, none⟩] w) | false => False) ?_ ?_ ?_ s w a hj hrep
  · intro e a w hr h
    exact h.elim
  · intro id e a w hr h0
    (try dsimp only at h0)
    split at h0
    · rename_i hid
      obtain rfl := Nat.eq_of_beq_eq_true hid
      unfold dx_ref15_Chunk_L1_0 at h0
      obtain ⟨goal_1, g1, h1⟩ := oI_elim h0
      obtain ⟨cx, g2, h2⟩ := oA_elim h1
      obtain ⟨n_1, g5, h3⟩ := oI_elim h2
      obtain ⟨hf, hq⟩ := h3
      subst hf
      exact ⟨_, rep_less hr (by simp [g5]), hq⟩
    · exact h0.elim
  · intro s w hj
    have hb := hround s w hj
    rw [← hcc]
    have e1 := body_ref15_Chunk_L1 f s w (fun f1 s1 w1 => f1 = f ∧ J s1 w1 ∧ μ s1 w1 < μ s w) (fun f1 n_1 w1 => f1 = f ∧ Q (.exit 0) [⟨5, .int .i64 n_1, none⟩] w1)
    simp only [true_and] at e1
    exact cast e1 hb

theorem loops_ref15_Chunk : LoopOk Try.prog Try.f26.ntmps G_ref15_Chunk (codeOf Try.f26) := loopOk_list rfl ⟨ok_ref15_Chunk_L1, trivial⟩

theorem C_ref15_Chunk.of {c0 : Int} {c1 : Int} {c2 : ByteArray} {c3P : Option Addr} {c3N : Nat} {c3C : Nat} {c4P : Option Addr} {c4N : Nat} {c4C : Nat} {c5 : Int} {goal : Int} {w : World} {R : Int → World → Prop} (h : F_ref15_Chunk c0 c1 c2 c3P c3N c3C c4P c4N c4C c5 goal w R) : C_ref15_Chunk c0 c1 c2 c3P c3N c3C c4P c4N c4C c5 goal w R := ofS5 (Fm := F_ref15_Chunk c0 c1 c2 c3P c3N c3C c4P c4N c4C c5 goal w) Try.func26 (by kernel_rfl) loops_ref15_Chunk rfl (fun _ => by kernel_rfl) h

structure S_ref06_large_L1 where
  i : Int

def F_ref06_large_k1 (R : Bool → World → Prop) (w1_2 : World) : Prop :=
  R true w1_2

/-- One round. -/
def B_ref06_large_L1 (depth_1 : Int) (n_1 : Option Addr) (t : Addr) (s : S_ref06_large_L1) (w : World) (Kn : S_ref06_large_L1 → World → Prop) (Kx0 : World → Prop) (Kr : Bool → World → Prop) : Prop :=
  ∃ LP_1 : Option Addr, ∃ LN_1 : Nat, ∃ LC_1 : Nat, w.cell? (t.add 3) = some (.slice LP_1 LN_1 LC_1) ∧
  If (decide ((s.i : Int) < (LN_1 : Int)))
  (∃ LP_2 : Option Addr, ∃ LN_2 : Nat, ∃ LC_2 : Nat, w.cell? (t.add 3) = some (.slice LP_2 LN_2 LC_2) ∧
  0 ≤ (s.i : Int) ∧ (s.i : Int) < (LN_2 : Int) ∧ NN LP_2 fun a_3 =>
  ∃ t440 : Int, w.cell? ((a_3.add ((s.i : Int).toNat * 4)).add 0) = some (.int .i64 t440) ∧
  ∃ t441 : Int, w.cell? ((a_3.add ((s.i : Int).toNat * 4)).add 1) = some (.int .i64 t441) ∧
  ∃ t442 : ByteArray, w.cell? ((a_3.add ((s.i : Int).toNat * 4)).add 2) = some (.string t442) ∧
  ∃ t443P : Option Addr, ∃ t443N : Nat, ∃ t443C : Nat, w.cell? ((a_3.add ((s.i : Int).toNat * 4)).add 3) = some (.slice t443P t443N t443C) ∧
  C_ref06_large t440 t441 t442 t443P t443N t443C (IntKind.i64.wrap (depth_1 + (1 : Int))) n_1 w fun t48 w1_3 =>
  If t48
  (Kr true w1_3)
  (Kn ⟨(IntKind.i64.wrap ((s.i : Int) + (1 : Int)))⟩ w1_3))
  (Kx0 w)

def F_ref06_large_L1 (depth_1 : Int) (n_1 : Option Addr) (t : Addr) (s : S_ref06_large_L1) (w : World) (Kx0 : World → Prop) (Kr : Bool → World → Prop) : Prop :=
  LoopS (fun s w Kn => B_ref06_large_L1 depth_1 n_1 t s w Kn Kx0 Kr) s w

def F_ref06_large (t0 : Int) (t1 : Int) (t2 : ByteArray) (t3P : Option Addr) (t3N : Nat) (t3C : Nat) (depth : Int) (n : Option Addr) (w : World) (R : Bool → World → Prop) : Prop :=
  New w (.cells #[.int .i64 t0, .int .i64 t1, .string t2, .slice t3P t3N t3C] 24) fun r w1 =>
  NN n fun a =>
  ∃ t11 : Int, (drw w1).cell? a = some (.int .i64 t11) ∧
  ∃ S : ByteArray, (drw w1).cell? ((⟨r, 0, none⟩ : Addr).add 2) = some (.string S) ∧
  (16 : Int) ≠ 0 ∧
  NN n fun a_1 =>
  St (drw w1) (a_1.add 0) (.int .i64 (IntKind.i64.wrap ((IntKind.i64.wrap (t11 + (1 : Int))) + (IntKind.i64.wrap ((S.size : Int).tdiv (16 : Int)))))) fun w1_1 =>
  NN n fun a_2 =>
  ∃ t21 : Int, w1_1.cell? a_2 = some (.int .i64 t21) ∧
  If (decide (t21 > (6000 : Int)))
  (F_ref06_large_k1 R w1_1)
  (If (decide (depth > (300 : Int)))
  (F_ref06_large_k1 R w1_1)
  (∃ LP : Option Addr, ∃ LN : Nat, ∃ LC : Nat, w1_1.cell? ((⟨r, 0, none⟩ : Addr).add 3) = some (.slice LP LN LC) ∧
  If (decide ((LN : Int) > (100 : Int)))
  (R true w1_1)
  (F_ref06_large_L1 depth n ⟨r, 0, none⟩ ⟨(0 : Int)⟩ w1_1
  (fun w1_4 =>
  R false w1_4)
  (fun t6_1 w1_5 =>
  R t6_1 w1_5))))

def lit_ref06_large_L1 (f : Int × (Option Addr) × Addr) (s : S_ref06_large_L1) : Env := [⟨1, .int .i64 f.1, none⟩, ⟨2, .pointer f.2.1, none⟩, ⟨3, .pointer (some f.2.2), none⟩, ⟨7, .int .i64 s.i, none⟩]

def dec_ref06_large_L1 (e : Env) (K : (Int × (Option Addr) × Addr) → S_ref06_large_L1 → Prop) : Prop :=
  oI e 1 .i64 fun depth_1 =>
  oP e 2 fun n_1 =>
  oA e 3 fun t =>
  oI e 7 .i64 fun i =>
    K (depth_1, n_1, t) ⟨i⟩

theorem dec_ref06_large_L1_ok {N : Nat} (e : Env) (a : Act) (K : (Int × (Option Addr) × Addr) → S_ref06_large_L1 → Prop) (hr : Rep N a e) (h0 : dec_ref06_large_L1 e K) : ∃ f s, K f s ∧ Rep N a (lit_ref06_large_L1 f s) := by
  unfold dec_ref06_large_L1 at h0
  obtain ⟨depth_1, g1, h1⟩ := oI_elim h0
  obtain ⟨n_1, g2, h2⟩ := oP_elim h1
  obtain ⟨t, g3, h3⟩ := oA_elim h2
  obtain ⟨i, g7, h4⟩ := oI_elim h3
  exact ⟨_, _, h4, rep_less hr (by simp [lit_ref06_large_L1, g1, g2, g3, g7])⟩

def spec_ref06_large_L1 (Q : Post) (e : Env) (w : World) : Prop :=
  dec_ref06_large_L1 e fun f s => F_ref06_large_L1 f.1 f.2.1 f.2.2 s w (fun w1 => Q (.exit 0) [] w1) (fun t6 w1 => Q .ret [⟨6, .bool t6, none⟩] w1)

def G_ref06_large : Gen where
  loop := lookL [([false, true, false, true, true, true], spec_ref06_large_L1)]
  plan := fun id =>
    bif Nat.beq id 1 then some ([0, 0, 2, 6, 14, 0, 32, 96, 224, 510, 1023, 2047], .take 0 (.take 1 (.take 2 (.take 3 (.take 4 (.take 5 (.take 6 (.take 7 (.take 8 (.take 9 (.take 10 (.take 11 .done)))))))))))) else none

def dx_ref06_large_L1_0 (e : Env) (K : (Int × (Option Addr) × Addr) → Prop) : Prop :=
  oI e 1 .i64 fun depth_1 =>
  oP e 2 fun n_1 =>
  oA e 3 fun t =>
    K (depth_1, n_1, t)

def dx_ref06_large_L1_ret (e : Env) (K : (Int × (Option Addr) × Addr) → Bool → Prop) : Prop :=
  oI e 1 .i64 fun depth_1 =>
  oP e 2 fun n_1 =>
  oA e 3 fun t =>
  oB e 6 fun t6 =>
    K (depth_1, n_1, t) t6

theorem body_ref06_large_L1 (f : Int × (Option Addr) × Addr) (s : S_ref06_large_L1) (w : World) (Kn : (Int × (Option Addr) × Addr) → S_ref06_large_L1 → World → Prop) (Kx0 : (Int × (Option Addr) × Addr) → World → Prop) (Kr : (Int × (Option Addr) × Addr) → Bool → World → Prop) :
    B_ref06_large_L1 f.1 f.2.1 f.2.2 s w (fun s1 w1 => Kn f s1 w1) (fun w1 => Kx0 f w1) (fun t6 w1 => Kr f t6 w1) =
    den Try.prog Try.f27.ntmps G_ref06_large (sub (codeOf Try.f27) [false, false, true, false, true, true, true]) [false, false, true, false, true, true, true] (roundQ (fun e w => dec_ref06_large_L1 e fun f s => Kn f s w) (fun e w => dx_ref06_large_L1_ret e fun f t6 => Kr f t6 w) (fun id e w => match Nat.beq id 0 with | true => dx_ref06_large_L1_0 e fun f => Kx0 f w | false => False)) (lit_ref06_large_L1 f s) w := by kernel_rfl

theorem ok_ref06_large_L1 : OneOk Try.prog Try.f27.ntmps G_ref06_large (codeOf Try.f27) [false, true, false, true, true, true] spec_ref06_large_L1 := by
  intro c hc ih Q e w a hr h
  have hcc : sub (codeOf Try.f27) [false, false, true, false, true, true, true] = c := sub_of_codeAt hc
  obtain ⟨f, s, h, hrep⟩ := dec_ref06_large_L1_ok e a _ hr h
  obtain ⟨J, μ, hj, hround⟩ := h
  refine loop_rule_deep seat_ok seat_mixed ih lit_ref06_large_L1 dec_ref06_large_L1 dec_ref06_large_L1_ok hc f J μ (Kr := fun e w => dx_ref06_large_L1_ret e fun f1 t6 => f1 = f ∧ Q .ret [⟨6, .bool t6, none⟩] w) (Kx := fun id e w => match Nat.beq id 0 with | true => (dx_ref06_large_L1_0 e fun f1 => f1 = f ∧ Q (.exit 0) [] w) | false => False) ?_ ?_ ?_ s w a hj hrep
  · intro e a w hr h0
    unfold dx_ref06_large_L1_ret at h0
    obtain ⟨depth_1, g1, h1⟩ := oI_elim h0
    obtain ⟨n_1, g2, h2⟩ := oP_elim h1
    obtain ⟨t, g3, h3⟩ := oA_elim h2
    obtain ⟨t6, g6, h4⟩ := oB_elim h3
    obtain ⟨hf, hq⟩ := h4
    subst hf
    exact ⟨_, rep_less hr (by simp [g6]), hq⟩
  · intro id e a w hr h0
    (try dsimp only at h0)
    split at h0
    · rename_i hid
      obtain rfl := Nat.eq_of_beq_eq_true hid
      unfold dx_ref06_large_L1_0 at h0
      obtain ⟨depth_1, g1, h1⟩ := oI_elim h0
      obtain ⟨n_1, g2, h2⟩ := oP_elim h1
      obtain ⟨t, g3, h3⟩ := oA_elim h2
      obtain ⟨hf, hq⟩ := h3
      subst hf
      exact ⟨_, rep_less hr (by simp), hq⟩
    · exact h0.elim
  · intro s w hj
    have hb := hround s w hj
    rw [← hcc]
    have e1 := body_ref06_large_L1 f s w (fun f1 s1 w1 => f1 = f ∧ J s1 w1 ∧ μ s1 w1 < μ s w) (fun f1 w1 => f1 = f ∧ Q (.exit 0) [] w1) (fun f1 t6 w1 => f1 = f ∧ Q .ret [⟨6, .bool t6, none⟩] w1)
    simp only [true_and] at e1
    exact cast e1 hb

theorem loops_ref06_large : LoopOk Try.prog Try.f27.ntmps G_ref06_large (codeOf Try.f27) := loopOk_list rfl ⟨ok_ref06_large_L1, trivial⟩

theorem C_ref06_large.of {t0 : Int} {t1 : Int} {t2 : ByteArray} {t3P : Option Addr} {t3N : Nat} {t3C : Nat} {depth : Int} {n : Option Addr} {w : World} {R : Bool → World → Prop} (h : F_ref06_large t0 t1 t2 t3P t3N t3C depth n w R) : C_ref06_large t0 t1 t2 t3P t3N t3C depth n w R := ofS2 (Fm := F_ref06_large t0 t1 t2 t3P t3N t3C depth n w) Try.func27 (by kernel_rfl) loops_ref06_large rfl (fun _ => by kernel_rfl) h

def F_ref06_Var (n : Int) (w : World) (R : Int → Int → ByteArray → Option Addr → Nat → Nat → World → Prop) : Prop :=
  New w (.cells #[.int .i64 0, .int .i64 0, .string ⟨#[]⟩, .slice none 0 0] 24) fun r w1 =>
  St w1 ((⟨r, 0, none⟩ : Addr).add 0) (.int .i64 1) fun w1_1 =>
  St w1_1 ((⟨r, 0, none⟩ : Addr).add 1) (.int .i64 n) fun w1_2 =>
  St w1_2 ((⟨r, 0, none⟩ : Addr).add 2) (.string ⟨#[]⟩) fun w1_3 =>
  St w1_3 ((⟨r, 0, none⟩ : Addr).add 3) (.slice none 0 0) fun w1_4 =>
  ∃ r_1 : Int, w1_4.cell? ((⟨r, 0, none⟩ : Addr).add 0) = some (.int .i64 r_1) ∧
  ∃ r_2 : Int, w1_4.cell? ((⟨r, 0, none⟩ : Addr).add 1) = some (.int .i64 r_2) ∧
  ∃ r_3 : ByteArray, w1_4.cell? ((⟨r, 0, none⟩ : Addr).add 2) = some (.string r_3) ∧
  ∃ rP : Option Addr, ∃ rN : Nat, ∃ rC : Nat, w1_4.cell? ((⟨r, 0, none⟩ : Addr).add 3) = some (.slice rP rN rC) ∧
  R r_1 r_2 r_3 rP rN rC w1_4

def G_ref06_Var : Gen where
  loop := lookL []
  plan := fun _ => none

theorem loops_ref06_Var : LoopOk Try.prog Try.f28.ntmps G_ref06_Var (codeOf Try.f28) := loopOk_none fun _ => rfl

theorem C_ref06_Var.of {n : Int} {w : World} {R : Int → Int → ByteArray → Option Addr → Nat → Nat → World → Prop} (h : F_ref06_Var n w R) : C_ref06_Var n w R := ofS7 (Fm := F_ref06_Var n w) Try.func28 (by kernel_rfl) loops_ref06_Var rfl (fun _ => by kernel_rfl) h

def F_ref06_Comp (sx : ByteArray) (lP : Option Addr) (lN : Nat) (lC : Nat) (w : World) (R : Int → Int → ByteArray → Option Addr → Nat → Nat → World → Prop) : Prop :=
  New w (.cells #[.int .i64 0, .int .i64 0, .string ⟨#[]⟩, .slice none 0 0] 24) fun r w1 =>
  If ((lN : Int) == (0 : Int))
  (C_ref06_Atom sx w1 fun t90 t91 t92 t93P t93N t93C w1_1 =>
  St w1_1 ((⟨r, 0, none⟩ : Addr).add 0) (.int .i64 t90) fun w1_2 =>
  St w1_2 ((⟨r, 0, none⟩ : Addr).add 1) (.int .i64 t91) fun w1_3 =>
  St w1_3 ((⟨r, 0, none⟩ : Addr).add 2) (.string t92) fun w1_4 =>
  St w1_4 ((⟨r, 0, none⟩ : Addr).add 3) (.slice t93P t93N t93C) fun w1_5 =>
  ∃ r_1 : Int, w1_5.cell? ((⟨r, 0, none⟩ : Addr).add 0) = some (.int .i64 r_1) ∧
  ∃ r_2 : Int, w1_5.cell? ((⟨r, 0, none⟩ : Addr).add 1) = some (.int .i64 r_2) ∧
  ∃ r_3 : ByteArray, w1_5.cell? ((⟨r, 0, none⟩ : Addr).add 2) = some (.string r_3) ∧
  ∃ rP : Option Addr, ∃ rN : Nat, ∃ rC : Nat, w1_5.cell? ((⟨r, 0, none⟩ : Addr).add 3) = some (.slice rP rN rC) ∧
  R r_1 r_2 r_3 rP rN rC w1_5)
  (BSl Try.prog 22 0 [] w1 fun t11P t11N t11C w1_6 =>
  App Try.prog #[22, 22] 22 #[.slice t11P t11N t11C, .slice lP lN lC] w1_6 fun t13P t13N t13C w1_7 =>
  St w1_7 ((⟨r, 0, none⟩ : Addr).add 0) (.int .i64 4) fun w1_8 =>
  St w1_8 ((⟨r, 0, none⟩ : Addr).add 1) (.int .i64 0) fun w1_9 =>
  St w1_9 ((⟨r, 0, none⟩ : Addr).add 2) (.string sx) fun w1_10 =>
  St w1_10 ((⟨r, 0, none⟩ : Addr).add 3) (.slice t13P t13N t13C) fun w1_11 =>
  ∃ r_4 : Int, w1_11.cell? ((⟨r, 0, none⟩ : Addr).add 0) = some (.int .i64 r_4) ∧
  ∃ r_5 : Int, w1_11.cell? ((⟨r, 0, none⟩ : Addr).add 1) = some (.int .i64 r_5) ∧
  ∃ r_6 : ByteArray, w1_11.cell? ((⟨r, 0, none⟩ : Addr).add 2) = some (.string r_6) ∧
  ∃ rP_1 : Option Addr, ∃ rN_1 : Nat, ∃ rC_1 : Nat, w1_11.cell? ((⟨r, 0, none⟩ : Addr).add 3) = some (.slice rP_1 rN_1 rC_1) ∧
  R r_4 r_5 r_6 rP_1 rN_1 rC_1 w1_11)

def G_ref06_Comp : Gen where
  loop := lookL []
  plan := fun _ => none

theorem loops_ref06_Comp : LoopOk Try.prog Try.f29.ntmps G_ref06_Comp (codeOf Try.f29) := loopOk_none fun _ => rfl

theorem C_ref06_Comp.of {sx : ByteArray} {lP : Option Addr} {lN : Nat} {lC : Nat} {w : World} {R : Int → Int → ByteArray → Option Addr → Nat → Nat → World → Prop} (h : F_ref06_Comp sx lP lN lC w R) : C_ref06_Comp sx lP lN lC w R := ofS7 (Fm := F_ref06_Comp sx lP lN lC w) Try.func29 (by kernel_rfl) loops_ref06_Comp rfl (fun _ => by kernel_rfl) h

def F_slices_Sort (xP : Option Addr) (xN : Nat) (xC : Nat) (w : World) (R : World → Prop) : Prop :=
  C_math_bits_Len (IntKind.u64.wrap (xN : Int)) w fun t9 w1 =>
  C_slices_pdqsortOrdered xP xN xC (0 : Int) (xN : Int) t9 w1 fun w1_1 =>
  R w1_1

def G_slices_Sort : Gen where
  loop := lookL []
  plan := fun _ => none

theorem loops_slices_Sort : LoopOk Try.prog Try.f30.ntmps G_slices_Sort (codeOf Try.f30) := loopOk_none fun _ => rfl

theorem C_slices_Sort.of {xP : Option Addr} {xN : Nat} {xC : Nat} {w : World} {R : World → Prop} (h : F_slices_Sort xP xN xC w R) : C_slices_Sort xP xN xC w R := ofS1 (Fm := F_slices_Sort xP xN xC w) Try.func30 (by kernel_rfl) loops_slices_Sort rfl (fun _ => by kernel_rfl) h

def F_term_Check (t0 : Int) (t1 : Int) (t2 : ByteArray) (t3P : Option Addr) (t3N : Nat) (t3C : Nat) (w : World) (R : Int → World → Prop) : Prop :=
  New w (.cells #[.int .i64 t0, .int .i64 t1, .string t2, .slice t3P t3N t3C] 24) fun r w1 =>
  ∃ t40 : Int, w1.cell? ((⟨r, 0, none⟩ : Addr).add 0) = some (.int .i64 t40) ∧
  ∃ t41 : Int, w1.cell? ((⟨r, 0, none⟩ : Addr).add 1) = some (.int .i64 t41) ∧
  ∃ t42 : ByteArray, w1.cell? ((⟨r, 0, none⟩ : Addr).add 2) = some (.string t42) ∧
  ∃ t43P : Option Addr, ∃ t43N : Nat, ∃ t43C : Nat, w1.cell? ((⟨r, 0, none⟩ : Addr).add 3) = some (.slice t43P t43N t43C) ∧
  C_term_measure t40 t41 t42 t43P t43N t43C w1 fun t50 t51 t52 w1_1 =>
  New w1_1 (.cells #[.int .i64 0, .int .i64 0, .bool false] 84) fun r_1 w1_2 =>
  St w1_2 ((⟨r_1, 0, none⟩ : Addr).add 0) (.int .i64 t50) fun w1_3 =>
  St w1_3 ((⟨r_1, 0, none⟩ : Addr).add 1) (.int .i64 t51) fun w1_4 =>
  St w1_4 ((⟨r_1, 0, none⟩ : Addr).add 2) (.bool t52) fun w1_5 =>
  ∃ bad : Bool, w1_5.cell? ((⟨r_1, 0, none⟩ : Addr).add 2) = some (.bool bad) ∧
  If bad
  (R (60 : Int) w1_5)
  (∃ depth : Int, w1_5.cell? ((⟨r_1, 0, none⟩ : Addr).add 1) = some (.int .i64 depth) ∧
  If (decide (depth > (200 : Int)))
  (R (61 : Int) w1_5)
  (∃ parts : Int, w1_5.cell? ((⟨r_1, 0, none⟩ : Addr).add 0) = some (.int .i64 parts) ∧
  If (decide (parts > (4096 : Int)))
  (R (62 : Int) w1_5)
  (R (0 : Int) w1_5)))

def G_term_Check : Gen where
  loop := lookL []
  plan := fun _ => none

theorem loops_term_Check : LoopOk Try.prog Try.f31.ntmps G_term_Check (codeOf Try.f31) := loopOk_none fun _ => rfl

theorem C_term_Check.of {t0 : Int} {t1 : Int} {t2 : ByteArray} {t3P : Option Addr} {t3N : Nat} {t3C : Nat} {w : World} {R : Int → World → Prop} (h : F_term_Check t0 t1 t2 t3P t3N t3C w R) : C_term_Check t0 t1 t2 t3P t3N t3C w R := ofS5 (Fm := F_term_Check t0 t1 t2 t3P t3N t3C w) Try.func31 (by kernel_rfl) loops_term_Check rfl (fun _ => by kernel_rfl) h

def F_slices_ContainsFunc (sP : Option Addr) (sN : Nat) (sC : Nat) (fx : Value) (w : World) (R : Bool → World → Prop) : Prop :=
  C_slices_IndexFunc__2 sP sN sC fx w fun t7 w1 =>
  R (decide (t7 ≥ (0 : Int))) w1

def G_slices_ContainsFunc : Gen where
  loop := lookL []
  plan := fun _ => none

theorem loops_slices_ContainsFunc : LoopOk Try.prog Try.f32.ntmps G_slices_ContainsFunc (codeOf Try.f32) := loopOk_none fun _ => rfl

theorem C_slices_ContainsFunc.of {sP : Option Addr} {sN : Nat} {sC : Nat} {fx : Value} {w : World} {R : Bool → World → Prop} (h : F_slices_ContainsFunc sP sN sC fx w R) : C_slices_ContainsFunc sP sN sC fx w R := ofS2 (Fm := F_slices_ContainsFunc sP sN sC fx w) Try.func32 (by kernel_rfl) loops_slices_ContainsFunc rfl (fun _ => by kernel_rfl) h

def F_plan_may_1 (g0x : Int) (g1x : Int) (g2x : Int) (g3x : ByteArray) (g4P : Option Addr) (g4N : Nat) (g4C : Nat) (w : World) (R : Bool → World → Prop) : Prop :=
  New w (.cells #[.int .i64 g0x, .int .i64 g1x, .int .i64 g2x, .string g3x, .slice g4P g4N g4C] 38) fun r w1 =>
  ∃ Kind : Int, w1.cell? ((⟨r, 0, none⟩ : Addr).add 0) = some (.int .i64 Kind) ∧
  If (decide (Kind < (1 : Int)))
  (R true w1)
  (∃ Kind_1 : Int, w1.cell? ((⟨r, 0, none⟩ : Addr).add 0) = some (.int .i64 Kind_1) ∧
  R (decide (Kind_1 > (4 : Int))) w1)

def G_plan_may_1 : Gen where
  loop := lookL []
  plan := fun _ => none

theorem loops_plan_may_1 : LoopOk Try.prog Try.f33.ntmps G_plan_may_1 (codeOf Try.f33) := loopOk_none fun _ => rfl

theorem C_plan_may_1.of {g0x : Int} {g1x : Int} {g2x : Int} {g3x : ByteArray} {g4P : Option Addr} {g4N : Nat} {g4C : Nat} {w : World} {R : Bool → World → Prop} (h : F_plan_may_1 g0x g1x g2x g3x g4P g4N g4C w R) : C_plan_may_1 g0x g1x g2x g3x g4P g4N g4C w R := ofS2 (Fm := F_plan_may_1 g0x g1x g2x g3x g4P g4N g4C w) Try.func33 (by kernel_rfl) loops_plan_may_1 rfl (fun _ => by kernel_rfl) h

structure S_plan_spans_note_L1 where
  t12 : Int

def F_plan_spans_note_k1 (sx_1 : Option Nat) (chunk_1 : Int) (s : S_plan_spans_note_L1) (Kn : S_plan_spans_note_L1 → World → Prop) (t15 : Int) (r : Nat) (w1_8 : World) : Prop :=
  St w1_8 (((⟨r, 0, none⟩ : Addr).add 2).add 0) (.int .i64 chunk_1) fun w1_9 =>
  ∃ t320 : Int, w1_9.cell? ((⟨r, 0, none⟩ : Addr).add 0) = some (.int .i64 t320) ∧
  ∃ t321 : Int, w1_9.cell? ((⟨r, 0, none⟩ : Addr).add 1) = some (.int .i64 t321) ∧
  ∃ t322 : Int, w1_9.cell? ((⟨r, 0, none⟩ : Addr).add 2) = some (.int .i64 t322) ∧
  MUp Try.prog 52 (.map sx_1) (.int .i64 t15) (.agg #[.int .i64 t320, .int .i64 t321, .int .i64 t322]) w1_9 fun w1_10 =>
  Kn ⟨(IntKind.i64.wrap ((s.t12 : Int) + (1 : Int)))⟩ w1_10

/-- One round. -/
def B_plan_spans_note_L1 (sx_1 : Option Nat) (chunk_1 : Int) (t10P : Option Addr) (t10N : Nat) (t10C : Nat) (t11 : Int) (s : S_plan_spans_note_L1) (w : World) (Kn : S_plan_spans_note_L1 → World → Prop) (Kx0 : World → Prop) : Prop :=
  If (decide ((s.t12 : Int) < t11))
  (0 ≤ (s.t12 : Int) ∧ (s.t12 : Int) < (t10N : Int) ∧ NN t10P fun a =>
  ∃ t15 : Int, w.cell? (a.add ((s.t12 : Int).toNat * 1)) = some (.int .i64 t15) ∧
  Run Try.prog (Instr.lookup 52 (.map sx_1) (.int .i64 t15) true) w fun v w1 => ∃ t1900 : Int, ∃ t1901 : Int, ∃ t1902 : Int, ∃ t191 : Bool, v = (.tuple #[.agg #[.int .i64 t1900, .int .i64 t1901, .int .i64 t1902], .bool t191]) ∧
  New w1 (.cells #[.int .i64 0, .int .i64 0, .int .i64 0] 58) fun r w1_1 =>
  St w1_1 ((⟨r, 0, none⟩ : Addr).add 0) (.int .i64 t1900) fun w1_2 =>
  St w1_2 ((⟨r, 0, none⟩ : Addr).add 1) (.int .i64 t1901) fun w1_3 =>
  St w1_3 ((⟨r, 0, none⟩ : Addr).add 2) (.int .i64 t1902) fun w1_4 =>
  If (!t191)
  (St w1_4 ((⟨r, 0, none⟩ : Addr).add 0) (.int .i64 t15) fun w1_5 =>
  St w1_5 ((⟨r, 0, none⟩ : Addr).add 1) (.int .i64 chunk_1) fun w1_6 =>
  St w1_6 ((⟨r, 0, none⟩ : Addr).add 2) (.int .i64 chunk_1) fun w1_7 =>
  F_plan_spans_note_k1 sx_1 chunk_1 s Kn t15 r w1_7)
  (F_plan_spans_note_k1 sx_1 chunk_1 s Kn t15 r w1_4))
  (Kx0 w)

def F_plan_spans_note_L1 (sx_1 : Option Nat) (chunk_1 : Int) (t10P : Option Addr) (t10N : Nat) (t10C : Nat) (t11 : Int) (s : S_plan_spans_note_L1) (w : World) (Kx0 : World → Prop) : Prop :=
  LoopS (fun s w Kn => B_plan_spans_note_L1 sx_1 chunk_1 t10P t10N t10C t11 s w Kn Kx0) s w

def F_plan_spans_note (sx : Option Nat) (chunk : Int) (lP : Option Addr) (lN : Nat) (lC : Nat) (w : World) (R : World → Prop) : Prop :=
  F_plan_spans_note_L1 sx chunk lP lN lC (lN : Int) ⟨(0 : Int)⟩ w
  (fun w1_11 =>
  R w1_11)

def lit_plan_spans_note_L1 (f : (Option Nat) × Int × (Option Addr) × Nat × Nat × Int) (s : S_plan_spans_note_L1) : Env := [⟨0, .map f.1, none⟩, ⟨1, .int .i64 f.2.1, none⟩, ⟨10, .slice f.2.2.1 f.2.2.2.1 f.2.2.2.2.1, none⟩, ⟨11, .int .i64 f.2.2.2.2.2, none⟩, ⟨12, .int .i64 s.t12, none⟩]

def dec_plan_spans_note_L1 (e : Env) (K : ((Option Nat) × Int × (Option Addr) × Nat × Nat × Int) → S_plan_spans_note_L1 → Prop) : Prop :=
  oM e 0 fun sx_1 =>
  oI e 1 .i64 fun chunk_1 =>
  oS e 10 fun t10P t10N t10C =>
  oI e 11 .i64 fun t11 =>
  oI e 12 .i64 fun t12 =>
    K (sx_1, chunk_1, t10P, t10N, t10C, t11) ⟨t12⟩

theorem dec_plan_spans_note_L1_ok {N : Nat} (e : Env) (a : Act) (K : ((Option Nat) × Int × (Option Addr) × Nat × Nat × Int) → S_plan_spans_note_L1 → Prop) (hr : Rep N a e) (h0 : dec_plan_spans_note_L1 e K) : ∃ f s, K f s ∧ Rep N a (lit_plan_spans_note_L1 f s) := by
  unfold dec_plan_spans_note_L1 at h0
  obtain ⟨sx_1, g0, h1⟩ := oM_elim h0
  obtain ⟨chunk_1, g1, h2⟩ := oI_elim h1
  obtain ⟨t10P, t10N, t10C, g10, h3⟩ := oS_elim h2
  obtain ⟨t11, g11, h4⟩ := oI_elim h3
  obtain ⟨t12, g12, h5⟩ := oI_elim h4
  exact ⟨_, _, h5, rep_less hr (by simp [lit_plan_spans_note_L1, g0, g1, g10, g11, g12])⟩

def spec_plan_spans_note_L1 (Q : Post) (e : Env) (w : World) : Prop :=
  dec_plan_spans_note_L1 e fun f s => F_plan_spans_note_L1 f.1 f.2.1 f.2.2.1 f.2.2.2.1 f.2.2.2.2.1 f.2.2.2.2.2 s w (fun w1 => Q (.exit 0) [] w1)

def G_plan_spans_note : Gen where
  loop := lookL [([false, true], spec_plan_spans_note_L1)]
  plan := fun _ => none

def dx_plan_spans_note_L1_0 (e : Env) (K : ((Option Nat) × Int × (Option Addr) × Nat × Nat × Int) → Prop) : Prop :=
  oM e 0 fun sx_1 =>
  oI e 1 .i64 fun chunk_1 =>
  oS e 10 fun t10P t10N t10C =>
  oI e 11 .i64 fun t11 =>
    K (sx_1, chunk_1, t10P, t10N, t10C, t11)

theorem body_plan_spans_note_L1 (f : (Option Nat) × Int × (Option Addr) × Nat × Nat × Int) (s : S_plan_spans_note_L1) (w : World) (Kn : ((Option Nat) × Int × (Option Addr) × Nat × Nat × Int) → S_plan_spans_note_L1 → World → Prop) (Kx0 : ((Option Nat) × Int × (Option Addr) × Nat × Nat × Int) → World → Prop) :
    B_plan_spans_note_L1 f.1 f.2.1 f.2.2.1 f.2.2.2.1 f.2.2.2.2.1 f.2.2.2.2.2 s w (fun s1 w1 => Kn f s1 w1) (fun w1 => Kx0 f w1) =
    den Try.prog Try.f34.ntmps G_plan_spans_note (sub (codeOf Try.f34) [false, false, true]) [false, false, true] (roundQ (fun e w => dec_plan_spans_note_L1 e fun f s => Kn f s w) (fun e w => False) (fun id e w => match Nat.beq id 0 with | true => dx_plan_spans_note_L1_0 e fun f => Kx0 f w | false => False)) (lit_plan_spans_note_L1 f s) w := by kernel_rfl

theorem ok_plan_spans_note_L1 : OneOk Try.prog Try.f34.ntmps G_plan_spans_note (codeOf Try.f34) [false, true] spec_plan_spans_note_L1 := by
  intro c hc ih Q e w a hr h
  have hcc : sub (codeOf Try.f34) [false, false, true] = c := sub_of_codeAt hc
  obtain ⟨f, s, h, hrep⟩ := dec_plan_spans_note_L1_ok e a _ hr h
  obtain ⟨J, μ, hj, hround⟩ := h
  refine loop_rule_deep seat_ok seat_mixed ih lit_plan_spans_note_L1 dec_plan_spans_note_L1 dec_plan_spans_note_L1_ok hc f J μ (Kr := fun e w => False) (Kx := fun id e w => match Nat.beq id 0 with | true => (dx_plan_spans_note_L1_0 e fun f1 => f1 = f ∧ Q (.exit 0) [] w) | false => False) ?_ ?_ ?_ s w a hj hrep
  · intro e a w hr h
    exact h.elim
  · intro id e a w hr h0
    (try dsimp only at h0)
    split at h0
    · rename_i hid
      obtain rfl := Nat.eq_of_beq_eq_true hid
      unfold dx_plan_spans_note_L1_0 at h0
      obtain ⟨sx_1, g0, h1⟩ := oM_elim h0
      obtain ⟨chunk_1, g1, h2⟩ := oI_elim h1
      obtain ⟨t10P, t10N, t10C, g10, h3⟩ := oS_elim h2
      obtain ⟨t11, g11, h4⟩ := oI_elim h3
      obtain ⟨hf, hq⟩ := h4
      subst hf
      exact ⟨_, rep_less hr (by simp), hq⟩
    · exact h0.elim
  · intro s w hj
    have hb := hround s w hj
    rw [← hcc]
    have e1 := body_plan_spans_note_L1 f s w (fun f1 s1 w1 => f1 = f ∧ J s1 w1 ∧ μ s1 w1 < μ s w) (fun f1 w1 => f1 = f ∧ Q (.exit 0) [] w1)
    simp only [true_and] at e1
    exact cast e1 hb

theorem loops_plan_spans_note : LoopOk Try.prog Try.f34.ntmps G_plan_spans_note (codeOf Try.f34) := loopOk_list rfl ⟨ok_plan_spans_note_L1, trivial⟩

theorem C_plan_spans_note.of {sx : Option Nat} {chunk : Int} {lP : Option Addr} {lN : Nat} {lC : Nat} {w : World} {R : World → Prop} (h : F_plan_spans_note sx chunk lP lN lC w R) : C_plan_spans_note sx chunk lP lN lC w R := ofS1 (Fm := F_plan_spans_note sx chunk lP lN lC w) Try.func34 (by kernel_rfl) loops_plan_spans_note rfl (fun _ => by kernel_rfl) h

end Go.Proofs.Ytdbkbaeeccemkaa
