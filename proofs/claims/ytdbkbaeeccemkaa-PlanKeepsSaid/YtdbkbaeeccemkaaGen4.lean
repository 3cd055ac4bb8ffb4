/- The formulas of this seat's functions, held against the loaded program by the kernel. Printed by a program. -/
import Derived.Test.YtdbkbaeeccemkaaGenC
set_option maxRecDepth 100000
set_option linter.unusedVariables false
namespace Go.Proofs.Ytdbkbaeeccemkaa
open Go Go.D Go.Proofs

def F_term_Vars (t0 : Int) (t1 : Int) (t2 : ByteArray) (t3P : Option Addr) (t3N : Nat) (t3C : Nat) (w : World) (R : Option Addr → Nat → Nat → World → Prop) : Prop :=
  New w (.cells #[.int .i64 t0, .int .i64 t1, .string t2, .slice t3P t3N t3C] 24) fun r w1 =>
  ∃ t50 : Int, w1.cell? ((⟨r, 0, none⟩ : Addr).add 0) = some (.int .i64 t50) ∧
  ∃ t51 : Int, w1.cell? ((⟨r, 0, none⟩ : Addr).add 1) = some (.int .i64 t51) ∧
  ∃ t52 : ByteArray, w1.cell? ((⟨r, 0, none⟩ : Addr).add 2) = some (.string t52) ∧
  ∃ t53P : Option Addr, ∃ t53N : Nat, ∃ t53C : Nat, w1.cell? ((⟨r, 0, none⟩ : Addr).add 3) = some (.slice t53P t53N t53C) ∧
  C_term_may t50 t51 t52 t53P t53N t53C w1 fun t6 w1_1 =>
  If (!t6)
  (R none 0 0 w1_1)
  (∃ t90 : Int, w1_1.cell? ((⟨r, 0, none⟩ : Addr).add 0) = some (.int .i64 t90) ∧
  ∃ t91 : Int, w1_1.cell? ((⟨r, 0, none⟩ : Addr).add 1) = some (.int .i64 t91) ∧
  ∃ t92 : ByteArray, w1_1.cell? ((⟨r, 0, none⟩ : Addr).add 2) = some (.string t92) ∧
  ∃ t93P : Option Addr, ∃ t93N : Nat, ∃ t93C : Nat, w1_1.cell? ((⟨r, 0, none⟩ : Addr).add 3) = some (.slice t93P t93N t93C) ∧
  C_term_rename t90 t91 t92 t93P t93N t93C w1_1 fun t1000 t1001 t1002 t1003P t1003N t1003C t101P t101N t101C w1_2 =>
  New w1_2 (.cells #[.int .i64 0, .int .i64 0, .string ⟨#[]⟩, .slice none 0 0] 24) fun r_1 w1_3 =>
  St w1_3 ((⟨r_1, 0, none⟩ : Addr).add 0) (.int .i64 t1000) fun w1_4 =>
  St w1_4 ((⟨r_1, 0, none⟩ : Addr).add 1) (.int .i64 t1001) fun w1_5 =>
  St w1_5 ((⟨r_1, 0, none⟩ : Addr).add 2) (.string t1002) fun w1_6 =>
  St w1_6 ((⟨r_1, 0, none⟩ : Addr).add 3) (.slice t1003P t1003N t1003C) fun w1_7 =>
  R t101P t101N t101C w1_7)

def G_term_Vars : Gen where
  loop := lookL []
  plan := fun _ => none

theorem loops_term_Vars : LoopOk Try.prog Try.f35.ntmps G_term_Vars (codeOf Try.f35) := loopOk_none fun _ => rfl

theorem C_term_Vars.of {t0 : Int} {t1 : Int} {t2 : ByteArray} {t3P : Option Addr} {t3N : Nat} {t3C : Nat} {w : World} {R : Option Addr → Nat → Nat → World → Prop} (h : F_term_Vars t0 t1 t2 t3P t3N t3C w R) : C_term_Vars t0 t1 t2 t3P t3N t3C w R := ofS4 (Fm := F_term_Vars t0 t1 t2 t3P t3N t3C w) Try.func35 (by kernel_rfl) loops_term_Vars rfl (fun _ => by kernel_rfl) h

def F_slices_Collect (seq : Value) (w : World) (R : Option Addr → Nat → Nat → World → Prop) : Prop :=
  C_slices_AppendSeq none 0 0 seq w fun t4P t4N t4C w1 =>
  R t4P t4N t4C w1

def G_slices_Collect : Gen where
  loop := lookL []
  plan := fun _ => none

theorem loops_slices_Collect : LoopOk Try.prog Try.f36.ntmps G_slices_Collect (codeOf Try.f36) := loopOk_none fun _ => rfl

theorem C_slices_Collect.of {seq : Value} {w : World} {R : Option Addr → Nat → Nat → World → Prop} (h : F_slices_Collect seq w R) : C_slices_Collect seq w R := ofS4 (Fm := F_slices_Collect seq w) Try.func36 (by kernel_rfl) loops_slices_Collect rfl (fun _ => by kernel_rfl) h

def F_maps_Values (m : Option Nat) (w : World) (R : Value → World → Prop) : Prop :=
  New w (.cells #[.map m] 52) fun r w1 =>
  R (.func (.func 51) #[] #[.pointer (some ⟨r, 0, none⟩)]) w1

def G_maps_Values : Gen where
  loop := lookL []
  plan := fun _ => none

theorem loops_maps_Values : LoopOk Try.prog Try.f37.ntmps G_maps_Values (codeOf Try.f37) := loopOk_none fun _ => rfl

theorem C_maps_Values.of {m : Option Nat} {w : World} {R : Value → World → Prop} (h : F_maps_Values m w R) : C_maps_Values m w R := ofS10 (Fm := F_maps_Values m w) Try.func37 (by kernel_rfl) loops_maps_Values rfl (fun _ => by kernel_rfl) h

structure S_slices_DeleteFunc_L1 where
  i : Int
  j : Int

def F_slices_DeleteFunc_k1 (s : S_slices_DeleteFunc_L1) (Kn : S_slices_DeleteFunc_L1 → World → Prop) (i_2 : Int) (w1_9 : World) : Prop :=
  Kn ⟨i_2, (IntKind.i64.wrap ((s.j : Int) + (1 : Int)))⟩ w1_9

/-- One round. -/
def B_slices_DeleteFunc_L1 (sP_1 : Option Addr) (sN_1 : Nat) (sC_1 : Nat) (del_1 : Value) (s : S_slices_DeleteFunc_L1) (w : World) (Kn : S_slices_DeleteFunc_L1 → World → Prop) (Kx0 : Int → World → Prop) : Prop :=
  If (decide ((s.j : Int) < (sN_1 : Int)))
  (0 ≤ (s.j : Int) ∧ (s.j : Int) < (sN_1 : Int) ∧ NN sP_1 fun a =>
  ∃ t250 : Int, w.cell? ((a.add ((s.j : Int).toNat * 3)).add 0) = some (.int .i64 t250) ∧
  ∃ t251 : Int, w.cell? ((a.add ((s.j : Int).toNat * 3)).add 1) = some (.int .i64 t251) ∧
  ∃ t252 : Int, w.cell? ((a.add ((s.j : Int).toNat * 3)).add 2) = some (.int .i64 t252) ∧
  New w (.cells #[.int .i64 0, .int .i64 0, .int .i64 0] 58) fun r w1_1 =>
  St w1_1 ((⟨r, 0, none⟩ : Addr).add 0) (.int .i64 t250) fun w1_2 =>
  St w1_2 ((⟨r, 0, none⟩ : Addr).add 1) (.int .i64 t251) fun w1_3 =>
  St w1_3 ((⟨r, 0, none⟩ : Addr).add 2) (.int .i64 t252) fun w1_4 =>
  ∃ t270 : Int, w1_4.cell? ((⟨r, 0, none⟩ : Addr).add 0) = some (.int .i64 t270) ∧
  ∃ t271 : Int, w1_4.cell? ((⟨r, 0, none⟩ : Addr).add 1) = some (.int .i64 t271) ∧
  ∃ t272 : Int, w1_4.cell? ((⟨r, 0, none⟩ : Addr).add 2) = some (.int .i64 t272) ∧
  CallV Try.prog del_1 [.agg #[.int .i64 t270, .int .i64 t271, .int .i64 t272]] w1_4 fun v w1_5 => ∃ t28 : Bool, v = (.bool t28) ∧
  If (!t28)
  (∃ t320 : Int, w1_5.cell? ((⟨r, 0, none⟩ : Addr).add 0) = some (.int .i64 t320) ∧
  ∃ t321 : Int, w1_5.cell? ((⟨r, 0, none⟩ : Addr).add 1) = some (.int .i64 t321) ∧
  ∃ t322 : Int, w1_5.cell? ((⟨r, 0, none⟩ : Addr).add 2) = some (.int .i64 t322) ∧
  0 ≤ (s.i : Int) ∧ (s.i : Int) < (sN_1 : Int) ∧ NN sP_1 fun a_1 =>
  St w1_5 ((a_1.add ((s.i : Int).toNat * 3)).add 0) (.int .i64 t320) fun w1_6 =>
  St w1_6 ((a_1.add ((s.i : Int).toNat * 3)).add 1) (.int .i64 t321) fun w1_7 =>
  St w1_7 ((a_1.add ((s.i : Int).toNat * 3)).add 2) (.int .i64 t322) fun w1_8 =>
  F_slices_DeleteFunc_k1 s Kn (IntKind.i64.wrap ((s.i : Int) + (1 : Int))) w1_8)
  (F_slices_DeleteFunc_k1 s Kn (s.i : Int) w1_5))
  (Kx0 (s.i : Int) w)

def F_slices_DeleteFunc_L1 (sP_1 : Option Addr) (sN_1 : Nat) (sC_1 : Nat) (del_1 : Value) (s : S_slices_DeleteFunc_L1) (w : World) (Kx0 : Int → World → Prop) : Prop :=
  LoopS (fun s w Kn => B_slices_DeleteFunc_L1 sP_1 sN_1 sC_1 del_1 s w Kn Kx0) s w

def F_slices_DeleteFunc (sP : Option Addr) (sN : Nat) (sC : Nat) (del : Value) (w : World) (R : Option Addr → Nat → Nat → World → Prop) : Prop :=
  C_slices_IndexFunc sP sN sC del w fun t10 w1 =>
  If (t10 == (-1))
  (R sP sN sC w1)
  (F_slices_DeleteFunc_L1 sP sN sC del ⟨t10, (IntKind.i64.wrap (t10 + (1 : Int)))⟩ w1
  (fun i_3 w1_10 =>
  0 ≤ i_3 ∧ i_3 ≤ (sN : Int) ∧
  Clr Try.prog #[55] 0 #[.slice (adv sP sC i_3.toNat 3) (sN - i_3.toNat) (sC - i_3.toNat)] w1_10 fun v_1 w1_11 =>
  0 ≤ i_3 ∧ i_3 ≤ (sC : Int) ∧
  R sP i_3.toNat sC w1_11))

def lit_slices_DeleteFunc_L1 (f : (Option Addr) × Nat × Nat × Value) (s : S_slices_DeleteFunc_L1) : Env := [⟨0, .slice f.1 f.2.1 f.2.2.1, none⟩, ⟨1, f.2.2.2, none⟩, ⟨5, .int .i64 s.i, none⟩, ⟨6, .int .i64 s.j, none⟩]

def dec_slices_DeleteFunc_L1 (e : Env) (K : ((Option Addr) × Nat × Nat × Value) → S_slices_DeleteFunc_L1 → Prop) : Prop :=
  oS e 0 fun sP_1 sN_1 sC_1 =>
  oV e 1 fun del_1 =>
  oI e 5 .i64 fun i =>
  oI e 6 .i64 fun j =>
    K (sP_1, sN_1, sC_1, del_1) ⟨i, j⟩

theorem dec_slices_DeleteFunc_L1_ok {N : Nat} (e : Env) (a : Act) (K : ((Option Addr) × Nat × Nat × Value) → S_slices_DeleteFunc_L1 → Prop) (hr : Rep N a e) (h0 : dec_slices_DeleteFunc_L1 e K) : ∃ f s, K f s ∧ Rep N a (lit_slices_DeleteFunc_L1 f s) := by
  unfold dec_slices_DeleteFunc_L1 at h0
  obtain ⟨sP_1, sN_1, sC_1, g0, h1⟩ := oS_elim h0
  obtain ⟨del_1, g1, h2⟩ := oV_elim h1
  obtain ⟨i, g5, h3⟩ := oI_elim h2
  obtain ⟨j, g6, h4⟩ := oI_elim h3
  exact ⟨_, _, h4, rep_less hr (by simp [lit_slices_DeleteFunc_L1, g0, g1, g5, g6])⟩

def spec_slices_DeleteFunc_L1 (Q : Post) (e : Env) (w : World) : Prop :=
  dec_slices_DeleteFunc_L1 e fun f s => F_slices_DeleteFunc_L1 f.1 f.2.1 f.2.2.1 f.2.2.2 s w (fun i_1 w1 => Q (.exit 0) [⟨0, .slice f.1 f.2.1 f.2.2.1, none⟩, ⟨5, .int .i64 i_1, none⟩] w1)

def G_slices_DeleteFunc : Gen where
  loop := lookL [([false, true, false, true, true, true], spec_slices_DeleteFunc_L1)]
  plan := fun _ => none

def dx_slices_DeleteFunc_L1_0 (e : Env) (K : ((Option Addr) × Nat × Nat × Value) → Int → Prop) : Prop :=
  oS e 0 fun sP_1 sN_1 sC_1 =>
  oV e 1 fun del_1 =>
  oI e 5 .i64 fun i_1 =>
    K (sP_1, sN_1, sC_1, del_1) i_1

theorem body_slices_DeleteFunc_L1 (f : (Option Addr) × Nat × Nat × Value) (s : S_slices_DeleteFunc_L1) (w : World) (Kn : ((Option Addr) × Nat × Nat × Value) → S_slices_DeleteFunc_L1 → World → Prop) (Kx0 : ((Option Addr) × Nat × Nat × Value) → Int → World → Prop) :
    B_slices_DeleteFunc_L1 f.1 f.2.1 f.2.2.1 f.2.2.2 s w (fun s1 w1 => Kn f s1 w1) (fun i_1 w1 => Kx0 f i_1 w1) =
    den Try.prog Try.f38.ntmps G_slices_DeleteFunc (sub (codeOf Try.f38) [false, false, true, false, true, true, true]) [false, false, true, false, true, true, true] (roundQ (fun e w => dec_slices_DeleteFunc_L1 e fun f s => Kn f s w) (fun e w => False) (fun id e w => match Nat.beq id 0 with | true => dx_slices_DeleteFunc_L1_0 e fun f i_1 => Kx0 f i_1 w | false => False)) (lit_slices_DeleteFunc_L1 f s) w := by kernel_rfl

theorem ok_slices_DeleteFunc_L1 : OneOk Try.prog Try.f38.ntmps G_slices_DeleteFunc (codeOf Try.f38) [false, true, false, true, true, true] spec_slices_DeleteFunc_L1 := by
  intro c hc ih Q e w a hr h
  have hcc : sub (codeOf Try.f38) [false, false, true, false, true, true, true] = c := sub_of_codeAt hc
  obtain ⟨f, s, h, hrep⟩ := dec_slices_DeleteFunc_L1_ok e a _ hr h
  obtain ⟨J, μ, hj, hround⟩ := h
  refine loop_rule_deep seat_ok seat_mixed ih lit_slices_DeleteFunc_L1 dec_slices_DeleteFunc_L1 dec_slices_DeleteFunc_L1_ok hc f J μ (Kr := fun e w => False) (Kx := fun id e w => match Nat.beq id 0 with | true => (dx_slices_DeleteFunc_L1_0 e fun f1 i_1 => f1 = f ∧ Q (.exit 0) [⟨0, .slice f.1 f.2.1 f.2.2.1, none⟩, ⟨5, .int .i64 i_1, none⟩] w) | false => False) ?_ ?_ ?_ s w a hj hrep
  · intro e a w hr h
    exact h.elim
  · intro id e a w hr h0
    (try dsimp only at h0)
    split at h0
    · rename_i hid
      obtain rfl := Nat.eq_of_beq_eq_true hid
      unfold dx_slices_DeleteFunc_L1_0 at h0
      obtain ⟨sP_1, sN_1, sC_1, g0, h1⟩ := oS_elim h0
      obtain ⟨del_1, g1, h2⟩ := oV_elim h1
      obtain ⟨i_1, g5, h3⟩ := oI_elim h2
      obtain ⟨hf, hq⟩ := h3
      subst hf
      exact ⟨_, rep_less hr (by simp [g0, g5]), hq⟩
    · exact h0.elim
  · intro s w hj
    have hb := hround s w hj
    rw [← hcc]
    have e1 := body_slices_DeleteFunc_L1 f s w (fun f1 s1 w1 => f1 = f ∧ J s1 w1 ∧ μ s1 w1 < μ s w) (fun f1 i_1 w1 => f1 = f ∧ Q (.exit 0) [⟨0, .slice f.1 f.2.1 f.2.2.1, none⟩, ⟨5, .int .i64 i_1, none⟩] w1)
    simp only [true_and] at e1
    exact cast e1 hb

theorem loops_slices_DeleteFunc : LoopOk Try.prog Try.f38.ntmps G_slices_DeleteFunc (codeOf Try.f38) := loopOk_list rfl ⟨ok_slices_DeleteFunc_L1, trivial⟩

theorem C_slices_DeleteFunc.of {sP : Option Addr} {sN : Nat} {sC : Nat} {del : Value} {w : World} {R : Option Addr → Nat → Nat → World → Prop} (h : F_slices_DeleteFunc sP sN sC del w R) : C_slices_DeleteFunc sP sN sC del w R := ofS4 (Fm := F_slices_DeleteFunc sP sN sC del w) Try.func38 (by kernel_rfl) loops_slices_DeleteFunc rfl (fun _ => by kernel_rfl) h

def F_plan_spans_slots_1 (x0 : Int) (x1 : Int) (x2 : Int) (w : World) (R : Bool → World → Prop) : Prop :=
  New w (.cells #[.int .i64 x0, .int .i64 x1, .int .i64 x2] 58) fun r w1 =>
  ∃ n : Int, w1.cell? ((⟨r, 0, none⟩ : Addr).add 0) = some (.int .i64 n) ∧
  If (n != (-1))
  (∃ first : Int, w1.cell? ((⟨r, 0, none⟩ : Addr).add 1) = some (.int .i64 first) ∧
  ∃ last : Int, w1.cell? ((⟨r, 0, none⟩ : Addr).add 2) = some (.int .i64 last) ∧
  R (first == last) w1)
  (R false w1)

def G_plan_spans_slots_1 : Gen where
  loop := lookL []
  plan := fun _ => none

theorem loops_plan_spans_slots_1 : LoopOk Try.prog Try.f39.ntmps G_plan_spans_slots_1 (codeOf Try.f39) := loopOk_none fun _ => rfl

theorem C_plan_spans_slots_1.of {x0 : Int} {x1 : Int} {x2 : Int} {w : World} {R : Bool → World → Prop} (h : F_plan_spans_slots_1 x0 x1 x2 w R) : C_plan_spans_slots_1 x0 x1 x2 w R := ofS2 (Fm := F_plan_spans_slots_1 x0 x1 x2 w) Try.func39 (by kernel_rfl) loops_plan_spans_slots_1 rfl (fun _ => by kernel_rfl) h

def F_slices_SortFunc (xP : Option Addr) (xN : Nat) (xC : Nat) (cmp : Value) (w : World) (R : World → Prop) : Prop :=
  C_math_bits_Len (IntKind.u64.wrap (xN : Int)) w fun t11 w1 =>
  C_slices_pdqsortCmpFunc xP xN xC (0 : Int) (xN : Int) t11 cmp w1 fun w1_1 =>
  R w1_1

def G_slices_SortFunc : Gen where
  loop := lookL []
  plan := fun _ => none

theorem loops_slices_SortFunc : LoopOk Try.prog Try.f40.ntmps G_slices_SortFunc (codeOf Try.f40) := loopOk_none fun _ => rfl

theorem C_slices_SortFunc.of {xP : Option Addr} {xN : Nat} {xC : Nat} {cmp : Value} {w : World} {R : World → Prop} (h : F_slices_SortFunc xP xN xC cmp w R) : C_slices_SortFunc xP xN xC cmp w R := ofS1 (Fm := F_slices_SortFunc xP xN xC cmp w) Try.func40 (by kernel_rfl) loops_slices_SortFunc rfl (fun _ => by kernel_rfl) h

def F_plan_spans_slots_2 (a0 : Int) (a1 : Int) (a2 : Int) (b0 : Int) (b1 : Int) (b2 : Int) (w : World) (R : Int → World → Prop) : Prop :=
  New w (.cells #[.int .i64 a0, .int .i64 a1, .int .i64 a2] 58) fun r w1 =>
  New w1 (.cells #[.int .i64 b0, .int .i64 b1, .int .i64 b2] 58) fun r_1 w1_1 =>
  ∃ last : Int, (drw w1_1).cell? ((⟨r_1, 0, none⟩ : Addr).add 2) = some (.int .i64 last) ∧
  ∃ last_1 : Int, (drw w1_1).cell? ((⟨r, 0, none⟩ : Addr).add 2) = some (.int .i64 last_1) ∧
  ∃ n : Int, (drw w1_1).cell? ((⟨r, 0, none⟩ : Addr).add 0) = some (.int .i64 n) ∧
  ∃ n_1 : Int, (drw w1_1).cell? ((⟨r_1, 0, none⟩ : Addr).add 0) = some (.int .i64 n_1) ∧
  C_cmp_Compare last last_1 (drw w1_1) fun t9 w1_2 =>
  w1_2.cell? ((⟨r_1, 0, none⟩ : Addr).add 0) = (drw w1_1).cell? ((⟨r_1, 0, none⟩ : Addr).add 0) ∧
  w1_2.cell? ((⟨r, 0, none⟩ : Addr).add 0) = (drw w1_1).cell? ((⟨r, 0, none⟩ : Addr).add 0) ∧
  C_cmp_Compare n n_1 w1_2 fun t14 w1_3 =>
  BSl Try.prog 30 2 [(0, .int .i64 t9), (1, .int .i64 t14)] w1_3 fun t15P t15N t15C w1_4 =>
  C_cmp_Or t15P t15N t15C w1_4 fun t16 w1_5 =>
  R t16 w1_5

def G_plan_spans_slots_2 : Gen where
  loop := lookL []
  plan := fun id =>
    bif Nat.beq id 1 then some ([0, 1, 0, 4, 15, 0, 32, 0, 128, 511, 1023, 2047, 4095], .take 0 (.take 1 (.take 2 (.take 3 (.take 5 (.take 6 (.take 7 (.take 8 (.take 4 (.take 9 (.take 10 (.take 11 (.take 12 .done))))))))))))) else none

theorem loops_plan_spans_slots_2 : LoopOk Try.prog Try.f41.ntmps G_plan_spans_slots_2 (codeOf Try.f41) := loopOk_none fun _ => rfl

theorem C_plan_spans_slots_2.of {a0 : Int} {a1 : Int} {a2 : Int} {b0 : Int} {b1 : Int} {b2 : Int} {w : World} {R : Int → World → Prop} (h : F_plan_spans_slots_2 a0 a1 a2 b0 b1 b2 w R) : C_plan_spans_slots_2 a0 a1 a2 b0 b1 b2 w R := ofS5 (Fm := F_plan_spans_slots_2 a0 a1 a2 b0 b1 b2 w) Try.func41 (by kernel_rfl) loops_plan_spans_slots_2 rfl (fun _ => by kernel_rfl) h

structure S_cmp_Or_L1 where
  t8 : Int

/-- One round. -/
def B_cmp_Or_L1 (zero : Int) (t6P : Option Addr) (t6N : Nat) (t6C : Nat) (t7 : Int) (s : S_cmp_Or_L1) (w : World) (Kn : S_cmp_Or_L1 → World → Prop) (Kx0 : World → Prop) (Kr : Int → World → Prop) : Prop :=
  If (decide ((s.t8 : Int) < t7))
  (0 ≤ (s.t8 : Int) ∧ (s.t8 : Int) < (t6N : Int) ∧ NN t6P fun a =>
  ∃ t11 : Int, w.cell? (a.add ((s.t8 : Int).toNat * 1)) = some (.int .i64 t11) ∧
  If (t11 != zero)
  (Kr t11 w)
  (Kn ⟨(IntKind.i64.wrap ((s.t8 : Int) + (1 : Int)))⟩ w))
  (Kx0 w)

def F_cmp_Or_L1 (zero : Int) (t6P : Option Addr) (t6N : Nat) (t6C : Nat) (t7 : Int) (s : S_cmp_Or_L1) (w : World) (Kx0 : World → Prop) (Kr : Int → World → Prop) : Prop :=
  LoopS (fun s w Kn => B_cmp_Or_L1 zero t6P t6N t6C t7 s w Kn Kx0 Kr) s w

def F_cmp_Or (valsP : Option Addr) (valsN : Nat) (valsC : Nat) (w : World) (R : Int → World → Prop) : Prop :=
  F_cmp_Or_L1 (0 : Int) valsP valsN valsC (valsN : Int) ⟨(0 : Int)⟩ w
  (fun w1 =>
  R (0 : Int) w1)
  (fun t2_1 w1_1 =>
  R t2_1 w1_1)

def lit_cmp_Or_L1 (f : Int × (Option Addr) × Nat × Nat × Int) (s : S_cmp_Or_L1) : Env := [⟨3, .int .i64 f.1, none⟩, ⟨6, .slice f.2.1 f.2.2.1 f.2.2.2.1, none⟩, ⟨7, .int .i64 f.2.2.2.2, none⟩, ⟨8, .int .i64 s.t8, none⟩]

def dec_cmp_Or_L1 (e : Env) (K : (Int × (Option Addr) × Nat × Nat × Int) → S_cmp_Or_L1 → Prop) : Prop :=
  oI e 3 .i64 fun zero =>
  oS e 6 fun t6P t6N t6C =>
  oI e 7 .i64 fun t7 =>
  oI e 8 .i64 fun t8 =>
    K (zero, t6P, t6N, t6C, t7) ⟨t8⟩

theorem dec_cmp_Or_L1_ok {N : Nat} (e : Env) (a : Act) (K : (Int × (Option Addr) × Nat × Nat × Int) → S_cmp_Or_L1 → Prop) (hr : Rep N a e) (h0 : dec_cmp_Or_L1 e K) : ∃ f s, K f s ∧ Rep N a (lit_cmp_Or_L1 f s) := by
  unfold dec_cmp_Or_L1 at h0
  obtain ⟨zero, g3, h1⟩ := oI_elim h0
  obtain ⟨t6P, t6N, t6C, g6, h2⟩ := oS_elim h1
  obtain ⟨t7, g7, h3⟩ := oI_elim h2
  obtain ⟨t8, g8, h4⟩ := oI_elim h3
  exact ⟨_, _, h4, rep_less hr (by simp [lit_cmp_Or_L1, g3, g6, g7, g8])⟩

def spec_cmp_Or_L1 (Q : Post) (e : Env) (w : World) : Prop :=
  dec_cmp_Or_L1 e fun f s => F_cmp_Or_L1 f.1 f.2.1 f.2.2.1 f.2.2.2.1 f.2.2.2.2 s w (fun w1 => Q (.exit 0) [⟨3, .int .i64 f.1, none⟩] w1) (fun t2 w1 => Q .ret [⟨2, .int .i64 t2, none⟩] w1)

def G_cmp_Or : Gen where
  loop := lookL [([false, true, false, true, true], spec_cmp_Or_L1)]
  plan := fun _ => none

def dx_cmp_Or_L1_0 (e : Env) (K : (Int × (Option Addr) × Nat × Nat × Int) → Prop) : Prop :=
  oI e 3 .i64 fun zero =>
  oS e 6 fun t6P t6N t6C =>
  oI e 7 .i64 fun t7 =>
    K (zero, t6P, t6N, t6C, t7)

def dx_cmp_Or_L1_ret (e : Env) (K : (Int × (Option Addr) × Nat × Nat × Int) → Int → Prop) : Prop :=
  oI e 3 .i64 fun zero =>
  oS e 6 fun t6P t6N t6C =>
  oI e 7 .i64 fun t7 =>
  oI e 2 .i64 fun t2 =>
    K (zero, t6P, t6N, t6C, t7) t2

theorem body_cmp_Or_L1 (f : Int × (Option Addr) × Nat × Nat × Int) (s : S_cmp_Or_L1) (w : World) (Kn : (Int × (Option Addr) × Nat × Nat × Int) → S_cmp_Or_L1 → World → Prop) (Kx0 : (Int × (Option Addr) × Nat × Nat × Int) → World → Prop) (Kr : (Int × (Option Addr) × Nat × Nat × Int) → Int → World → Prop) :
    B_cmp_Or_L1 f.1 f.2.1 f.2.2.1 f.2.2.2.1 f.2.2.2.2 s w (fun s1 w1 => Kn f s1 w1) (fun w1 => Kx0 f w1) (fun t2 w1 => Kr f t2 w1) =
    den Try.prog Try.f42.ntmps G_cmp_Or (sub (codeOf Try.f42) [false, false, true, false, true, true]) [false, false, true, false, true, true] (roundQ (fun e w => dec_cmp_Or_L1 e fun f s => Kn f s w) (fun e w => dx_cmp_Or_L1_ret e fun f t2 => Kr f t2 w) (fun id e w => match Nat.beq id 0 with | true => dx_cmp_Or_L1_0 e fun f => Kx0 f w | false => False)) (lit_cmp_Or_L1 f s) w := by kernel_rfl

theorem ok_cmp_Or_L1 : OneOk Try.prog Try.f42.ntmps G_cmp_Or (codeOf Try.f42) [false, true, false, true, true] spec_cmp_Or_L1 := by
  intro c hc ih Q e w a hr h
  have hcc : sub (codeOf Try.f42) [false, false, true, false, true, true] = c := sub_of_codeAt hc
  obtain ⟨f, s, h, hrep⟩ := dec_cmp_Or_L1_ok e a _ hr h
  obtain ⟨J, μ, hj, hround⟩ := h
  refine loop_rule_deep seat_ok seat_mixed ih lit_cmp_Or_L1 dec_cmp_Or_L1 dec_cmp_Or_L1_ok hc f J μ (Kr := fun e w => dx_cmp_Or_L1_ret e fun f1 t2 => f1 = f ∧ Q .ret [⟨2, .int .i64 t2, none⟩] w) (Kx := fun id e w => match Nat.beq id 0 with | true => (dx_cmp_Or_L1_0 e fun f1 => f1 = f ∧ Q (.exit 0) [⟨3, .int .i64 f.1, none⟩] w) | false => False) ?_ ?_ ?_ s w a hj hrep
  · intro e a w hr h0
    unfold dx_cmp_Or_L1_ret at h0
    obtain ⟨zero, g3, h1⟩ := oI_elim h0
    obtain ⟨t6P, t6N, t6C, g6, h2⟩ := oS_elim h1
    obtain ⟨t7, g7, h3⟩ := oI_elim h2
    obtain ⟨t2, g2, h4⟩ := oI_elim h3
    obtain ⟨hf, hq⟩ := h4
    subst hf
    exact ⟨_, rep_less hr (by simp [g2]), hq⟩
  · intro id e a w hr h0
    (try dsimp only at h0)
    split at h0
    · rename_i hid
      obtain rfl := Nat.eq_of_beq_eq_true hid
      unfold dx_cmp_Or_L1_0 at h0
      obtain ⟨zero, g3, h1⟩ := oI_elim h0
      obtain ⟨t6P, t6N, t6C, g6, h2⟩ := oS_elim h1
      obtain ⟨t7, g7, h3⟩ := oI_elim h2
      obtain ⟨hf, hq⟩ := h3
      subst hf
      exact ⟨_, rep_less hr (by simp [g3]), hq⟩
    · exact h0.elim
  · intro s w hj
    have hb := hround s w hj
    rw [← hcc]
    have e1 := body_cmp_Or_L1 f s w (fun f1 s1 w1 => f1 = f ∧ J s1 w1 ∧ μ s1 w1 < μ s w) (fun f1 w1 => f1 = f ∧ Q (.exit 0) [⟨3, .int .i64 f.1, none⟩] w1) (fun f1 t2 w1 => f1 = f ∧ Q .ret [⟨2, .int .i64 t2, none⟩] w1)
    simp only [true_and] at e1
    exact cast e1 hb

theorem loops_cmp_Or : LoopOk Try.prog Try.f42.ntmps G_cmp_Or (codeOf Try.f42) := loopOk_list rfl ⟨ok_cmp_Or_L1, trivial⟩

theorem C_cmp_Or.of {valsP : Option Addr} {valsN : Nat} {valsC : Nat} {w : World} {R : Int → World → Prop} (h : F_cmp_Or valsP valsN valsC w R) : C_cmp_Or valsP valsN valsC w R := ofS5 (Fm := F_cmp_Or valsP valsN valsC w) Try.func42 (by kernel_rfl) loops_cmp_Or rfl (fun _ => by kernel_rfl) h

def F_cmp_Compare (x : Int) (y : Int) (w : World) (R : Int → World → Prop) : Prop :=
  C_cmp_isNaN x w fun t8 w1 =>
  C_cmp_isNaN y w1 fun t10 w1_1 =>
  If t8
  (If t10
  (R (0 : Int) w1_1)
  (R (-1) w1_1))
  (If t10
  (R (1 : Int) w1_1)
  (If (decide (x < y))
  (R (-1) w1_1)
  (If (decide (x > y))
  (R (1 : Int) w1_1)
  (R (0 : Int) w1_1))))

def G_cmp_Compare : Gen where
  loop := lookL []
  plan := fun _ => none

theorem loops_cmp_Compare : LoopOk Try.prog Try.f43.ntmps G_cmp_Compare (codeOf Try.f43) := loopOk_none fun _ => rfl

theorem C_cmp_Compare.of {x : Int} {y : Int} {w : World} {R : Int → World → Prop} (h : F_cmp_Compare x y w R) : C_cmp_Compare x y w R := ofS5 (Fm := F_cmp_Compare x y w) Try.func43 (by kernel_rfl) loops_cmp_Compare rfl (fun _ => by kernel_rfl) h

def F_term_measure (t0 : Int) (t1 : Int) (t2 : ByteArray) (t3P : Option Addr) (t3N : Nat) (t3C : Nat) (w : World) (R : Int → Int → Bool → World → Prop) : Prop :=
  New w (.cells #[.int .i64 t0, .int .i64 t1, .string t2, .slice t3P t3N t3C] 24) fun r w1 =>
  New w1 (.cells #[.int .i64 0, .int .i64 0, .bool false] 84) fun r_1 w1_1 =>
  New w1_1 (.cells #[.int .i64 0, .int .i64 0, .bool false] 84) fun r_2 w1_2 =>
  ∃ t40 : Int, w1_2.cell? ((⟨r, 0, none⟩ : Addr).add 0) = some (.int .i64 t40) ∧
  ∃ t41 : Int, w1_2.cell? ((⟨r, 0, none⟩ : Addr).add 1) = some (.int .i64 t41) ∧
  ∃ t42 : ByteArray, w1_2.cell? ((⟨r, 0, none⟩ : Addr).add 2) = some (.string t42) ∧
  ∃ t43P : Option Addr, ∃ t43N : Nat, ∃ t43C : Nat, w1_2.cell? ((⟨r, 0, none⟩ : Addr).add 3) = some (.slice t43P t43N t43C) ∧
  C_term_count_of (some ⟨r_2, 0, none⟩) t40 t41 t42 t43P t43N t43C (1 : Int) w1_2 fun w1_3 =>
  ∃ t60 : Int, w1_3.cell? ((⟨r_2, 0, none⟩ : Addr).add 0) = some (.int .i64 t60) ∧
  ∃ t61 : Int, w1_3.cell? ((⟨r_2, 0, none⟩ : Addr).add 1) = some (.int .i64 t61) ∧
  ∃ t62 : Bool, w1_3.cell? ((⟨r_2, 0, none⟩ : Addr).add 2) = some (.bool t62) ∧
  St w1_3 ((⟨r_1, 0, none⟩ : Addr).add 0) (.int .i64 t60) fun w1_4 =>
  St w1_4 ((⟨r_1, 0, none⟩ : Addr).add 1) (.int .i64 t61) fun w1_5 =>
  St w1_5 ((⟨r_1, 0, none⟩ : Addr).add 2) (.bool t62) fun w1_6 =>
  ∃ r_3 : Int, w1_6.cell? ((⟨r_1, 0, none⟩ : Addr).add 0) = some (.int .i64 r_3) ∧
  ∃ r_4 : Int, w1_6.cell? ((⟨r_1, 0, none⟩ : Addr).add 1) = some (.int .i64 r_4) ∧
  ∃ r_5 : Bool, w1_6.cell? ((⟨r_1, 0, none⟩ : Addr).add 2) = some (.bool r_5) ∧
  R r_3 r_4 r_5 w1_6

def G_term_measure : Gen where
  loop := lookL []
  plan := fun _ => none

theorem loops_term_measure : LoopOk Try.prog Try.f46.ntmps G_term_measure (codeOf Try.f46) := loopOk_none fun _ => rfl

theorem C_term_measure.of {t0 : Int} {t1 : Int} {t2 : ByteArray} {t3P : Option Addr} {t3N : Nat} {t3C : Nat} {w : World} {R : Int → Int → Bool → World → Prop} (h : F_term_measure t0 t1 t2 t3P t3N t3C w R) : C_term_measure t0 t1 t2 t3P t3N t3C w R := ofS11 (Fm := F_term_measure t0 t1 t2 t3P t3N t3C w) Try.func46 (by kernel_rfl) loops_term_measure rfl (fun _ => by kernel_rfl) h

structure S_slices_IndexFunc__2_L1 where
  t8 : Int

/-- One round. -/
def B_slices_IndexFunc__2_L1 (sP_1 : Option Addr) (sN_1 : Nat) (sC_1 : Nat) (fx_1 : Value) (t7 : Int) (s : S_slices_IndexFunc__2_L1) (w : World) (Kn : S_slices_IndexFunc__2_L1 → World → Prop) (Kx0 : World → Prop) (Kr : Int → World → Prop) : Prop :=
  If (decide ((s.t8 : Int) < t7))
  (0 ≤ (s.t8 : Int) ∧ (s.t8 : Int) < (sN_1 : Int) ∧ NN sP_1 fun a =>
  ∃ t150 : Int, w.cell? ((a.add ((s.t8 : Int).toNat * 5)).add 0) = some (.int .i64 t150) ∧
  ∃ t151 : Int, w.cell? ((a.add ((s.t8 : Int).toNat * 5)).add 1) = some (.int .i64 t151) ∧
  ∃ t152 : Int, w.cell? ((a.add ((s.t8 : Int).toNat * 5)).add 2) = some (.int .i64 t152) ∧
  ∃ t153 : ByteArray, w.cell? ((a.add ((s.t8 : Int).toNat * 5)).add 3) = some (.string t153) ∧
  ∃ t154P : Option Addr, ∃ t154N : Nat, ∃ t154C : Nat, w.cell? ((a.add ((s.t8 : Int).toNat * 5)).add 4) = some (.slice t154P t154N t154C) ∧
  CallV Try.prog fx_1 [.agg #[.int .i64 t150, .int .i64 t151, .int .i64 t152, .string t153, .slice t154P t154N t154C]] w fun v w1 => ∃ t16 : Bool, v = (.bool t16) ∧
  If t16
  (Kr (s.t8 : Int) w1)
  (Kn ⟨(IntKind.i64.wrap ((s.t8 : Int) + (1 : Int)))⟩ w1))
  (Kx0 w)

def F_slices_IndexFunc__2_L1 (sP_1 : Option Addr) (sN_1 : Nat) (sC_1 : Nat) (fx_1 : Value) (t7 : Int) (s : S_slices_IndexFunc__2_L1) (w : World) (Kx0 : World → Prop) (Kr : Int → World → Prop) : Prop :=
  LoopS (fun s w Kn => B_slices_IndexFunc__2_L1 sP_1 sN_1 sC_1 fx_1 t7 s w Kn Kx0 Kr) s w

def F_slices_IndexFunc__2 (sP : Option Addr) (sN : Nat) (sC : Nat) (fx : Value) (w : World) (R : Int → World → Prop) : Prop :=
  F_slices_IndexFunc__2_L1 sP sN sC fx (sN : Int) ⟨(0 : Int)⟩ w
  (fun w1_1 =>
  R (-1) w1_1)
  (fun t4_1 w1_2 =>
  R t4_1 w1_2)

def lit_slices_IndexFunc__2_L1 (f : (Option Addr) × Nat × Nat × Value × Int) (s : S_slices_IndexFunc__2_L1) : Env := [⟨0, .slice f.1 f.2.1 f.2.2.1, none⟩, ⟨1, f.2.2.2.1, none⟩, ⟨7, .int .i64 f.2.2.2.2, none⟩, ⟨8, .int .i64 s.t8, none⟩]

def dec_slices_IndexFunc__2_L1 (e : Env) (K : ((Option Addr) × Nat × Nat × Value × Int) → S_slices_IndexFunc__2_L1 → Prop) : Prop :=
  oS e 0 fun sP_1 sN_1 sC_1 =>
  oV e 1 fun fx_1 =>
  oI e 7 .i64 fun t7 =>
  oI e 8 .i64 fun t8 =>
    K (sP_1, sN_1, sC_1, fx_1, t7) ⟨t8⟩

theorem dec_slices_IndexFunc__2_L1_ok {N : Nat} (e : Env) (a : Act) (K : ((Option Addr) × Nat × Nat × Value × Int) → S_slices_IndexFunc__2_L1 → Prop) (hr : Rep N a e) (h0 : dec_slices_IndexFunc__2_L1 e K) : ∃ f s, K f s ∧ Rep N a (lit_slices_IndexFunc__2_L1 f s) := by
  unfold dec_slices_IndexFunc__2_L1 at h0
  obtain ⟨sP_1, sN_1, sC_1, g0, h1⟩ := oS_elim h0
  obtain ⟨fx_1, g1, h2⟩ := oV_elim h1
  obtain ⟨t7, g7, h3⟩ := oI_elim h2
  obtain ⟨t8, g8, h4⟩ := oI_elim h3
  exact ⟨_, _, h4, rep_less hr (by simp [lit_slices_IndexFunc__2_L1, g0, g1, g7, g8])⟩

def spec_slices_IndexFunc__2_L1 (Q : Post) (e : Env) (w : World) : Prop :=
  dec_slices_IndexFunc__2_L1 e fun f s => F_slices_IndexFunc__2_L1 f.1 f.2.1 f.2.2.1 f.2.2.2.1 f.2.2.2.2 s w (fun w1 => Q (.exit 0) [] w1) (fun t4 w1 => Q .ret [⟨4, .int .i64 t4, none⟩] w1)

def G_slices_IndexFunc__2 : Gen where
  loop := lookL [([false, true, false, true], spec_slices_IndexFunc__2_L1)]
  plan := fun _ => none

def dx_slices_IndexFunc__2_L1_0 (e : Env) (K : ((Option Addr) × Nat × Nat × Value × Int) → Prop) : Prop :=
  oS e 0 fun sP_1 sN_1 sC_1 =>
  oV e 1 fun fx_1 =>
  oI e 7 .i64 fun t7 =>
    K (sP_1, sN_1, sC_1, fx_1, t7)

def dx_slices_IndexFunc__2_L1_ret (e : Env) (K : ((Option Addr) × Nat × Nat × Value × Int) → Int → Prop) : Prop :=
  oS e 0 fun sP_1 sN_1 sC_1 =>
  oV e 1 fun fx_1 =>
  oI e 7 .i64 fun t7 =>
  oI e 4 .i64 fun t4 =>
    K (sP_1, sN_1, sC_1, fx_1, t7) t4

theorem body_slices_IndexFunc__2_L1 (f : (Option Addr) × Nat × Nat × Value × Int) (s : S_slices_IndexFunc__2_L1) (w : World) (Kn : ((Option Addr) × Nat × Nat × Value × Int) → S_slices_IndexFunc__2_L1 → World → Prop) (Kx0 : ((Option Addr) × Nat × Nat × Value × Int) → World → Prop) (Kr : ((Option Addr) × Nat × Nat × Value × Int) → Int → World → Prop) :
    B_slices_IndexFunc__2_L1 f.1 f.2.1 f.2.2.1 f.2.2.2.1 f.2.2.2.2 s w (fun s1 w1 => Kn f s1 w1) (fun w1 => Kx0 f w1) (fun t4 w1 => Kr f t4 w1) =
    den Try.prog Try.f47.ntmps G_slices_IndexFunc__2 (sub (codeOf Try.f47) [false, false, true, false, true]) [false, false, true, false, true] (roundQ (fun e w => dec_slices_IndexFunc__2_L1 e fun f s => Kn f s w) (fun e w => dx_slices_IndexFunc__2_L1_ret e fun f t4 => Kr f t4 w) (fun id e w => match Nat.beq id 0 with | true => dx_slices_IndexFunc__2_L1_0 e fun f => Kx0 f w | false => False)) (lit_slices_IndexFunc__2_L1 f s) w := by kernel_rfl

theorem ok_slices_IndexFunc__2_L1 : OneOk Try.prog Try.f47.ntmps G_slices_IndexFunc__2 (codeOf Try.f47) [false, true, false, true] spec_slices_IndexFunc__2_L1 := by
  intro c hc ih Q e w a hr h
  have hcc : sub (codeOf Try.f47) [false, false, true, false, true] = c := sub_of_codeAt hc
  obtain ⟨f, s, h, hrep⟩ := dec_slices_IndexFunc__2_L1_ok e a _ hr h
  obtain ⟨J, μ, hj, hround⟩ := h
  refine loop_rule_deep seat_ok seat_mixed ih lit_slices_IndexFunc__2_L1 dec_slices_IndexFunc__2_L1 dec_slices_IndexFunc__2_L1_ok hc f J μ (Kr := fun e w => dx_slices_IndexFunc__2_L1_ret e fun f1 t4 => f1 = f ∧ Q .ret [⟨4, .int .i64 t4, none⟩] w) (Kx := fun id e w => match Nat.beq id 0 with | true => (dx_slices_IndexFunc__2_L1_0 e fun f1 => f1 = f ∧ Q (.exit 0) [] w) | false => False) ?_ ?_ ?_ s w a hj hrep
  · intro e a w hr h0
    unfold dx_slices_IndexFunc__2_L1_ret at h0
    obtain ⟨sP_1, sN_1, sC_1, g0, h1⟩ := oS_elim h0
    obtain ⟨fx_1, g1, h2⟩ := oV_elim h1
    obtain ⟨t7, g7, h3⟩ := oI_elim h2
    obtain ⟨t4, g4, h4⟩ := oI_elim h3
    obtain ⟨hf, hq⟩ := h4
    subst hf
    exact ⟨_, rep_less hr (by simp [g4]), hq⟩
  · intro id e a w hr h0
    (try dsimp only at h0)
    split at h0
    · rename_i hid
      obtain rfl := Nat.eq_of_beq_eq_true hid
      unfold dx_slices_IndexFunc__2_L1_0 at h0
      obtain ⟨sP_1, sN_1, sC_1, g0, h1⟩ := oS_elim h0
      obtain ⟨fx_1, g1, h2⟩ := oV_elim h1
      obtain ⟨t7, g7, h3⟩ := oI_elim h2
      obtain ⟨hf, hq⟩ := h3
      subst hf
      exact ⟨_, rep_less hr (by simp), hq⟩
    · exact h0.elim
  · intro s w hj
    have hb := hround s w hj
    rw [← hcc]
    have e1 := body_slices_IndexFunc__2_L1 f s w (fun f1 s1 w1 => f1 = f ∧ J s1 w1 ∧ μ s1 w1 < μ s w) (fun f1 w1 => f1 = f ∧ Q (.exit 0) [] w1) (fun f1 t4 w1 => f1 = f ∧ Q .ret [⟨4, .int .i64 t4, none⟩] w1)
    simp only [true_and] at e1
    exact cast e1 hb

theorem loops_slices_IndexFunc__2 : LoopOk Try.prog Try.f47.ntmps G_slices_IndexFunc__2 (codeOf Try.f47) := loopOk_list rfl ⟨ok_slices_IndexFunc__2_L1, trivial⟩

theorem C_slices_IndexFunc__2.of {sP : Option Addr} {sN : Nat} {sC : Nat} {fx : Value} {w : World} {R : Int → World → Prop} (h : F_slices_IndexFunc__2 sP sN sC fx w R) : C_slices_IndexFunc__2 sP sN sC fx w R := ofS5 (Fm := F_slices_IndexFunc__2 sP sN sC fx w) Try.func47 (by kernel_rfl) loops_slices_IndexFunc__2 rfl (fun _ => by kernel_rfl) h

def F_term_may (t0 : Int) (t1 : Int) (t2 : ByteArray) (t3P : Option Addr) (t3N : Nat) (t3C : Nat) (w : World) (R : Bool → World → Prop) : Prop :=
  New w (.cells #[.int .i64 t0, .int .i64 t1, .string t2, .slice t3P t3N t3C] 24) fun r w1 =>
  ∃ t30 : Int, w1.cell? ((⟨r, 0, none⟩ : Addr).add 0) = some (.int .i64 t30) ∧
  ∃ t31 : Int, w1.cell? ((⟨r, 0, none⟩ : Addr).add 1) = some (.int .i64 t31) ∧
  ∃ t32 : ByteArray, w1.cell? ((⟨r, 0, none⟩ : Addr).add 2) = some (.string t32) ∧
  ∃ t33P : Option Addr, ∃ t33N : Nat, ∃ t33C : Nat, w1.cell? ((⟨r, 0, none⟩ : Addr).add 3) = some (.slice t33P t33N t33C) ∧
  C_term_Check t30 t31 t32 t33P t33N t33C w1 fun t4 w1_1 =>
  R (t4 == (0 : Int)) w1_1

def G_term_may : Gen where
  loop := lookL []
  plan := fun _ => none

theorem loops_term_may : LoopOk Try.prog Try.f48.ntmps G_term_may (codeOf Try.f48) := loopOk_none fun _ => rfl

theorem C_term_may.of {t0 : Int} {t1 : Int} {t2 : ByteArray} {t3P : Option Addr} {t3N : Nat} {t3C : Nat} {w : World} {R : Bool → World → Prop} (h : F_term_may t0 t1 t2 t3P t3N t3C w R) : C_term_may t0 t1 t2 t3P t3N t3C w R := ofS2 (Fm := F_term_may t0 t1 t2 t3P t3N t3C w) Try.func48 (by kernel_rfl) loops_term_may rfl (fun _ => by kernel_rfl) h

def F_term_rename (t0 : Int) (t1 : Int) (t2 : ByteArray) (t3P : Option Addr) (t3N : Nat) (t3C : Nat) (w : World) (R : Int → Int → ByteArray → Option Addr → Nat → Nat → Option Addr → Nat → Nat → World → Prop) : Prop :=
  New w (.cells #[.int .i64 t0, .int .i64 t1, .string t2, .slice t3P t3N t3C] 24) fun r w1 =>
  New w1 (.cells #[.int .i64 0, .int .i64 0, .string ⟨#[]⟩, .slice none 0 0] 24) fun r_1 w1_1 =>
  New w1_1 (.map #[] 0) fun r_2 w1_2 =>
  New w1_2 (.cells #[.map (some r_2), .slice none 0 0] 110) fun r_3 w1_3 =>
  ∃ t90 : Int, w1_3.cell? ((⟨r, 0, none⟩ : Addr).add 0) = some (.int .i64 t90) ∧
  ∃ t91 : Int, w1_3.cell? ((⟨r, 0, none⟩ : Addr).add 1) = some (.int .i64 t91) ∧
  ∃ t92 : ByteArray, w1_3.cell? ((⟨r, 0, none⟩ : Addr).add 2) = some (.string t92) ∧
  ∃ t93P : Option Addr, ∃ t93N : Nat, ∃ t93C : Nat, w1_3.cell? ((⟨r, 0, none⟩ : Addr).add 3) = some (.slice t93P t93N t93C) ∧
  C_term_build t90 t91 t92 t93P t93N t93C (.func (.func 67) #[.pointer (some ⟨r_3, 0, none⟩)] #[]) w1_3 fun t120 t121 t122 t123P t123N t123C w1_4 =>
  New w1_4 (.cells #[.int .i64 0, .int .i64 0, .string ⟨#[]⟩, .slice none 0 0] 24) fun r_4 w1_5 =>
  St w1_5 ((⟨r_4, 0, none⟩ : Addr).add 0) (.int .i64 t120) fun w1_6 =>
  St w1_6 ((⟨r_4, 0, none⟩ : Addr).add 1) (.int .i64 t121) fun w1_7 =>
  St w1_7 ((⟨r_4, 0, none⟩ : Addr).add 2) (.string t122) fun w1_8 =>
  St w1_8 ((⟨r_4, 0, none⟩ : Addr).add 3) (.slice t123P t123N t123C) fun w1_9 =>
  ∃ t130 : Int, (drw w1_9).cell? ((⟨r_4, 0, none⟩ : Addr).add 0) = some (.int .i64 t130) ∧
  ∃ t131 : Int, (drw w1_9).cell? ((⟨r_4, 0, none⟩ : Addr).add 1) = some (.int .i64 t131) ∧
  ∃ t132 : ByteArray, (drw w1_9).cell? ((⟨r_4, 0, none⟩ : Addr).add 2) = some (.string t132) ∧
  ∃ t133P : Option Addr, ∃ t133N : Nat, ∃ t133C : Nat, (drw w1_9).cell? ((⟨r_4, 0, none⟩ : Addr).add 3) = some (.slice t133P t133N t133C) ∧
  NN (some ⟨r_3, 0, none⟩) fun a =>
  ∃ lP : Option Addr, ∃ lN : Nat, ∃ lC : Nat, (drw w1_9).cell? (a.add 1) = some (.slice lP lN lC) ∧
  St (drw w1_9) ((⟨r_1, 0, none⟩ : Addr).add 0) (.int .i64 t130) fun w1_10 =>
  St w1_10 ((⟨r_1, 0, none⟩ : Addr).add 1) (.int .i64 t131) fun w1_11 =>
  St w1_11 ((⟨r_1, 0, none⟩ : Addr).add 2) (.string t132) fun w1_12 =>
  St w1_12 ((⟨r_1, 0, none⟩ : Addr).add 3) (.slice t133P t133N t133C) fun w1_13 =>
  w1_13.cell? (a.add 1) = (drw w1_9).cell? (a.add 1) ∧
  ∃ r_5 : Int, w1_13.cell? ((⟨r_1, 0, none⟩ : Addr).add 0) = some (.int .i64 r_5) ∧
  ∃ r_6 : Int, w1_13.cell? ((⟨r_1, 0, none⟩ : Addr).add 1) = some (.int .i64 r_6) ∧
  ∃ r_7 : ByteArray, w1_13.cell? ((⟨r_1, 0, none⟩ : Addr).add 2) = some (.string r_7) ∧
  ∃ rP : Option Addr, ∃ rN : Nat, ∃ rC : Nat, w1_13.cell? ((⟨r_1, 0, none⟩ : Addr).add 3) = some (.slice rP rN rC) ∧
  R r_5 r_6 r_7 rP rN rC lP lN lC w1_13

def G_term_rename : Gen where
  loop := lookL []
  plan := fun id =>
    bif Nat.beq id 3 then some ([0, 0, 2, 6, 14, 1, 63], .take 0 (.take 1 (.take 2 (.take 3 (.take 4 (.take 5 (.take 6 .done))))))) else none

theorem loops_term_rename : LoopOk Try.prog Try.f49.ntmps G_term_rename (codeOf Try.f49) := loopOk_none fun _ => rfl

theorem C_term_rename.of {t0 : Int} {t1 : Int} {t2 : ByteArray} {t3P : Option Addr} {t3N : Nat} {t3C : Nat} {w : World} {R : Int → Int → ByteArray → Option Addr → Nat → Nat → Option Addr → Nat → Nat → World → Prop} (h : F_term_rename t0 t1 t2 t3P t3N t3C w R) : C_term_rename t0 t1 t2 t3P t3N t3C w R := ofS12 (Fm := F_term_rename t0 t1 t2 t3P t3N t3C w) Try.func49 (by kernel_rfl) loops_term_rename rfl (fun _ => by kernel_rfl) h

structure S_maps_Values_1_L1 where
  mk ::

def F_maps_Values_1_k1 (yield_1 : Value) (t6_1 : Option Addr) (Kn : S_maps_Values_1_L1 → World → Prop) (Kx0 : World → Prop) (Kr : World → Prop) (t8 : Bool) (w1_2 : World) : Prop :=
  If t8
  (Run Try.prog (Instr.entry (.pointer t6_1)) w1_2 fun v_1 w1_3 => ∃ t9k : Value, ∃ t9v0 : Int, ∃ t9v1 : Int, ∃ t9v2 : Int, v_1 = (.tuple #[t9k, .agg #[.int .i64 t9v0, .int .i64 t9v1, .int .i64 t9v2]]) ∧
  New w1_3 (.cells #[.int .i64 0, .int .i64 0, .int .i64 0] 58) fun r w1_4 =>
  St w1_4 ((⟨r, 0, none⟩ : Addr).add 0) (.int .i64 t9v0) fun w1_5 =>
  St w1_5 ((⟨r, 0, none⟩ : Addr).add 1) (.int .i64 t9v1) fun w1_6 =>
  St w1_6 ((⟨r, 0, none⟩ : Addr).add 2) (.int .i64 t9v2) fun w1_7 =>
  ∃ t120 : Int, w1_7.cell? ((⟨r, 0, none⟩ : Addr).add 0) = some (.int .i64 t120) ∧
  ∃ t121 : Int, w1_7.cell? ((⟨r, 0, none⟩ : Addr).add 1) = some (.int .i64 t121) ∧
  ∃ t122 : Int, w1_7.cell? ((⟨r, 0, none⟩ : Addr).add 2) = some (.int .i64 t122) ∧
  CallV Try.prog yield_1 [.agg #[.int .i64 t120, .int .i64 t121, .int .i64 t122]] w1_7 fun v_2 w1_8 => ∃ t13 : Bool, v_2 = (.bool t13) ∧
  If (!t13)
  (Kr w1_8)
  (Kn ⟨⟩ w1_8))
  (Kx0 w1_2)

/-- One round. -/
def B_maps_Values_1_L1 (yield_1 : Value) (t6_1 : Option Addr) (s : S_maps_Values_1_L1) (w : World) (Kn : S_maps_Values_1_L1 → World → Prop) (Kx0 : World → Prop) (Kr : World → Prop) : Prop :=
  Run Try.prog (Instr.next (.pointer t6_1) false 0) w fun v w1_1 =>
  (v = .tuple #[.bool false] ∧
  (F_maps_Values_1_k1 yield_1 t6_1 Kn Kx0 Kr false w1_1)) ∨
  (∃ kx : Value, ∃ vx : Value, v = (.tuple #[.bool true, kx, vx]) ∧
  (F_maps_Values_1_k1 yield_1 t6_1 Kn Kx0 Kr true w1_1))

def F_maps_Values_1_L1 (yield_1 : Value) (t6_1 : Option Addr) (s : S_maps_Values_1_L1) (w : World) (Kx0 : World → Prop) (Kr : World → Prop) : Prop :=
  LoopS (fun s w Kn => B_maps_Values_1_L1 yield_1 t6_1 s w Kn Kx0 Kr) s w

def F_maps_Values_1 (yield : Value) (c0 : Addr) (w : World) (R : World → Prop) : Prop :=
  ∃ t5 : Option Nat, w.cell? c0 = some (.map t5) ∧
  Rng Try.prog 52 (.map t5) w fun t6 w1 =>
  F_maps_Values_1_L1 yield t6 ⟨⟩ w1
  (fun w1_9 =>
  R w1_9)
  (fun w1_10 =>
  R w1_10)

def lit_maps_Values_1_L1 (f : Value × (Option Addr)) (s : S_maps_Values_1_L1) : Env := [⟨0, f.1, none⟩, ⟨6, .pointer f.2, none⟩]

def dec_maps_Values_1_L1 (e : Env) (K : (Value × (Option Addr)) → S_maps_Values_1_L1 → Prop) : Prop :=
  oV e 0 fun yield_1 =>
  oP e 6 fun t6_1 =>
    K (yield_1, t6_1) ⟨⟩

theorem dec_maps_Values_1_L1_ok {N : Nat} (e : Env) (a : Act) (K : (Value × (Option Addr)) → S_maps_Values_1_L1 → Prop) (hr : Rep N a e) (h0 : dec_maps_Values_1_L1 e K) : ∃ f s, K f s ∧ Rep N a (lit_maps_Values_1_L1 f s) := by
  unfold dec_maps_Values_1_L1 at h0
  obtain ⟨yield_1, g0, h1⟩ := oV_elim h0
  obtain ⟨t6_1, g6, h2⟩ := oP_elim h1
  exact ⟨_, _, h2, rep_less hr (by simp [lit_maps_Values_1_L1, g0, g6])⟩

def spec_maps_Values_1_L1 (Q : Post) (e : Env) (w : World) : Prop :=
  dec_maps_Values_1_L1 e fun f s => F_maps_Values_1_L1 f.1 f.2 s w (fun w1 => Q (.exit 0) [] w1) (fun w1 => Q .ret [] w1)

def G_maps_Values_1 : Gen where
  loop := lookL [([false, true], spec_maps_Values_1_L1)]
  plan := fun _ => none

def dx_maps_Values_1_L1_0 (e : Env) (K : (Value × (Option Addr)) → Prop) : Prop :=
  oV e 0 fun yield_1 =>
  oP e 6 fun t6_1 =>
    K (yield_1, t6_1)

def dx_maps_Values_1_L1_ret (e : Env) (K : (Value × (Option Addr)) → Prop) : Prop :=
  oV e 0 fun yield_1 =>
  oP e 6 fun t6_1 =>
    K (yield_1, t6_1)

theorem body_maps_Values_1_L1 (f : Value × (Option Addr)) (s : S_maps_Values_1_L1) (w : World) (Kn : (Value × (Option Addr)) → S_maps_Values_1_L1 → World → Prop) (Kx0 : (Value × (Option Addr)) → World → Prop) (Kr : (Value × (Option Addr)) → World → Prop) :
    B_maps_Values_1_L1 f.1 f.2 s w (fun s1 w1 => Kn f s1 w1) (fun w1 => Kx0 f w1) (fun w1 => Kr f w1) =
    den Try.prog Try.f51.ntmps G_maps_Values_1 (sub (codeOf Try.f51) [false, false, true]) [false, false, true] (roundQ (fun e w => dec_maps_Values_1_L1 e fun f s => Kn f s w) (fun e w => dx_maps_Values_1_L1_ret e fun f => Kr f w) (fun id e w => match Nat.beq id 0 with | true => dx_maps_Values_1_L1_0 e fun f => Kx0 f w | false => False)) (lit_maps_Values_1_L1 f s) w := by kernel_rfl

theorem ok_maps_Values_1_L1 : OneOk Try.prog Try.f51.ntmps G_maps_Values_1 (codeOf Try.f51) [false, true] spec_maps_Values_1_L1 := by
  intro c hc ih Q e w a hr h
  have hcc : sub (codeOf Try.f51) [false, false, true] = c := sub_of_codeAt hc
  obtain ⟨f, s, h, hrep⟩ := dec_maps_Values_1_L1_ok e a _ hr h
  obtain ⟨J, μ, hj, hround⟩ := h
  refine loop_rule_deep seat_ok seat_mixed ih lit_maps_Values_1_L1 dec_maps_Values_1_L1 dec_maps_Values_1_L1_ok hc f J μ (Kr := fun e w => dx_maps_Values_1_L1_ret e fun f1 => f1 = f ∧ Q .ret [] w) (Kx := fun id e w => match Nat.beq id 0 with | true => (dx_maps_Values_1_L1_0 e fun f1 => f1 = f ∧ Q (.exit 0) [] w) | false => False) ?_ ?_ ?_ s w a hj hrep
  · intro e a w hr h0
    unfold dx_maps_Values_1_L1_ret at h0
    obtain ⟨yield_1, g0, h1⟩ := oV_elim h0
    obtain ⟨t6_1, g6, h2⟩ := oP_elim h1
    obtain ⟨hf, hq⟩ := h2
    subst hf
    exact ⟨_, rep_less hr (by simp), hq⟩
  · intro id e a w hr h0
    (try dsimp only at h0)
    split at h0
    · rename_i hid
      obtain rfl := Nat.eq_of_beq_eq_true hid
      unfold dx_maps_Values_1_L1_0 at h0
      obtain ⟨yield_1, g0, h1⟩ := oV_elim h0
      obtain ⟨t6_1, g6, h2⟩ := oP_elim h1
      obtain ⟨hf, hq⟩ := h2
      subst hf
      exact ⟨_, rep_less hr (by simp), hq⟩
    · exact h0.elim
  · intro s w hj
    have hb := hround s w hj
    rw [← hcc]
    have e1 := body_maps_Values_1_L1 f s w (fun f1 s1 w1 => f1 = f ∧ J s1 w1 ∧ μ s1 w1 < μ s w) (fun f1 w1 => f1 = f ∧ Q (.exit 0) [] w1) (fun f1 w1 => f1 = f ∧ Q .ret [] w1)
    simp only [true_and] at e1
    exact cast e1 hb

theorem loops_maps_Values_1 : LoopOk Try.prog Try.f51.ntmps G_maps_Values_1 (codeOf Try.f51) := loopOk_list rfl ⟨ok_maps_Values_1_L1, trivial⟩

theorem C_maps_Values_1.of {yield : Value} {c0 : Addr} {w : World} {R : World → Prop} (h : F_maps_Values_1 yield c0 w R) : C_maps_Values_1 yield c0 w R := ofS1 (Fm := F_maps_Values_1 yield c0 w) Try.func51 (by kernel_rfl) loops_maps_Values_1 rfl (fun _ => by kernel_rfl) h

def F_cmp_isNaN (x : Int) (w : World) (R : Bool → World → Prop) : Prop :=
  R (x != x) w

def G_cmp_isNaN : Gen where
  loop := lookL []
  plan := fun _ => none

theorem loops_cmp_isNaN : LoopOk Try.prog Try.f53.ntmps G_cmp_isNaN (codeOf Try.f53) := loopOk_none fun _ => rfl

theorem C_cmp_isNaN.of {x : Int} {w : World} {R : Bool → World → Prop} (h : F_cmp_isNaN x w R) : C_cmp_isNaN x w R := ofS2 (Fm := F_cmp_isNaN x w) Try.func53 (by kernel_rfl) loops_cmp_isNaN rfl (fun _ => by kernel_rfl) h

def F_cmp_Less_k1 (x : Int) (y : Int) (R : Bool → World → Prop) (w1_2 : World) : Prop :=
  R (decide (x < y)) w1_2

def F_cmp_Less (x : Int) (y : Int) (w : World) (R : Bool → World → Prop) : Prop :=
  C_cmp_isNaN x w fun t6 w1 =>
  If t6
  (C_cmp_isNaN y w1 fun t9 w1_1 =>
  If (!t9)
  (R true w1_1)
  (F_cmp_Less_k1 x y R w1_1))
  (F_cmp_Less_k1 x y R w1)

def G_cmp_Less : Gen where
  loop := lookL []
  plan := fun _ => none

theorem loops_cmp_Less : LoopOk Try.prog Try.f60.ntmps G_cmp_Less (codeOf Try.f60) := loopOk_none fun _ => rfl

theorem C_cmp_Less.of {x : Int} {y : Int} {w : World} {R : Bool → World → Prop} (h : F_cmp_Less x y w R) : C_cmp_Less x y w R := ofS2 (Fm := F_cmp_Less x y w) Try.func60 (by kernel_rfl) loops_cmp_Less rfl (fun _ => by kernel_rfl) h

structure S_term_count_of_L1 where
  t39 : Int

/-- One round. -/
def B_term_count_of_L1 (cx_1 : Option Addr) (depth_2 : Int) (t37P : Option Addr) (t37N : Nat) (t37C : Nat) (t38 : Int) (s : S_term_count_of_L1) (w : World) (Kn : S_term_count_of_L1 → World → Prop) (Kx0 : World → Prop) : Prop :=
  If (decide ((s.t39 : Int) < t38))
  (0 ≤ (s.t39 : Int) ∧ (s.t39 : Int) < (t37N : Int) ∧ NN t37P fun a_7 =>
  ∃ t420 : Int, w.cell? ((a_7.add ((s.t39 : Int).toNat * 4)).add 0) = some (.int .i64 t420) ∧
  ∃ t421 : Int, w.cell? ((a_7.add ((s.t39 : Int).toNat * 4)).add 1) = some (.int .i64 t421) ∧
  ∃ t422 : ByteArray, w.cell? ((a_7.add ((s.t39 : Int).toNat * 4)).add 2) = some (.string t422) ∧
  ∃ t423P : Option Addr, ∃ t423N : Nat, ∃ t423C : Nat, w.cell? ((a_7.add ((s.t39 : Int).toNat * 4)).add 3) = some (.slice t423P t423N t423C) ∧
  New w (.cells #[.int .i64 0, .int .i64 0, .string ⟨#[]⟩, .slice none 0 0] 24) fun r_1 w1_7 =>
  St w1_7 ((⟨r_1, 0, none⟩ : Addr).add 0) (.int .i64 t420) fun w1_8 =>
  St w1_8 ((⟨r_1, 0, none⟩ : Addr).add 1) (.int .i64 t421) fun w1_9 =>
  St w1_9 ((⟨r_1, 0, none⟩ : Addr).add 2) (.string t422) fun w1_10 =>
  St w1_10 ((⟨r_1, 0, none⟩ : Addr).add 3) (.slice t423P t423N t423C) fun w1_11 =>
  ∃ t440 : Int, w1_11.cell? ((⟨r_1, 0, none⟩ : Addr).add 0) = some (.int .i64 t440) ∧
  ∃ t441 : Int, w1_11.cell? ((⟨r_1, 0, none⟩ : Addr).add 1) = some (.int .i64 t441) ∧
  ∃ t442 : ByteArray, w1_11.cell? ((⟨r_1, 0, none⟩ : Addr).add 2) = some (.string t442) ∧
  ∃ t443P : Option Addr, ∃ t443N : Nat, ∃ t443C : Nat, w1_11.cell? ((⟨r_1, 0, none⟩ : Addr).add 3) = some (.slice t443P t443N t443C) ∧
  C_term_count_of cx_1 t440 t441 t442 t443P t443N t443C (IntKind.i64.wrap (depth_2 + (1 : Int))) w1_11 fun w1_12 =>
  Kn ⟨(IntKind.i64.wrap ((s.t39 : Int) + (1 : Int)))⟩ w1_12)
  (Kx0 w)

def F_term_count_of_L1 (cx_1 : Option Addr) (depth_2 : Int) (t37P : Option Addr) (t37N : Nat) (t37C : Nat) (t38 : Int) (s : S_term_count_of_L1) (w : World) (Kx0 : World → Prop) : Prop :=
  LoopS (fun s w Kn => B_term_count_of_L1 cx_1 depth_2 t37P t37N t37C t38 s w Kn Kx0) s w

def F_term_count_of_k1 (cx : Option Addr) (depth : Int) (R : World → Prop) (r : Nat) (w1_6 : World) : Prop :=
  ∃ LP : Option Addr, ∃ LN : Nat, ∃ LC : Nat, w1_6.cell? ((⟨r, 0, none⟩ : Addr).add 3) = some (.slice LP LN LC) ∧
  F_term_count_of_L1 cx depth LP LN LC (LN : Int) ⟨(0 : Int)⟩ w1_6
  (fun w1_13 =>
  R w1_13)

def F_term_count_of (cx : Option Addr) (t0 : Int) (t1 : Int) (t2 : ByteArray) (t3P : Option Addr) (t3N : Nat) (t3C : Nat) (depth : Int) (w : World) (R : World → Prop) : Prop :=
  New w (.cells #[.int .i64 t0, .int .i64 t1, .string t2, .slice t3P t3N t3C] 24) fun r w1 =>
  NN cx fun a =>
  ∃ parts : Int, w1.cell? (a.add 0) = some (.int .i64 parts) ∧
  NN cx fun a_1 =>
  St w1 ((a_1.add 0).add 0) (.int .i64 (IntKind.i64.wrap (parts + (1 : Int)))) fun w1_1 =>
  NN cx fun a_2 =>
  ∃ depth_1 : Int, w1_1.cell? (a_2.add 1) = some (.int .i64 depth_1) ∧
  NN cx fun a_3 =>
  St w1_1 ((a_3.add 1).add 0) (.int .i64 (maxI depth_1 depth)) fun w1_2 =>
  NN cx fun a_4 =>
  ∃ bad : Bool, w1_2.cell? (a_4.add 2) = some (.bool bad) ∧
  If bad
  (NN cx fun a_5 =>
  St w1_2 ((a_5.add 2).add 0) (.bool true) fun w1_3 =>
  F_term_count_of_k1 cx depth R r w1_3)
  (∃ t300 : Int, w1_2.cell? ((⟨r, 0, none⟩ : Addr).add 0) = some (.int .i64 t300) ∧
  ∃ t301 : Int, w1_2.cell? ((⟨r, 0, none⟩ : Addr).add 1) = some (.int .i64 t301) ∧
  ∃ t302 : ByteArray, w1_2.cell? ((⟨r, 0, none⟩ : Addr).add 2) = some (.string t302) ∧
  ∃ t303P : Option Addr, ∃ t303N : Nat, ∃ t303C : Nat, w1_2.cell? ((⟨r, 0, none⟩ : Addr).add 3) = some (.slice t303P t303N t303C) ∧
  C_term_part t300 t301 t302 t303P t303N t303C w1_2 fun t31 w1_4 =>
  NN cx fun a_6 =>
  St w1_4 ((a_6.add 2).add 0) (.bool (!t31)) fun w1_5 =>
  F_term_count_of_k1 cx depth R r w1_5)

def lit_term_count_of_L1 (f : (Option Addr) × Int × (Option Addr) × Nat × Nat × Int) (s : S_term_count_of_L1) : Env := [⟨0, .pointer f.1, none⟩, ⟨2, .int .i64 f.2.1, none⟩, ⟨37, .slice f.2.2.1 f.2.2.2.1 f.2.2.2.2.1, none⟩, ⟨38, .int .i64 f.2.2.2.2.2, none⟩, ⟨39, .int .i64 s.t39, none⟩]

def dec_term_count_of_L1 (e : Env) (K : ((Option Addr) × Int × (Option Addr) × Nat × Nat × Int) → S_term_count_of_L1 → Prop) : Prop :=
  oP e 0 fun cx_1 =>
  oI e 2 .i64 fun depth_2 =>
  oS e 37 fun t37P t37N t37C =>
  oI e 38 .i64 fun t38 =>
  oI e 39 .i64 fun t39 =>
    K (cx_1, depth_2, t37P, t37N, t37C, t38) ⟨t39⟩

theorem dec_term_count_of_L1_ok {N : Nat} (e : Env) (a : Act) (K : ((Option Addr) × Int × (Option Addr) × Nat × Nat × Int) → S_term_count_of_L1 → Prop) (hr : Rep N a e) (h0 : dec_term_count_of_L1 e K) : ∃ f s, K f s ∧ Rep N a (lit_term_count_of_L1 f s) := by
  unfold dec_term_count_of_L1 at h0
  obtain ⟨cx_1, g0, h1⟩ := oP_elim h0
  obtain ⟨depth_2, g2, h2⟩ := oI_elim h1
  obtain ⟨t37P, t37N, t37C, g37, h3⟩ := oS_elim h2
  obtain ⟨t38, g38, h4⟩ := oI_elim h3
  obtain ⟨t39, g39, h5⟩ := oI_elim h4
  exact ⟨_, _, h5, rep_less hr (by simp [lit_term_count_of_L1, g0, g2, g37, g38, g39])⟩

def spec_term_count_of_L1 (Q : Post) (e : Env) (w : World) : Prop :=
  dec_term_count_of_L1 e fun f s => F_term_count_of_L1 f.1 f.2.1 f.2.2.1 f.2.2.2.1 f.2.2.2.2.1 f.2.2.2.2.2 s w (fun w1 => Q (.exit 0) [] w1)

def G_term_count_of : Gen where
  loop := lookL [([false, true, true, true, true, true], spec_term_count_of_L1)]
  plan := fun _ => none

def dx_term_count_of_L1_0 (e : Env) (K : ((Option Addr) × Int × (Option Addr) × Nat × Nat × Int) → Prop) : Prop :=
  oP e 0 fun cx_1 =>
  oI e 2 .i64 fun depth_2 =>
  oS e 37 fun t37P t37N t37C =>
  oI e 38 .i64 fun t38 =>
    K (cx_1, depth_2, t37P, t37N, t37C, t38)

theorem body_term_count_of_L1 (f : (Option Addr) × Int × (Option Addr) × Nat × Nat × Int) (s : S_term_count_of_L1) (w : World) (Kn : ((Option Addr) × Int × (Option Addr) × Nat × Nat × Int) → S_term_count_of_L1 → World → Prop) (Kx0 : ((Option Addr) × Int × (Option Addr) × Nat × Nat × Int) → World → Prop) :
    B_term_count_of_L1 f.1 f.2.1 f.2.2.1 f.2.2.2.1 f.2.2.2.2.1 f.2.2.2.2.2 s w (fun s1 w1 => Kn f s1 w1) (fun w1 => Kx0 f w1) =
    den Try.prog Try.f65.ntmps G_term_count_of (sub (codeOf Try.f65) [false, false, true, true, true, true, true]) [false, false, true, true, true, true, true] (roundQ (fun e w => dec_term_count_of_L1 e fun f s => Kn f s w) (fun e w => False) (fun id e w => match Nat.beq id 0 with | true => dx_term_count_of_L1_0 e fun f => Kx0 f w | false => False)) (lit_term_count_of_L1 f s) w := by kernel_rfl

theorem ok_term_count_of_L1 : OneOk Try.prog Try.f65.ntmps G_term_count_of (codeOf Try.f65) [false, true, true, true, true, true] spec_term_count_of_L1 := by
  intro c hc ih Q e w a hr h
  have hcc : sub (codeOf Try.f65) [false, false, true, true, true, true, true] = c := sub_of_codeAt hc
  obtain ⟨f, s, h, hrep⟩ := dec_term_count_of_L1_ok e a _ hr h
  obtain ⟨J, μ, hj, hround⟩ := h
  refine loop_rule_deep seat_ok seat_mixed ih lit_term_count_of_L1 dec_term_count_of_L1 dec_term_count_of_L1_ok hc f J μ (Kr := fun e w => False) (Kx := fun id e w => match Nat.beq id 0 with | true => (dx_term_count_of_L1_0 e fun f1 => f1 = f ∧ Q (.exit 0) [] w) | false => False) ?_ ?_ ?_ s w a hj hrep
  · intro e a w hr h
    exact h.elim
  · intro id e a w hr h0
    (try dsimp only at h0)
    split at h0
    · rename_i hid
      obtain rfl := Nat.eq_of_beq_eq_true hid
      unfold dx_term_count_of_L1_0 at h0
      obtain ⟨cx_1, g0, h1⟩ := oP_elim h0
      obtain ⟨depth_2, g2, h2⟩ := oI_elim h1
      obtain ⟨t37P, t37N, t37C, g37, h3⟩ := oS_elim h2
      obtain ⟨t38, g38, h4⟩ := oI_elim h3
      obtain ⟨hf, hq⟩ := h4
      subst hf
      exact ⟨_, rep_less hr (by simp), hq⟩
    · exact h0.elim
  · intro s w hj
    have hb := hround s w hj
    rw [← hcc]
    have e1 := body_term_count_of_L1 f s w (fun f1 s1 w1 => f1 = f ∧ J s1 w1 ∧ μ s1 w1 < μ s w) (fun f1 w1 => f1 = f ∧ Q (.exit 0) [] w1)
    simp only [true_and] at e1
    exact cast e1 hb

theorem loops_term_count_of : LoopOk Try.prog Try.f65.ntmps G_term_count_of (codeOf Try.f65) := loopOk_list rfl ⟨ok_term_count_of_L1, trivial⟩

theorem C_term_count_of.of {cx : Option Addr} {t0 : Int} {t1 : Int} {t2 : ByteArray} {t3P : Option Addr} {t3N : Nat} {t3C : Nat} {depth : Int} {w : World} {R : World → Prop} (h : F_term_count_of cx t0 t1 t2 t3P t3N t3C depth w R) : C_term_count_of cx t0 t1 t2 t3P t3N t3C depth w R := ofS1 (Fm := F_term_count_of cx t0 t1 t2 t3P t3N t3C depth w) Try.func65 (by kernel_rfl) loops_term_count_of rfl (fun _ => by kernel_rfl) h

structure S_term_build_L1 where
  t25 : Int

/-- One round. -/
def B_term_build_L1 (of_1 : Value) (t4 : Addr) (u : Addr) (t23P : Option Addr) (t23N : Nat) (t23C : Nat) (t24 : Int) (s : S_term_build_L1) (w : World) (Kn : S_term_build_L1 → World → Prop) (Kx0 : World → Prop) : Prop :=
  If (decide ((s.t25 : Int) < t24))
  (0 ≤ (s.t25 : Int) ∧ (s.t25 : Int) < (t23N : Int) ∧ NN t23P fun a =>
  ∃ t280 : Int, w.cell? ((a.add ((s.t25 : Int).toNat * 4)).add 0) = some (.int .i64 t280) ∧
  ∃ t281 : Int, w.cell? ((a.add ((s.t25 : Int).toNat * 4)).add 1) = some (.int .i64 t281) ∧
  ∃ t282 : ByteArray, w.cell? ((a.add ((s.t25 : Int).toNat * 4)).add 2) = some (.string t282) ∧
  ∃ t283P : Option Addr, ∃ t283N : Nat, ∃ t283C : Nat, w.cell? ((a.add ((s.t25 : Int).toNat * 4)).add 3) = some (.slice t283P t283N t283C) ∧
  New w (.cells #[.int .i64 0, .int .i64 0, .string ⟨#[]⟩, .slice none 0 0] 24) fun r_6 w1_12 =>
  St w1_12 ((⟨r_6, 0, none⟩ : Addr).add 0) (.int .i64 t280) fun w1_13 =>
  St w1_13 ((⟨r_6, 0, none⟩ : Addr).add 1) (.int .i64 t281) fun w1_14 =>
  St w1_14 ((⟨r_6, 0, none⟩ : Addr).add 2) (.string t282) fun w1_15 =>
  St w1_15 ((⟨r_6, 0, none⟩ : Addr).add 3) (.slice t283P t283N t283C) fun w1_16 =>
  ∃ LP_1 : Option Addr, ∃ LN_1 : Nat, ∃ LC_1 : Nat, (drw w1_16).cell? (u.add 3) = some (.slice LP_1 LN_1 LC_1) ∧
  ∃ t310 : Int, (drw w1_16).cell? ((⟨r_6, 0, none⟩ : Addr).add 0) = some (.int .i64 t310) ∧
  ∃ t311 : Int, (drw w1_16).cell? ((⟨r_6, 0, none⟩ : Addr).add 1) = some (.int .i64 t311) ∧
  ∃ t312 : ByteArray, (drw w1_16).cell? ((⟨r_6, 0, none⟩ : Addr).add 2) = some (.string t312) ∧
  ∃ t313P : Option Addr, ∃ t313N : Nat, ∃ t313C : Nat, (drw w1_16).cell? ((⟨r_6, 0, none⟩ : Addr).add 3) = some (.slice t313P t313N t313C) ∧
  C_term_build t310 t311 t312 t313P t313N t313C of_1 (drw w1_16) fun t330 t331 t332 t333P t333N t333C w1_17 =>
  w1_17.cell? (u.add 3) = (drw w1_16).cell? (u.add 3) ∧
  BSl Try.prog 22 1 [(0, .agg #[.int .i64 t330, .int .i64 t331, .string t332, .slice t333P t333N t333C])] w1_17 fun t34P t34N t34C w1_18 =>
  w1_18.cell? (u.add 3) = (drw w1_16).cell? (u.add 3) ∧
  App Try.prog #[22, 22] 22 #[.slice LP_1 LN_1 LC_1, .slice t34P t34N t34C] w1_18 fun t35P t35N t35C w1_19 =>
  St w1_19 ((u.add 3).add 0) (.slice t35P t35N t35C) fun w1_20 =>
  Kn ⟨(IntKind.i64.wrap ((s.t25 : Int) + (1 : Int)))⟩ w1_20)
  (Kx0 w)

def F_term_build_L1 (of_1 : Value) (t4 : Addr) (u : Addr) (t23P : Option Addr) (t23N : Nat) (t23C : Nat) (t24 : Int) (s : S_term_build_L1) (w : World) (Kx0 : World → Prop) : Prop :=
  LoopS (fun s w Kn => B_term_build_L1 of_1 t4 u t23P t23N t23C t24 s w Kn Kx0) s w

def F_term_build (t0 : Int) (t1 : Int) (t2 : ByteArray) (t3P : Option Addr) (t3N : Nat) (t3C : Nat) (of : Value) (w : World) (R : Int → Int → ByteArray → Option Addr → Nat → Nat → World → Prop) : Prop :=
  New w (.cells #[.int .i64 t0, .int .i64 t1, .string t2, .slice t3P t3N t3C] 24) fun r w1 =>
  New w1 (.cells #[.int .i64 0, .int .i64 0, .string ⟨#[]⟩, .slice none 0 0] 24) fun r_1 w1_1 =>
  ∃ Kind : Int, w1_1.cell? ((⟨r, 0, none⟩ : Addr).add 0) = some (.int .i64 Kind) ∧
  If (Kind == (1 : Int))
  (∃ N : Int, w1_1.cell? ((⟨r, 0, none⟩ : Addr).add 1) = some (.int .i64 N) ∧
  CallV Try.prog of [.int .i64 N] w1_1 fun v w1_2 => ∃ t140 : Int, ∃ t141 : Int, ∃ t142 : ByteArray, ∃ t143P : Option Addr, ∃ t143N : Nat, ∃ t143C : Nat, v = (.agg #[.int .i64 t140, .int .i64 t141, .string t142, .slice t143P t143N t143C]) ∧
  St w1_2 ((⟨r_1, 0, none⟩ : Addr).add 0) (.int .i64 t140) fun w1_3 =>
  St w1_3 ((⟨r_1, 0, none⟩ : Addr).add 1) (.int .i64 t141) fun w1_4 =>
  St w1_4 ((⟨r_1, 0, none⟩ : Addr).add 2) (.string t142) fun w1_5 =>
  St w1_5 ((⟨r_1, 0, none⟩ : Addr).add 3) (.slice t143P t143N t143C) fun w1_6 =>
  ∃ r_2 : Int, w1_6.cell? ((⟨r_1, 0, none⟩ : Addr).add 0) = some (.int .i64 r_2) ∧
  ∃ r_3 : Int, w1_6.cell? ((⟨r_1, 0, none⟩ : Addr).add 1) = some (.int .i64 r_3) ∧
  ∃ r_4 : ByteArray, w1_6.cell? ((⟨r_1, 0, none⟩ : Addr).add 2) = some (.string r_4) ∧
  ∃ rP : Option Addr, ∃ rN : Nat, ∃ rC : Nat, w1_6.cell? ((⟨r_1, 0, none⟩ : Addr).add 3) = some (.slice rP rN rC) ∧
  R r_2 r_3 r_4 rP rN rC w1_6)
  (∃ Kind_1 : Int, w1_1.cell? ((⟨r, 0, none⟩ : Addr).add 0) = some (.int .i64 Kind_1) ∧
  ∃ N_1 : Int, w1_1.cell? ((⟨r, 0, none⟩ : Addr).add 1) = some (.int .i64 N_1) ∧
  ∃ S : ByteArray, w1_1.cell? ((⟨r, 0, none⟩ : Addr).add 2) = some (.string S) ∧
  New w1_1 (.cells #[.int .i64 0, .int .i64 0, .string ⟨#[]⟩, .slice none 0 0] 24) fun r_5 w1_7 =>
  St w1_7 ((⟨r_5, 0, none⟩ : Addr).add 0) (.int .i64 Kind_1) fun w1_8 =>
  St w1_8 ((⟨r_5, 0, none⟩ : Addr).add 1) (.int .i64 N_1) fun w1_9 =>
  St w1_9 ((⟨r_5, 0, none⟩ : Addr).add 2) (.string S) fun w1_10 =>
  St w1_10 ((⟨r_5, 0, none⟩ : Addr).add 3) (.slice none 0 0) fun w1_11 =>
  ∃ LP : Option Addr, ∃ LN : Nat, ∃ LC : Nat, w1_11.cell? ((⟨r, 0, none⟩ : Addr).add 3) = some (.slice LP LN LC) ∧
  F_term_build_L1 of ⟨r_1, 0, none⟩ ⟨r_5, 0, none⟩ LP LN LC (LN : Int) ⟨(0 : Int)⟩ w1_11
  (fun w1_21 =>
  ∃ t380 : Int, w1_21.cell? ((⟨r_5, 0, none⟩ : Addr).add 0) = some (.int .i64 t380) ∧
  ∃ t381 : Int, w1_21.cell? ((⟨r_5, 0, none⟩ : Addr).add 1) = some (.int .i64 t381) ∧
  ∃ t382 : ByteArray, w1_21.cell? ((⟨r_5, 0, none⟩ : Addr).add 2) = some (.string t382) ∧
  ∃ t383P : Option Addr, ∃ t383N : Nat, ∃ t383C : Nat, w1_21.cell? ((⟨r_5, 0, none⟩ : Addr).add 3) = some (.slice t383P t383N t383C) ∧
  St w1_21 ((⟨r_1, 0, none⟩ : Addr).add 0) (.int .i64 t380) fun w1_22 =>
  St w1_22 ((⟨r_1, 0, none⟩ : Addr).add 1) (.int .i64 t381) fun w1_23 =>
  St w1_23 ((⟨r_1, 0, none⟩ : Addr).add 2) (.string t382) fun w1_24 =>
  St w1_24 ((⟨r_1, 0, none⟩ : Addr).add 3) (.slice t383P t383N t383C) fun w1_25 =>
  ∃ r_7 : Int, w1_25.cell? ((⟨r_1, 0, none⟩ : Addr).add 0) = some (.int .i64 r_7) ∧
  ∃ r_8 : Int, w1_25.cell? ((⟨r_1, 0, none⟩ : Addr).add 1) = some (.int .i64 r_8) ∧
  ∃ r_9 : ByteArray, w1_25.cell? ((⟨r_1, 0, none⟩ : Addr).add 2) = some (.string r_9) ∧
  ∃ rP_1 : Option Addr, ∃ rN_1 : Nat, ∃ rC_1 : Nat, w1_25.cell? ((⟨r_1, 0, none⟩ : Addr).add 3) = some (.slice rP_1 rN_1 rC_1) ∧
  R r_7 r_8 r_9 rP_1 rN_1 rC_1 w1_25))

def lit_term_build_L1 (f : Value × Addr × Addr × (Option Addr) × Nat × Nat × Int) (s : S_term_build_L1) : Env := [⟨1, f.1, none⟩, ⟨4, .pointer (some f.2.1), none⟩, ⟨5, .pointer (some f.2.2.1), none⟩, ⟨23, .slice f.2.2.2.1 f.2.2.2.2.1 f.2.2.2.2.2.1, none⟩, ⟨24, .int .i64 f.2.2.2.2.2.2, none⟩, ⟨25, .int .i64 s.t25, none⟩]

def dec_term_build_L1 (e : Env) (K : (Value × Addr × Addr × (Option Addr) × Nat × Nat × Int) → S_term_build_L1 → Prop) : Prop :=
  oV e 1 fun of_1 =>
  oA e 4 fun t4 =>
  oA e 5 fun u =>
  oS e 23 fun t23P t23N t23C =>
  oI e 24 .i64 fun t24 =>
  oI e 25 .i64 fun t25 =>
    K (of_1, t4, u, t23P, t23N, t23C, t24) ⟨t25⟩

theorem dec_term_build_L1_ok {N : Nat} (e : Env) (a : Act) (K : (Value × Addr × Addr × (Option Addr) × Nat × Nat × Int) → S_term_build_L1 → Prop) (hr : Rep N a e) (h0 : dec_term_build_L1 e K) : ∃ f s, K f s ∧ Rep N a (lit_term_build_L1 f s) := by
  unfold dec_term_build_L1 at h0
  obtain ⟨of_1, g1, h1⟩ := oV_elim h0
  obtain ⟨t4, g4, h2⟩ := oA_elim h1
  obtain ⟨u, g5, h3⟩ := oA_elim h2
  obtain ⟨t23P, t23N, t23C, g23, h4⟩ := oS_elim h3
  obtain ⟨t24, g24, h5⟩ := oI_elim h4
  obtain ⟨t25, g25, h6⟩ := oI_elim h5
  exact ⟨_, _, h6, rep_less hr (by simp [lit_term_build_L1, g1, g4, g5, g23, g24, g25])⟩

def spec_term_build_L1 (Q : Post) (e : Env) (w : World) : Prop :=
  dec_term_build_L1 e fun f s => F_term_build_L1 f.1 f.2.1 f.2.2.1 f.2.2.2.1 f.2.2.2.2.1 f.2.2.2.2.2.1 f.2.2.2.2.2.2 s w (fun w1 => Q (.exit 0) [⟨4, .pointer (some f.2.1), none⟩, ⟨5, .pointer (some f.2.2.1), none⟩] w1)

def G_term_build : Gen where
  loop := lookL [([false, true, false, true, true, true], spec_term_build_L1)]
  plan := fun id =>
    bif Nat.beq id 7 then some ([0, 1, 0, 0, 12, 28, 63, 127, 255], .take 0 (.take 1 (.take 2 (.take 3 (.take 4 (.take 5 (.take 6 (.take 7 (.take 8 .done))))))))) else none

def dx_term_build_L1_0 (e : Env) (K : (Value × Addr × Addr × (Option Addr) × Nat × Nat × Int) → Prop) : Prop :=
  oV e 1 fun of_1 =>
  oA e 4 fun t4 =>
  oA e 5 fun u =>
  oS e 23 fun t23P t23N t23C =>
  oI e 24 .i64 fun t24 =>
    K (of_1, t4, u, t23P, t23N, t23C, t24)

theorem body_term_build_L1 (f : Value × Addr × Addr × (Option Addr) × Nat × Nat × Int) (s : S_term_build_L1) (w : World) (Kn : (Value × Addr × Addr × (Option Addr) × Nat × Nat × Int) → S_term_build_L1 → World → Prop) (Kx0 : (Value × Addr × Addr × (Option Addr) × Nat × Nat × Int) → World → Prop) :
    B_term_build_L1 f.1 f.2.1 f.2.2.1 f.2.2.2.1 f.2.2.2.2.1 f.2.2.2.2.2.1 f.2.2.2.2.2.2 s w (fun s1 w1 => Kn f s1 w1) (fun w1 => Kx0 f w1) =
    den Try.prog Try.f66.ntmps G_term_build (sub (codeOf Try.f66) [false, false, true, false, true, true, true]) [false, false, true, false, true, true, true] (roundQ (fun e w => dec_term_build_L1 e fun f s => Kn f s w) (fun e w => False) (fun id e w => match Nat.beq id 0 with | true => dx_term_build_L1_0 e fun f => Kx0 f w | false => False)) (lit_term_build_L1 f s) w := by kernel_rfl

theorem ok_term_build_L1 : OneOk Try.prog Try.f66.ntmps G_term_build (codeOf Try.f66) [false, true, false, true, true, true] spec_term_build_L1 := by
  intro c hc ih Q e w a hr h
  have hcc : sub (codeOf Try.f66) [false, false, true, false, true, true, true] = c := sub_of_codeAt hc
  obtain ⟨f, s, h, hrep⟩ := dec_term_build_L1_ok e a _ hr h
  obtain ⟨J, μ, hj, hround⟩ := h
  refine loop_rule_deep seat_ok seat_mixed ih lit_term_build_L1 dec_term_build_L1 dec_term_build_L1_ok hc f J μ (Kr := fun e w => False) (Kx := fun id e w => match Nat.beq id 0 with | true => (dx_term_build_L1_0 e fun f1 => f1 = f ∧ Q (.exit 0) [⟨4, .pointer (some f.2.1), none⟩, ⟨5, .pointer (some f.2.2.1), none⟩] w) | false => False) ?_ ?_ ?_ s w a hj hrep
  · intro e a w hr h
    exact h.elim
  · intro id e a w hr h0
    (try dsimp only at h0)
    split at h0
    · rename_i hid
      obtain rfl := Nat.eq_of_beq_eq_true hid
      unfold dx_term_build_L1_0 at h0
      obtain ⟨of_1, g1, h1⟩ := oV_elim h0
      obtain ⟨t4, g4, h2⟩ := oA_elim h1
      obtain ⟨u, g5, h3⟩ := oA_elim h2
      obtain ⟨t23P, t23N, t23C, g23, h4⟩ := oS_elim h3
      obtain ⟨t24, g24, h5⟩ := oI_elim h4
      obtain ⟨hf, hq⟩ := h5
      subst hf
      exact ⟨_, rep_less hr (by simp [g4, g5]), hq⟩
    · exact h0.elim
  · intro s w hj
    have hb := hround s w hj
    rw [← hcc]
    have e1 := body_term_build_L1 f s w (fun f1 s1 w1 => f1 = f ∧ J s1 w1 ∧ μ s1 w1 < μ s w) (fun f1 w1 => f1 = f ∧ Q (.exit 0) [⟨4, .pointer (some f.2.1), none⟩, ⟨5, .pointer (some f.2.2.1), none⟩] w1)
    simp only [true_and] at e1
    exact cast e1 hb

theorem loops_term_build : LoopOk Try.prog Try.f66.ntmps G_term_build (codeOf Try.f66) := loopOk_list rfl ⟨ok_term_build_L1, trivial⟩

theorem C_term_build.of {t0 : Int} {t1 : Int} {t2 : ByteArray} {t3P : Option Addr} {t3N : Nat} {t3C : Nat} {of : Value} {w : World} {R : Int → Int → ByteArray → Option Addr → Nat → Nat → World → Prop} (h : F_term_build t0 t1 t2 t3P t3N t3C of w R) : C_term_build t0 t1 t2 t3P t3N t3C of w R := ofS7 (Fm := F_term_build t0 t1 t2 t3P t3N t3C of w) Try.func66 (by kernel_rfl) loops_term_build rfl (fun _ => by kernel_rfl) h

end Go.Proofs.Ytdbkbaeeccemkaa
