/- The formulas of this seat's functions, held against the loaded program by the kernel. Printed by a program. -/
import Derived.Test.YtdmjbkpibgfeiaaGenC
set_option maxRecDepth 100000
set_option linter.unusedVariables false
namespace Go.Proofs.Ytdmjbkpibgfeiaa
open Go Go.D Go.Proofs

def F_frame_Stack_Chain_1_k1 (c0 : Addr) (R : Bool → World → Prop) (w1_2 : World) : Prop :=
  ∃ t11 : Bool, w1_2.cell? c0 = some (.bool t11) ∧
  R (!t11) w1_2

def F_frame_Stack_Chain_1 (b : Int) (c0 : Addr) (c1 : Addr) (w : World) (R : Bool → World → Prop) : Prop :=
  ∃ t5 : Bool, w.cell? c0 = some (.bool t5) ∧
  If t5
  (St w (c0.add 0) (.bool true) fun w1 =>
  F_frame_Stack_Chain_1_k1 c0 R w1)
  (∃ t8 : Int, w.cell? c1 = some (.int .i64 t8) ∧
  St w (c0.add 0) (.bool (b == t8)) fun w1_1 =>
  F_frame_Stack_Chain_1_k1 c0 R w1_1)

def G_frame_Stack_Chain_1 : Gen where
  loop := lookL []
  plan := fun _ => none

theorem loops_frame_Stack_Chain_1 : LoopOk Try.prog Try.f36.ntmps G_frame_Stack_Chain_1 (codeOf Try.f36) := loopOk_none fun _ => rfl

theorem den_frame_Stack_Chain_1 (b : Int) (c0 : Addr) (c1 : Addr) (w : World) (R : Value → World → Prop) :
    F_frame_Stack_Chain_1 b c0 c1 w (fun r w1 => R (.bool r) w1) = den Try.prog Try.f36.ntmps G_frame_Stack_Chain_1 (codeOf Try.f36) [] (postD Try.prog Try.f36.results.toList R) (entry [.int .i64 b, .pointer (some c0), .pointer (some c1)] 0) w := by kernel_rfl

theorem C_frame_Stack_Chain_1.of {b : Int} {c0 : Addr} {c1 : Addr} {w : World} {R : Bool → World → Prop} (h : F_frame_Stack_Chain_1 b c0 c1 w R) : C_frame_Stack_Chain_1 b c0 c1 w R := by
  refine (calls_of_den (c := codeOf Try.f36) seat_ok seat_mixed Try.func36 (by kernel_rfl) loops_frame_Stack_Chain_1 (args := [.int .i64 b, .pointer (some c0), .pointer (some c1)]) rfl (R := fun v w1 => ∃ (r : Bool), v = (.bool r : Value) ∧ R r w1) ?_).mono ?_
  · rw [← den_frame_Stack_Chain_1]
    have e : (fun r w1 => ∃ (r' : Bool), (.bool r : Value) = (.bool r' : Value) ∧ R r' w1) = R := by
      funext r w1
      exact propext ⟨fun ⟨r', he, h⟩ => by first | (simp at he; simp_all) | (cases he; exact h), fun h => ⟨_, rfl, h⟩⟩
    simpa only [e] using h
  · rintro en w1 ⟨v, he, r, rfl, h⟩
    exact ⟨_, he, h⟩

def F_frame_Stack_prev (sx : Option Addr) (basex : Int) (w : World) (R : Int → World → Prop) : Prop :=
  C_frame_Stack_word sx basex w fun t7 w1 =>
  R (IntKind.i64.wrap (t7 - (1 : Int))) w1

def G_frame_Stack_prev : Gen where
  loop := lookL []
  plan := fun _ => none

theorem loops_frame_Stack_prev : LoopOk Try.prog Try.f37.ntmps G_frame_Stack_prev (codeOf Try.f37) := loopOk_none fun _ => rfl

theorem den_frame_Stack_prev (sx : Option Addr) (basex : Int) (w : World) (R : Value → World → Prop) :
    F_frame_Stack_prev sx basex w (fun r w1 => R (.int .i64 r) w1) = den Try.prog Try.f37.ntmps G_frame_Stack_prev (codeOf Try.f37) [] (postD Try.prog Try.f37.results.toList R) (entry [.pointer sx, .int .i64 basex] 0) w := by kernel_rfl

theorem C_frame_Stack_prev.of {sx : Option Addr} {basex : Int} {w : World} {R : Int → World → Prop} (h : F_frame_Stack_prev sx basex w R) : C_frame_Stack_prev sx basex w R := by
  refine (calls_of_den (c := codeOf Try.f37) seat_ok seat_mixed Try.func37 (by kernel_rfl) loops_frame_Stack_prev (args := [.pointer sx, .int .i64 basex]) rfl (R := fun v w1 => ∃ (r : Int), v = (.int .i64 r : Value) ∧ R r w1) ?_).mono ?_
  · rw [← den_frame_Stack_prev]
    have e : (fun r w1 => ∃ (r' : Int), (.int .i64 r : Value) = (.int .i64 r' : Value) ∧ R r' w1) = R := by
      funext r w1
      exact propext ⟨fun ⟨r', he, h⟩ => by first | (simp at he; simp_all) | (cases he; exact h), fun h => ⟨_, rfl, h⟩⟩
    simpa only [e] using h
  · rintro en w1 ⟨v, he, r, rfl, h⟩
    exact ⟨_, he, h⟩

structure S_frame_Stack_row_L1 where
  outP : Option Addr
  outN : Nat
  outC : Nat
  t12 : Int

/-- One round. -/
def B_frame_Stack_row_L1 (sx_1 : Option Addr) (basex_1 : Int) (t11_1 : Int) (s : S_frame_Stack_row_L1) (w : World) (Kn : S_frame_Stack_row_L1 → World → Prop) (Kx0 : Option Addr → Nat → Nat → World → Prop) : Prop :=
  If (decide ((s.t12 : Int) < t11_1))
  (NN sx_1 fun a =>
  ∃ words : Option Addr, w.cell? (a.add 0) = some (.pointer words) ∧
  C_room_Room_Get words (IntKind.i64.wrap ((IntKind.i64.wrap (basex_1 + (4 : Int))) + (s.t12 : Int))) w fun t240 t241 w1_1 =>
  BSl Try.prog 32 1 [(0, .int .u64 t240)] w1_1 fun t29P t29N t29C w1_2 =>
  App Try.prog #[32, 32] 32 #[.slice s.outP s.outN s.outC, .slice t29P t29N t29C] w1_2 fun t30P t30N t30C w1_3 =>
  Kn ⟨t30P, t30N, t30C, (IntKind.i64.wrap ((s.t12 : Int) + (1 : Int)))⟩ w1_3)
  (Kx0 s.outP s.outN s.outC w)

def F_frame_Stack_row_L1 (sx_1 : Option Addr) (basex_1 : Int) (t11_1 : Int) (s : S_frame_Stack_row_L1) (w : World) (Kx0 : Option Addr → Nat → Nat → World → Prop) : Prop :=
  LoopS (fun s w Kn => B_frame_Stack_row_L1 sx_1 basex_1 t11_1 s w Kn Kx0) s w

def F_frame_Stack_row (sx : Option Addr) (basex : Int) (w : World) (R : Option Addr → Nat → Nat → World → Prop) : Prop :=
  C_frame_Stack_size sx basex w fun t11 w1 =>
  F_frame_Stack_row_L1 sx basex t11 ⟨none, 0, 0, (0 : Int)⟩ w1
  (fun outP_2 outN_2 outC_2 w1_4 =>
  R outP_2 outN_2 outC_2 w1_4)

def lit_frame_Stack_row_L1 (f : (Option Addr) × Int × Int) (s : S_frame_Stack_row_L1) : Env := [⟨0, .pointer f.1, none⟩, ⟨1, .int .i64 f.2.1, none⟩, ⟨11, .int .i64 f.2.2, none⟩, ⟨5, .slice s.outP s.outN s.outC, none⟩, ⟨12, .int .i64 s.t12, none⟩]

def dec_frame_Stack_row_L1 (e : Env) (K : ((Option Addr) × Int × Int) → S_frame_Stack_row_L1 → Prop) : Prop :=
  onV (getV e 0) fun u1 =>
  asP u1 fun sx_1 =>
  onV (getV e 1) fun u2 =>
  asI .i64 u2 fun basex_1 =>
  onV (getV e 11) fun u3 =>
  asI .i64 u3 fun t11_1 =>
  onV (getV e 5) fun u4 =>
  asS u4 fun outP outN outC =>
  onV (getV e 12) fun u5 =>
  asI .i64 u5 fun t12 =>
    K (sx_1, basex_1, t11_1) ⟨outP, outN, outC, t12⟩

theorem dec_frame_Stack_row_L1_ok {N : Nat} (e : Env) (a : Act) (K : ((Option Addr) × Int × Int) → S_frame_Stack_row_L1 → Prop) (hr : Rep N a e) (h0 : dec_frame_Stack_row_L1 e K) : ∃ f s, K f s ∧ Rep N a (lit_frame_Stack_row_L1 f s) := by
  unfold dec_frame_Stack_row_L1 at h0
  obtain ⟨u1, g0, h1⟩ := onV_elim h0
  obtain ⟨sx_1, rfl, h2⟩ := asP_elim h1
  obtain ⟨u2, g1, h3⟩ := onV_elim h2
  obtain ⟨basex_1, rfl, h4⟩ := asI_elim h3
  obtain ⟨u3, g11, h5⟩ := onV_elim h4
  obtain ⟨t11_1, rfl, h6⟩ := asI_elim h5
  obtain ⟨u4, g5, h7⟩ := onV_elim h6
  obtain ⟨outP, outN, outC, rfl, h8⟩ := asS_elim h7
  obtain ⟨u5, g12, h9⟩ := onV_elim h8
  obtain ⟨t12, rfl, h10⟩ := asI_elim h9
  exact ⟨_, _, h10, rep_less hr (by simp [lit_frame_Stack_row_L1, g0, g1, g11, g5, g12])⟩

def spec_frame_Stack_row_L1 (Q : Post) (e : Env) (w : World) : Prop :=
  dec_frame_Stack_row_L1 e fun f s => F_frame_Stack_row_L1 f.1 f.2.1 f.2.2 s w (fun outP_1 outN_1 outC_1 w1 => Q (.exit 0) [⟨5, .slice outP_1 outN_1 outC_1, none⟩] w1)

def G_frame_Stack_row : Gen where
  loop := lookL [([false, true, false, true, true], spec_frame_Stack_row_L1)]
  plan := fun _ => none

def dx_frame_Stack_row_L1_0 (e : Env) (K : ((Option Addr) × Int × Int) → Option Addr → Nat → Nat → Prop) : Prop :=
  onV (getV e 0) fun u1 =>
  asP u1 fun sx_1 =>
  onV (getV e 1) fun u2 =>
  asI .i64 u2 fun basex_1 =>
  onV (getV e 11) fun u3 =>
  asI .i64 u3 fun t11_1 =>
  onV (getV e 5) fun u4 =>
  asS u4 fun outP_1 outN_1 outC_1 =>
    K (sx_1, basex_1, t11_1) outP_1 outN_1 outC_1

theorem body_frame_Stack_row_L1 (f : (Option Addr) × Int × Int) (s : S_frame_Stack_row_L1) (w : World) (Kn : ((Option Addr) × Int × Int) → S_frame_Stack_row_L1 → World → Prop) (Kx0 : ((Option Addr) × Int × Int) → Option Addr → Nat → Nat → World → Prop) :
    B_frame_Stack_row_L1 f.1 f.2.1 f.2.2 s w (fun s1 w1 => Kn f s1 w1) (fun outP_1 outN_1 outC_1 w1 => Kx0 f outP_1 outN_1 outC_1 w1) =
    den Try.prog Try.f38.ntmps G_frame_Stack_row (sub (codeOf Try.f38) [false, false, true, false, true, true]) [false, false, true, false, true, true] (roundQ (fun e w => dec_frame_Stack_row_L1 e fun f s => Kn f s w) (fun e w => False) (fun id e w => match Nat.beq id 0 with | true => dx_frame_Stack_row_L1_0 e fun f outP_1 outN_1 outC_1 => Kx0 f outP_1 outN_1 outC_1 w | false => False)) (lit_frame_Stack_row_L1 f s) w := by kernel_rfl

theorem ok_frame_Stack_row_L1 : OneOk Try.prog Try.f38.ntmps G_frame_Stack_row (codeOf Try.f38) [false, true, false, true, true] spec_frame_Stack_row_L1 := by
  intro c hc ih Q e w a hr h
  have hcc : sub (codeOf Try.f38) [false, false, true, false, true, true] = c := sub_of_codeAt hc
  obtain ⟨f, s, h, hrep⟩ := dec_frame_Stack_row_L1_ok e a _ hr h
  obtain ⟨J, μ, hj, hround⟩ := h
  refine loop_rule_deep seat_ok seat_mixed ih lit_frame_Stack_row_L1 dec_frame_Stack_row_L1 dec_frame_Stack_row_L1_ok hc f J μ (Kr := fun e w => False) (Kx := fun id e w => match Nat.beq id 0 with | true => (dx_frame_Stack_row_L1_0 e fun f1 outP_1 outN_1 outC_1 => f1 = f ∧ Q (.exit 0) [⟨5, .slice outP_1 outN_1 outC_1, none⟩] w) | false => False) ?_ ?_ ?_ s w a hj hrep
  · intro e a w hr h
    exact h.elim
  · intro id e a w hr h0
    (try dsimp only at h0)
    split at h0
    · rename_i hid
      obtain rfl := Nat.eq_of_beq_eq_true hid
      unfold dx_frame_Stack_row_L1_0 at h0
      obtain ⟨u1, g0, h1⟩ := onV_elim h0
      obtain ⟨sx_1, rfl, h2⟩ := asP_elim h1
      obtain ⟨u2, g1, h3⟩ := onV_elim h2
      obtain ⟨basex_1, rfl, h4⟩ := asI_elim h3
      obtain ⟨u3, g11, h5⟩ := onV_elim h4
      obtain ⟨t11_1, rfl, h6⟩ := asI_elim h5
      obtain ⟨u4, g5, h7⟩ := onV_elim h6
      obtain ⟨outP_1, outN_1, outC_1, rfl, h8⟩ := asS_elim h7
      obtain ⟨hf, hq⟩ := h8
      subst hf
      exact ⟨_, rep_less hr (by simp [g5]), hq⟩
    · exact h0.elim
  · intro s w hj
    have hb := hround s w hj
    rw [← hcc]
    have e1 := body_frame_Stack_row_L1 f s w (fun f1 s1 w1 => f1 = f ∧ J s1 w1 ∧ μ s1 w1 < μ s w) (fun f1 outP_1 outN_1 outC_1 w1 => f1 = f ∧ Q (.exit 0) [⟨5, .slice outP_1 outN_1 outC_1, none⟩] w1)
    simp only [true_and] at e1
    exact cast e1 hb

theorem loops_frame_Stack_row : LoopOk Try.prog Try.f38.ntmps G_frame_Stack_row (codeOf Try.f38) := loopOk_list rfl ⟨ok_frame_Stack_row_L1, trivial⟩

theorem den_frame_Stack_row (sx : Option Addr) (basex : Int) (w : World) (R : Value → World → Prop) :
    F_frame_Stack_row sx basex w (fun rP rN rC w1 => R (.slice rP rN rC) w1) = den Try.prog Try.f38.ntmps G_frame_Stack_row (codeOf Try.f38) [] (postD Try.prog Try.f38.results.toList R) (entry [.pointer sx, .int .i64 basex] 0) w := by kernel_rfl

theorem C_frame_Stack_row.of {sx : Option Addr} {basex : Int} {w : World} {R : Option Addr → Nat → Nat → World → Prop} (h : F_frame_Stack_row sx basex w R) : C_frame_Stack_row sx basex w R := by
  refine (calls_of_den (c := codeOf Try.f38) seat_ok seat_mixed Try.func38 (by kernel_rfl) loops_frame_Stack_row (args := [.pointer sx, .int .i64 basex]) rfl (R := fun v w1 => ∃ (rP : Option Addr) (rN : Nat) (rC : Nat), v = (.slice rP rN rC : Value) ∧ R rP rN rC w1) ?_).mono ?_
  · rw [← den_frame_Stack_row]
    have e : (fun rP rN rC w1 => ∃ (rP' : Option Addr) (rN' : Nat) (rC' : Nat), (.slice rP rN rC : Value) = (.slice rP' rN' rC' : Value) ∧ R rP' rN' rC' w1) = R := by
      funext rP rN rC w1
      exact propext ⟨fun ⟨rP', rN', rC', he, h⟩ => by first | (simp at he; simp_all) | (cases he; exact h), fun h => ⟨_, _, _, rfl, h⟩⟩
    simpa only [e] using h
  · rintro en w1 ⟨v, he, rP, rN, rC, rfl, h⟩
    exact ⟨_, _, _, he, h⟩

def F_frame_Stack_cont (sx : Option Addr) (basex : Int) (w : World) (R : Int → Int → World → Prop) : Prop :=
  New w (.cells #[.int .i64 0, .int .i64 0] 31) fun r w1 =>
  C_frame_Stack_word sx (IntKind.i64.wrap (basex + (1 : Int))) w1 fun t8 w1_1 =>
  C_frame_Stack_word sx (IntKind.i64.wrap (basex + (2 : Int))) w1_1 fun t12 w1_2 =>
  St w1_2 ((⟨r, 0, none⟩ : Addr).add 0) (.int .i64 t8) fun w1_3 =>
  St w1_3 ((⟨r, 0, none⟩ : Addr).add 1) (.int .i64 t12) fun w1_4 =>
  ∃ r_1 : Int, w1_4.cell? ((⟨r, 0, none⟩ : Addr).add 0) = some (.int .i64 r_1) ∧
  ∃ r_2 : Int, w1_4.cell? ((⟨r, 0, none⟩ : Addr).add 1) = some (.int .i64 r_2) ∧
  R r_1 r_2 w1_4

def G_frame_Stack_cont : Gen where
  loop := lookL []
  plan := fun _ => none

theorem loops_frame_Stack_cont : LoopOk Try.prog Try.f39.ntmps G_frame_Stack_cont (codeOf Try.f39) := loopOk_none fun _ => rfl

theorem den_frame_Stack_cont (sx : Option Addr) (basex : Int) (w : World) (R : Value → World → Prop) :
    F_frame_Stack_cont sx basex w (fun r0 r1 w1 => R (.agg #[.int .i64 r0, .int .i64 r1]) w1) = den Try.prog Try.f39.ntmps G_frame_Stack_cont (codeOf Try.f39) [] (postD Try.prog Try.f39.results.toList R) (entry [.pointer sx, .int .i64 basex] 0) w := by kernel_rfl

theorem C_frame_Stack_cont.of {sx : Option Addr} {basex : Int} {w : World} {R : Int → Int → World → Prop} (h : F_frame_Stack_cont sx basex w R) : C_frame_Stack_cont sx basex w R := by
  refine (calls_of_den (c := codeOf Try.f39) seat_ok seat_mixed Try.func39 (by kernel_rfl) loops_frame_Stack_cont (args := [.pointer sx, .int .i64 basex]) rfl (R := fun v w1 => ∃ (r0 : Int) (r1 : Int), v = (.agg #[.int .i64 r0, .int .i64 r1] : Value) ∧ R r0 r1 w1) ?_).mono ?_
  · rw [← den_frame_Stack_cont]
    have e : (fun r0 r1 w1 => ∃ (r0' : Int) (r1' : Int), (.agg #[.int .i64 r0, .int .i64 r1] : Value) = (.agg #[.int .i64 r0', .int .i64 r1'] : Value) ∧ R r0' r1' w1) = R := by
      funext r0 r1 w1
      exact propext ⟨fun ⟨r0', r1', he, h⟩ => by first | (simp at he; simp_all) | (cases he; exact h), fun h => ⟨_, _, rfl, h⟩⟩
    simpa only [e] using h
  · rintro en w1 ⟨v, he, r0, r1, rfl, h⟩
    exact ⟨_, _, he, h⟩

def F_frame_Stack_last (sx : Option Addr) (w : World) (R : Option Addr → Int → World → Prop) : Prop :=
  C_frame_Stack_made sx w fun t6 w1 =>
  If (!t6)
  (R none (6 : Int) w1)
  (NN sx fun a =>
  ∃ lP : Option Addr, ∃ lN : Nat, ∃ lC : Nat, w1.cell? (a.add 2) = some (.slice lP lN lC) ∧
  If ((lN : Int) == (0 : Int))
  (R none (4 : Int) w1)
  (NN sx fun a_1 =>
  ∃ lP_1 : Option Addr, ∃ lN_1 : Nat, ∃ lC_1 : Nat, (drw w1).cell? (a_1.add 2) = some (.slice lP_1 lN_1 lC_1) ∧
  NN sx fun a_2 =>
  ∃ lP_2 : Option Addr, ∃ lN_2 : Nat, ∃ lC_2 : Nat, (drw w1).cell? (a_2.add 2) = some (.slice lP_2 lN_2 lC_2) ∧
  0 ≤ (IntKind.i64.wrap ((lN_2 : Int) - (1 : Int))) ∧ (IntKind.i64.wrap ((lN_2 : Int) - (1 : Int))) < (lN_1 : Int) ∧ NN lP_1 fun a_3 =>
  R (some (a_3.add ((IntKind.i64.wrap ((lN_2 : Int) - (1 : Int))).toNat * 9))) (0 : Int) (drw w1)))

def G_frame_Stack_last : Gen where
  loop := lookL []
  plan := fun id =>
    bif Nat.beq id 5 then some ([0, 1, 3, 7, 0, 16, 48, 112, 240, 496, 1023, 2047, 4095], .take 0 (.take 1 (.take 2 (.take 3 (.take 4 (.take 5 (.take 6 (.take 7 (.take 8 (.take 9 (.take 10 (.take 11 (.take 12 .done))))))))))))) else none

theorem loops_frame_Stack_last : LoopOk Try.prog Try.f40.ntmps G_frame_Stack_last (codeOf Try.f40) := loopOk_none fun _ => rfl

theorem den_frame_Stack_last (sx : Option Addr) (w : World) (R : Value → World → Prop) :
    F_frame_Stack_last sx w (fun r0 r1 w1 => R (.tuple #[.pointer r0, .int .i64 r1]) w1) = den Try.prog Try.f40.ntmps G_frame_Stack_last (codeOf Try.f40) [] (postD Try.prog Try.f40.results.toList R) (entry [.pointer sx] 0) w := by kernel_rfl

theorem C_frame_Stack_last.of {sx : Option Addr} {w : World} {R : Option Addr → Int → World → Prop} (h : F_frame_Stack_last sx w R) : C_frame_Stack_last sx w R := by
  refine (calls_of_den (c := codeOf Try.f40) seat_ok seat_mixed Try.func40 (by kernel_rfl) loops_frame_Stack_last (args := [.pointer sx]) rfl (R := fun v w1 => ∃ (r0 : Option Addr) (r1 : Int), v = (.tuple #[.pointer r0, .int .i64 r1] : Value) ∧ R r0 r1 w1) ?_).mono ?_
  · rw [← den_frame_Stack_last]
    have e : (fun r0 r1 w1 => ∃ (r0' : Option Addr) (r1' : Int), (.tuple #[.pointer r0, .int .i64 r1] : Value) = (.tuple #[.pointer r0', .int .i64 r1'] : Value) ∧ R r0' r1' w1) = R := by
      funext r0 r1 w1
      exact propext ⟨fun ⟨r0', r1', he, h⟩ => by first | (simp at he; simp_all) | (cases he; exact h), fun h => ⟨_, _, rfl, h⟩⟩
    simpa only [e] using h
  · rintro en w1 ⟨v, he, r0, r1, rfl, h⟩
    exact ⟨_, _, he, h⟩

structure S_ref22_SameWords_L1 where
  i : Int

/-- One round. -/
def B_ref22_SameWords_L1 (aP_1 : Option Addr) (aN_1 : Nat) (aC_1 : Nat) (bP_1 : Option Addr) (bN_1 : Nat) (bC_1 : Nat) (s : S_ref22_SameWords_L1) (w : World) (Kn : S_ref22_SameWords_L1 → World → Prop) (Kx0 : World → Prop) (Kr : Bool → World → Prop) : Prop :=
  If (decide ((s.i : Int) < (aN_1 : Int)))
  (0 ≤ (s.i : Int) ∧ (s.i : Int) < (aN_1 : Int) ∧ NN aP_1 fun a =>
  ∃ t20 : Int, (drw w).cell? (a.add ((s.i : Int).toNat * 1)) = some (.int .u64 t20) ∧
  0 ≤ (s.i : Int) ∧ (s.i : Int) < (bN_1 : Int) ∧ NN bP_1 fun a_1 =>
  ∃ t24 : Int, (drw w).cell? (a_1.add ((s.i : Int).toNat * 1)) = some (.int .u64 t24) ∧
  If (t20 != t24)
  (Kr false (drw w))
  (Kn ⟨(IntKind.i64.wrap ((s.i : Int) + (1 : Int)))⟩ (drw w)))
  (Kx0 w)

def F_ref22_SameWords_L1 (aP_1 : Option Addr) (aN_1 : Nat) (aC_1 : Nat) (bP_1 : Option Addr) (bN_1 : Nat) (bC_1 : Nat) (s : S_ref22_SameWords_L1) (w : World) (Kx0 : World → Prop) (Kr : Bool → World → Prop) : Prop :=
  LoopS (fun s w Kn => B_ref22_SameWords_L1 aP_1 aN_1 aC_1 bP_1 bN_1 bC_1 s w Kn Kx0 Kr) s w

def F_ref22_SameWords (aP : Option Addr) (aN : Nat) (aC : Nat) (bP : Option Addr) (bN : Nat) (bC : Nat) (w : World) (R : Bool → World → Prop) : Prop :=
  If ((aN : Int) != (bN : Int))
  (R false w)
  (F_ref22_SameWords_L1 aP aN aC bP bN bC ⟨(0 : Int)⟩ w
  (fun w1 =>
  R true w1)
  (fun t4_1 w1_1 =>
  R t4_1 w1_1))

def lit_ref22_SameWords_L1 (f : (Option Addr) × Nat × Nat × (Option Addr) × Nat × Nat) (s : S_ref22_SameWords_L1) : Env := [⟨0, .slice f.1 f.2.1 f.2.2.1, none⟩, ⟨1, .slice f.2.2.2.1 f.2.2.2.2.1 f.2.2.2.2.2, none⟩, ⟨5, .int .i64 s.i, none⟩]

def dec_ref22_SameWords_L1 (e : Env) (K : ((Option Addr) × Nat × Nat × (Option Addr) × Nat × Nat) → S_ref22_SameWords_L1 → Prop) : Prop :=
  onV (getV e 0) fun u1 =>
  asS u1 fun aP_1 aN_1 aC_1 =>
  onV (getV e 1) fun u2 =>
  asS u2 fun bP_1 bN_1 bC_1 =>
  onV (getV e 5) fun u3 =>
  asI .i64 u3 fun i =>
    K (aP_1, aN_1, aC_1, bP_1, bN_1, bC_1) ⟨i⟩

theorem dec_ref22_SameWords_L1_ok {N : Nat} (e : Env) (a : Act) (K : ((Option Addr) × Nat × Nat × (Option Addr) × Nat × Nat) → S_ref22_SameWords_L1 → Prop) (hr : Rep N a e) (h0 : dec_ref22_SameWords_L1 e K) : ∃ f s, K f s ∧ Rep N a (lit_ref22_SameWords_L1 f s) := by
  unfold dec_ref22_SameWords_L1 at h0
  obtain ⟨u1, g0, h1⟩ := onV_elim h0
  obtain ⟨aP_1, aN_1, aC_1, rfl, h2⟩ := asS_elim h1
  obtain ⟨u2, g1, h3⟩ := onV_elim h2
  obtain ⟨bP_1, bN_1, bC_1, rfl, h4⟩ := asS_elim h3
  obtain ⟨u3, g5, h5⟩ := onV_elim h4
  obtain ⟨i, rfl, h6⟩ := asI_elim h5
  exact ⟨_, _, h6, rep_less hr (by simp [lit_ref22_SameWords_L1, g0, g1, g5])⟩

def spec_ref22_SameWords_L1 (Q : Post) (e : Env) (w : World) : Prop :=
  dec_ref22_SameWords_L1 e fun f s => F_ref22_SameWords_L1 f.1 f.2.1 f.2.2.1 f.2.2.2.1 f.2.2.2.2.1 f.2.2.2.2.2 s w (fun w1 => Q (.exit 0) [] w1) (fun t4 w1 => Q .ret [⟨4, .bool t4, none⟩] w1)

def G_ref22_SameWords : Gen where
  loop := lookL [([false, true, false, true, true], spec_ref22_SameWords_L1)]
  plan := fun id =>
    bif Nat.beq id 6 then some ([0, 0, 3, 7, 0, 0, 48, 112, 255], .take 0 (.take 1 (.take 2 (.take 3 (.take 4 (.take 5 (.take 6 (.take 7 (.take 8 .done))))))))) else none

def dx_ref22_SameWords_L1_0 (e : Env) (K : ((Option Addr) × Nat × Nat × (Option Addr) × Nat × Nat) → Prop) : Prop :=
  onV (getV e 0) fun u1 =>
  asS u1 fun aP_1 aN_1 aC_1 =>
  onV (getV e 1) fun u2 =>
  asS u2 fun bP_1 bN_1 bC_1 =>
    K (aP_1, aN_1, aC_1, bP_1, bN_1, bC_1)

def dx_ref22_SameWords_L1_ret (e : Env) (K : ((Option Addr) × Nat × Nat × (Option Addr) × Nat × Nat) → Bool → Prop) : Prop :=
  onV (getV e 0) fun u1 =>
  asS u1 fun aP_1 aN_1 aC_1 =>
  onV (getV e 1) fun u2 =>
  asS u2 fun bP_1 bN_1 bC_1 =>
  onV (getV e 4) fun u3 =>
  asB u3 fun t4 =>
    K (aP_1, aN_1, aC_1, bP_1, bN_1, bC_1) t4

theorem body_ref22_SameWords_L1 (f : (Option Addr) × Nat × Nat × (Option Addr) × Nat × Nat) (s : S_ref22_SameWords_L1) (w : World) (Kn : ((Option Addr) × Nat × Nat × (Option Addr) × Nat × Nat) → S_ref22_SameWords_L1 → World → Prop) (Kx0 : ((Option Addr) × Nat × Nat × (Option Addr) × Nat × Nat) → World → Prop) (Kr : ((Option Addr) × Nat × Nat × (Option Addr) × Nat × Nat) → Bool → World → Prop) :
    B_ref22_SameWords_L1 f.1 f.2.1 f.2.2.1 f.2.2.2.1 f.2.2.2.2.1 f.2.2.2.2.2 s w (fun s1 w1 => Kn f s1 w1) (fun w1 => Kx0 f w1) (fun t4 w1 => Kr f t4 w1) =
    den Try.prog Try.f41.ntmps G_ref22_SameWords (sub (codeOf Try.f41) [false, false, true, false, true, true]) [false, false, true, false, true, true] (roundQ (fun e w => dec_ref22_SameWords_L1 e fun f s => Kn f s w) (fun e w => dx_ref22_SameWords_L1_ret e fun f t4 => Kr f t4 w) (fun id e w => match Nat.beq id 0 with | true => dx_ref22_SameWords_L1_0 e fun f => Kx0 f w | false => False)) (lit_ref22_SameWords_L1 f s) w := by kernel_rfl

theorem ok_ref22_SameWords_L1 : OneOk Try.prog Try.f41.ntmps G_ref22_SameWords (codeOf Try.f41) [false, true, false, true, true] spec_ref22_SameWords_L1 := by
  intro c hc ih Q e w a hr h
  have hcc : sub (codeOf Try.f41) [false, false, true, false, true, true] = c := sub_of_codeAt hc
  obtain ⟨f, s, h, hrep⟩ := dec_ref22_SameWords_L1_ok e a _ hr h
  obtain ⟨J, μ, hj, hround⟩ := h
  refine loop_rule_deep seat_ok seat_mixed ih lit_ref22_SameWords_L1 dec_ref22_SameWords_L1 dec_ref22_SameWords_L1_ok hc f J μ (Kr := fun e w => dx_ref22_SameWords_L1_ret e fun f1 t4 => f1 = f ∧ Q .ret [⟨4, .bool t4, none⟩] w) (Kx := fun id e w => match Nat.beq id 0 with | true => (dx_ref22_SameWords_L1_0 e fun f1 => f1 = f ∧ Q (.exit 0) [] w) | false => False) ?_ ?_ ?_ s w a hj hrep
  · intro e a w hr h0
    unfold dx_ref22_SameWords_L1_ret at h0
    obtain ⟨u1, g0, h1⟩ := onV_elim h0
    obtain ⟨aP_1, aN_1, aC_1, rfl, h2⟩ := asS_elim h1
    obtain ⟨u2, g1, h3⟩ := onV_elim h2
    obtain ⟨bP_1, bN_1, bC_1, rfl, h4⟩ := asS_elim h3
    obtain ⟨u3, g4, h5⟩ := onV_elim h4
    obtain ⟨t4, rfl, h6⟩ := asB_elim h5
    obtain ⟨hf, hq⟩ := h6
    subst hf
    exact ⟨_, rep_less hr (by simp [g4]), hq⟩
  · intro id e a w hr h0
    (try dsimp only at h0)
    split at h0
    · rename_i hid
      obtain rfl := Nat.eq_of_beq_eq_true hid
      unfold dx_ref22_SameWords_L1_0 at h0
      obtain ⟨u1, g0, h1⟩ := onV_elim h0
      obtain ⟨aP_1, aN_1, aC_1, rfl, h2⟩ := asS_elim h1
      obtain ⟨u2, g1, h3⟩ := onV_elim h2
      obtain ⟨bP_1, bN_1, bC_1, rfl, h4⟩ := asS_elim h3
      obtain ⟨hf, hq⟩ := h4
      subst hf
      exact ⟨_, rep_less hr (by simp), hq⟩
    · exact h0.elim
  · intro s w hj
    have hb := hround s w hj
    rw [← hcc]
    have e1 := body_ref22_SameWords_L1 f s w (fun f1 s1 w1 => f1 = f ∧ J s1 w1 ∧ μ s1 w1 < μ s w) (fun f1 w1 => f1 = f ∧ Q (.exit 0) [] w1) (fun f1 t4 w1 => f1 = f ∧ Q .ret [⟨4, .bool t4, none⟩] w1)
    simp only [true_and] at e1
    exact cast e1 hb

theorem loops_ref22_SameWords : LoopOk Try.prog Try.f41.ntmps G_ref22_SameWords (codeOf Try.f41) := loopOk_list rfl ⟨ok_ref22_SameWords_L1, trivial⟩

theorem den_ref22_SameWords (aP : Option Addr) (aN : Nat) (aC : Nat) (bP : Option Addr) (bN : Nat) (bC : Nat) (w : World) (R : Value → World → Prop) :
    F_ref22_SameWords aP aN aC bP bN bC w (fun r w1 => R (.bool r) w1) = den Try.prog Try.f41.ntmps G_ref22_SameWords (codeOf Try.f41) [] (postD Try.prog Try.f41.results.toList R) (entry [.slice aP aN aC, .slice bP bN bC] 0) w := by kernel_rfl

theorem C_ref22_SameWords.of {aP : Option Addr} {aN : Nat} {aC : Nat} {bP : Option Addr} {bN : Nat} {bC : Nat} {w : World} {R : Bool → World → Prop} (h : F_ref22_SameWords aP aN aC bP bN bC w R) : C_ref22_SameWords aP aN aC bP bN bC w R := by
  refine (calls_of_den (c := codeOf Try.f41) seat_ok seat_mixed Try.func41 (by kernel_rfl) loops_ref22_SameWords (args := [.slice aP aN aC, .slice bP bN bC]) rfl (R := fun v w1 => ∃ (r : Bool), v = (.bool r : Value) ∧ R r w1) ?_).mono ?_
  · rw [← den_ref22_SameWords]
    have e : (fun r w1 => ∃ (r' : Bool), (.bool r : Value) = (.bool r' : Value) ∧ R r' w1) = R := by
      funext r w1
      exact propext ⟨fun ⟨r', he, h⟩ => by first | (simp at he; simp_all) | (cases he; exact h), fun h => ⟨_, rfl, h⟩⟩
    simpa only [e] using h
  · rintro en w1 ⟨v, he, r, rfl, h⟩
    exact ⟨_, he, h⟩

def F_room_Room_Limit (m : Option Addr) (w : World) (R : Int → World → Prop) : Prop :=
  If m.isNone
  (R (0 : Int) w)
  (NN m fun a =>
  ∃ limitx : Int, w.cell? (a.add 1) = some (.int .i64 limitx) ∧
  R limitx w)

def G_room_Room_Limit : Gen where
  loop := lookL []
  plan := fun _ => none

theorem loops_room_Room_Limit : LoopOk Try.prog Try.f42.ntmps G_room_Room_Limit (codeOf Try.f42) := loopOk_none fun _ => rfl

theorem den_room_Room_Limit (m : Option Addr) (w : World) (R : Value → World → Prop) :
    F_room_Room_Limit m w (fun r w1 => R (.int .i64 r) w1) = den Try.prog Try.f42.ntmps G_room_Room_Limit (codeOf Try.f42) [] (postD Try.prog Try.f42.results.toList R) (entry [.pointer m] 0) w := by kernel_rfl

theorem C_room_Room_Limit.of {m : Option Addr} {w : World} {R : Int → World → Prop} (h : F_room_Room_Limit m w R) : C_room_Room_Limit m w R := by
  refine (calls_of_den (c := codeOf Try.f42) seat_ok seat_mixed Try.func42 (by kernel_rfl) loops_room_Room_Limit (args := [.pointer m]) rfl (R := fun v w1 => ∃ (r : Int), v = (.int .i64 r : Value) ∧ R r w1) ?_).mono ?_
  · rw [← den_room_Room_Limit]
    have e : (fun r w1 => ∃ (r' : Int), (.int .i64 r : Value) = (.int .i64 r' : Value) ∧ R r' w1) = R := by
      funext r w1
      exact propext ⟨fun ⟨r', he, h⟩ => by first | (simp at he; simp_all) | (cases he; exact h), fun h => ⟨_, rfl, h⟩⟩
    simpa only [e] using h
  · rintro en w1 ⟨v, he, r, rfl, h⟩
    exact ⟨_, he, h⟩

def F_room_Room_Len (m : Option Addr) (w : World) (R : Int → World → Prop) : Prop :=
  If m.isNone
  (R (0 : Int) w)
  (NN m fun a =>
  ∃ lP : Option Addr, ∃ lN : Nat, ∃ lC : Nat, w.cell? (a.add 0) = some (.slice lP lN lC) ∧
  R (lN : Int) w)

def G_room_Room_Len : Gen where
  loop := lookL []
  plan := fun _ => none

theorem loops_room_Room_Len : LoopOk Try.prog Try.f43.ntmps G_room_Room_Len (codeOf Try.f43) := loopOk_none fun _ => rfl

theorem den_room_Room_Len (m : Option Addr) (w : World) (R : Value → World → Prop) :
    F_room_Room_Len m w (fun r w1 => R (.int .i64 r) w1) = den Try.prog Try.f43.ntmps G_room_Room_Len (codeOf Try.f43) [] (postD Try.prog Try.f43.results.toList R) (entry [.pointer m] 0) w := by kernel_rfl

theorem C_room_Room_Len.of {m : Option Addr} {w : World} {R : Int → World → Prop} (h : F_room_Room_Len m w R) : C_room_Room_Len m w R := by
  refine (calls_of_den (c := codeOf Try.f43) seat_ok seat_mixed Try.func43 (by kernel_rfl) loops_room_Room_Len (args := [.pointer m]) rfl (R := fun v w1 => ∃ (r : Int), v = (.int .i64 r : Value) ∧ R r w1) ?_).mono ?_
  · rw [← den_room_Room_Len]
    have e : (fun r w1 => ∃ (r' : Int), (.int .i64 r : Value) = (.int .i64 r' : Value) ∧ R r' w1) = R := by
      funext r w1
      exact propext ⟨fun ⟨r', he, h⟩ => by first | (simp at he; simp_all) | (cases he; exact h), fun h => ⟨_, rfl, h⟩⟩
    simpa only [e] using h
  · rintro en w1 ⟨v, he, r, rfl, h⟩
    exact ⟨_, he, h⟩

def F_room_Room_Grow (m : Option Addr) (n : Int) (w : World) (R : Int → World → Prop) : Prop :=
  If m.isNone
  (R (6 : Int) w)
  (If (decide (n < (0 : Int)))
  (R (1 : Int) w)
  (NN m fun a =>
  ∃ limitx : Int, (drw w).cell? (a.add 1) = some (.int .i64 limitx) ∧
  NN m fun a_1 =>
  ∃ lP : Option Addr, ∃ lN : Nat, ∃ lC : Nat, (drw w).cell? (a_1.add 0) = some (.slice lP lN lC) ∧
  If (decide (n > (IntKind.i64.wrap (limitx - (lN : Int)))))
  (R (2 : Int) (drw w))
  (NN m fun a_2 =>
  ∃ lP_1 : Option Addr, ∃ lN_1 : Nat, ∃ lC_1 : Nat, (drw w).cell? (a_2.add 0) = some (.slice lP_1 lN_1 lC_1) ∧
  App Try.prog #[32, 3] 32 #[.slice lP_1 lN_1 lC_1, .int .i64 n] (drw w) fun t30P t30N t30C w1 =>
  NN m fun a_3 =>
  St w1 ((a_3.add 0).add 0) (.slice t30P t30N t30C) fun w1_1 =>
  C_room_Room_note m w1_1 fun w1_2 =>
  R (0 : Int) w1_2)))

def G_room_Room_Grow : Gen where
  loop := lookL []
  plan := fun id =>
    bif Nat.beq id 5 then some ([0, 0, 2, 6, 14, 0, 32, 96, 224, 480, 1022, 2047, 4095], .take 0 (.take 1 (.take 2 (.take 3 (.take 4 (.take 5 (.take 6 (.take 7 (.take 8 (.take 9 (.take 10 (.take 11 (.take 12 .done))))))))))))) else none

theorem loops_room_Room_Grow : LoopOk Try.prog Try.f44.ntmps G_room_Room_Grow (codeOf Try.f44) := loopOk_none fun _ => rfl

theorem den_room_Room_Grow (m : Option Addr) (n : Int) (w : World) (R : Value → World → Prop) :
    F_room_Room_Grow m n w (fun r w1 => R (.int .i64 r) w1) = den Try.prog Try.f44.ntmps G_room_Room_Grow (codeOf Try.f44) [] (postD Try.prog Try.f44.results.toList R) (entry [.pointer m, .int .i64 n] 0) w := by kernel_rfl

theorem C_room_Room_Grow.of {m : Option Addr} {n : Int} {w : World} {R : Int → World → Prop} (h : F_room_Room_Grow m n w R) : C_room_Room_Grow m n w R := by
  refine (calls_of_den (c := codeOf Try.f44) seat_ok seat_mixed Try.func44 (by kernel_rfl) loops_room_Room_Grow (args := [.pointer m, .int .i64 n]) rfl (R := fun v w1 => ∃ (r : Int), v = (.int .i64 r : Value) ∧ R r w1) ?_).mono ?_
  · rw [← den_room_Room_Grow]
    have e : (fun r w1 => ∃ (r' : Int), (.int .i64 r : Value) = (.int .i64 r' : Value) ∧ R r' w1) = R := by
      funext r w1
      exact propext ⟨fun ⟨r', he, h⟩ => by first | (simp at he; simp_all) | (cases he; exact h), fun h => ⟨_, rfl, h⟩⟩
    simpa only [e] using h
  · rintro en w1 ⟨v, he, r, rfl, h⟩
    exact ⟨_, he, h⟩

def F_frame_Stack_set (sx : Option Addr) (i : Int) (n : Int) (w : World) (R : World → Prop) : Prop :=
  NN sx fun a =>
  ∃ words : Option Addr, w.cell? (a.add 0) = some (.pointer words) ∧
  C_room_Room_Set words i (IntKind.u64.wrap n) w fun t13 w1 =>
  R w1

def G_frame_Stack_set : Gen where
  loop := lookL []
  plan := fun _ => none

theorem loops_frame_Stack_set : LoopOk Try.prog Try.f45.ntmps G_frame_Stack_set (codeOf Try.f45) := loopOk_none fun _ => rfl

theorem den_frame_Stack_set (sx : Option Addr) (i : Int) (n : Int) (w : World) (R : Value → World → Prop) :
    F_frame_Stack_set sx i n w (fun w1 => R (.tuple #[]) w1) = den Try.prog Try.f45.ntmps G_frame_Stack_set (codeOf Try.f45) [] (postD Try.prog Try.f45.results.toList R) (entry [.pointer sx, .int .i64 i, .int .i64 n] 0) w := by kernel_rfl

theorem C_frame_Stack_set.of {sx : Option Addr} {i : Int} {n : Int} {w : World} {R : World → Prop} (h : F_frame_Stack_set sx i n w R) : C_frame_Stack_set sx i n w R := by
  refine (calls_of_den (c := codeOf Try.f45) seat_ok seat_mixed Try.func45 (by kernel_rfl) loops_frame_Stack_set (args := [.pointer sx, .int .i64 i, .int .i64 n]) rfl (R := fun v w1 => v = (.tuple #[] : Value) ∧ R w1) ?_).mono ?_
  · rw [← den_frame_Stack_set]
    simpa using h
  · rintro en w1 ⟨v, he, rfl, h⟩
    exact ⟨he, h⟩

def F_frame_Stack_size (sx : Option Addr) (basex : Int) (w : World) (R : Int → World → Prop) : Prop :=
  C_frame_Stack_word sx (IntKind.i64.wrap (basex + (3 : Int))) w fun t8 w1 =>
  R t8 w1

def G_frame_Stack_size : Gen where
  loop := lookL []
  plan := fun _ => none

theorem loops_frame_Stack_size : LoopOk Try.prog Try.f46.ntmps G_frame_Stack_size (codeOf Try.f46) := loopOk_none fun _ => rfl

theorem den_frame_Stack_size (sx : Option Addr) (basex : Int) (w : World) (R : Value → World → Prop) :
    F_frame_Stack_size sx basex w (fun r w1 => R (.int .i64 r) w1) = den Try.prog Try.f46.ntmps G_frame_Stack_size (codeOf Try.f46) [] (postD Try.prog Try.f46.results.toList R) (entry [.pointer sx, .int .i64 basex] 0) w := by kernel_rfl

theorem C_frame_Stack_size.of {sx : Option Addr} {basex : Int} {w : World} {R : Int → World → Prop} (h : F_frame_Stack_size sx basex w R) : C_frame_Stack_size sx basex w R := by
  refine (calls_of_den (c := codeOf Try.f46) seat_ok seat_mixed Try.func46 (by kernel_rfl) loops_frame_Stack_size (args := [.pointer sx, .int .i64 basex]) rfl (R := fun v w1 => ∃ (r : Int), v = (.int .i64 r : Value) ∧ R r w1) ?_).mono ?_
  · rw [← den_frame_Stack_size]
    have e : (fun r w1 => ∃ (r' : Int), (.int .i64 r : Value) = (.int .i64 r' : Value) ∧ R r' w1) = R := by
      funext r w1
      exact propext ⟨fun ⟨r', he, h⟩ => by first | (simp at he; simp_all) | (cases he; exact h), fun h => ⟨_, rfl, h⟩⟩
    simpa only [e] using h
  · rintro en w1 ⟨v, he, r, rfl, h⟩
    exact ⟨_, he, h⟩

def F_frame_Stack_slot (sx : Option Addr) (i : Int) (w : World) (R : Int → Int → World → Prop) : Prop :=
  C_frame_Stack_made sx w fun t8 w1 =>
  If (!t8)
  (R (0 : Int) (6 : Int) w1)
  (If (decide (i < (1 : Int)))
  (R (0 : Int) (4 : Int) w1)
  (C_frame_Stack_Slots sx w1 fun t16 w1_1 =>
  If (decide (i > t16))
  (R (0 : Int) (4 : Int) w1_1)
  (NN sx fun a =>
  ∃ env : Int, w1_1.cell? (a.add 1) = some (.int .i64 env) ∧
  R (IntKind.i64.wrap ((IntKind.i64.wrap ((IntKind.i64.wrap (env + (4 : Int))) + i)) - (1 : Int))) (0 : Int) w1_1)))

def G_frame_Stack_slot : Gen where
  loop := lookL []
  plan := fun _ => none

theorem loops_frame_Stack_slot : LoopOk Try.prog Try.f47.ntmps G_frame_Stack_slot (codeOf Try.f47) := loopOk_none fun _ => rfl

theorem den_frame_Stack_slot (sx : Option Addr) (i : Int) (w : World) (R : Value → World → Prop) :
    F_frame_Stack_slot sx i w (fun r0 r1 w1 => R (.tuple #[.int .i64 r0, .int .i64 r1]) w1) = den Try.prog Try.f47.ntmps G_frame_Stack_slot (codeOf Try.f47) [] (postD Try.prog Try.f47.results.toList R) (entry [.pointer sx, .int .i64 i] 0) w := by kernel_rfl

theorem C_frame_Stack_slot.of {sx : Option Addr} {i : Int} {w : World} {R : Int → Int → World → Prop} (h : F_frame_Stack_slot sx i w R) : C_frame_Stack_slot sx i w R := by
  refine (calls_of_den (c := codeOf Try.f47) seat_ok seat_mixed Try.func47 (by kernel_rfl) loops_frame_Stack_slot (args := [.pointer sx, .int .i64 i]) rfl (R := fun v w1 => ∃ (r0 : Int) (r1 : Int), v = (.tuple #[.int .i64 r0, .int .i64 r1] : Value) ∧ R r0 r1 w1) ?_).mono ?_
  · rw [← den_frame_Stack_slot]
    have e : (fun r0 r1 w1 => ∃ (r0' : Int) (r1' : Int), (.tuple #[.int .i64 r0, .int .i64 r1] : Value) = (.tuple #[.int .i64 r0', .int .i64 r1'] : Value) ∧ R r0' r1' w1) = R := by
      funext r0 r1 w1
      exact propext ⟨fun ⟨r0', r1', he, h⟩ => by first | (simp at he; simp_all) | (cases he; exact h), fun h => ⟨_, _, rfl, h⟩⟩
    simpa only [e] using h
  · rintro en w1 ⟨v, he, r0, r1, rfl, h⟩
    exact ⟨_, _, he, h⟩

def F_room_Room_Set (m : Option Addr) (i : Int) (wx : Int) (w : World) (R : Int → World → Prop) : Prop :=
  C_room_Room_has m i w fun t10 w1 =>
  If (t10 != (0 : Int))
  (R t10 w1)
  (NN m fun a =>
  ∃ lP : Option Addr, ∃ lN : Nat, ∃ lC : Nat, w1.cell? (a.add 0) = some (.slice lP lN lC) ∧
  0 ≤ i ∧ i < (lN : Int) ∧ NN lP fun a_1 =>
  St w1 ((a_1.add (i.toNat * 1)).add 0) (.int .u64 wx) fun w1_1 =>
  R (0 : Int) w1_1)

def G_room_Room_Set : Gen where
  loop := lookL []
  plan := fun _ => none

theorem loops_room_Room_Set : LoopOk Try.prog Try.f48.ntmps G_room_Room_Set (codeOf Try.f48) := loopOk_none fun _ => rfl

theorem den_room_Room_Set (m : Option Addr) (i : Int) (wx : Int) (w : World) (R : Value → World → Prop) :
    F_room_Room_Set m i wx w (fun r w1 => R (.int .i64 r) w1) = den Try.prog Try.f48.ntmps G_room_Room_Set (codeOf Try.f48) [] (postD Try.prog Try.f48.results.toList R) (entry [.pointer m, .int .i64 i, .int .u64 wx] 0) w := by kernel_rfl

theorem C_room_Room_Set.of {m : Option Addr} {i : Int} {wx : Int} {w : World} {R : Int → World → Prop} (h : F_room_Room_Set m i wx w R) : C_room_Room_Set m i wx w R := by
  refine (calls_of_den (c := codeOf Try.f48) seat_ok seat_mixed Try.func48 (by kernel_rfl) loops_room_Room_Set (args := [.pointer m, .int .i64 i, .int .u64 wx]) rfl (R := fun v w1 => ∃ (r : Int), v = (.int .i64 r : Value) ∧ R r w1) ?_).mono ?_
  · rw [← den_room_Room_Set]
    have e : (fun r w1 => ∃ (r' : Int), (.int .i64 r : Value) = (.int .i64 r' : Value) ∧ R r' w1) = R := by
      funext r w1
      exact propext ⟨fun ⟨r', he, h⟩ => by first | (simp at he; simp_all) | (cases he; exact h), fun h => ⟨_, rfl, h⟩⟩
    simpa only [e] using h
  · rintro en w1 ⟨v, he, r, rfl, h⟩
    exact ⟨_, he, h⟩

def F_room_Room_Get (m : Option Addr) (i : Int) (w : World) (R : Int → Int → World → Prop) : Prop :=
  C_room_Room_has m i w fun t9 w1 =>
  If (t9 != (0 : Int))
  (R (0 : Int) t9 w1)
  (NN m fun a =>
  ∃ lP : Option Addr, ∃ lN : Nat, ∃ lC : Nat, w1.cell? (a.add 0) = some (.slice lP lN lC) ∧
  0 ≤ i ∧ i < (lN : Int) ∧ NN lP fun a_1 =>
  ∃ t19 : Int, w1.cell? (a_1.add (i.toNat * 1)) = some (.int .u64 t19) ∧
  R t19 (0 : Int) w1)

def G_room_Room_Get : Gen where
  loop := lookL []
  plan := fun _ => none

theorem loops_room_Room_Get : LoopOk Try.prog Try.f49.ntmps G_room_Room_Get (codeOf Try.f49) := loopOk_none fun _ => rfl

theorem den_room_Room_Get (m : Option Addr) (i : Int) (w : World) (R : Value → World → Prop) :
    F_room_Room_Get m i w (fun r0 r1 w1 => R (.tuple #[.int .u64 r0, .int .i64 r1]) w1) = den Try.prog Try.f49.ntmps G_room_Room_Get (codeOf Try.f49) [] (postD Try.prog Try.f49.results.toList R) (entry [.pointer m, .int .i64 i] 0) w := by kernel_rfl

theorem C_room_Room_Get.of {m : Option Addr} {i : Int} {w : World} {R : Int → Int → World → Prop} (h : F_room_Room_Get m i w R) : C_room_Room_Get m i w R := by
  refine (calls_of_den (c := codeOf Try.f49) seat_ok seat_mixed Try.func49 (by kernel_rfl) loops_room_Room_Get (args := [.pointer m, .int .i64 i]) rfl (R := fun v w1 => ∃ (r0 : Int) (r1 : Int), v = (.tuple #[.int .u64 r0, .int .i64 r1] : Value) ∧ R r0 r1 w1) ?_).mono ?_
  · rw [← den_room_Room_Get]
    have e : (fun r0 r1 w1 => ∃ (r0' : Int) (r1' : Int), (.tuple #[.int .u64 r0, .int .i64 r1] : Value) = (.tuple #[.int .u64 r0', .int .i64 r1'] : Value) ∧ R r0' r1' w1) = R := by
      funext r0 r1 w1
      exact propext ⟨fun ⟨r0', r1', he, h⟩ => by first | (simp at he; simp_all) | (cases he; exact h), fun h => ⟨_, _, rfl, h⟩⟩
    simpa only [e] using h
  · rintro en w1 ⟨v, he, r0, r1, rfl, h⟩
    exact ⟨_, _, he, h⟩

def F_ref22_Stack_Alloc (sx : Option Addr) (slots : Int) (cont0 : Int) (cont1 : Int) (w : World) (R : Int → World → Prop) : Prop :=
  New w (.cells #[.int .i64 cont0, .int .i64 cont1] 31) fun r w1 =>
  If (decide (slots < (0 : Int)))
  (R (1 : Int) w1)
  (If (decide (slots > (64 : Int)))
  (R (1 : Int) w1)
  (C_ref22_Stack_Top sx w1 fun t15 w1_1 =>
  NN sx fun a =>
  ∃ Words : Int, w1_1.cell? (a.add 3) = some (.int .i64 Words) ∧
  If (decide ((IntKind.i64.wrap ((IntKind.i64.wrap (t15 + (4 : Int))) + slots)) > Words))
  (R (2 : Int) w1_1)
  (NN sx fun a_1 =>
  ∃ EP : Option Addr, ∃ EN : Nat, ∃ EC : Nat, (drw w1_1).cell? (a_1.add 0) = some (.slice EP EN EC) ∧
  NN sx fun a_2 =>
  ∃ Cur : Int, (drw w1_1).cell? (a_2.add 1) = some (.int .i64 Cur) ∧
  ∃ t370 : Int, (drw w1_1).cell? ((⟨r, 0, none⟩ : Addr).add 0) = some (.int .i64 t370) ∧
  ∃ t371 : Int, (drw w1_1).cell? ((⟨r, 0, none⟩ : Addr).add 1) = some (.int .i64 t371) ∧
  MkSl Try.prog 32 (.int .i64 slots) (.int .i64 slots) (drw w1_1) fun t36P t36N t36C w1_2 =>
  (∀ i, i < 2 → w1_2.cell? ((⟨r, 0, none⟩ : Addr).add i) = (drw w1_1).cell? ((⟨r, 0, none⟩ : Addr).add i)) ∧
  w1_2.cell? (a_2.add 1) = (drw w1_1).cell? (a_2.add 1) ∧
  w1_2.cell? (a_1.add 0) = (drw w1_1).cell? (a_1.add 0) ∧
  BSl Try.prog 85 1 [(0, .agg #[.int .i64 t15, .int .i64 Cur, .slice t36P t36N t36C, .int .i64 t370, .int .i64 t371])] w1_2 fun t39P t39N t39C w1_3 =>
  w1_3.cell? (a_1.add 0) = (drw w1_1).cell? (a_1.add 0) ∧
  App Try.prog #[85, 85] 85 #[.slice EP EN EC, .slice t39P t39N t39C] w1_3 fun t40P t40N t40C w1_4 =>
  NN sx fun a_3 =>
  St w1_4 ((a_3.add 0).add 0) (.slice t40P t40N t40C) fun w1_5 =>
  NN sx fun a_4 =>
  ∃ EP_1 : Option Addr, ∃ EN_1 : Nat, ∃ EC_1 : Nat, w1_5.cell? (a_4.add 0) = some (.slice EP_1 EN_1 EC_1) ∧
  NN sx fun a_5 =>
  St w1_5 ((a_5.add 1).add 0) (.int .i64 (IntKind.i64.wrap ((EN_1 : Int) - (1 : Int)))) fun w1_6 =>
  R (0 : Int) w1_6)))

def G_ref22_Stack_Alloc : Gen where
  loop := lookL []
  plan := fun id =>
    bif Nat.beq id 6 then some ([0, 0, 2, 6, 14, 0, 0, 64, 192, 448, 0, 1024, 0, 8160, 16352, 32766, 65535, 131071, 262143], .take 0 (.take 1 (.take 2 (.take 3 (.take 4 (.take 5 (.take 6 (.take 7 (.take 8 (.take 9 (.take 10 (.take 12 (.take 11 (.take 13 (.take 14 (.take 15 (.take 16 (.take 17 (.take 18 .done))))))))))))))))))) else none

theorem loops_ref22_Stack_Alloc : LoopOk Try.prog Try.f50.ntmps G_ref22_Stack_Alloc (codeOf Try.f50) := loopOk_none fun _ => rfl

theorem den_ref22_Stack_Alloc (sx : Option Addr) (slots : Int) (cont0 : Int) (cont1 : Int) (w : World) (R : Value → World → Prop) :
    F_ref22_Stack_Alloc sx slots cont0 cont1 w (fun r w1 => R (.int .i64 r) w1) = den Try.prog Try.f50.ntmps G_ref22_Stack_Alloc (codeOf Try.f50) [] (postD Try.prog Try.f50.results.toList R) (entry [.pointer sx, .int .i64 slots, .agg #[.int .i64 cont0, .int .i64 cont1]] 0) w := by kernel_rfl

theorem C_ref22_Stack_Alloc.of {sx : Option Addr} {slots : Int} {cont0 : Int} {cont1 : Int} {w : World} {R : Int → World → Prop} (h : F_ref22_Stack_Alloc sx slots cont0 cont1 w R) : C_ref22_Stack_Alloc sx slots cont0 cont1 w R := by
  refine (calls_of_den (c := codeOf Try.f50) seat_ok seat_mixed Try.func50 (by kernel_rfl) loops_ref22_Stack_Alloc (args := [.pointer sx, .int .i64 slots, .agg #[.int .i64 cont0, .int .i64 cont1]]) rfl (R := fun v w1 => ∃ (r : Int), v = (.int .i64 r : Value) ∧ R r w1) ?_).mono ?_
  · rw [← den_ref22_Stack_Alloc]
    have e : (fun r w1 => ∃ (r' : Int), (.int .i64 r : Value) = (.int .i64 r' : Value) ∧ R r' w1) = R := by
      funext r w1
      exact propext ⟨fun ⟨r', he, h⟩ => by first | (simp at he; simp_all) | (cases he; exact h), fun h => ⟨_, rfl, h⟩⟩
    simpa only [e] using h
  · rintro en w1 ⟨v, he, r, rfl, h⟩
    exact ⟨_, he, h⟩

def F_ref22_Stack_Dealloc (sx : Option Addr) (w : World) (R : Int → Int → Int → World → Prop) : Prop :=
  New w (.cells #[.int .i64 0, .int .i64 0] 31) fun r w1 =>
  NN sx fun a =>
  ∃ Cur : Int, w1.cell? (a.add 1) = some (.int .i64 Cur) ∧
  If (decide (Cur < (0 : Int)))
  (St w1 ((⟨r, 0, none⟩ : Addr).add 0) (.int .i64 0) fun w1_1 =>
  St w1_1 ((⟨r, 0, none⟩ : Addr).add 1) (.int .i64 0) fun w1_2 =>
  ∃ r_1 : Int, w1_2.cell? ((⟨r, 0, none⟩ : Addr).add 0) = some (.int .i64 r_1) ∧
  ∃ r_2 : Int, w1_2.cell? ((⟨r, 0, none⟩ : Addr).add 1) = some (.int .i64 r_2) ∧
  R r_1 r_2 (4 : Int) w1_2)
  (NN sx fun a_1 =>
  ∃ EP : Option Addr, ∃ EN : Nat, ∃ EC : Nat, (drw w1).cell? (a_1.add 0) = some (.slice EP EN EC) ∧
  NN sx fun a_2 =>
  ∃ Cur_1 : Int, (drw w1).cell? (a_2.add 1) = some (.int .i64 Cur_1) ∧
  0 ≤ Cur_1 ∧ Cur_1 < (EN : Int) ∧ NN EP fun a_3 =>
  ∃ Cont0 : Int, (drw w1).cell? (((a_3.add (Cur_1.toNat * 5)).add 3).add 0) = some (.int .i64 Cont0) ∧
  ∃ Cont1 : Int, (drw w1).cell? (((a_3.add (Cur_1.toNat * 5)).add 3).add 1) = some (.int .i64 Cont1) ∧
  New (drw w1) (.cells #[.int .i64 0, .int .i64 0] 31) fun r_3 w1_3 =>
  (∀ i, i < 2 → w1_3.cell? (((a_3.add (Cur_1.toNat * 5)).add 3).add i) = (drw w1).cell? (((a_3.add (Cur_1.toNat * 5)).add 3).add i)) ∧
  w1_3.cell? (a_2.add 1) = (drw w1).cell? (a_2.add 1) ∧
  w1_3.cell? (a_1.add 0) = (drw w1).cell? (a_1.add 0) ∧
  St w1_3 ((⟨r_3, 0, none⟩ : Addr).add 0) (.int .i64 Cont0) fun w1_4 =>
  St w1_4 ((⟨r_3, 0, none⟩ : Addr).add 1) (.int .i64 Cont1) fun w1_5 =>
  NN sx fun a_4 =>
  ∃ EP_1 : Option Addr, ∃ EN_1 : Nat, ∃ EC_1 : Nat, (drw w1_5).cell? (a_4.add 0) = some (.slice EP_1 EN_1 EC_1) ∧
  NN sx fun a_5 =>
  ∃ Cur_2 : Int, (drw w1_5).cell? (a_5.add 1) = some (.int .i64 Cur_2) ∧
  0 ≤ Cur_2 ∧ Cur_2 < (EN_1 : Int) ∧ NN EP_1 fun a_6 =>
  ∃ Prev : Int, (drw w1_5).cell? ((a_6.add (Cur_2.toNat * 5)).add 1) = some (.int .i64 Prev) ∧
  NN sx fun a_7 =>
  St (drw w1_5) ((a_7.add 1).add 0) (.int .i64 Prev) fun w1_6 =>
  ∃ t360 : Int, w1_6.cell? ((⟨r_3, 0, none⟩ : Addr).add 0) = some (.int .i64 t360) ∧
  ∃ t361 : Int, w1_6.cell? ((⟨r_3, 0, none⟩ : Addr).add 1) = some (.int .i64 t361) ∧
  St w1_6 ((⟨r, 0, none⟩ : Addr).add 0) (.int .i64 t360) fun w1_7 =>
  St w1_7 ((⟨r, 0, none⟩ : Addr).add 1) (.int .i64 t361) fun w1_8 =>
  ∃ r_4 : Int, w1_8.cell? ((⟨r, 0, none⟩ : Addr).add 0) = some (.int .i64 r_4) ∧
  ∃ r_5 : Int, w1_8.cell? ((⟨r, 0, none⟩ : Addr).add 1) = some (.int .i64 r_5) ∧
  R r_4 r_5 (0 : Int) w1_8)

def G_ref22_Stack_Dealloc : Gen where
  loop := lookL []
  plan := fun id =>
    bif Nat.beq id 3 then some ([0, 1, 3, 7, 0, 16, 48, 112, 255, 511, 1023, 0, 4095], .take 0 (.take 1 (.take 2 (.take 3 (.take 4 (.take 5 (.take 6 (.take 7 (.take 8 (.take 9 (.take 10 (.take 11 (.take 12 .done))))))))))))) else
    bif Nat.beq id 4 then some ([0, 0, 2, 6, 14, 0, 32, 96, 224, 510, 1022, 2046, 4095, 8191, 16383], .take 0 (.take 1 (.take 2 (.take 3 (.take 4 (.take 5 (.take 6 (.take 7 (.take 8 (.take 9 (.take 10 (.take 11 (.take 12 (.take 13 (.take 14 .done))))))))))))))) else none

theorem loops_ref22_Stack_Dealloc : LoopOk Try.prog Try.f51.ntmps G_ref22_Stack_Dealloc (codeOf Try.f51) := loopOk_none fun _ => rfl

theorem den_ref22_Stack_Dealloc (sx : Option Addr) (w : World) (R : Value → World → Prop) :
    F_ref22_Stack_Dealloc sx w (fun r00 r01 r1 w1 => R (.tuple #[.agg #[.int .i64 r00, .int .i64 r01], .int .i64 r1]) w1) = den Try.prog Try.f51.ntmps G_ref22_Stack_Dealloc (codeOf Try.f51) [] (postD Try.prog Try.f51.results.toList R) (entry [.pointer sx] 0) w := by kernel_rfl

theorem C_ref22_Stack_Dealloc.of {sx : Option Addr} {w : World} {R : Int → Int → Int → World → Prop} (h : F_ref22_Stack_Dealloc sx w R) : C_ref22_Stack_Dealloc sx w R := by
  refine (calls_of_den (c := codeOf Try.f51) seat_ok seat_mixed Try.func51 (by kernel_rfl) loops_ref22_Stack_Dealloc (args := [.pointer sx]) rfl (R := fun v w1 => ∃ (r00 : Int) (r01 : Int) (r1 : Int), v = (.tuple #[.agg #[.int .i64 r00, .int .i64 r01], .int .i64 r1] : Value) ∧ R r00 r01 r1 w1) ?_).mono ?_
  · rw [← den_ref22_Stack_Dealloc]
    have e : (fun r00 r01 r1 w1 => ∃ (r00' : Int) (r01' : Int) (r1' : Int), (.tuple #[.agg #[.int .i64 r00, .int .i64 r01], .int .i64 r1] : Value) = (.tuple #[.agg #[.int .i64 r00', .int .i64 r01'], .int .i64 r1'] : Value) ∧ R r00' r01' r1' w1) = R := by
      funext r00 r01 r1 w1
      exact propext ⟨fun ⟨r00', r01', r1', he, h⟩ => by first | (simp at he; simp_all) | (cases he; exact h), fun h => ⟨_, _, _, rfl, h⟩⟩
    simpa only [e] using h
  · rintro en w1 ⟨v, he, r00, r01, r1, rfl, h⟩
    exact ⟨_, _, _, he, h⟩

def F_law22_slots_k1 (sx : Option Addr) (x : Option Addr) (R : Bool → World → Prop) (r : Nat) (w1_5 : World) : Prop :=
  ∃ Kind_1 : Int, w1_5.cell? ((⟨r, 0, none⟩ : Addr).add 0) = some (.int .i64 Kind_1) ∧
  If (Kind_1 == (4 : Int))
  (∃ N_6 : Int, w1_5.cell? ((⟨r, 0, none⟩ : Addr).add 1) = some (.int .i64 N_6) ∧
  ∃ W_2 : Int, w1_5.cell? ((⟨r, 0, none⟩ : Addr).add 2) = some (.int .u64 W_2) ∧
  C_frame_Stack_Set sx N_6 W_2 w1_5 fun t36_1 w1_6 =>
  If (!false)
  (R (t36_1 == (4 : Int)) w1_6)
  (NN x fun a_9 =>
  ∃ EP_2 : Option Addr, ∃ EN_2 : Nat, ∃ EC_2 : Nat, (drw w1_6).cell? (a_9.add 0) = some (.slice EP_2 EN_2 EC_2) ∧
  NN x fun a_10 =>
  ∃ Cur_3 : Int, (drw w1_6).cell? (a_10.add 1) = some (.int .i64 Cur_3) ∧
  0 ≤ Cur_3 ∧ Cur_3 < (EN_2 : Int) ∧ NN EP_2 fun a_11 =>
  ∃ YP_2 : Option Addr, ∃ YN_2 : Nat, ∃ YC_2 : Nat, (drw w1_6).cell? ((a_11.add (Cur_3.toNat * 5)).add 2) = some (.slice YP_2 YN_2 YC_2) ∧
  ∃ N_7 : Int, (drw w1_6).cell? ((⟨r, 0, none⟩ : Addr).add 1) = some (.int .i64 N_7) ∧
  ∃ W_3 : Int, (drw w1_6).cell? ((⟨r, 0, none⟩ : Addr).add 2) = some (.int .u64 W_3) ∧
  0 ≤ (IntKind.i64.wrap (N_7 - (1 : Int))) ∧ (IntKind.i64.wrap (N_7 - (1 : Int))) < (YN_2 : Int) ∧ NN YP_2 fun a_12 =>
  St (drw w1_6) ((a_12.add ((IntKind.i64.wrap (N_7 - (1 : Int))).toNat * 1)).add 0) (.int .u64 W_3) fun w1_7 =>
  R (t36_1 == (0 : Int)) w1_7))
  (∃ N_8 : Int, w1_5.cell? ((⟨r, 0, none⟩ : Addr).add 1) = some (.int .i64 N_8) ∧
  C_frame_Stack_Get sx N_8 w1_5 fun t640_1 t641_1 w1_8 =>
  If (!false)
  (If (t640_1 == (0 : Int))
  (R (t641_1 == (4 : Int)) w1_8)
  (R false w1_8))
  (NN x fun a_13 =>
  ∃ EP_3 : Option Addr, ∃ EN_3 : Nat, ∃ EC_3 : Nat, (drw w1_8).cell? (a_13.add 0) = some (.slice EP_3 EN_3 EC_3) ∧
  NN x fun a_14 =>
  ∃ Cur_4 : Int, (drw w1_8).cell? (a_14.add 1) = some (.int .i64 Cur_4) ∧
  0 ≤ Cur_4 ∧ Cur_4 < (EN_3 : Int) ∧ NN EP_3 fun a_15 =>
  ∃ YP_3 : Option Addr, ∃ YN_3 : Nat, ∃ YC_3 : Nat, (drw w1_8).cell? ((a_15.add (Cur_4.toNat * 5)).add 2) = some (.slice YP_3 YN_3 YC_3) ∧
  ∃ N_9 : Int, (drw w1_8).cell? ((⟨r, 0, none⟩ : Addr).add 1) = some (.int .i64 N_9) ∧
  0 ≤ (IntKind.i64.wrap (N_9 - (1 : Int))) ∧ (IntKind.i64.wrap (N_9 - (1 : Int))) < (YN_3 : Int) ∧ NN YP_3 fun a_16 =>
  ∃ t91_1 : Int, (drw w1_8).cell? (a_16.add ((IntKind.i64.wrap (N_9 - (1 : Int))).toNat * 1)) = some (.int .u64 t91_1) ∧
  If (t640_1 == t91_1)
  (R (t641_1 == (0 : Int)) (drw w1_8))
  (R false (drw w1_8))))

def F_law22_slots (sx : Option Addr) (x : Option Addr) (o0 : Int) (o1 : Int) (o2 : Int) (o3 : Int) (o4 : Int) (o5 : Int) (o6P : Option Addr) (o6N : Nat) (o6C : Nat) (o7 : Int) (o8 : Int) (o9 : Int) (o10 : Int) (o11 : Int) (o12 : Int) (o13 : Int) (w : World) (R : Bool → World → Prop) : Prop :=
  New w (.cells #[.int .i64 o0, .int .i64 o1, .int .u64 o2, .int .i64 o3, .int .i64 o4, .int .i64 o5, .slice o6P o6N o6C, .int .i64 o7, .int .i64 o8, .int .i64 o9, .int .i64 o10, .int .i64 o11, .int .i64 o12, .int .i64 o13] 36) fun r w1 =>
  NN x fun a =>
  ∃ Cur : Int, (drw w1).cell? (a.add 1) = some (.int .i64 Cur) ∧
  If (decide (Cur ≥ (0 : Int)))
  (∃ N : Int, (drw w1).cell? ((⟨r, 0, none⟩ : Addr).add 1) = some (.int .i64 N) ∧
  If (decide (N ≥ (1 : Int)))
  (∃ N_1 : Int, (drw w1).cell? ((⟨r, 0, none⟩ : Addr).add 1) = some (.int .i64 N_1) ∧
  C_ref22_Stack_Slots x (drw w1) fun t25 w1_1 =>
  w1_1.cell? ((⟨r, 0, none⟩ : Addr).add 1) = (drw w1).cell? ((⟨r, 0, none⟩ : Addr).add 1) ∧
  ∃ Kind : Int, w1_1.cell? ((⟨r, 0, none⟩ : Addr).add 0) = some (.int .i64 Kind) ∧
  If (Kind == (4 : Int))
  (∃ N_2 : Int, w1_1.cell? ((⟨r, 0, none⟩ : Addr).add 1) = some (.int .i64 N_2) ∧
  ∃ W : Int, w1_1.cell? ((⟨r, 0, none⟩ : Addr).add 2) = some (.int .u64 W) ∧
  C_frame_Stack_Set sx N_2 W w1_1 fun t36 w1_2 =>
  If (!(decide (N_1 ≤ t25)))
  (R (t36 == (4 : Int)) w1_2)
  (NN x fun a_1 =>
  ∃ EP : Option Addr, ∃ EN : Nat, ∃ EC : Nat, (drw w1_2).cell? (a_1.add 0) = some (.slice EP EN EC) ∧
  NN x fun a_2 =>
  ∃ Cur_1 : Int, (drw w1_2).cell? (a_2.add 1) = some (.int .i64 Cur_1) ∧
  0 ≤ Cur_1 ∧ Cur_1 < (EN : Int) ∧ NN EP fun a_3 =>
  ∃ YP : Option Addr, ∃ YN : Nat, ∃ YC : Nat, (drw w1_2).cell? ((a_3.add (Cur_1.toNat * 5)).add 2) = some (.slice YP YN YC) ∧
  ∃ N_3 : Int, (drw w1_2).cell? ((⟨r, 0, none⟩ : Addr).add 1) = some (.int .i64 N_3) ∧
  ∃ W_1 : Int, (drw w1_2).cell? ((⟨r, 0, none⟩ : Addr).add 2) = some (.int .u64 W_1) ∧
  0 ≤ (IntKind.i64.wrap (N_3 - (1 : Int))) ∧ (IntKind.i64.wrap (N_3 - (1 : Int))) < (YN : Int) ∧ NN YP fun a_4 =>
  St (drw w1_2) ((a_4.add ((IntKind.i64.wrap (N_3 - (1 : Int))).toNat * 1)).add 0) (.int .u64 W_1) fun w1_3 =>
  R (t36 == (0 : Int)) w1_3))
  (∃ N_4 : Int, w1_1.cell? ((⟨r, 0, none⟩ : Addr).add 1) = some (.int .i64 N_4) ∧
  C_frame_Stack_Get sx N_4 w1_1 fun t640 t641 w1_4 =>
  If (!(decide (N_1 ≤ t25)))
  (If (t640 == (0 : Int))
  (R (t641 == (4 : Int)) w1_4)
  (R false w1_4))
  (NN x fun a_5 =>
  ∃ EP_1 : Option Addr, ∃ EN_1 : Nat, ∃ EC_1 : Nat, (drw w1_4).cell? (a_5.add 0) = some (.slice EP_1 EN_1 EC_1) ∧
  NN x fun a_6 =>
  ∃ Cur_2 : Int, (drw w1_4).cell? (a_6.add 1) = some (.int .i64 Cur_2) ∧
  0 ≤ Cur_2 ∧ Cur_2 < (EN_1 : Int) ∧ NN EP_1 fun a_7 =>
  ∃ YP_1 : Option Addr, ∃ YN_1 : Nat, ∃ YC_1 : Nat, (drw w1_4).cell? ((a_7.add (Cur_2.toNat * 5)).add 2) = some (.slice YP_1 YN_1 YC_1) ∧
  ∃ N_5 : Int, (drw w1_4).cell? ((⟨r, 0, none⟩ : Addr).add 1) = some (.int .i64 N_5) ∧
  0 ≤ (IntKind.i64.wrap (N_5 - (1 : Int))) ∧ (IntKind.i64.wrap (N_5 - (1 : Int))) < (YN_1 : Int) ∧ NN YP_1 fun a_8 =>
  ∃ t91 : Int, (drw w1_4).cell? (a_8.add ((IntKind.i64.wrap (N_5 - (1 : Int))).toNat * 1)) = some (.int .u64 t91) ∧
  If (t640 == t91)
  (R (t641 == (0 : Int)) (drw w1_4))
  (R false (drw w1_4)))))
  (F_law22_slots_k1 sx x R r (drw w1)))
  (F_law22_slots_k1 sx x R r (drw w1))

def G_law22_slots : Gen where
  loop := lookL []
  plan := fun id =>
    bif Nat.beq id 1 then some ([0, 1, 3, 7, 15, 31, 63, 127, 255, 511, 1023, 2047, 4095, 2047, 10239, 32767, 65535, 131071], .take 0 (.take 1 (.take 2 (.take 3 (.take 4 (.take 5 (.take 6 (.take 7 (.take 8 (.take 9 (.take 10 (.take 11 (.take 12 (.take 13 (.take 14 (.take 15 (.take 16 (.take 17 .done)))))))))))))))))) else
    bif Nat.beq id 6 then some ([0, 1, 3, 7, 0, 16, 48, 112, 255, 511, 1023, 0, 2048, 6144, 0, 16384, 65535, 131071], .take 0 (.take 1 (.take 2 (.take 3 (.take 4 (.take 5 (.take 6 (.take 7 (.take 8 (.take 9 (.take 10 (.take 11 (.take 12 (.take 13 (.take 14 (.take 15 (.take 16 (.take 17 .done)))))))))))))))))) else
    bif Nat.beq id 11 then some ([0, 0, 2, 6, 14, 0, 32, 96, 224, 510, 1022, 2046, 0, 4096, 12288, 32766, 65534, 131071, 262143, 524287, 1048575, 2097151, 4194303], .take 0 (.take 1 (.take 2 (.take 3 (.take 4 (.take 5 (.take 6 (.take 7 (.take 8 (.take 9 (.take 10 (.take 11 (.take 12 (.take 13 (.take 14 (.take 15 (.take 16 (.take 17 (.take 18 (.take 19 (.take 20 (.take 21 (.take 22 .done))))))))))))))))))))))) else none

theorem loops_law22_slots : LoopOk Try.prog Try.f52.ntmps G_law22_slots (codeOf Try.f52) := loopOk_none fun _ => rfl

theorem den_law22_slots (sx : Option Addr) (x : Option Addr) (o0 : Int) (o1 : Int) (o2 : Int) (o3 : Int) (o4 : Int) (o5 : Int) (o6P : Option Addr) (o6N : Nat) (o6C : Nat) (o7 : Int) (o8 : Int) (o9 : Int) (o10 : Int) (o11 : Int) (o12 : Int) (o13 : Int) (w : World) (R : Value → World → Prop) :
    F_law22_slots sx x o0 o1 o2 o3 o4 o5 o6P o6N o6C o7 o8 o9 o10 o11 o12 o13 w (fun r w1 => R (.bool r) w1) = den Try.prog Try.f52.ntmps G_law22_slots (codeOf Try.f52) [] (postD Try.prog Try.f52.results.toList R) (entry [.pointer sx, .pointer x, .agg #[.int .i64 o0, .int .i64 o1, .int .u64 o2, .int .i64 o3, .int .i64 o4, .int .i64 o5, .slice o6P o6N o6C, .int .i64 o7, .int .i64 o8, .int .i64 o9, .int .i64 o10, .int .i64 o11, .int .i64 o12, .int .i64 o13]] 0) w := by kernel_rfl

theorem C_law22_slots.of {sx : Option Addr} {x : Option Addr} {o0 : Int} {o1 : Int} {o2 : Int} {o3 : Int} {o4 : Int} {o5 : Int} {o6P : Option Addr} {o6N : Nat} {o6C : Nat} {o7 : Int} {o8 : Int} {o9 : Int} {o10 : Int} {o11 : Int} {o12 : Int} {o13 : Int} {w : World} {R : Bool → World → Prop} (h : F_law22_slots sx x o0 o1 o2 o3 o4 o5 o6P o6N o6C o7 o8 o9 o10 o11 o12 o13 w R) : C_law22_slots sx x o0 o1 o2 o3 o4 o5 o6P o6N o6C o7 o8 o9 o10 o11 o12 o13 w R := by
  refine (calls_of_den (c := codeOf Try.f52) seat_ok seat_mixed Try.func52 (by kernel_rfl) loops_law22_slots (args := [.pointer sx, .pointer x, .agg #[.int .i64 o0, .int .i64 o1, .int .u64 o2, .int .i64 o3, .int .i64 o4, .int .i64 o5, .slice o6P o6N o6C, .int .i64 o7, .int .i64 o8, .int .i64 o9, .int .i64 o10, .int .i64 o11, .int .i64 o12, .int .i64 o13]]) rfl (R := fun v w1 => ∃ (r : Bool), v = (.bool r : Value) ∧ R r w1) ?_).mono ?_
  · rw [← den_law22_slots]
    have e : (fun r w1 => ∃ (r' : Bool), (.bool r : Value) = (.bool r' : Value) ∧ R r' w1) = R := by
      funext r w1
      exact propext ⟨fun ⟨r', he, h⟩ => by first | (simp at he; simp_all) | (cases he; exact h), fun h => ⟨_, rfl, h⟩⟩
    simpa only [e] using h
  · rintro en w1 ⟨v, he, r, rfl, h⟩
    exact ⟨_, he, h⟩

def F_ref22_Stack_Trim_k1 (R : Bool → World → Prop) (w1_2 : World) : Prop :=
  R false w1_2

def F_ref22_Stack_Trim (sx : Option Addr) (n : Int) (w : World) (R : Bool → World → Prop) : Prop :=
  NN sx fun a =>
  ∃ Cur : Int, (drw w).cell? (a.add 1) = some (.int .i64 Cur) ∧
  If (decide (Cur < (0 : Int)))
  (F_ref22_Stack_Trim_k1 R (drw w))
  (If (decide (n < (0 : Int)))
  (F_ref22_Stack_Trim_k1 R (drw w))
  (C_ref22_Stack_Slots sx (drw w) fun t17 w1 =>
  If (decide (n > t17))
  (F_ref22_Stack_Trim_k1 R w1)
  (NN sx fun a_1 =>
  ∃ EP : Option Addr, ∃ EN : Nat, ∃ EC : Nat, w1.cell? (a_1.add 0) = some (.slice EP EN EC) ∧
  NN sx fun a_2 =>
  ∃ Cur_1 : Int, w1.cell? (a_2.add 1) = some (.int .i64 Cur_1) ∧
  0 ≤ Cur_1 ∧ Cur_1 < (EN : Int) ∧ NN EP fun a_3 =>
  ∃ Base : Int, w1.cell? ((a_3.add (Cur_1.toNat * 5)).add 0) = some (.int .i64 Base) ∧
  C_ref22_Stack_kept sx w1 fun t33 w1_1 =>
  w1_1.cell? ((a_3.add (Cur_1.toNat * 5)).add 0) = w1.cell? ((a_3.add (Cur_1.toNat * 5)).add 0) ∧
  w1_1.cell? (a_2.add 1) = w1.cell? (a_2.add 1) ∧
  w1_1.cell? (a_1.add 0) = w1.cell? (a_1.add 0) ∧
  If (decide (Base < t33))
  (R false w1_1)
  (NN sx fun a_4 =>
  ∃ EP_1 : Option Addr, ∃ EN_1 : Nat, ∃ EC_1 : Nat, (drw w1_1).cell? (a_4.add 0) = some (.slice EP_1 EN_1 EC_1) ∧
  NN sx fun a_5 =>
  ∃ Cur_2 : Int, (drw w1_1).cell? (a_5.add 1) = some (.int .i64 Cur_2) ∧
  NN sx fun a_6 =>
  ∃ EP_2 : Option Addr, ∃ EN_2 : Nat, ∃ EC_2 : Nat, (drw w1_1).cell? (a_6.add 0) = some (.slice EP_2 EN_2 EC_2) ∧
  NN sx fun a_7 =>
  ∃ Cur_3 : Int, (drw w1_1).cell? (a_7.add 1) = some (.int .i64 Cur_3) ∧
  0 ≤ Cur_3 ∧ Cur_3 < (EN_2 : Int) ∧ NN EP_2 fun a_8 =>
  ∃ YP : Option Addr, ∃ YN : Nat, ∃ YC : Nat, (drw w1_1).cell? ((a_8.add (Cur_3.toNat * 5)).add 2) = some (.slice YP YN YC) ∧
  0 ≤ n ∧ n ≤ (YC : Int) ∧
  0 ≤ Cur_2 ∧ Cur_2 < (EN_1 : Int) ∧ NN EP_1 fun a_9 =>
  St (drw w1_1) (((a_9.add (Cur_2.toNat * 5)).add 2).add 0) (.slice YP n.toNat YC) fun w1_3 =>
  R true w1_3))))

def G_ref22_Stack_Trim : Gen where
  loop := lookL []
  plan := fun id =>
    bif Nat.beq id 1 then some ([0, 1, 3, 7, 15, 31, 63, 127, 255, 511, 1023, 1023, 3071, 8191, 16383, 32767, 65535, 131071, 262143, 524287, 65535, 1114111, 3211263, 7405567, 16777215, 33554431, 67108863, 65535, 134283263, 536870911, 1073741823], .take 0 (.take 1 (.take 2 (.take 3 (.take 4 (.take 5 (.take 6 (.take 7 (.take 8 (.take 9 (.take 10 (.take 11 (.take 12 (.take 13 (.take 14 (.take 15 (.take 16 (.take 17 (.take 18 (.take 19 (.take 20 (.take 21 (.take 22 (.take 23 (.take 24 (.take 25 (.take 26 (.take 27 (.take 28 (.take 29 (.take 30 .done))))))))))))))))))))))))))))))) else
    bif Nat.beq id 3 then some ([0, 1, 3, 7, 0, 16, 48, 112, 0, 256, 768, 1792, 0, 4096, 12288, 28672, 65280, 130816, 261888, 0, 1048320, 2097151, 4194303, 8388607], .take 0 (.take 1 (.take 2 (.take 3 (.take 4 (.take 5 (.take 6 (.take 7 (.take 8 (.take 9 (.take 10 (.take 11 (.take 12 (.take 13 (.take 14 (.take 15 (.take 16 (.take 17 (.take 18 (.take 19 (.take 20 (.take 21 (.take 22 (.take 23 .done)))))))))))))))))))))))) else none

theorem loops_ref22_Stack_Trim : LoopOk Try.prog Try.f53.ntmps G_ref22_Stack_Trim (codeOf Try.f53) := loopOk_none fun _ => rfl

theorem den_ref22_Stack_Trim (sx : Option Addr) (n : Int) (w : World) (R : Value → World → Prop) :
    F_ref22_Stack_Trim sx n w (fun r w1 => R (.bool r) w1) = den Try.prog Try.f53.ntmps G_ref22_Stack_Trim (codeOf Try.f53) [] (postD Try.prog Try.f53.results.toList R) (entry [.pointer sx, .int .i64 n] 0) w := by kernel_rfl

theorem C_ref22_Stack_Trim.of {sx : Option Addr} {n : Int} {w : World} {R : Bool → World → Prop} (h : F_ref22_Stack_Trim sx n w R) : C_ref22_Stack_Trim sx n w R := by
  refine (calls_of_den (c := codeOf Try.f53) seat_ok seat_mixed Try.func53 (by kernel_rfl) loops_ref22_Stack_Trim (args := [.pointer sx, .int .i64 n]) rfl (R := fun v w1 => ∃ (r : Bool), v = (.bool r : Value) ∧ R r w1) ?_).mono ?_
  · rw [← den_ref22_Stack_Trim]
    have e : (fun r w1 => ∃ (r' : Bool), (.bool r : Value) = (.bool r' : Value) ∧ R r' w1) = R := by
      funext r w1
      exact propext ⟨fun ⟨r', he, h⟩ => by first | (simp at he; simp_all) | (cases he; exact h), fun h => ⟨_, rfl, h⟩⟩
    simpa only [e] using h
  · rintro en w1 ⟨v, he, r, rfl, h⟩
    exact ⟨_, he, h⟩

end Go.Proofs.Ytdmjbkpibgfeiaa
