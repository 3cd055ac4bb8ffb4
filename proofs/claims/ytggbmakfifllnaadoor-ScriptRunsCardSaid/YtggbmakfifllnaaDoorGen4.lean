/- The formulas of this seat's functions, held against the loaded program by the kernel. Printed by a program. -/
import Derived.Test.YtggbmakfifllnaaDoorGenC
set_option maxRecDepth 100000
set_option linter.unusedVariables false
namespace Go.Proofs.YtggbmakfifllnaaDoor
open Go Go.D Go.Proofs

structure S_ref27_DecodeRun_L1 where
  i : Int

/-- One round. -/
def B_ref27_DecodeRun_L1 (t2 : Addr) (r_3 : Addr) (x : Addr) (n : Int) (s : S_ref27_DecodeRun_L1) (w : World) (Kn : S_ref27_DecodeRun_L1 → World → Prop) (Kx0 : World → Prop) : Prop :=
  If (decide ((s.i : Int) < n))
  (NN (some r_3) fun a =>
  ∃ bad : Bool, w.cell? (a.add 1) = some (.bool bad) ∧
  If (!bad)
  (C_ref27_reader_number (some r_3) w fun t30 w1_11 =>
  ∃ EventsP : Option Addr, ∃ EventsN : Nat, ∃ EventsC : Nat, (drw w1_11).cell? (x.add 1) = some (.slice EventsP EventsN EventsC) ∧
  C_ref27_reader_text (some r_3) (drw w1_11) fun t35 w1_12 =>
  w1_12.cell? (x.add 1) = (drw w1_11).cell? (x.add 1) ∧
  BSl Tryd.prog 41 1 [(0, .agg #[.int .i64 t30, .string t35])] w1_12 fun t37P t37N t37C w1_13 =>
  w1_13.cell? (x.add 1) = (drw w1_11).cell? (x.add 1) ∧
  App Tryd.prog #[41, 41] 41 #[.slice EventsP EventsN EventsC, .slice t37P t37N t37C] w1_13 fun t38P t38N t38C w1_14 =>
  St w1_14 ((x.add 1).add 0) (.slice t38P t38N t38C) fun w1_15 =>
  Kn ⟨(IntKind.i64.wrap ((s.i : Int) + (1 : Int)))⟩ w1_15)
  (Kx0 w))
  (Kx0 w)

def F_ref27_DecodeRun_L1 (t2 : Addr) (r_3 : Addr) (x : Addr) (n : Int) (s : S_ref27_DecodeRun_L1) (w : World) (Kx0 : World → Prop) : Prop :=
  LoopS (fun s w Kn => B_ref27_DecodeRun_L1 t2 r_3 x n s w Kn Kx0) s w

def F_ref27_DecodeRun (bP : Option Addr) (bN : Nat) (bC : Nat) (w : World) (R : Int → Option Addr → Nat → Nat → Int → Int → Int → Int → Bool → World → Prop) : Prop :=
  New w (.cells #[.int .i64 0, .slice none 0 0, .int .i64 0, .int .i64 0, .int .i64 0, .int .i64 0] 43) fun r w1 =>
  New w1 (.cells #[.slice bP bN bC, .bool false] 72) fun r_1 w1_1 =>
  C_ref27_reader_number (some ⟨r_1, 0, none⟩) w1_1 fun t13 w1_2 =>
  New w1_2 (.cells #[.int .i64 0, .slice none 0 0, .int .i64 0, .int .i64 0, .int .i64 0, .int .i64 0] 43) fun r_2 w1_3 =>
  St w1_3 ((⟨r_2, 0, none⟩ : Addr).add 0) (.int .i64 t13) fun w1_4 =>
  St w1_4 ((⟨r_2, 0, none⟩ : Addr).add 1) (.slice none 0 0) fun w1_5 =>
  St w1_5 ((⟨r_2, 0, none⟩ : Addr).add 2) (.int .i64 0) fun w1_6 =>
  St w1_6 ((⟨r_2, 0, none⟩ : Addr).add 3) (.int .i64 0) fun w1_7 =>
  St w1_7 ((⟨r_2, 0, none⟩ : Addr).add 4) (.int .i64 0) fun w1_8 =>
  St w1_8 ((⟨r_2, 0, none⟩ : Addr).add 5) (.int .i64 0) fun w1_9 =>
  C_ref27_reader_count (some ⟨r_1, 0, none⟩) (10000 : Int) w1_9 fun t16 w1_10 =>
  F_ref27_DecodeRun_L1 ⟨r, 0, none⟩ ⟨r_1, 0, none⟩ ⟨r_2, 0, none⟩ t16 ⟨(0 : Int)⟩ w1_10
  (fun w1_16 =>
  C_ref27_reader_number (some ⟨r_1, 0, none⟩) w1_16 fun t41 w1_17 =>
  St w1_17 (((⟨r_2, 0, none⟩ : Addr).add 2).add 0) (.int .i64 t41) fun w1_18 =>
  C_ref27_reader_number (some ⟨r_1, 0, none⟩) w1_18 fun t44 w1_19 =>
  St w1_19 (((⟨r_2, 0, none⟩ : Addr).add 3).add 0) (.int .i64 t44) fun w1_20 =>
  C_ref27_reader_number (some ⟨r_1, 0, none⟩) w1_20 fun t47 w1_21 =>
  St w1_21 (((⟨r_2, 0, none⟩ : Addr).add 4).add 0) (.int .i64 t47) fun w1_22 =>
  C_ref27_reader_number (some ⟨r_1, 0, none⟩) w1_22 fun t50 w1_23 =>
  St w1_23 (((⟨r_2, 0, none⟩ : Addr).add 5).add 0) (.int .i64 t50) fun w1_24 =>
  NN (some ⟨r_1, 0, none⟩) fun a_1 =>
  ∃ bad_1 : Bool, w1_24.cell? (a_1.add 1) = some (.bool bad_1) ∧
  If bad_1
  (St w1_24 ((⟨r, 0, none⟩ : Addr).add 0) (.int .i64 0) fun w1_25 =>
  St w1_25 ((⟨r, 0, none⟩ : Addr).add 1) (.slice none 0 0) fun w1_26 =>
  St w1_26 ((⟨r, 0, none⟩ : Addr).add 2) (.int .i64 0) fun w1_27 =>
  St w1_27 ((⟨r, 0, none⟩ : Addr).add 3) (.int .i64 0) fun w1_28 =>
  St w1_28 ((⟨r, 0, none⟩ : Addr).add 4) (.int .i64 0) fun w1_29 =>
  St w1_29 ((⟨r, 0, none⟩ : Addr).add 5) (.int .i64 0) fun w1_30 =>
  ∃ r_4 : Int, w1_30.cell? ((⟨r, 0, none⟩ : Addr).add 0) = some (.int .i64 r_4) ∧
  ∃ rP : Option Addr, ∃ rN : Nat, ∃ rC : Nat, w1_30.cell? ((⟨r, 0, none⟩ : Addr).add 1) = some (.slice rP rN rC) ∧
  ∃ r_5 : Int, w1_30.cell? ((⟨r, 0, none⟩ : Addr).add 2) = some (.int .i64 r_5) ∧
  ∃ r_6 : Int, w1_30.cell? ((⟨r, 0, none⟩ : Addr).add 3) = some (.int .i64 r_6) ∧
  ∃ r_7 : Int, w1_30.cell? ((⟨r, 0, none⟩ : Addr).add 4) = some (.int .i64 r_7) ∧
  ∃ r_8 : Int, w1_30.cell? ((⟨r, 0, none⟩ : Addr).add 5) = some (.int .i64 r_8) ∧
  R r_4 rP rN rC r_5 r_6 r_7 r_8 false w1_30)
  (NN (some ⟨r_1, 0, none⟩) fun a_2 =>
  ∃ bP_1 : Option Addr, ∃ bN_1 : Nat, ∃ bC_1 : Nat, w1_24.cell? (a_2.add 0) = some (.slice bP_1 bN_1 bC_1) ∧
  If (decide ((bN_1 : Int) > (0 : Int)))
  (St w1_24 ((⟨r, 0, none⟩ : Addr).add 0) (.int .i64 0) fun w1_31 =>
  St w1_31 ((⟨r, 0, none⟩ : Addr).add 1) (.slice none 0 0) fun w1_32 =>
  St w1_32 ((⟨r, 0, none⟩ : Addr).add 2) (.int .i64 0) fun w1_33 =>
  St w1_33 ((⟨r, 0, none⟩ : Addr).add 3) (.int .i64 0) fun w1_34 =>
  St w1_34 ((⟨r, 0, none⟩ : Addr).add 4) (.int .i64 0) fun w1_35 =>
  St w1_35 ((⟨r, 0, none⟩ : Addr).add 5) (.int .i64 0) fun w1_36 =>
  ∃ r_9 : Int, w1_36.cell? ((⟨r, 0, none⟩ : Addr).add 0) = some (.int .i64 r_9) ∧
  ∃ rP_1 : Option Addr, ∃ rN_1 : Nat, ∃ rC_1 : Nat, w1_36.cell? ((⟨r, 0, none⟩ : Addr).add 1) = some (.slice rP_1 rN_1 rC_1) ∧
  ∃ r_10 : Int, w1_36.cell? ((⟨r, 0, none⟩ : Addr).add 2) = some (.int .i64 r_10) ∧
  ∃ r_11 : Int, w1_36.cell? ((⟨r, 0, none⟩ : Addr).add 3) = some (.int .i64 r_11) ∧
  ∃ r_12 : Int, w1_36.cell? ((⟨r, 0, none⟩ : Addr).add 4) = some (.int .i64 r_12) ∧
  ∃ r_13 : Int, w1_36.cell? ((⟨r, 0, none⟩ : Addr).add 5) = some (.int .i64 r_13) ∧
  R r_9 rP_1 rN_1 rC_1 r_10 r_11 r_12 r_13 false w1_36)
  (∃ t650 : Int, w1_24.cell? ((⟨r_2, 0, none⟩ : Addr).add 0) = some (.int .i64 t650) ∧
  ∃ t651P : Option Addr, ∃ t651N : Nat, ∃ t651C : Nat, w1_24.cell? ((⟨r_2, 0, none⟩ : Addr).add 1) = some (.slice t651P t651N t651C) ∧
  ∃ t652 : Int, w1_24.cell? ((⟨r_2, 0, none⟩ : Addr).add 2) = some (.int .i64 t652) ∧
  ∃ t653 : Int, w1_24.cell? ((⟨r_2, 0, none⟩ : Addr).add 3) = some (.int .i64 t653) ∧
  ∃ t654 : Int, w1_24.cell? ((⟨r_2, 0, none⟩ : Addr).add 4) = some (.int .i64 t654) ∧
  ∃ t655 : Int, w1_24.cell? ((⟨r_2, 0, none⟩ : Addr).add 5) = some (.int .i64 t655) ∧
  St w1_24 ((⟨r, 0, none⟩ : Addr).add 0) (.int .i64 t650) fun w1_37 =>
  St w1_37 ((⟨r, 0, none⟩ : Addr).add 1) (.slice t651P t651N t651C) fun w1_38 =>
  St w1_38 ((⟨r, 0, none⟩ : Addr).add 2) (.int .i64 t652) fun w1_39 =>
  St w1_39 ((⟨r, 0, none⟩ : Addr).add 3) (.int .i64 t653) fun w1_40 =>
  St w1_40 ((⟨r, 0, none⟩ : Addr).add 4) (.int .i64 t654) fun w1_41 =>
  St w1_41 ((⟨r, 0, none⟩ : Addr).add 5) (.int .i64 t655) fun w1_42 =>
  ∃ r_14 : Int, w1_42.cell? ((⟨r, 0, none⟩ : Addr).add 0) = some (.int .i64 r_14) ∧
  ∃ rP_2 : Option Addr, ∃ rN_2 : Nat, ∃ rC_2 : Nat, w1_42.cell? ((⟨r, 0, none⟩ : Addr).add 1) = some (.slice rP_2 rN_2 rC_2) ∧
  ∃ r_15 : Int, w1_42.cell? ((⟨r, 0, none⟩ : Addr).add 2) = some (.int .i64 r_15) ∧
  ∃ r_16 : Int, w1_42.cell? ((⟨r, 0, none⟩ : Addr).add 3) = some (.int .i64 r_16) ∧
  ∃ r_17 : Int, w1_42.cell? ((⟨r, 0, none⟩ : Addr).add 4) = some (.int .i64 r_17) ∧
  ∃ r_18 : Int, w1_42.cell? ((⟨r, 0, none⟩ : Addr).add 5) = some (.int .i64 r_18) ∧
  R r_14 rP_2 rN_2 rC_2 r_15 r_16 r_17 r_18 true w1_42)))

def lit_ref27_DecodeRun_L1 (f : Addr × Addr × Addr × Int) (s : S_ref27_DecodeRun_L1) : Env := [⟨2, .pointer (some f.1), none⟩, ⟨4, .pointer (some f.2.1), none⟩, ⟨5, .pointer (some f.2.2.1), none⟩, ⟨6, .int .i64 f.2.2.2, none⟩, ⟨7, .int .i64 s.i, none⟩]

def dec_ref27_DecodeRun_L1 (e : Env) (K : (Addr × Addr × Addr × Int) → S_ref27_DecodeRun_L1 → Prop) : Prop :=
  onV (getV e 2) fun u1 =>
  asA u1 fun t2 =>
  onV (getV e 4) fun u2 =>
  asA u2 fun r_3 =>
  onV (getV e 5) fun u3 =>
  asA u3 fun x =>
  onV (getV e 6) fun u4 =>
  asI .i64 u4 fun n =>
  onV (getV e 7) fun u5 =>
  asI .i64 u5 fun i =>
    K (t2, r_3, x, n) ⟨i⟩

theorem dec_ref27_DecodeRun_L1_ok {N : Nat} (e : Env) (a : Act) (K : (Addr × Addr × Addr × Int) → S_ref27_DecodeRun_L1 → Prop) (hr : Rep N a e) (h0 : dec_ref27_DecodeRun_L1 e K) : ∃ f s, K f s ∧ Rep N a (lit_ref27_DecodeRun_L1 f s) := by
  unfold dec_ref27_DecodeRun_L1 at h0
  obtain ⟨u1, g2, h1⟩ := onV_elim h0
  obtain ⟨t2, rfl, h2⟩ := asA_elim h1
  obtain ⟨u2, g4, h3⟩ := onV_elim h2
  obtain ⟨r_3, rfl, h4⟩ := asA_elim h3
  obtain ⟨u3, g5, h5⟩ := onV_elim h4
  obtain ⟨x, rfl, h6⟩ := asA_elim h5
  obtain ⟨u4, g6, h7⟩ := onV_elim h6
  obtain ⟨n, rfl, h8⟩ := asI_elim h7
  obtain ⟨u5, g7, h9⟩ := onV_elim h8
  obtain ⟨i, rfl, h10⟩ := asI_elim h9
  exact ⟨_, _, h10, rep_less hr (by simp [lit_ref27_DecodeRun_L1, g2, g4, g5, g6, g7])⟩

def spec_ref27_DecodeRun_L1 (Q : Post) (e : Env) (w : World) : Prop :=
  dec_ref27_DecodeRun_L1 e fun f s => F_ref27_DecodeRun_L1 f.1 f.2.1 f.2.2.1 f.2.2.2 s w (fun w1 => Q (.exit 0) [⟨2, .pointer (some f.1), none⟩, ⟨4, .pointer (some f.2.1), none⟩, ⟨5, .pointer (some f.2.2.1), none⟩] w1)

def G_ref27_DecodeRun : Gen where
  loop := lookL [([false, true, false, true, true, true, true], spec_ref27_DecodeRun_L1)]
  plan := fun id =>
    bif Nat.beq id 8 then some ([0, 1, 0, 0, 8, 28, 60, 127, 255, 511], .take 0 (.take 1 (.take 2 (.take 3 (.take 4 (.take 5 (.take 6 (.take 7 (.take 8 (.take 9 .done)))))))))) else none

def dx_ref27_DecodeRun_L1_0 (e : Env) (K : (Addr × Addr × Addr × Int) → Prop) : Prop :=
  onV (getV e 2) fun u1 =>
  asA u1 fun t2 =>
  onV (getV e 4) fun u2 =>
  asA u2 fun r_3 =>
  onV (getV e 5) fun u3 =>
  asA u3 fun x =>
  onV (getV e 6) fun u4 =>
  asI .i64 u4 fun n =>
    K (t2, r_3, x, n)

theorem body_ref27_DecodeRun_L1 (f : Addr × Addr × Addr × Int) (s : S_ref27_DecodeRun_L1) (w : World) (Kn : (Addr × Addr × Addr × Int) → S_ref27_DecodeRun_L1 → World → Prop) (Kx0 : (Addr × Addr × Addr × Int) → World → Prop) :
    B_ref27_DecodeRun_L1 f.1 f.2.1 f.2.2.1 f.2.2.2 s w (fun s1 w1 => Kn f s1 w1) (fun w1 => Kx0 f w1) =
    den Tryd.prog Tryd.f20.ntmps G_ref27_DecodeRun (sub (codeOf Tryd.f20) [false, false, true, false, true, true, true, true]) [false, false, true, false, true, true, true, true] (roundQ (fun e w => dec_ref27_DecodeRun_L1 e fun f s => Kn f s w) (fun e w => False) (fun id e w => match Nat.beq id 0 with | true => dx_ref27_DecodeRun_L1_0 e fun f => Kx0 f w | false => False)) (lit_ref27_DecodeRun_L1 f s) w := by kernel_rfl

theorem ok_ref27_DecodeRun_L1 : OneOk Tryd.prog Tryd.f20.ntmps G_ref27_DecodeRun (codeOf Tryd.f20) [false, true, false, true, true, true, true] spec_ref27_DecodeRun_L1 := by
  intro c hc ih Q e w a hr h
  have hcc : sub (codeOf Tryd.f20) [false, false, true, false, true, true, true, true] = c := sub_of_codeAt hc
  obtain ⟨f, s, h, hrep⟩ := dec_ref27_DecodeRun_L1_ok e a _ hr h
  obtain ⟨J, μ, hj, hround⟩ := h
  refine loop_rule_deep seat_ok seat_mixed ih lit_ref27_DecodeRun_L1 dec_ref27_DecodeRun_L1 dec_ref27_DecodeRun_L1_ok hc f J μ (Kr := fun e w => False) (Kx := fun id e w => match Nat.beq id 0 with | true => (dx_ref27_DecodeRun_L1_0 e fun f1 => f1 = f ∧ Q (.exit 0) [⟨2, .pointer (some f.1), none⟩, ⟨4, .pointer (some f.2.1), none⟩, ⟨5, .pointer (some f.2.2.1), none⟩] w) | false => False) ?_ ?_ ?_ s w a hj hrep
  · intro e a w hr h
    exact h.elim
  · intro id e a w hr h0
    (try dsimp only at h0)
    split at h0
    · rename_i hid
      obtain rfl := Nat.eq_of_beq_eq_true hid
      unfold dx_ref27_DecodeRun_L1_0 at h0
      obtain ⟨u1, g2, h1⟩ := onV_elim h0
      obtain ⟨t2, rfl, h2⟩ := asA_elim h1
      obtain ⟨u2, g4, h3⟩ := onV_elim h2
      obtain ⟨r_3, rfl, h4⟩ := asA_elim h3
      obtain ⟨u3, g5, h5⟩ := onV_elim h4
      obtain ⟨x, rfl, h6⟩ := asA_elim h5
      obtain ⟨u4, g6, h7⟩ := onV_elim h6
      obtain ⟨n, rfl, h8⟩ := asI_elim h7
      obtain ⟨hf, hq⟩ := h8
      subst hf
      exact ⟨_, rep_less hr (by simp [g2, g4, g5]), hq⟩
    · exact h0.elim
  · intro s w hj
    have hb := hround s w hj
    rw [← hcc]
    have e1 := body_ref27_DecodeRun_L1 f s w (fun f1 s1 w1 => f1 = f ∧ J s1 w1 ∧ μ s1 w1 < μ s w) (fun f1 w1 => f1 = f ∧ Q (.exit 0) [⟨2, .pointer (some f.1), none⟩, ⟨4, .pointer (some f.2.1), none⟩, ⟨5, .pointer (some f.2.2.1), none⟩] w1)
    simp only [true_and] at e1
    exact cast e1 hb

theorem loops_ref27_DecodeRun : LoopOk Tryd.prog Tryd.f20.ntmps G_ref27_DecodeRun (codeOf Tryd.f20) := loopOk_list rfl ⟨ok_ref27_DecodeRun_L1, trivial⟩

theorem den_ref27_DecodeRun (bP : Option Addr) (bN : Nat) (bC : Nat) (w : World) (R : Value → World → Prop) :
    F_ref27_DecodeRun bP bN bC w (fun r00 r01P r01N r01C r02 r03 r04 r05 r1 w1 => R (.tuple #[.agg #[.int .i64 r00, .slice r01P r01N r01C, .int .i64 r02, .int .i64 r03, .int .i64 r04, .int .i64 r05], .bool r1]) w1) = den Tryd.prog Tryd.f20.ntmps G_ref27_DecodeRun (codeOf Tryd.f20) [] (postD Tryd.prog Tryd.f20.results.toList R) (entry [.slice bP bN bC] 0) w := by kernel_rfl

theorem C_ref27_DecodeRun.of {bP : Option Addr} {bN : Nat} {bC : Nat} {w : World} {R : Int → Option Addr → Nat → Nat → Int → Int → Int → Int → Bool → World → Prop} (h : F_ref27_DecodeRun bP bN bC w R) : C_ref27_DecodeRun bP bN bC w R := by
  refine (calls_of_den (c := codeOf Tryd.f20) seat_ok seat_mixed Tryd.func20 (by kernel_rfl) loops_ref27_DecodeRun (args := [.slice bP bN bC]) rfl (R := fun v w1 => ∃ (r00 : Int) (r01P : Option Addr) (r01N : Nat) (r01C : Nat) (r02 : Int) (r03 : Int) (r04 : Int) (r05 : Int) (r1 : Bool), v = (.tuple #[.agg #[.int .i64 r00, .slice r01P r01N r01C, .int .i64 r02, .int .i64 r03, .int .i64 r04, .int .i64 r05], .bool r1] : Value) ∧ R r00 r01P r01N r01C r02 r03 r04 r05 r1 w1) ?_).mono ?_
  · rw [← den_ref27_DecodeRun]
    have e : (fun r00 r01P r01N r01C r02 r03 r04 r05 r1 w1 => ∃ (r00' : Int) (r01P' : Option Addr) (r01N' : Nat) (r01C' : Nat) (r02' : Int) (r03' : Int) (r04' : Int) (r05' : Int) (r1' : Bool), (.tuple #[.agg #[.int .i64 r00, .slice r01P r01N r01C, .int .i64 r02, .int .i64 r03, .int .i64 r04, .int .i64 r05], .bool r1] : Value) = (.tuple #[.agg #[.int .i64 r00', .slice r01P' r01N' r01C', .int .i64 r02', .int .i64 r03', .int .i64 r04', .int .i64 r05'], .bool r1'] : Value) ∧ R r00' r01P' r01N' r01C' r02' r03' r04' r05' r1' w1) = R := by
      funext r00 r01P r01N r01C r02 r03 r04 r05 r1 w1
      exact propext ⟨fun ⟨r00', r01P', r01N', r01C', r02', r03', r04', r05', r1', he, h⟩ => by first | (simp at he; simp_all) | (cases he; exact h), fun h => ⟨_, _, _, _, _, _, _, _, _, rfl, h⟩⟩
    simpa only [e] using h
  · rintro en w1 ⟨v, he, r00, r01P, r01N, r01C, r02, r03, r04, r05, r1, rfl, h⟩
    exact ⟨_, _, _, _, _, _, _, _, _, he, h⟩

def F_script_writer_text_k1 (wx : Option Addr) (sx : ByteArray) (R : World → Prop) (w1_2 : World) : Prop :=
  BSl Tryd.prog 24 1 [(0, .int .i64 (sx.size : Int))] w1_2 fun t19P t19N t19C w1_3 =>
  C_script_writer_numbers wx t19P t19N t19C w1_3 fun w1_4 =>
  NN wx fun a_3 =>
  ∃ bP : Option Addr, ∃ bN : Nat, ∃ bC : Nat, w1_4.cell? (a_3.add 0) = some (.slice bP bN bC) ∧
  App Tryd.prog #[28, 9] 28 #[.slice bP bN bC, .string sx] w1_4 fun t27P t27N t27C w1_5 =>
  NN wx fun a_4 =>
  St w1_5 ((a_4.add 0).add 0) (.slice t27P t27N t27C) fun w1_6 =>
  R w1_6

def F_script_writer_text (wx : Option Addr) (sx : ByteArray) (w : World) (R : World → Prop) : Prop :=
  NN wx fun a =>
  ∃ bad : Bool, w.cell? (a.add 1) = some (.bool bad) ∧
  If bad
  (NN wx fun a_1 =>
  St w ((a_1.add 1).add 0) (.bool true) fun w1 =>
  F_script_writer_text_k1 wx sx R w1)
  (NN wx fun a_2 =>
  St w ((a_2.add 1).add 0) (.bool (decide ((sx.size : Int) > (65536 : Int)))) fun w1_1 =>
  F_script_writer_text_k1 wx sx R w1_1)

def G_script_writer_text : Gen where
  loop := lookL []
  plan := fun _ => none

theorem loops_script_writer_text : LoopOk Tryd.prog Tryd.f21.ntmps G_script_writer_text (codeOf Tryd.f21) := loopOk_none fun _ => rfl

theorem den_script_writer_text (wx : Option Addr) (sx : ByteArray) (w : World) (R : Value → World → Prop) :
    F_script_writer_text wx sx w (fun w1 => R (.tuple #[]) w1) = den Tryd.prog Tryd.f21.ntmps G_script_writer_text (codeOf Tryd.f21) [] (postD Tryd.prog Tryd.f21.results.toList R) (entry [.pointer wx, .string sx] 0) w := by kernel_rfl

theorem C_script_writer_text.of {wx : Option Addr} {sx : ByteArray} {w : World} {R : World → Prop} (h : F_script_writer_text wx sx w R) : C_script_writer_text wx sx w R := by
  refine (calls_of_den (c := codeOf Tryd.f21) seat_ok seat_mixed Tryd.func21 (by kernel_rfl) loops_script_writer_text (args := [.pointer wx, .string sx]) rfl (R := fun v w1 => v = (.tuple #[] : Value) ∧ R w1) ?_).mono ?_
  · rw [← den_script_writer_text]
    simpa using h
  · rintro en w1 ⟨v, he, rfl, h⟩
    exact ⟨he, h⟩

structure S_script_writer_numbers_L2 where
  u : Int

structure S_script_writer_numbers_L1 where
  t9 : Int

/-- One round. -/
def B_script_writer_numbers_L2 (wx_2 : Option Addr) (t7P_1 : Option Addr) (t7N_1 : Nat) (t7C_1 : Nat) (t8_1 : Int) (t9_1 : Int) (s : S_script_writer_numbers_L2) (w : World) (Kn : S_script_writer_numbers_L2 → World → Prop) (Kx2 : Int → World → Prop) : Prop :=
  If (decide ((s.u : Int) ≥ (128 : Int)))
  (NN wx_2 fun a_1 =>
  ∃ bP : Option Addr, ∃ bN : Nat, ∃ bC : Nat, w.cell? (a_1.add 0) = some (.slice bP bN bC) ∧
  BSl Tryd.prog 28 1 [(0, .int .u8 (orI .u8 (IntKind.u8.wrap s.u) (128 : Int)))] w fun t27P t27N t27C w1_1 =>
  App Tryd.prog #[28, 28] 28 #[.slice bP bN bC, .slice t27P t27N t27C] w1_1 fun t28P t28N t28C w1_2 =>
  NN wx_2 fun a_2 =>
  St w1_2 ((a_2.add 0).add 0) (.slice t28P t28N t28C) fun w1_3 =>
  0 ≤ (7 : Int) ∧
  Kn ⟨(shrI .u64 (s.u : Int) (7 : Int))⟩ w1_3)
  (Kx2 (s.u : Int) w)

def F_script_writer_numbers_L2 (wx_2 : Option Addr) (t7P_1 : Option Addr) (t7N_1 : Nat) (t7C_1 : Nat) (t8_1 : Int) (t9_1 : Int) (s : S_script_writer_numbers_L2) (w : World) (Kx2 : Int → World → Prop) : Prop :=
  LoopS (fun s w Kn => B_script_writer_numbers_L2 wx_2 t7P_1 t7N_1 t7C_1 t8_1 t9_1 s w Kn Kx2) s w

/-- One round. -/
def B_script_writer_numbers_L1 (wx_1 : Option Addr) (t7P : Option Addr) (t7N : Nat) (t7C : Nat) (t8 : Int) (s : S_script_writer_numbers_L1) (w : World) (Kn : S_script_writer_numbers_L1 → World → Prop) (Kx0 : World → Prop) : Prop :=
  If (decide ((s.t9 : Int) < t8))
  (0 ≤ (s.t9 : Int) ∧ (s.t9 : Int) < (t7N : Int) ∧ NN t7P fun a =>
  ∃ t12 : Int, w.cell? (a.add ((s.t9 : Int).toNat * 1)) = some (.int .i64 t12) ∧
  C_script_fold t12 w fun t14 w1 =>
  F_script_writer_numbers_L2 wx_1 t7P t7N t7C t8 (s.t9 : Int) ⟨t14⟩ w1
  (fun u_2 w1_4 =>
  NN wx_1 fun a_3 =>
  ∃ bP_1 : Option Addr, ∃ bN_1 : Nat, ∃ bC_1 : Nat, w1_4.cell? (a_3.add 0) = some (.slice bP_1 bN_1 bC_1) ∧
  BSl Tryd.prog 28 1 [(0, .int .u8 (IntKind.u8.wrap u_2))] w1_4 fun t38P t38N t38C w1_5 =>
  App Tryd.prog #[28, 28] 28 #[.slice bP_1 bN_1 bC_1, .slice t38P t38N t38C] w1_5 fun t39P t39N t39C w1_6 =>
  NN wx_1 fun a_4 =>
  St w1_6 ((a_4.add 0).add 0) (.slice t39P t39N t39C) fun w1_7 =>
  Kn ⟨(IntKind.i64.wrap ((s.t9 : Int) + (1 : Int)))⟩ w1_7))
  (Kx0 w)

def F_script_writer_numbers_L1 (wx_1 : Option Addr) (t7P : Option Addr) (t7N : Nat) (t7C : Nat) (t8 : Int) (s : S_script_writer_numbers_L1) (w : World) (Kx0 : World → Prop) : Prop :=
  LoopS (fun s w Kn => B_script_writer_numbers_L1 wx_1 t7P t7N t7C t8 s w Kn Kx0) s w

def F_script_writer_numbers (wx : Option Addr) (lP : Option Addr) (lN : Nat) (lC : Nat) (w : World) (R : World → Prop) : Prop :=
  F_script_writer_numbers_L1 wx lP lN lC (lN : Int) ⟨(0 : Int)⟩ w
  (fun w1_8 =>
  R w1_8)

def lit_script_writer_numbers_L1 (f : (Option Addr) × (Option Addr) × Nat × Nat × Int) (s : S_script_writer_numbers_L1) : Env := [⟨0, .pointer f.1, none⟩, ⟨7, .slice f.2.1 f.2.2.1 f.2.2.2.1, none⟩, ⟨8, .int .i64 f.2.2.2.2, none⟩, ⟨9, .int .i64 s.t9, none⟩]

def dec_script_writer_numbers_L1 (e : Env) (K : ((Option Addr) × (Option Addr) × Nat × Nat × Int) → S_script_writer_numbers_L1 → Prop) : Prop :=
  onV (getV e 0) fun u1 =>
  asP u1 fun wx_1 =>
  onV (getV e 7) fun u2 =>
  asS u2 fun t7P t7N t7C =>
  onV (getV e 8) fun u3 =>
  asI .i64 u3 fun t8 =>
  onV (getV e 9) fun u4 =>
  asI .i64 u4 fun t9 =>
    K (wx_1, t7P, t7N, t7C, t8) ⟨t9⟩

theorem dec_script_writer_numbers_L1_ok {N : Nat} (e : Env) (a : Act) (K : ((Option Addr) × (Option Addr) × Nat × Nat × Int) → S_script_writer_numbers_L1 → Prop) (hr : Rep N a e) (h0 : dec_script_writer_numbers_L1 e K) : ∃ f s, K f s ∧ Rep N a (lit_script_writer_numbers_L1 f s) := by
  unfold dec_script_writer_numbers_L1 at h0
  obtain ⟨u1, g0, h1⟩ := onV_elim h0
  obtain ⟨wx_1, rfl, h2⟩ := asP_elim h1
  obtain ⟨u2, g7, h3⟩ := onV_elim h2
  obtain ⟨t7P, t7N, t7C, rfl, h4⟩ := asS_elim h3
  obtain ⟨u3, g8, h5⟩ := onV_elim h4
  obtain ⟨t8, rfl, h6⟩ := asI_elim h5
  obtain ⟨u4, g9, h7⟩ := onV_elim h6
  obtain ⟨t9, rfl, h8⟩ := asI_elim h7
  exact ⟨_, _, h8, rep_less hr (by simp [lit_script_writer_numbers_L1, g0, g7, g8, g9])⟩

def spec_script_writer_numbers_L1 (Q : Post) (e : Env) (w : World) : Prop :=
  dec_script_writer_numbers_L1 e fun f s => F_script_writer_numbers_L1 f.1 f.2.1 f.2.2.1 f.2.2.2.1 f.2.2.2.2 s w (fun w1 => Q (.exit 0) [] w1)

def lit_script_writer_numbers_L2 (f : (Option Addr) × (Option Addr) × Nat × Nat × Int × Int) (s : S_script_writer_numbers_L2) : Env := [⟨0, .pointer f.1, none⟩, ⟨7, .slice f.2.1 f.2.2.1 f.2.2.2.1, none⟩, ⟨8, .int .i64 f.2.2.2.2.1, none⟩, ⟨9, .int .i64 f.2.2.2.2.2, none⟩, ⟨6, .int .u64 s.u, none⟩]

def dec_script_writer_numbers_L2 (e : Env) (K : ((Option Addr) × (Option Addr) × Nat × Nat × Int × Int) → S_script_writer_numbers_L2 → Prop) : Prop :=
  onV (getV e 0) fun u1 =>
  asP u1 fun wx_2 =>
  onV (getV e 7) fun u2 =>
  asS u2 fun t7P_1 t7N_1 t7C_1 =>
  onV (getV e 8) fun u3 =>
  asI .i64 u3 fun t8_1 =>
  onV (getV e 9) fun u4 =>
  asI .i64 u4 fun t9_1 =>
  onV (getV e 6) fun u5 =>
  asI .u64 u5 fun u =>
    K (wx_2, t7P_1, t7N_1, t7C_1, t8_1, t9_1) ⟨u⟩

theorem dec_script_writer_numbers_L2_ok {N : Nat} (e : Env) (a : Act) (K : ((Option Addr) × (Option Addr) × Nat × Nat × Int × Int) → S_script_writer_numbers_L2 → Prop) (hr : Rep N a e) (h0 : dec_script_writer_numbers_L2 e K) : ∃ f s, K f s ∧ Rep N a (lit_script_writer_numbers_L2 f s) := by
  unfold dec_script_writer_numbers_L2 at h0
  obtain ⟨u1, g0, h1⟩ := onV_elim h0
  obtain ⟨wx_2, rfl, h2⟩ := asP_elim h1
  obtain ⟨u2, g7, h3⟩ := onV_elim h2
  obtain ⟨t7P_1, t7N_1, t7C_1, rfl, h4⟩ := asS_elim h3
  obtain ⟨u3, g8, h5⟩ := onV_elim h4
  obtain ⟨t8_1, rfl, h6⟩ := asI_elim h5
  obtain ⟨u4, g9, h7⟩ := onV_elim h6
  obtain ⟨t9_1, rfl, h8⟩ := asI_elim h7
  obtain ⟨u5, g6, h9⟩ := onV_elim h8
  obtain ⟨u, rfl, h10⟩ := asI_elim h9
  exact ⟨_, _, h10, rep_less hr (by simp [lit_script_writer_numbers_L2, g0, g7, g8, g9, g6])⟩

def spec_script_writer_numbers_L2 (Q : Post) (e : Env) (w : World) : Prop :=
  dec_script_writer_numbers_L2 e fun f s => F_script_writer_numbers_L2 f.1 f.2.1 f.2.2.1 f.2.2.2.1 f.2.2.2.2.1 f.2.2.2.2.2 s w (fun u_1 w1 => Q (.exit 2) [⟨0, .pointer f.1, none⟩, ⟨7, .slice f.2.1 f.2.2.1 f.2.2.2.1, none⟩, ⟨8, .int .i64 f.2.2.2.2.1, none⟩, ⟨9, .int .i64 f.2.2.2.2.2, none⟩, ⟨6, .int .u64 u_1, none⟩] w1)

def G_script_writer_numbers : Gen where
  loop := lookL [([false, true], spec_script_writer_numbers_L1), ([false, false, true, true, false, false, true, true, false, false, true], spec_script_writer_numbers_L2)]
  plan := fun _ => none

def dx_script_writer_numbers_L1_0 (e : Env) (K : ((Option Addr) × (Option Addr) × Nat × Nat × Int) → Prop) : Prop :=
  onV (getV e 0) fun u1 =>
  asP u1 fun wx_1 =>
  onV (getV e 7) fun u2 =>
  asS u2 fun t7P t7N t7C =>
  onV (getV e 8) fun u3 =>
  asI .i64 u3 fun t8 =>
    K (wx_1, t7P, t7N, t7C, t8)

theorem body_script_writer_numbers_L1 (f : (Option Addr) × (Option Addr) × Nat × Nat × Int) (s : S_script_writer_numbers_L1) (w : World) (Kn : ((Option Addr) × (Option Addr) × Nat × Nat × Int) → S_script_writer_numbers_L1 → World → Prop) (Kx0 : ((Option Addr) × (Option Addr) × Nat × Nat × Int) → World → Prop) :
    B_script_writer_numbers_L1 f.1 f.2.1 f.2.2.1 f.2.2.2.1 f.2.2.2.2 s w (fun s1 w1 => Kn f s1 w1) (fun w1 => Kx0 f w1) =
    den Tryd.prog Tryd.f22.ntmps G_script_writer_numbers (sub (codeOf Tryd.f22) [false, false, true]) [false, false, true] (roundQ (fun e w => dec_script_writer_numbers_L1 e fun f s => Kn f s w) (fun e w => False) (fun id e w => match Nat.beq id 0 with | true => dx_script_writer_numbers_L1_0 e fun f => Kx0 f w | false => False)) (lit_script_writer_numbers_L1 f s) w := by kernel_rfl

def dx_script_writer_numbers_L2_2 (e : Env) (K : ((Option Addr) × (Option Addr) × Nat × Nat × Int × Int) → Int → Prop) : Prop :=
  onV (getV e 0) fun u1 =>
  asP u1 fun wx_2 =>
  onV (getV e 7) fun u2 =>
  asS u2 fun t7P_1 t7N_1 t7C_1 =>
  onV (getV e 8) fun u3 =>
  asI .i64 u3 fun t8_1 =>
  onV (getV e 9) fun u4 =>
  asI .i64 u4 fun t9_1 =>
  onV (getV e 6) fun u5 =>
  asI .u64 u5 fun u_1 =>
    K (wx_2, t7P_1, t7N_1, t7C_1, t8_1, t9_1) u_1

theorem body_script_writer_numbers_L2 (f : (Option Addr) × (Option Addr) × Nat × Nat × Int × Int) (s : S_script_writer_numbers_L2) (w : World) (Kn : ((Option Addr) × (Option Addr) × Nat × Nat × Int × Int) → S_script_writer_numbers_L2 → World → Prop) (Kx2 : ((Option Addr) × (Option Addr) × Nat × Nat × Int × Int) → Int → World → Prop) :
    B_script_writer_numbers_L2 f.1 f.2.1 f.2.2.1 f.2.2.2.1 f.2.2.2.2.1 f.2.2.2.2.2 s w (fun s1 w1 => Kn f s1 w1) (fun u_1 w1 => Kx2 f u_1 w1) =
    den Tryd.prog Tryd.f22.ntmps G_script_writer_numbers (sub (codeOf Tryd.f22) [false, false, false, true, true, false, false, true, true, false, false, true]) [false, false, false, true, true, false, false, true, true, false, false, true] (roundQ (fun e w => dec_script_writer_numbers_L2 e fun f s => Kn f s w) (fun e w => False) (fun id e w => match Nat.beq id 2 with | true => dx_script_writer_numbers_L2_2 e fun f u_1 => Kx2 f u_1 w | false => False)) (lit_script_writer_numbers_L2 f s) w := by kernel_rfl

theorem ok_script_writer_numbers_L1 : OneOk Tryd.prog Tryd.f22.ntmps G_script_writer_numbers (codeOf Tryd.f22) [false, true] spec_script_writer_numbers_L1 := by
  intro c hc ih Q e w a hr h
  have hcc : sub (codeOf Tryd.f22) [false, false, true] = c := sub_of_codeAt hc
  obtain ⟨f, s, h, hrep⟩ := dec_script_writer_numbers_L1_ok e a _ hr h
  obtain ⟨J, μ, hj, hround⟩ := h
  refine loop_rule_deep seat_ok seat_mixed ih lit_script_writer_numbers_L1 dec_script_writer_numbers_L1 dec_script_writer_numbers_L1_ok hc f J μ (Kr := fun e w => False) (Kx := fun id e w => match Nat.beq id 0 with | true => (dx_script_writer_numbers_L1_0 e fun f1 => f1 = f ∧ Q (.exit 0) [] w) | false => False) ?_ ?_ ?_ s w a hj hrep
  · intro e a w hr h
    exact h.elim
  · intro id e a w hr h0
    (try dsimp only at h0)
    split at h0
    · rename_i hid
      obtain rfl := Nat.eq_of_beq_eq_true hid
      unfold dx_script_writer_numbers_L1_0 at h0
      obtain ⟨u1, g0, h1⟩ := onV_elim h0
      obtain ⟨wx_1, rfl, h2⟩ := asP_elim h1
      obtain ⟨u2, g7, h3⟩ := onV_elim h2
      obtain ⟨t7P, t7N, t7C, rfl, h4⟩ := asS_elim h3
      obtain ⟨u3, g8, h5⟩ := onV_elim h4
      obtain ⟨t8, rfl, h6⟩ := asI_elim h5
      obtain ⟨hf, hq⟩ := h6
      subst hf
      exact ⟨_, rep_less hr (by simp), hq⟩
    · exact h0.elim
  · intro s w hj
    have hb := hround s w hj
    rw [← hcc]
    have e1 := body_script_writer_numbers_L1 f s w (fun f1 s1 w1 => f1 = f ∧ J s1 w1 ∧ μ s1 w1 < μ s w) (fun f1 w1 => f1 = f ∧ Q (.exit 0) [] w1)
    simp only [true_and] at e1
    exact cast e1 hb

theorem ok_script_writer_numbers_L2 : OneOk Tryd.prog Tryd.f22.ntmps G_script_writer_numbers (codeOf Tryd.f22) [false, false, true, true, false, false, true, true, false, false, true] spec_script_writer_numbers_L2 := by
  intro c hc ih Q e w a hr h
  have hcc : sub (codeOf Tryd.f22) [false, false, false, true, true, false, false, true, true, false, false, true] = c := sub_of_codeAt hc
  obtain ⟨f, s, h, hrep⟩ := dec_script_writer_numbers_L2_ok e a _ hr h
  obtain ⟨J, μ, hj, hround⟩ := h
  refine loop_rule_deep seat_ok seat_mixed ih lit_script_writer_numbers_L2 dec_script_writer_numbers_L2 dec_script_writer_numbers_L2_ok hc f J μ (Kr := fun e w => False) (Kx := fun id e w => match Nat.beq id 2 with | true => (dx_script_writer_numbers_L2_2 e fun f1 u_1 => f1 = f ∧ Q (.exit 2) [⟨0, .pointer f.1, none⟩, ⟨7, .slice f.2.1 f.2.2.1 f.2.2.2.1, none⟩, ⟨8, .int .i64 f.2.2.2.2.1, none⟩, ⟨9, .int .i64 f.2.2.2.2.2, none⟩, ⟨6, .int .u64 u_1, none⟩] w) | false => False) ?_ ?_ ?_ s w a hj hrep
  · intro e a w hr h
    exact h.elim
  · intro id e a w hr h0
    (try dsimp only at h0)
    split at h0
    · rename_i hid
      obtain rfl := Nat.eq_of_beq_eq_true hid
      unfold dx_script_writer_numbers_L2_2 at h0
      obtain ⟨u1, g0, h1⟩ := onV_elim h0
      obtain ⟨wx_2, rfl, h2⟩ := asP_elim h1
      obtain ⟨u2, g7, h3⟩ := onV_elim h2
      obtain ⟨t7P_1, t7N_1, t7C_1, rfl, h4⟩ := asS_elim h3
      obtain ⟨u3, g8, h5⟩ := onV_elim h4
      obtain ⟨t8_1, rfl, h6⟩ := asI_elim h5
      obtain ⟨u4, g9, h7⟩ := onV_elim h6
      obtain ⟨t9_1, rfl, h8⟩ := asI_elim h7
      obtain ⟨u5, g6, h9⟩ := onV_elim h8
      obtain ⟨u_1, rfl, h10⟩ := asI_elim h9
      obtain ⟨hf, hq⟩ := h10
      subst hf
      exact ⟨_, rep_less hr (by simp [g0, g7, g8, g9, g6]), hq⟩
    · exact h0.elim
  · intro s w hj
    have hb := hround s w hj
    rw [← hcc]
    have e1 := body_script_writer_numbers_L2 f s w (fun f1 s1 w1 => f1 = f ∧ J s1 w1 ∧ μ s1 w1 < μ s w) (fun f1 u_1 w1 => f1 = f ∧ Q (.exit 2) [⟨0, .pointer f.1, none⟩, ⟨7, .slice f.2.1 f.2.2.1 f.2.2.2.1, none⟩, ⟨8, .int .i64 f.2.2.2.2.1, none⟩, ⟨9, .int .i64 f.2.2.2.2.2, none⟩, ⟨6, .int .u64 u_1, none⟩] w1)
    simp only [true_and] at e1
    exact cast e1 hb

theorem loops_script_writer_numbers : LoopOk Tryd.prog Tryd.f22.ntmps G_script_writer_numbers (codeOf Tryd.f22) := loopOk_list rfl ⟨ok_script_writer_numbers_L1, ⟨ok_script_writer_numbers_L2, trivial⟩⟩

theorem den_script_writer_numbers (wx : Option Addr) (lP : Option Addr) (lN : Nat) (lC : Nat) (w : World) (R : Value → World → Prop) :
    F_script_writer_numbers wx lP lN lC w (fun w1 => R (.tuple #[]) w1) = den Tryd.prog Tryd.f22.ntmps G_script_writer_numbers (codeOf Tryd.f22) [] (postD Tryd.prog Tryd.f22.results.toList R) (entry [.pointer wx, .slice lP lN lC] 0) w := by kernel_rfl

theorem C_script_writer_numbers.of {wx : Option Addr} {lP : Option Addr} {lN : Nat} {lC : Nat} {w : World} {R : World → Prop} (h : F_script_writer_numbers wx lP lN lC w R) : C_script_writer_numbers wx lP lN lC w R := by
  refine (calls_of_den (c := codeOf Tryd.f22) seat_ok seat_mixed Tryd.func22 (by kernel_rfl) loops_script_writer_numbers (args := [.pointer wx, .slice lP lN lC]) rfl (R := fun v w1 => v = (.tuple #[] : Value) ∧ R w1) ?_).mono ?_
  · rw [← den_script_writer_numbers]
    simpa using h
  · rintro en w1 ⟨v, he, rfl, h⟩
    exact ⟨he, h⟩

def F_script_writer_done (wx : Option Addr) (w : World) (R : Option Addr → Nat → Nat → Int → World → Prop) : Prop :=
  NN wx fun a =>
  ∃ bad : Bool, w.cell? (a.add 1) = some (.bool bad) ∧
  If bad
  (R none 0 0 (3 : Int) w)
  (NN wx fun a_1 =>
  ∃ bP : Option Addr, ∃ bN : Nat, ∃ bC : Nat, w.cell? (a_1.add 0) = some (.slice bP bN bC) ∧
  R bP bN bC (0 : Int) w)

def G_script_writer_done : Gen where
  loop := lookL []
  plan := fun _ => none

theorem loops_script_writer_done : LoopOk Tryd.prog Tryd.f23.ntmps G_script_writer_done (codeOf Tryd.f23) := loopOk_none fun _ => rfl

theorem den_script_writer_done (wx : Option Addr) (w : World) (R : Value → World → Prop) :
    F_script_writer_done wx w (fun r0P r0N r0C r1 w1 => R (.tuple #[.slice r0P r0N r0C, .int .i64 r1]) w1) = den Tryd.prog Tryd.f23.ntmps G_script_writer_done (codeOf Tryd.f23) [] (postD Tryd.prog Tryd.f23.results.toList R) (entry [.pointer wx] 0) w := by kernel_rfl

theorem C_script_writer_done.of {wx : Option Addr} {w : World} {R : Option Addr → Nat → Nat → Int → World → Prop} (h : F_script_writer_done wx w R) : C_script_writer_done wx w R := by
  refine (calls_of_den (c := codeOf Tryd.f23) seat_ok seat_mixed Tryd.func23 (by kernel_rfl) loops_script_writer_done (args := [.pointer wx]) rfl (R := fun v w1 => ∃ (r0P : Option Addr) (r0N : Nat) (r0C : Nat) (r1 : Int), v = (.tuple #[.slice r0P r0N r0C, .int .i64 r1] : Value) ∧ R r0P r0N r0C r1 w1) ?_).mono ?_
  · rw [← den_script_writer_done]
    have e : (fun r0P r0N r0C r1 w1 => ∃ (r0P' : Option Addr) (r0N' : Nat) (r0C' : Nat) (r1' : Int), (.tuple #[.slice r0P r0N r0C, .int .i64 r1] : Value) = (.tuple #[.slice r0P' r0N' r0C', .int .i64 r1'] : Value) ∧ R r0P' r0N' r0C' r1' w1) = R := by
      funext r0P r0N r0C r1 w1
      exact propext ⟨fun ⟨r0P', r0N', r0C', r1', he, h⟩ => by first | (simp at he; simp_all) | (cases he; exact h), fun h => ⟨_, _, _, _, rfl, h⟩⟩
    simpa only [e] using h
  · rintro en w1 ⟨v, he, r0P, r0N, r0C, r1, rfl, h⟩
    exact ⟨_, _, _, _, he, h⟩

def F_ref27_text (sx : ByteArray) (w : World) (R : Option Addr → Nat → Nat → World → Prop) : Prop :=
  C_ref27_number (sx.size : Int) w fun t5P t5N t5C w1 =>
  App Tryd.prog #[28, 9] 28 #[.slice t5P t5N t5C, .string sx] w1 fun t7P t7N t7C w1_1 =>
  R t7P t7N t7C w1_1

def G_ref27_text : Gen where
  loop := lookL []
  plan := fun _ => none

theorem loops_ref27_text : LoopOk Tryd.prog Tryd.f24.ntmps G_ref27_text (codeOf Tryd.f24) := loopOk_none fun _ => rfl

theorem den_ref27_text (sx : ByteArray) (w : World) (R : Value → World → Prop) :
    F_ref27_text sx w (fun rP rN rC w1 => R (.slice rP rN rC) w1) = den Tryd.prog Tryd.f24.ntmps G_ref27_text (codeOf Tryd.f24) [] (postD Tryd.prog Tryd.f24.results.toList R) (entry [.string sx] 0) w := by kernel_rfl

theorem C_ref27_text.of {sx : ByteArray} {w : World} {R : Option Addr → Nat → Nat → World → Prop} (h : F_ref27_text sx w R) : C_ref27_text sx w R := by
  refine (calls_of_den (c := codeOf Tryd.f24) seat_ok seat_mixed Tryd.func24 (by kernel_rfl) loops_ref27_text (args := [.string sx]) rfl (R := fun v w1 => ∃ (rP : Option Addr) (rN : Nat) (rC : Nat), v = (.slice rP rN rC : Value) ∧ R rP rN rC w1) ?_).mono ?_
  · rw [← den_ref27_text]
    have e : (fun rP rN rC w1 => ∃ (rP' : Option Addr) (rN' : Nat) (rC' : Nat), (.slice rP rN rC : Value) = (.slice rP' rN' rC' : Value) ∧ R rP' rN' rC' w1) = R := by
      funext rP rN rC w1
      exact propext ⟨fun ⟨rP', rN', rC', he, h⟩ => by first | (simp at he; simp_all) | (cases he; exact h), fun h => ⟨_, _, _, rfl, h⟩⟩
    simpa only [e] using h
  · rintro en w1 ⟨v, he, rP, rN, rC, rfl, h⟩
    exact ⟨_, _, _, he, h⟩

structure S_ref27_number_L1 where
  u_1 : Int
  outP : Option Addr
  outN : Nat
  outC : Nat

/-- One round. -/
def B_ref27_number_L1 (s : S_ref27_number_L1) (w : World) (Kn : S_ref27_number_L1 → World → Prop) (Kx0 : Int → Option Addr → Nat → Nat → World → Prop) : Prop :=
  If (decide ((s.u_1 : Int) ≥ (128 : Int)))
  ((128 : Int) ≠ 0 ∧
  BSl Tryd.prog 28 1 [(0, .int .u8 (IntKind.u8.wrap ((IntKind.u8.wrap ((s.u_1 : Int).tmod (128 : Int))) + (128 : Int))))] w fun t22P t22N t22C w1_1 =>
  App Tryd.prog #[28, 28] 28 #[.slice s.outP s.outN s.outC, .slice t22P t22N t22C] w1_1 fun t23P t23N t23C w1_2 =>
  (128 : Int) ≠ 0 ∧
  Kn ⟨(IntKind.u64.wrap ((s.u_1 : Int).tdiv (128 : Int))), t23P, t23N, t23C⟩ w1_2)
  (Kx0 (s.u_1 : Int) s.outP s.outN s.outC w)

def F_ref27_number_L1 (s : S_ref27_number_L1) (w : World) (Kx0 : Int → Option Addr → Nat → Nat → World → Prop) : Prop :=
  LoopS (fun s w Kn => B_ref27_number_L1 s w Kn Kx0) s w

def F_ref27_number_k1 (R : Option Addr → Nat → Nat → World → Prop) (u : Int) (w1 : World) : Prop :=
  F_ref27_number_L1 ⟨u, none, 0, 0⟩ w1
  (fun u_3 outP_2 outN_2 outC_2 w1_3 =>
  BSl Tryd.prog 28 1 [(0, .int .u8 (IntKind.u8.wrap u_3))] w1_3 fun t29P t29N t29C w1_4 =>
  App Tryd.prog #[28, 28] 28 #[.slice outP_2 outN_2 outC_2, .slice t29P t29N t29C] w1_4 fun t30P t30N t30C w1_5 =>
  R t30P t30N t30C w1_5)

def F_ref27_number (n : Int) (w : World) (R : Option Addr → Nat → Nat → World → Prop) : Prop :=
  If (decide (n < (0 : Int)))
  (F_ref27_number_k1 R (IntKind.u64.wrap ((IntKind.u64.wrap ((2 : Int) * (IntKind.u64.wrap (IntKind.i64.wrap ((-1) - n))))) + (1 : Int))) w)
  (F_ref27_number_k1 R (IntKind.u64.wrap ((2 : Int) * (IntKind.u64.wrap n))) w)

def lit_ref27_number_L1 (f : Unit) (s : S_ref27_number_L1) : Env := [⟨3, .int .u64 s.u_1, none⟩, ⟨4, .slice s.outP s.outN s.outC, none⟩]

def dec_ref27_number_L1 (e : Env) (K : Unit → S_ref27_number_L1 → Prop) : Prop :=
  onV (getV e 3) fun u1 =>
  asI .u64 u1 fun u_1 =>
  onV (getV e 4) fun u2 =>
  asS u2 fun outP outN outC =>
    K () ⟨u_1, outP, outN, outC⟩

theorem dec_ref27_number_L1_ok {N : Nat} (e : Env) (a : Act) (K : Unit → S_ref27_number_L1 → Prop) (hr : Rep N a e) (h0 : dec_ref27_number_L1 e K) : ∃ f s, K f s ∧ Rep N a (lit_ref27_number_L1 f s) := by
  unfold dec_ref27_number_L1 at h0
  obtain ⟨u1, g3, h1⟩ := onV_elim h0
  obtain ⟨u_1, rfl, h2⟩ := asI_elim h1
  obtain ⟨u2, g4, h3⟩ := onV_elim h2
  obtain ⟨outP, outN, outC, rfl, h4⟩ := asS_elim h3
  exact ⟨_, _, h4, rep_less hr (by simp [lit_ref27_number_L1, g3, g4])⟩

def spec_ref27_number_L1 (Q : Post) (e : Env) (w : World) : Prop :=
  dec_ref27_number_L1 e fun f s => F_ref27_number_L1 s w (fun u_2 outP_1 outN_1 outC_1 w1 => Q (.exit 0) [⟨3, .int .u64 u_2, none⟩, ⟨4, .slice outP_1 outN_1 outC_1, none⟩] w1)

def G_ref27_number : Gen where
  loop := lookL [([false, false, true, true, true, true], spec_ref27_number_L1)]
  plan := fun _ => none

def dx_ref27_number_L1_0 (e : Env) (K : Unit → Int → Option Addr → Nat → Nat → Prop) : Prop :=
  onV (getV e 3) fun u1 =>
  asI .u64 u1 fun u_2 =>
  onV (getV e 4) fun u2 =>
  asS u2 fun outP_1 outN_1 outC_1 =>
    K () u_2 outP_1 outN_1 outC_1

theorem body_ref27_number_L1 (f : Unit) (s : S_ref27_number_L1) (w : World) (Kn : Unit → S_ref27_number_L1 → World → Prop) (Kx0 : Unit → Int → Option Addr → Nat → Nat → World → Prop) :
    B_ref27_number_L1 s w (fun s1 w1 => Kn f s1 w1) (fun u_2 outP_1 outN_1 outC_1 w1 => Kx0 f u_2 outP_1 outN_1 outC_1 w1) =
    den Tryd.prog Tryd.f25.ntmps G_ref27_number (sub (codeOf Tryd.f25) [false, false, false, true, true, true, true]) [false, false, false, true, true, true, true] (roundQ (fun e w => dec_ref27_number_L1 e fun f s => Kn f s w) (fun e w => False) (fun id e w => match Nat.beq id 0 with | true => dx_ref27_number_L1_0 e fun f u_2 outP_1 outN_1 outC_1 => Kx0 f u_2 outP_1 outN_1 outC_1 w | false => False)) (lit_ref27_number_L1 f s) w := by kernel_rfl

theorem ok_ref27_number_L1 : OneOk Tryd.prog Tryd.f25.ntmps G_ref27_number (codeOf Tryd.f25) [false, false, true, true, true, true] spec_ref27_number_L1 := by
  intro c hc ih Q e w a hr h
  have hcc : sub (codeOf Tryd.f25) [false, false, false, true, true, true, true] = c := sub_of_codeAt hc
  obtain ⟨f, s, h, hrep⟩ := dec_ref27_number_L1_ok e a _ hr h
  obtain ⟨J, μ, hj, hround⟩ := h
  refine loop_rule_deep seat_ok seat_mixed ih lit_ref27_number_L1 dec_ref27_number_L1 dec_ref27_number_L1_ok hc f J μ (Kr := fun e w => False) (Kx := fun id e w => match Nat.beq id 0 with | true => (dx_ref27_number_L1_0 e fun f1 u_2 outP_1 outN_1 outC_1 => f1 = f ∧ Q (.exit 0) [⟨3, .int .u64 u_2, none⟩, ⟨4, .slice outP_1 outN_1 outC_1, none⟩] w) | false => False) ?_ ?_ ?_ s w a hj hrep
  · intro e a w hr h
    exact h.elim
  · intro id e a w hr h0
    (try dsimp only at h0)
    split at h0
    · rename_i hid
      obtain rfl := Nat.eq_of_beq_eq_true hid
      unfold dx_ref27_number_L1_0 at h0
      obtain ⟨u1, g3, h1⟩ := onV_elim h0
      obtain ⟨u_2, rfl, h2⟩ := asI_elim h1
      obtain ⟨u2, g4, h3⟩ := onV_elim h2
      obtain ⟨outP_1, outN_1, outC_1, rfl, h4⟩ := asS_elim h3
      obtain ⟨hf, hq⟩ := h4
      subst hf
      exact ⟨_, rep_less hr (by simp [g3, g4]), hq⟩
    · exact h0.elim
  · intro s w hj
    have hb := hround s w hj
    rw [← hcc]
    have e1 := body_ref27_number_L1 f s w (fun f1 s1 w1 => f1 = f ∧ J s1 w1 ∧ μ s1 w1 < μ s w) (fun f1 u_2 outP_1 outN_1 outC_1 w1 => f1 = f ∧ Q (.exit 0) [⟨3, .int .u64 u_2, none⟩, ⟨4, .slice outP_1 outN_1 outC_1, none⟩] w1)
    simp only [true_and] at e1 ⊢
    exact cast e1 hb

theorem loops_ref27_number : LoopOk Tryd.prog Tryd.f25.ntmps G_ref27_number (codeOf Tryd.f25) := loopOk_list rfl ⟨ok_ref27_number_L1, trivial⟩

theorem den_ref27_number (n : Int) (w : World) (R : Value → World → Prop) :
    F_ref27_number n w (fun rP rN rC w1 => R (.slice rP rN rC) w1) = den Tryd.prog Tryd.f25.ntmps G_ref27_number (codeOf Tryd.f25) [] (postD Tryd.prog Tryd.f25.results.toList R) (entry [.int .i64 n] 0) w := by kernel_rfl

theorem C_ref27_number.of {n : Int} {w : World} {R : Option Addr → Nat → Nat → World → Prop} (h : F_ref27_number n w R) : C_ref27_number n w R := by
  refine (calls_of_den (c := codeOf Tryd.f25) seat_ok seat_mixed Tryd.func25 (by kernel_rfl) loops_ref27_number (args := [.int .i64 n]) rfl (R := fun v w1 => ∃ (rP : Option Addr) (rN : Nat) (rC : Nat), v = (.slice rP rN rC : Value) ∧ R rP rN rC w1) ?_).mono ?_
  · rw [← den_ref27_number]
    have e : (fun rP rN rC w1 => ∃ (rP' : Option Addr) (rN' : Nat) (rC' : Nat), (.slice rP rN rC : Value) = (.slice rP' rN' rC' : Value) ∧ R rP' rN' rC' w1) = R := by
      funext rP rN rC w1
      exact propext ⟨fun ⟨rP', rN', rC', he, h⟩ => by first | (simp at he; simp_all) | (cases he; exact h), fun h => ⟨_, _, _, rfl, h⟩⟩
    simpa only [e] using h
  · rintro en w1 ⟨v, he, rP, rN, rC, rfl, h⟩
    exact ⟨_, _, _, he, h⟩

def F_script_reader_text (r : Option Addr) (w : World) (R : ByteArray → World → Prop) : Prop :=
  NN r fun a =>
  ∃ bP : Option Addr, ∃ bN : Nat, ∃ bC : Nat, w.cell? (a.add 0) = some (.slice bP bN bC) ∧
  C_script_reader_count r (minI 65536 (bN : Int)) w fun t12 w1 =>
  NN r fun a_1 =>
  ∃ bad : Bool, w1.cell? (a_1.add 1) = some (.bool bad) ∧
  If bad
  (NN r fun a_3 =>
  St w1 ((a_3.add 1).add 0) (.bool true) fun w1_1 =>
  R ⟨#[]⟩ w1_1)
  (NN r fun a_2 =>
  ∃ bP_1 : Option Addr, ∃ bN_1 : Nat, ∃ bC_1 : Nat, w1.cell? (a_2.add 0) = some (.slice bP_1 bN_1 bC_1) ∧
  If (decide (t12 > (bN_1 : Int)))
  (NN r fun a_4 =>
  St w1 ((a_4.add 1).add 0) (.bool true) fun w1_2 =>
  R ⟨#[]⟩ w1_2)
  (NN r fun a_5 =>
  ∃ bP_2 : Option Addr, ∃ bN_2 : Nat, ∃ bC_2 : Nat, w1.cell? (a_5.add 0) = some (.slice bP_2 bN_2 bC_2) ∧
  0 ≤ t12 ∧ t12 ≤ (bC_2 : Int) ∧
  Run Tryd.prog (convert 28 9 (.slice bP_2 t12.toNat bC_2)) w1 fun v w1_3 => ∃ t35 : ByteArray, v = (.string t35) ∧
  NN r fun a_6 =>
  ∃ bP_3 : Option Addr, ∃ bN_3 : Nat, ∃ bC_3 : Nat, w1_3.cell? (a_6.add 0) = some (.slice bP_3 bN_3 bC_3) ∧
  0 ≤ t12 ∧ t12 ≤ (bN_3 : Int) ∧
  NN r fun a_7 =>
  St w1_3 ((a_7.add 0).add 0) (.slice (adv bP_3 bC_3 t12.toNat 1) (bN_3 - t12.toNat) (bC_3 - t12.toNat)) fun w1_4 =>
  R t35 w1_4))

def G_script_reader_text : Gen where
  loop := lookL []
  plan := fun _ => none

theorem loops_script_reader_text : LoopOk Tryd.prog Tryd.f26.ntmps G_script_reader_text (codeOf Tryd.f26) := loopOk_none fun _ => rfl

theorem den_script_reader_text (r : Option Addr) (w : World) (R : Value → World → Prop) :
    F_script_reader_text r w (fun r w1 => R (.string r) w1) = den Tryd.prog Tryd.f26.ntmps G_script_reader_text (codeOf Tryd.f26) [] (postD Tryd.prog Tryd.f26.results.toList R) (entry [.pointer r] 0) w := by kernel_rfl

theorem C_script_reader_text.of {r : Option Addr} {w : World} {R : ByteArray → World → Prop} (h : F_script_reader_text r w R) : C_script_reader_text r w R := by
  refine (calls_of_den (c := codeOf Tryd.f26) seat_ok seat_mixed Tryd.func26 (by kernel_rfl) loops_script_reader_text (args := [.pointer r]) rfl (R := fun v w1 => ∃ (r : ByteArray), v = (.string r : Value) ∧ R r w1) ?_).mono ?_
  · rw [← den_script_reader_text]
    have e : (fun r w1 => ∃ (r' : ByteArray), (.string r : Value) = (.string r' : Value) ∧ R r' w1) = R := by
      funext r w1
      exact propext ⟨fun ⟨r', he, h⟩ => by first | (simp at he; simp_all) | (cases he; exact h), fun h => ⟨_, rfl, h⟩⟩
    simpa only [e] using h
  · rintro en w1 ⟨v, he, r, rfl, h⟩
    exact ⟨_, he, h⟩

structure S_script_reader_number_L1 where
  u : Int
  t7 : Int

def F_script_reader_number_k3 (s : S_script_reader_number_L1) (Kn : S_script_reader_number_L1 → World → Prop) (Kx0 : Int → World → Prop) (t11 : Int) (w1_4 : World) : Prop :=
  0 ≤ (IntKind.i64.wrap ((7 : Int) * (s.t7 : Int))) ∧
  If (decide (t11 < (128 : Int)))
  (Kx0 (orI .u64 (s.u : Int) (shlI .u64 (IntKind.u64.wrap (andNotI .u8 t11 (128 : Int))) (IntKind.i64.wrap ((7 : Int) * (s.t7 : Int))))) w1_4)
  (Kn ⟨(orI .u64 (s.u : Int) (shlI .u64 (IntKind.u64.wrap (andNotI .u8 t11 (128 : Int))) (IntKind.i64.wrap ((7 : Int) * (s.t7 : Int))))), (IntKind.i64.wrap ((s.t7 : Int) + (1 : Int)))⟩ w1_4)

def F_script_reader_number_k1 (r_1 : Option Addr) (s : S_script_reader_number_L1) (Kn : S_script_reader_number_L1 → World → Prop) (Kx0 : Int → World → Prop) (Kr : Int → World → Prop) (t11 : Int) (t14 : Bool) (w1_1 : World) : Prop :=
  If t14
  (NN r_1 fun a_1 =>
  St w1_1 ((a_1.add 1).add 0) (.bool true) fun w1_2 =>
  Kr (0 : Int) w1_2)
  (F_script_reader_number_k3 s Kn Kx0 t11 w1_1)

def F_script_reader_number_k2 (s : S_script_reader_number_L1) (Kn : S_script_reader_number_L1 → World → Prop) (Kx0 : Int → World → Prop) (t11 : Int) (w1_3 : World) : Prop :=
  F_script_reader_number_k3 s Kn Kx0 t11 w1_3

/-- One round. -/
def B_script_reader_number_L1 (r_1 : Option Addr) (s : S_script_reader_number_L1) (w : World) (Kn : S_script_reader_number_L1 → World → Prop) (Kx0 : Int → World → Prop) (Kr : Int → World → Prop) : Prop :=
  If (decide ((s.t7 : Int) < (10 : Int)))
  (C_script_reader_next r_1 w fun t11 w1 =>
  NN r_1 fun a =>
  ∃ bad : Bool, w1.cell? (a.add 1) = some (.bool bad) ∧
  If bad
  (F_script_reader_number_k1 r_1 s Kn Kx0 Kr t11 bad w1)
  (If ((s.t7 : Int) == (9 : Int))
  (If (decide (t11 > (1 : Int)))
  (F_script_reader_number_k1 r_1 s Kn Kx0 Kr t11 (decide (t11 > (1 : Int))) w1)
  (If (decide (t11 < (128 : Int)))
  (If (t11 == (0 : Int))
  (F_script_reader_number_k1 r_1 s Kn Kx0 Kr t11 (decide ((s.t7 : Int) > (0 : Int))) w1)
  (F_script_reader_number_k2 s Kn Kx0 t11 w1))
  (F_script_reader_number_k2 s Kn Kx0 t11 w1)))
  (If (decide (t11 < (128 : Int)))
  (If (t11 == (0 : Int))
  (F_script_reader_number_k1 r_1 s Kn Kx0 Kr t11 (decide ((s.t7 : Int) > (0 : Int))) w1)
  (F_script_reader_number_k2 s Kn Kx0 t11 w1))
  (F_script_reader_number_k2 s Kn Kx0 t11 w1))))
  (Kx0 (s.u : Int) w)

def F_script_reader_number_L1 (r_1 : Option Addr) (s : S_script_reader_number_L1) (w : World) (Kx0 : Int → World → Prop) (Kr : Int → World → Prop) : Prop :=
  LoopS (fun s w Kn => B_script_reader_number_L1 r_1 s w Kn Kx0 Kr) s w

def F_script_reader_number (r : Option Addr) (w : World) (R : Int → World → Prop) : Prop :=
  F_script_reader_number_L1 r ⟨(0 : Int), (0 : Int)⟩ w
  (fun u_2 w1_5 =>
  C_script_unfold u_2 w1_5 fun t48 w1_7 =>
  R t48 w1_7)
  (fun t2_1 w1_6 =>
  R t2_1 w1_6)

def lit_script_reader_number_L1 (f : (Option Addr)) (s : S_script_reader_number_L1) : Env := [⟨0, .pointer f, none⟩, ⟨3, .int .u64 s.u, none⟩, ⟨7, .int .i64 s.t7, none⟩]

def dec_script_reader_number_L1 (e : Env) (K : (Option Addr) → S_script_reader_number_L1 → Prop) : Prop :=
  onV (getV e 0) fun u1 =>
  asP u1 fun r_1 =>
  onV (getV e 3) fun u2 =>
  asI .u64 u2 fun u =>
  onV (getV e 7) fun u3 =>
  asI .i64 u3 fun t7 =>
    K (r_1) ⟨u, t7⟩

theorem dec_script_reader_number_L1_ok {N : Nat} (e : Env) (a : Act) (K : (Option Addr) → S_script_reader_number_L1 → Prop) (hr : Rep N a e) (h0 : dec_script_reader_number_L1 e K) : ∃ f s, K f s ∧ Rep N a (lit_script_reader_number_L1 f s) := by
  unfold dec_script_reader_number_L1 at h0
  obtain ⟨u1, g0, h1⟩ := onV_elim h0
  obtain ⟨r_1, rfl, h2⟩ := asP_elim h1
  obtain ⟨u2, g3, h3⟩ := onV_elim h2
  obtain ⟨u, rfl, h4⟩ := asI_elim h3
  obtain ⟨u3, g7, h5⟩ := onV_elim h4
  obtain ⟨t7, rfl, h6⟩ := asI_elim h5
  exact ⟨_, _, h6, rep_less hr (by simp [lit_script_reader_number_L1, g0, g3, g7])⟩

def spec_script_reader_number_L1 (Q : Post) (e : Env) (w : World) : Prop :=
  dec_script_reader_number_L1 e fun f s => F_script_reader_number_L1 f s w (fun u_1 w1 => Q (.exit 0) [⟨3, .int .u64 u_1, none⟩] w1) (fun t2 w1 => Q .ret [⟨2, .int .i64 t2, none⟩] w1)

def G_script_reader_number : Gen where
  loop := lookL [([false, true, false, true, true], spec_script_reader_number_L1)]
  plan := fun _ => none

def dx_script_reader_number_L1_0 (e : Env) (K : (Option Addr) → Int → Prop) : Prop :=
  onV (getV e 0) fun u1 =>
  asP u1 fun r_1 =>
  onV (getV e 3) fun u2 =>
  asI .u64 u2 fun u_1 =>
    K (r_1) u_1

def dx_script_reader_number_L1_ret (e : Env) (K : (Option Addr) → Int → Prop) : Prop :=
  onV (getV e 0) fun u1 =>
  asP u1 fun r_1 =>
  onV (getV e 2) fun u2 =>
  asI .i64 u2 fun t2 =>
    K (r_1) t2

theorem body_script_reader_number_L1 (f : (Option Addr)) (s : S_script_reader_number_L1) (w : World) (Kn : (Option Addr) → S_script_reader_number_L1 → World → Prop) (Kx0 : (Option Addr) → Int → World → Prop) (Kr : (Option Addr) → Int → World → Prop) :
    B_script_reader_number_L1 f s w (fun s1 w1 => Kn f s1 w1) (fun u_1 w1 => Kx0 f u_1 w1) (fun t2 w1 => Kr f t2 w1) =
    den Tryd.prog Tryd.f27.ntmps G_script_reader_number (sub (codeOf Tryd.f27) [false, false, true, false, true, true]) [false, false, true, false, true, true] (roundQ (fun e w => dec_script_reader_number_L1 e fun f s => Kn f s w) (fun e w => dx_script_reader_number_L1_ret e fun f t2 => Kr f t2 w) (fun id e w => match Nat.beq id 0 with | true => dx_script_reader_number_L1_0 e fun f u_1 => Kx0 f u_1 w | false => False)) (lit_script_reader_number_L1 f s) w := by kernel_rfl

theorem ok_script_reader_number_L1 : OneOk Tryd.prog Tryd.f27.ntmps G_script_reader_number (codeOf Tryd.f27) [false, true, false, true, true] spec_script_reader_number_L1 := by
  intro c hc ih Q e w a hr h
  have hcc : sub (codeOf Tryd.f27) [false, false, true, false, true, true] = c := sub_of_codeAt hc
  obtain ⟨f, s, h, hrep⟩ := dec_script_reader_number_L1_ok e a _ hr h
  obtain ⟨J, μ, hj, hround⟩ := h
  refine loop_rule_deep seat_ok seat_mixed ih lit_script_reader_number_L1 dec_script_reader_number_L1 dec_script_reader_number_L1_ok hc f J μ (Kr := fun e w => dx_script_reader_number_L1_ret e fun f1 t2 => f1 = f ∧ Q .ret [⟨2, .int .i64 t2, none⟩] w) (Kx := fun id e w => match Nat.beq id 0 with | true => (dx_script_reader_number_L1_0 e fun f1 u_1 => f1 = f ∧ Q (.exit 0) [⟨3, .int .u64 u_1, none⟩] w) | false => False) ?_ ?_ ?_ s w a hj hrep
  · intro e a w hr h0
    unfold dx_script_reader_number_L1_ret at h0
    obtain ⟨u1, g0, h1⟩ := onV_elim h0
    obtain ⟨r_1, rfl, h2⟩ := asP_elim h1
    obtain ⟨u2, g2, h3⟩ := onV_elim h2
    obtain ⟨t2, rfl, h4⟩ := asI_elim h3
    obtain ⟨hf, hq⟩ := h4
    subst hf
    exact ⟨_, rep_less hr (by simp [g2]), hq⟩
  · intro id e a w hr h0
    (try dsimp only at h0)
    split at h0
    · rename_i hid
      obtain rfl := Nat.eq_of_beq_eq_true hid
      unfold dx_script_reader_number_L1_0 at h0
      obtain ⟨u1, g0, h1⟩ := onV_elim h0
      obtain ⟨r_1, rfl, h2⟩ := asP_elim h1
      obtain ⟨u2, g3, h3⟩ := onV_elim h2
      obtain ⟨u_1, rfl, h4⟩ := asI_elim h3
      obtain ⟨hf, hq⟩ := h4
      subst hf
      exact ⟨_, rep_less hr (by simp [g3]), hq⟩
    · exact h0.elim
  · intro s w hj
    have hb := hround s w hj
    rw [← hcc]
    have e1 := body_script_reader_number_L1 f s w (fun f1 s1 w1 => f1 = f ∧ J s1 w1 ∧ μ s1 w1 < μ s w) (fun f1 u_1 w1 => f1 = f ∧ Q (.exit 0) [⟨3, .int .u64 u_1, none⟩] w1) (fun f1 t2 w1 => f1 = f ∧ Q .ret [⟨2, .int .i64 t2, none⟩] w1)
    simp only [true_and] at e1
    exact cast e1 hb

theorem loops_script_reader_number : LoopOk Tryd.prog Tryd.f27.ntmps G_script_reader_number (codeOf Tryd.f27) := loopOk_list rfl ⟨ok_script_reader_number_L1, trivial⟩

theorem den_script_reader_number (r : Option Addr) (w : World) (R : Value → World → Prop) :
    F_script_reader_number r w (fun r w1 => R (.int .i64 r) w1) = den Tryd.prog Tryd.f27.ntmps G_script_reader_number (codeOf Tryd.f27) [] (postD Tryd.prog Tryd.f27.results.toList R) (entry [.pointer r] 0) w := by kernel_rfl

theorem C_script_reader_number.of {r : Option Addr} {w : World} {R : Int → World → Prop} (h : F_script_reader_number r w R) : C_script_reader_number r w R := by
  refine (calls_of_den (c := codeOf Tryd.f27) seat_ok seat_mixed Tryd.func27 (by kernel_rfl) loops_script_reader_number (args := [.pointer r]) rfl (R := fun v w1 => ∃ (r : Int), v = (.int .i64 r : Value) ∧ R r w1) ?_).mono ?_
  · rw [← den_script_reader_number]
    have e : (fun r w1 => ∃ (r' : Int), (.int .i64 r : Value) = (.int .i64 r' : Value) ∧ R r' w1) = R := by
      funext r w1
      exact propext ⟨fun ⟨r', he, h⟩ => by first | (simp at he; simp_all) | (cases he; exact h), fun h => ⟨_, rfl, h⟩⟩
    simpa only [e] using h
  · rintro en w1 ⟨v, he, r, rfl, h⟩
    exact ⟨_, he, h⟩

structure S_script_reader_row_L1 where
  i : Int

/-- One round. -/
def B_script_reader_row_L1 (r_1 : Option Addr) (one_1 : Value) (n : Int) (s : S_script_reader_row_L1) (w : World) (Kn : S_script_reader_row_L1 → World → Prop) (Kx0 : World → Prop) : Prop :=
  If (decide ((s.i : Int) < n))
  (NN r_1 fun a =>
  ∃ bad : Bool, w.cell? (a.add 1) = some (.bool bad) ∧
  If (!bad)
  (CallV Tryd.prog one_1 [] w fun v w1_1 => v = (.tuple #[]) ∧
  Kn ⟨(IntKind.i64.wrap ((s.i : Int) + (1 : Int)))⟩ w1_1)
  (Kx0 w))
  (Kx0 w)

def F_script_reader_row_L1 (r_1 : Option Addr) (one_1 : Value) (n : Int) (s : S_script_reader_row_L1) (w : World) (Kx0 : World → Prop) : Prop :=
  LoopS (fun s w Kn => B_script_reader_row_L1 r_1 one_1 n s w Kn Kx0) s w

def F_script_reader_row (r : Option Addr) (mostx : Int) (one : Value) (w : World) (R : World → Prop) : Prop :=
  C_script_reader_count r mostx w fun t10 w1 =>
  F_script_reader_row_L1 r one t10 ⟨(0 : Int)⟩ w1
  (fun w1_2 =>
  R w1_2)

def lit_script_reader_row_L1 (f : (Option Addr) × Value × Int) (s : S_script_reader_row_L1) : Env := [⟨0, .pointer f.1, none⟩, ⟨2, f.2.1, none⟩, ⟨6, .int .i64 f.2.2, none⟩, ⟨7, .int .i64 s.i, none⟩]

def dec_script_reader_row_L1 (e : Env) (K : ((Option Addr) × Value × Int) → S_script_reader_row_L1 → Prop) : Prop :=
  onV (getV e 0) fun u1 =>
  asP u1 fun r_1 =>
  onV (getV e 2) fun u2 =>
  asV u2 fun one_1 =>
  onV (getV e 6) fun u3 =>
  asI .i64 u3 fun n =>
  onV (getV e 7) fun u4 =>
  asI .i64 u4 fun i =>
    K (r_1, one_1, n) ⟨i⟩

theorem dec_script_reader_row_L1_ok {N : Nat} (e : Env) (a : Act) (K : ((Option Addr) × Value × Int) → S_script_reader_row_L1 → Prop) (hr : Rep N a e) (h0 : dec_script_reader_row_L1 e K) : ∃ f s, K f s ∧ Rep N a (lit_script_reader_row_L1 f s) := by
  unfold dec_script_reader_row_L1 at h0
  obtain ⟨u1, g0, h1⟩ := onV_elim h0
  obtain ⟨r_1, rfl, h2⟩ := asP_elim h1
  obtain ⟨u2, g2, h3⟩ := onV_elim h2
  obtain ⟨one_1, rfl, h4⟩ := asV_elim h3
  obtain ⟨u3, g6, h5⟩ := onV_elim h4
  obtain ⟨n, rfl, h6⟩ := asI_elim h5
  obtain ⟨u4, g7, h7⟩ := onV_elim h6
  obtain ⟨i, rfl, h8⟩ := asI_elim h7
  exact ⟨_, _, h8, rep_less hr (by simp [lit_script_reader_row_L1, g0, g2, g6, g7])⟩

def spec_script_reader_row_L1 (Q : Post) (e : Env) (w : World) : Prop :=
  dec_script_reader_row_L1 e fun f s => F_script_reader_row_L1 f.1 f.2.1 f.2.2 s w (fun w1 => Q (.exit 0) [] w1)

def G_script_reader_row : Gen where
  loop := lookL [([false, true, true], spec_script_reader_row_L1)]
  plan := fun _ => none

def dx_script_reader_row_L1_0 (e : Env) (K : ((Option Addr) × Value × Int) → Prop) : Prop :=
  onV (getV e 0) fun u1 =>
  asP u1 fun r_1 =>
  onV (getV e 2) fun u2 =>
  asV u2 fun one_1 =>
  onV (getV e 6) fun u3 =>
  asI .i64 u3 fun n =>
    K (r_1, one_1, n)

theorem body_script_reader_row_L1 (f : (Option Addr) × Value × Int) (s : S_script_reader_row_L1) (w : World) (Kn : ((Option Addr) × Value × Int) → S_script_reader_row_L1 → World → Prop) (Kx0 : ((Option Addr) × Value × Int) → World → Prop) :
    B_script_reader_row_L1 f.1 f.2.1 f.2.2 s w (fun s1 w1 => Kn f s1 w1) (fun w1 => Kx0 f w1) =
    den Tryd.prog Tryd.f28.ntmps G_script_reader_row (sub (codeOf Tryd.f28) [false, false, true, true]) [false, false, true, true] (roundQ (fun e w => dec_script_reader_row_L1 e fun f s => Kn f s w) (fun e w => False) (fun id e w => match Nat.beq id 0 with | true => dx_script_reader_row_L1_0 e fun f => Kx0 f w | false => False)) (lit_script_reader_row_L1 f s) w := by kernel_rfl

theorem ok_script_reader_row_L1 : OneOk Tryd.prog Tryd.f28.ntmps G_script_reader_row (codeOf Tryd.f28) [false, true, true] spec_script_reader_row_L1 := by
  intro c hc ih Q e w a hr h
  have hcc : sub (codeOf Tryd.f28) [false, false, true, true] = c := sub_of_codeAt hc
  obtain ⟨f, s, h, hrep⟩ := dec_script_reader_row_L1_ok e a _ hr h
  obtain ⟨J, μ, hj, hround⟩ := h
  refine loop_rule_deep seat_ok seat_mixed ih lit_script_reader_row_L1 dec_script_reader_row_L1 dec_script_reader_row_L1_ok hc f J μ (Kr := fun e w => False) (Kx := fun id e w => match Nat.beq id 0 with | true => (dx_script_reader_row_L1_0 e fun f1 => f1 = f ∧ Q (.exit 0) [] w) | false => False) ?_ ?_ ?_ s w a hj hrep
  · intro e a w hr h
    exact h.elim
  · intro id e a w hr h0
    (try dsimp only at h0)
    split at h0
    · rename_i hid
      obtain rfl := Nat.eq_of_beq_eq_true hid
      unfold dx_script_reader_row_L1_0 at h0
      obtain ⟨u1, g0, h1⟩ := onV_elim h0
      obtain ⟨r_1, rfl, h2⟩ := asP_elim h1
      obtain ⟨u2, g2, h3⟩ := onV_elim h2
      obtain ⟨one_1, rfl, h4⟩ := asV_elim h3
      obtain ⟨u3, g6, h5⟩ := onV_elim h4
      obtain ⟨n, rfl, h6⟩ := asI_elim h5
      obtain ⟨hf, hq⟩ := h6
      subst hf
      exact ⟨_, rep_less hr (by simp), hq⟩
    · exact h0.elim
  · intro s w hj
    have hb := hround s w hj
    rw [← hcc]
    have e1 := body_script_reader_row_L1 f s w (fun f1 s1 w1 => f1 = f ∧ J s1 w1 ∧ μ s1 w1 < μ s w) (fun f1 w1 => f1 = f ∧ Q (.exit 0) [] w1)
    simp only [true_and] at e1
    exact cast e1 hb

theorem loops_script_reader_row : LoopOk Tryd.prog Tryd.f28.ntmps G_script_reader_row (codeOf Tryd.f28) := loopOk_list rfl ⟨ok_script_reader_row_L1, trivial⟩

theorem den_script_reader_row (r : Option Addr) (mostx : Int) (one : Value) (w : World) (R : Value → World → Prop) :
    F_script_reader_row r mostx one w (fun w1 => R (.tuple #[]) w1) = den Tryd.prog Tryd.f28.ntmps G_script_reader_row (codeOf Tryd.f28) [] (postD Tryd.prog Tryd.f28.results.toList R) (entry [.pointer r, .int .i64 mostx, one] 0) w := by kernel_rfl

theorem C_script_reader_row.of {r : Option Addr} {mostx : Int} {one : Value} {w : World} {R : World → Prop} (h : F_script_reader_row r mostx one w R) : C_script_reader_row r mostx one w R := by
  refine (calls_of_den (c := codeOf Tryd.f28) seat_ok seat_mixed Tryd.func28 (by kernel_rfl) loops_script_reader_row (args := [.pointer r, .int .i64 mostx, one]) rfl (R := fun v w1 => v = (.tuple #[] : Value) ∧ R w1) ?_).mono ?_
  · rw [← den_script_reader_row]
    simpa using h
  · rintro en w1 ⟨v, he, rfl, h⟩
    exact ⟨he, h⟩

end Go.Proofs.YtggbmakfifllnaaDoor
