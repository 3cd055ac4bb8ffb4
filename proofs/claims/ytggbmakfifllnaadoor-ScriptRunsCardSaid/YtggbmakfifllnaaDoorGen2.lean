/- The formulas of this seat's functions, held against the loaded program by the kernel. Printed by a program. -/
import Derived.Test.YtggbmakfifllnaaDoorGenC
set_option maxRecDepth 100000
set_option linter.unusedVariables false
namespace Go.Proofs.YtggbmakfifllnaaDoor
open Go Go.D Go.Proofs

def F_script_Encode (s0x : ByteArray) (s1x : ByteArray) (s2x : Int) (s3x : Int) (s4x : Int) (s5x : Int) (s6x : Int) (s7x : Int) (s8P : Option Addr) (s8N : Nat) (s8C : Nat) (w : World) (R : Option Addr → Nat → Nat → Int → World → Prop) : Prop :=
  New w (.cells #[.string s0x, .string s1x, .int .i64 s2x, .int .i64 s3x, .int .i64 s4x, .int .i64 s5x, .int .i64 s6x, .int .i64 s7x, .slice s8P s8N s8C] 26) fun r w1 =>
  ∃ CollectP : Option Addr, ∃ CollectN : Nat, ∃ CollectC : Nat, w1.cell? ((⟨r, 0, none⟩ : Addr).add 8) = some (.slice CollectP CollectN CollectC) ∧
  New w1 (.cells #[.slice none 0 0, .bool (decide ((CollectN : Int) > (1000 : Int)))] 57) fun r_1 w1_1 =>
  ∃ Program : ByteArray, w1_1.cell? ((⟨r, 0, none⟩ : Addr).add 0) = some (.string Program) ∧
  C_script_writer_text (some ⟨r_1, 0, none⟩) Program w1_1 fun w1_2 =>
  ∃ Query : ByteArray, w1_2.cell? ((⟨r, 0, none⟩ : Addr).add 1) = some (.string Query) ∧
  C_script_writer_text (some ⟨r_1, 0, none⟩) Query w1_2 fun w1_3 =>
  ∃ Cells : Int, w1_3.cell? (((⟨r, 0, none⟩ : Addr).add 2).add 0) = some (.int .i64 Cells) ∧
  ∃ Trail : Int, w1_3.cell? (((⟨r, 0, none⟩ : Addr).add 2).add 1) = some (.int .i64 Trail) ∧
  ∃ Words : Int, w1_3.cell? (((⟨r, 0, none⟩ : Addr).add 2).add 2) = some (.int .i64 Words) ∧
  ∃ Choices : Int, w1_3.cell? (((⟨r, 0, none⟩ : Addr).add 2).add 3) = some (.int .i64 Choices) ∧
  ∃ Clauses : Int, w1_3.cell? (((⟨r, 0, none⟩ : Addr).add 2).add 4) = some (.int .i64 Clauses) ∧
  ∃ Steps : Int, w1_3.cell? ((⟨r, 0, none⟩ : Addr).add 7) = some (.int .i64 Steps) ∧
  ∃ CollectP_1 : Option Addr, ∃ CollectN_1 : Nat, ∃ CollectC_1 : Nat, w1_3.cell? ((⟨r, 0, none⟩ : Addr).add 8) = some (.slice CollectP_1 CollectN_1 CollectC_1) ∧
  BSl Tryd.prog 24 7 [(0, .int .i64 Cells), (1, .int .i64 Trail), (2, .int .i64 Words), (3, .int .i64 Choices), (4, .int .i64 Clauses), (5, .int .i64 Steps), (6, .int .i64 (CollectN_1 : Int))] w1_3 fun t40P t40N t40C w1_4 =>
  C_script_writer_numbers (some ⟨r_1, 0, none⟩) t40P t40N t40C w1_4 fun w1_5 =>
  ∃ CollectP_2 : Option Addr, ∃ CollectN_2 : Nat, ∃ CollectC_2 : Nat, w1_5.cell? ((⟨r, 0, none⟩ : Addr).add 8) = some (.slice CollectP_2 CollectN_2 CollectC_2) ∧
  C_script_writer_numbers (some ⟨r_1, 0, none⟩) CollectP_2 CollectN_2 CollectC_2 w1_5 fun w1_6 =>
  C_script_writer_done (some ⟨r_1, 0, none⟩) w1_6 fun t470P t470N t470C t471 w1_7 =>
  R t470P t470N t470C t471 w1_7

def G_script_Encode : Gen where
  loop := lookL []
  plan := fun _ => none

theorem loops_script_Encode : LoopOk Tryd.prog Tryd.f9.ntmps G_script_Encode (codeOf Tryd.f9) := loopOk_none fun _ => rfl

theorem den_script_Encode (s0x : ByteArray) (s1x : ByteArray) (s2x : Int) (s3x : Int) (s4x : Int) (s5x : Int) (s6x : Int) (s7x : Int) (s8P : Option Addr) (s8N : Nat) (s8C : Nat) (w : World) (R : Value → World → Prop) :
    F_script_Encode s0x s1x s2x s3x s4x s5x s6x s7x s8P s8N s8C w (fun r0P r0N r0C r1 w1 => R (.tuple #[.slice r0P r0N r0C, .int .i64 r1]) w1) = den Tryd.prog Tryd.f9.ntmps G_script_Encode (codeOf Tryd.f9) [] (postD Tryd.prog Tryd.f9.results.toList R) (entry [.agg #[.string s0x, .string s1x, .int .i64 s2x, .int .i64 s3x, .int .i64 s4x, .int .i64 s5x, .int .i64 s6x, .int .i64 s7x, .slice s8P s8N s8C]] 0) w := by kernel_rfl

theorem C_script_Encode.of {s0x : ByteArray} {s1x : ByteArray} {s2x : Int} {s3x : Int} {s4x : Int} {s5x : Int} {s6x : Int} {s7x : Int} {s8P : Option Addr} {s8N : Nat} {s8C : Nat} {w : World} {R : Option Addr → Nat → Nat → Int → World → Prop} (h : F_script_Encode s0x s1x s2x s3x s4x s5x s6x s7x s8P s8N s8C w R) : C_script_Encode s0x s1x s2x s3x s4x s5x s6x s7x s8P s8N s8C w R := by
  refine (calls_of_den (c := codeOf Tryd.f9) seat_ok seat_mixed Tryd.func9 (by kernel_rfl) loops_script_Encode (args := [.agg #[.string s0x, .string s1x, .int .i64 s2x, .int .i64 s3x, .int .i64 s4x, .int .i64 s5x, .int .i64 s6x, .int .i64 s7x, .slice s8P s8N s8C]]) rfl (R := fun v w1 => ∃ (r0P : Option Addr) (r0N : Nat) (r0C : Nat) (r1 : Int), v = (.tuple #[.slice r0P r0N r0C, .int .i64 r1] : Value) ∧ R r0P r0N r0C r1 w1) ?_).mono ?_
  · rw [← den_script_Encode]
    have e : (fun r0P r0N r0C r1 w1 => ∃ (r0P' : Option Addr) (r0N' : Nat) (r0C' : Nat) (r1' : Int), (.tuple #[.slice r0P r0N r0C, .int .i64 r1] : Value) = (.tuple #[.slice r0P' r0N' r0C', .int .i64 r1'] : Value) ∧ R r0P' r0N' r0C' r1' w1) = R := by
      funext r0P r0N r0C r1 w1
      exact propext ⟨fun ⟨r0P', r0N', r0C', r1', he, h⟩ => by first | (simp at he; simp_all) | (cases he; exact h), fun h => ⟨_, _, _, _, rfl, h⟩⟩
    simpa only [e] using h
  · rintro en w1 ⟨v, he, r0P, r0N, r0C, r1, rfl, h⟩
    exact ⟨_, _, _, _, he, h⟩

structure S_ref27_Encode_L1 where
  outP : Option Addr
  outN : Nat
  outC : Nat
  i : Int

def F_ref27_Encode_k1 (R : Option Addr → Nat → Nat → Bool → World → Prop) (w1_1 : World) : Prop :=
  R none 0 0 false w1_1

/-- One round. -/
def B_ref27_Encode_L1 (lP : Option Addr) (lN : Nat) (lC : Nat) (s : S_ref27_Encode_L1) (w : World) (Kn : S_ref27_Encode_L1 → World → Prop) (Kx0 : Option Addr → Nat → Nat → World → Prop) : Prop :=
  If (decide ((s.i : Int) < (lN : Int)))
  (0 ≤ (s.i : Int) ∧ (s.i : Int) < (lN : Int) ∧ NN lP fun a =>
  ∃ t65 : Int, w.cell? (a.add ((s.i : Int).toNat * 1)) = some (.int .i64 t65) ∧
  C_ref27_number t65 w fun t66P t66N t66C w1_7 =>
  App Tryd.prog #[28, 28] 28 #[.slice s.outP s.outN s.outC, .slice t66P t66N t66C] w1_7 fun t67P t67N t67C w1_8 =>
  Kn ⟨t67P, t67N, t67C, (IntKind.i64.wrap ((s.i : Int) + (1 : Int)))⟩ w1_8)
  (Kx0 s.outP s.outN s.outC w)

def F_ref27_Encode_L1 (lP : Option Addr) (lN : Nat) (lC : Nat) (s : S_ref27_Encode_L1) (w : World) (Kx0 : Option Addr → Nat → Nat → World → Prop) : Prop :=
  LoopS (fun s w Kn => B_ref27_Encode_L1 lP lN lC s w Kn Kx0) s w

def F_ref27_Encode (s0x : ByteArray) (s1x : ByteArray) (s2x : Int) (s3x : Int) (s4x : Int) (s5x : Int) (s6x : Int) (s7x : Int) (s8P : Option Addr) (s8N : Nat) (s8C : Nat) (w : World) (R : Option Addr → Nat → Nat → Bool → World → Prop) : Prop :=
  New w (.cells #[.string s0x, .string s1x, .int .i64 s2x, .int .i64 s3x, .int .i64 s4x, .int .i64 s5x, .int .i64 s6x, .int .i64 s7x, .slice s8P s8N s8C] 26) fun r w1 =>
  ∃ Program : ByteArray, w1.cell? ((⟨r, 0, none⟩ : Addr).add 0) = some (.string Program) ∧
  If (decide ((Program.size : Int) > (65536 : Int)))
  (F_ref27_Encode_k1 R w1)
  (∃ Query : ByteArray, w1.cell? ((⟨r, 0, none⟩ : Addr).add 1) = some (.string Query) ∧
  If (decide ((Query.size : Int) > (65536 : Int)))
  (F_ref27_Encode_k1 R w1)
  (∃ CollectP : Option Addr, ∃ CollectN : Nat, ∃ CollectC : Nat, w1.cell? ((⟨r, 0, none⟩ : Addr).add 8) = some (.slice CollectP CollectN CollectC) ∧
  If (decide ((CollectN : Int) > (1000 : Int)))
  (R none 0 0 false w1)
  (∃ Program_1 : ByteArray, (drw w1).cell? ((⟨r, 0, none⟩ : Addr).add 0) = some (.string Program_1) ∧
  ∃ Query_1 : ByteArray, (drw w1).cell? ((⟨r, 0, none⟩ : Addr).add 1) = some (.string Query_1) ∧
  C_ref27_text Program_1 (drw w1) fun t25P t25N t25C w1_2 =>
  w1_2.cell? ((⟨r, 0, none⟩ : Addr).add 1) = (drw w1).cell? ((⟨r, 0, none⟩ : Addr).add 1) ∧
  C_ref27_text Query_1 w1_2 fun t28P t28N t28C w1_3 =>
  App Tryd.prog #[28, 28] 28 #[.slice t25P t25N t25C, .slice t28P t28N t28C] w1_3 fun t29P t29N t29C w1_4 =>
  ∃ Cells : Int, w1_4.cell? (((⟨r, 0, none⟩ : Addr).add 2).add 0) = some (.int .i64 Cells) ∧
  ∃ Trail : Int, w1_4.cell? (((⟨r, 0, none⟩ : Addr).add 2).add 1) = some (.int .i64 Trail) ∧
  ∃ Words : Int, w1_4.cell? (((⟨r, 0, none⟩ : Addr).add 2).add 2) = some (.int .i64 Words) ∧
  ∃ Choices : Int, w1_4.cell? (((⟨r, 0, none⟩ : Addr).add 2).add 3) = some (.int .i64 Choices) ∧
  ∃ Clauses : Int, w1_4.cell? (((⟨r, 0, none⟩ : Addr).add 2).add 4) = some (.int .i64 Clauses) ∧
  ∃ Steps : Int, w1_4.cell? ((⟨r, 0, none⟩ : Addr).add 7) = some (.int .i64 Steps) ∧
  ∃ CollectP_1 : Option Addr, ∃ CollectN_1 : Nat, ∃ CollectC_1 : Nat, w1_4.cell? ((⟨r, 0, none⟩ : Addr).add 8) = some (.slice CollectP_1 CollectN_1 CollectC_1) ∧
  BSl Tryd.prog 24 7 [(0, .int .i64 Cells), (1, .int .i64 Trail), (2, .int .i64 Words), (3, .int .i64 Choices), (4, .int .i64 Clauses), (5, .int .i64 Steps), (6, .int .i64 (CollectN_1 : Int))] w1_4 fun t50P t50N t50C w1_5 =>
  ∃ CollectP_2 : Option Addr, ∃ CollectN_2 : Nat, ∃ CollectC_2 : Nat, w1_5.cell? ((⟨r, 0, none⟩ : Addr).add 8) = some (.slice CollectP_2 CollectN_2 CollectC_2) ∧
  App Tryd.prog #[24, 24] 24 #[.slice t50P t50N t50C, .slice CollectP_2 CollectN_2 CollectC_2] w1_5 fun t54P t54N t54C w1_6 =>
  F_ref27_Encode_L1 t54P t54N t54C ⟨t29P, t29N, t29C, (0 : Int)⟩ w1_6
  (fun outP_2 outN_2 outC_2 w1_9 =>
  R outP_2 outN_2 outC_2 true w1_9))))

def lit_ref27_Encode_L1 (f : (Option Addr) × Nat × Nat) (s : S_ref27_Encode_L1) : Env := [⟨5, .slice f.1 f.2.1 f.2.2, none⟩, ⟨4, .slice s.outP s.outN s.outC, none⟩, ⟨6, .int .i64 s.i, none⟩]

def dec_ref27_Encode_L1 (e : Env) (K : ((Option Addr) × Nat × Nat) → S_ref27_Encode_L1 → Prop) : Prop :=
  onV (getV e 5) fun u1 =>
  asS u1 fun lP lN lC =>
  onV (getV e 4) fun u2 =>
  asS u2 fun outP outN outC =>
  onV (getV e 6) fun u3 =>
  asI .i64 u3 fun i =>
    K (lP, lN, lC) ⟨outP, outN, outC, i⟩

theorem dec_ref27_Encode_L1_ok {N : Nat} (e : Env) (a : Act) (K : ((Option Addr) × Nat × Nat) → S_ref27_Encode_L1 → Prop) (hr : Rep N a e) (h0 : dec_ref27_Encode_L1 e K) : ∃ f s, K f s ∧ Rep N a (lit_ref27_Encode_L1 f s) := by
  unfold dec_ref27_Encode_L1 at h0
  obtain ⟨u1, g5, h1⟩ := onV_elim h0
  obtain ⟨lP, lN, lC, rfl, h2⟩ := asS_elim h1
  obtain ⟨u2, g4, h3⟩ := onV_elim h2
  obtain ⟨outP, outN, outC, rfl, h4⟩ := asS_elim h3
  obtain ⟨u3, g6, h5⟩ := onV_elim h4
  obtain ⟨i, rfl, h6⟩ := asI_elim h5
  exact ⟨_, _, h6, rep_less hr (by simp [lit_ref27_Encode_L1, g5, g4, g6])⟩

def spec_ref27_Encode_L1 (Q : Post) (e : Env) (w : World) : Prop :=
  dec_ref27_Encode_L1 e fun f s => F_ref27_Encode_L1 f.1 f.2.1 f.2.2 s w (fun outP_1 outN_1 outC_1 w1 => Q (.exit 0) [⟨4, .slice outP_1 outN_1 outC_1, none⟩] w1)

def G_ref27_Encode : Gen where
  loop := lookL [([false, true, false, true, true, true, true, true], spec_ref27_Encode_L1)]
  plan := fun id =>
    bif Nat.beq id 3 then some ([0, 1, 3, 0, 8, 31, 63, 127], .take 0 (.take 1 (.take 3 (.take 4 (.take 2 (.take 5 (.take 6 (.take 7 .done)))))))) else none

def dx_ref27_Encode_L1_0 (e : Env) (K : ((Option Addr) × Nat × Nat) → Option Addr → Nat → Nat → Prop) : Prop :=
  onV (getV e 5) fun u1 =>
  asS u1 fun lP lN lC =>
  onV (getV e 4) fun u2 =>
  asS u2 fun outP_1 outN_1 outC_1 =>
    K (lP, lN, lC) outP_1 outN_1 outC_1

theorem body_ref27_Encode_L1 (f : (Option Addr) × Nat × Nat) (s : S_ref27_Encode_L1) (w : World) (Kn : ((Option Addr) × Nat × Nat) → S_ref27_Encode_L1 → World → Prop) (Kx0 : ((Option Addr) × Nat × Nat) → Option Addr → Nat → Nat → World → Prop) :
    B_ref27_Encode_L1 f.1 f.2.1 f.2.2 s w (fun s1 w1 => Kn f s1 w1) (fun outP_1 outN_1 outC_1 w1 => Kx0 f outP_1 outN_1 outC_1 w1) =
    den Tryd.prog Tryd.f10.ntmps G_ref27_Encode (sub (codeOf Tryd.f10) [false, false, true, false, true, true, true, true, true]) [false, false, true, false, true, true, true, true, true] (roundQ (fun e w => dec_ref27_Encode_L1 e fun f s => Kn f s w) (fun e w => False) (fun id e w => match Nat.beq id 0 with | true => dx_ref27_Encode_L1_0 e fun f outP_1 outN_1 outC_1 => Kx0 f outP_1 outN_1 outC_1 w | false => False)) (lit_ref27_Encode_L1 f s) w := by kernel_rfl

theorem ok_ref27_Encode_L1 : OneOk Tryd.prog Tryd.f10.ntmps G_ref27_Encode (codeOf Tryd.f10) [false, true, false, true, true, true, true, true] spec_ref27_Encode_L1 := by
  intro c hc ih Q e w a hr h
  have hcc : sub (codeOf Tryd.f10) [false, false, true, false, true, true, true, true, true] = c := sub_of_codeAt hc
  obtain ⟨f, s, h, hrep⟩ := dec_ref27_Encode_L1_ok e a _ hr h
  obtain ⟨J, μ, hj, hround⟩ := h
  refine loop_rule_deep seat_ok seat_mixed ih lit_ref27_Encode_L1 dec_ref27_Encode_L1 dec_ref27_Encode_L1_ok hc f J μ (Kr := fun e w => False) (Kx := fun id e w => match Nat.beq id 0 with | true => (dx_ref27_Encode_L1_0 e fun f1 outP_1 outN_1 outC_1 => f1 = f ∧ Q (.exit 0) [⟨4, .slice outP_1 outN_1 outC_1, none⟩] w) | false => False) ?_ ?_ ?_ s w a hj hrep
  · intro e a w hr h
    exact h.elim
  · intro id e a w hr h0
    (try dsimp only at h0)
    split at h0
    · rename_i hid
      obtain rfl := Nat.eq_of_beq_eq_true hid
      unfold dx_ref27_Encode_L1_0 at h0
      obtain ⟨u1, g5, h1⟩ := onV_elim h0
      obtain ⟨lP, lN, lC, rfl, h2⟩ := asS_elim h1
      obtain ⟨u2, g4, h3⟩ := onV_elim h2
      obtain ⟨outP_1, outN_1, outC_1, rfl, h4⟩ := asS_elim h3
      obtain ⟨hf, hq⟩ := h4
      subst hf
      exact ⟨_, rep_less hr (by simp [g4]), hq⟩
    · exact h0.elim
  · intro s w hj
    have hb := hround s w hj
    rw [← hcc]
    have e1 := body_ref27_Encode_L1 f s w (fun f1 s1 w1 => f1 = f ∧ J s1 w1 ∧ μ s1 w1 < μ s w) (fun f1 outP_1 outN_1 outC_1 w1 => f1 = f ∧ Q (.exit 0) [⟨4, .slice outP_1 outN_1 outC_1, none⟩] w1)
    simp only [true_and] at e1
    exact cast e1 hb

theorem loops_ref27_Encode : LoopOk Tryd.prog Tryd.f10.ntmps G_ref27_Encode (codeOf Tryd.f10) := loopOk_list rfl ⟨ok_ref27_Encode_L1, trivial⟩

theorem den_ref27_Encode (s0x : ByteArray) (s1x : ByteArray) (s2x : Int) (s3x : Int) (s4x : Int) (s5x : Int) (s6x : Int) (s7x : Int) (s8P : Option Addr) (s8N : Nat) (s8C : Nat) (w : World) (R : Value → World → Prop) :
    F_ref27_Encode s0x s1x s2x s3x s4x s5x s6x s7x s8P s8N s8C w (fun r0P r0N r0C r1 w1 => R (.tuple #[.slice r0P r0N r0C, .bool r1]) w1) = den Tryd.prog Tryd.f10.ntmps G_ref27_Encode (codeOf Tryd.f10) [] (postD Tryd.prog Tryd.f10.results.toList R) (entry [.agg #[.string s0x, .string s1x, .int .i64 s2x, .int .i64 s3x, .int .i64 s4x, .int .i64 s5x, .int .i64 s6x, .int .i64 s7x, .slice s8P s8N s8C]] 0) w := by kernel_rfl

theorem C_ref27_Encode.of {s0x : ByteArray} {s1x : ByteArray} {s2x : Int} {s3x : Int} {s4x : Int} {s5x : Int} {s6x : Int} {s7x : Int} {s8P : Option Addr} {s8N : Nat} {s8C : Nat} {w : World} {R : Option Addr → Nat → Nat → Bool → World → Prop} (h : F_ref27_Encode s0x s1x s2x s3x s4x s5x s6x s7x s8P s8N s8C w R) : C_ref27_Encode s0x s1x s2x s3x s4x s5x s6x s7x s8P s8N s8C w R := by
  refine (calls_of_den (c := codeOf Tryd.f10) seat_ok seat_mixed Tryd.func10 (by kernel_rfl) loops_ref27_Encode (args := [.agg #[.string s0x, .string s1x, .int .i64 s2x, .int .i64 s3x, .int .i64 s4x, .int .i64 s5x, .int .i64 s6x, .int .i64 s7x, .slice s8P s8N s8C]]) rfl (R := fun v w1 => ∃ (r0P : Option Addr) (r0N : Nat) (r0C : Nat) (r1 : Bool), v = (.tuple #[.slice r0P r0N r0C, .bool r1] : Value) ∧ R r0P r0N r0C r1 w1) ?_).mono ?_
  · rw [← den_ref27_Encode]
    have e : (fun r0P r0N r0C r1 w1 => ∃ (r0P' : Option Addr) (r0N' : Nat) (r0C' : Nat) (r1' : Bool), (.tuple #[.slice r0P r0N r0C, .bool r1] : Value) = (.tuple #[.slice r0P' r0N' r0C', .bool r1'] : Value) ∧ R r0P' r0N' r0C' r1' w1) = R := by
      funext r0P r0N r0C r1 w1
      exact propext ⟨fun ⟨r0P', r0N', r0C', r1', he, h⟩ => by first | (simp at he; simp_all) | (cases he; exact h), fun h => ⟨_, _, _, _, rfl, h⟩⟩
    simpa only [e] using h
  · rintro en w1 ⟨v, he, r0P, r0N, r0C, r1, rfl, h⟩
    exact ⟨_, _, _, _, he, h⟩

structure S_script_Decode_L1 where
  t29 : Int

/-- One round. -/
def B_script_Decode_L1 (t2 : Addr) (r_6 : Addr) (sx_1 : Addr) (t27P_1 : Option Addr) (t27N_1 : Nat) (t27C_1 : Nat) (t28 : Int) (s : S_script_Decode_L1) (w : World) (Kn : S_script_Decode_L1 → World → Prop) (Kx0 : World → Prop) : Prop :=
  If (decide ((s.t29 : Int) < t28))
  (0 ≤ (s.t29 : Int) ∧ (s.t29 : Int) < (t27N_1 : Int) ∧ NN t27P_1 fun a =>
  ∃ t32 : Option Addr, w.cell? (a.add ((s.t29 : Int).toNat * 1)) = some (.pointer t32) ∧
  ∃ t34 : Option Addr, w.cell? r_6 = some (.pointer t34) ∧
  C_script_reader_number t34 w fun t35 w1_41 =>
  NN t32 fun a_1 =>
  St w1_41 (a_1.add 0) (.int .i64 t35) fun w1_42 =>
  Kn ⟨(IntKind.i64.wrap ((s.t29 : Int) + (1 : Int)))⟩ w1_42)
  (Kx0 w)

def F_script_Decode_L1 (t2 : Addr) (r_6 : Addr) (sx_1 : Addr) (t27P_1 : Option Addr) (t27N_1 : Nat) (t27C_1 : Nat) (t28 : Int) (s : S_script_Decode_L1) (w : World) (Kx0 : World → Prop) : Prop :=
  LoopS (fun s w Kn => B_script_Decode_L1 t2 r_6 sx_1 t27P_1 t27N_1 t27C_1 t28 s w Kn Kx0) s w

def F_script_Decode_k1 (R : ByteArray → ByteArray → Int → Int → Int → Int → Int → Int → Option Addr → Nat → Nat → Int → World → Prop) (r : Nat) (r_2 : Nat) (sx : Addr) (w1_39 : World) : Prop :=
  BSl Tryd.prog 67 6 [(0, .pointer (some ((sx.add 2).add 0))), (1, .pointer (some ((sx.add 2).add 1))), (2, .pointer (some ((sx.add 2).add 2))), (3, .pointer (some ((sx.add 2).add 3))), (4, .pointer (some ((sx.add 2).add 4))), (5, .pointer (some (sx.add 7)))] w1_39 fun t27P t27N t27C w1_40 =>
  F_script_Decode_L1 ⟨r, 0, none⟩ ⟨r_2, 0, none⟩ sx t27P t27N t27C (t27N : Int) ⟨(0 : Int)⟩ w1_40
  (fun w1_43 =>
  ∃ t38 : Option Addr, w1_43.cell? ⟨r_2, 0, none⟩ = some (.pointer t38) ∧
  C_script_reader_row t38 (1000 : Int) (.func (.func 29) #[] #[.pointer (some sx), .pointer (some ⟨r_2, 0, none⟩)]) w1_43 fun w1_44 =>
  ∃ t41 : Option Addr, w1_44.cell? ⟨r_2, 0, none⟩ = some (.pointer t41) ∧
  C_script_reader_whole t41 w1_44 fun t42 w1_45 =>
  If (!t42)
  (St w1_45 ((⟨r, 0, none⟩ : Addr).add 0) (.string ⟨#[]⟩) fun w1_46 =>
  St w1_46 ((⟨r, 0, none⟩ : Addr).add 1) (.string ⟨#[]⟩) fun w1_47 =>
  St w1_47 ((⟨r, 0, none⟩ : Addr).add 2) (.int .i64 0) fun w1_48 =>
  St w1_48 ((⟨r, 0, none⟩ : Addr).add 3) (.int .i64 0) fun w1_49 =>
  St w1_49 ((⟨r, 0, none⟩ : Addr).add 4) (.int .i64 0) fun w1_50 =>
  St w1_50 ((⟨r, 0, none⟩ : Addr).add 5) (.int .i64 0) fun w1_51 =>
  St w1_51 ((⟨r, 0, none⟩ : Addr).add 6) (.int .i64 0) fun w1_52 =>
  St w1_52 ((⟨r, 0, none⟩ : Addr).add 7) (.int .i64 0) fun w1_53 =>
  St w1_53 ((⟨r, 0, none⟩ : Addr).add 8) (.slice none 0 0) fun w1_54 =>
  ∃ r_7 : ByteArray, w1_54.cell? ((⟨r, 0, none⟩ : Addr).add 0) = some (.string r_7) ∧
  ∃ r_8 : ByteArray, w1_54.cell? ((⟨r, 0, none⟩ : Addr).add 1) = some (.string r_8) ∧
  ∃ r_9 : Int, w1_54.cell? ((⟨r, 0, none⟩ : Addr).add 2) = some (.int .i64 r_9) ∧
  ∃ r_10 : Int, w1_54.cell? ((⟨r, 0, none⟩ : Addr).add 3) = some (.int .i64 r_10) ∧
  ∃ r_11 : Int, w1_54.cell? ((⟨r, 0, none⟩ : Addr).add 4) = some (.int .i64 r_11) ∧
  ∃ r_12 : Int, w1_54.cell? ((⟨r, 0, none⟩ : Addr).add 5) = some (.int .i64 r_12) ∧
  ∃ r_13 : Int, w1_54.cell? ((⟨r, 0, none⟩ : Addr).add 6) = some (.int .i64 r_13) ∧
  ∃ r_14 : Int, w1_54.cell? ((⟨r, 0, none⟩ : Addr).add 7) = some (.int .i64 r_14) ∧
  ∃ rP : Option Addr, ∃ rN : Nat, ∃ rC : Nat, w1_54.cell? ((⟨r, 0, none⟩ : Addr).add 8) = some (.slice rP rN rC) ∧
  R r_7 r_8 r_9 r_10 r_11 r_12 r_13 r_14 rP rN rC (270 : Int) w1_54)
  (∃ t450 : ByteArray, w1_45.cell? (sx.add 0) = some (.string t450) ∧
  ∃ t451 : ByteArray, w1_45.cell? (sx.add 1) = some (.string t451) ∧
  ∃ t452 : Int, w1_45.cell? (sx.add 2) = some (.int .i64 t452) ∧
  ∃ t453 : Int, w1_45.cell? (sx.add 3) = some (.int .i64 t453) ∧
  ∃ t454 : Int, w1_45.cell? (sx.add 4) = some (.int .i64 t454) ∧
  ∃ t455 : Int, w1_45.cell? (sx.add 5) = some (.int .i64 t455) ∧
  ∃ t456 : Int, w1_45.cell? (sx.add 6) = some (.int .i64 t456) ∧
  ∃ t457 : Int, w1_45.cell? (sx.add 7) = some (.int .i64 t457) ∧
  ∃ t458P : Option Addr, ∃ t458N : Nat, ∃ t458C : Nat, w1_45.cell? (sx.add 8) = some (.slice t458P t458N t458C) ∧
  St w1_45 ((⟨r, 0, none⟩ : Addr).add 0) (.string t450) fun w1_55 =>
  St w1_55 ((⟨r, 0, none⟩ : Addr).add 1) (.string t451) fun w1_56 =>
  St w1_56 ((⟨r, 0, none⟩ : Addr).add 2) (.int .i64 t452) fun w1_57 =>
  St w1_57 ((⟨r, 0, none⟩ : Addr).add 3) (.int .i64 t453) fun w1_58 =>
  St w1_58 ((⟨r, 0, none⟩ : Addr).add 4) (.int .i64 t454) fun w1_59 =>
  St w1_59 ((⟨r, 0, none⟩ : Addr).add 5) (.int .i64 t455) fun w1_60 =>
  St w1_60 ((⟨r, 0, none⟩ : Addr).add 6) (.int .i64 t456) fun w1_61 =>
  St w1_61 ((⟨r, 0, none⟩ : Addr).add 7) (.int .i64 t457) fun w1_62 =>
  St w1_62 ((⟨r, 0, none⟩ : Addr).add 8) (.slice t458P t458N t458C) fun w1_63 =>
  ∃ r_15 : ByteArray, w1_63.cell? ((⟨r, 0, none⟩ : Addr).add 0) = some (.string r_15) ∧
  ∃ r_16 : ByteArray, w1_63.cell? ((⟨r, 0, none⟩ : Addr).add 1) = some (.string r_16) ∧
  ∃ r_17 : Int, w1_63.cell? ((⟨r, 0, none⟩ : Addr).add 2) = some (.int .i64 r_17) ∧
  ∃ r_18 : Int, w1_63.cell? ((⟨r, 0, none⟩ : Addr).add 3) = some (.int .i64 r_18) ∧
  ∃ r_19 : Int, w1_63.cell? ((⟨r, 0, none⟩ : Addr).add 4) = some (.int .i64 r_19) ∧
  ∃ r_20 : Int, w1_63.cell? ((⟨r, 0, none⟩ : Addr).add 5) = some (.int .i64 r_20) ∧
  ∃ r_21 : Int, w1_63.cell? ((⟨r, 0, none⟩ : Addr).add 6) = some (.int .i64 r_21) ∧
  ∃ r_22 : Int, w1_63.cell? ((⟨r, 0, none⟩ : Addr).add 7) = some (.int .i64 r_22) ∧
  ∃ rP_1 : Option Addr, ∃ rN_1 : Nat, ∃ rC_1 : Nat, w1_63.cell? ((⟨r, 0, none⟩ : Addr).add 8) = some (.slice rP_1 rN_1 rC_1) ∧
  R r_15 r_16 r_17 r_18 r_19 r_20 r_21 r_22 rP_1 rN_1 rC_1 (0 : Int) w1_63))

def F_script_Decode (bP : Option Addr) (bN : Nat) (bC : Nat) (w : World) (R : ByteArray → ByteArray → Int → Int → Int → Int → Int → Int → Option Addr → Nat → Nat → Int → World → Prop) : Prop :=
  New w (.cells #[.string ⟨#[]⟩, .string ⟨#[]⟩, .int .i64 0, .int .i64 0, .int .i64 0, .int .i64 0, .int .i64 0, .int .i64 0, .slice none 0 0] 26) fun r w1 =>
  New w1 (.cells #[.slice bP bN bC, .bool false] 64) fun r_1 w1_1 =>
  New w1_1 (.cells #[.pointer none] 63) fun r_2 w1_2 =>
  St w1_2 ((⟨r_2, 0, none⟩ : Addr).add 0) (.pointer (some ⟨r_1, 0, none⟩)) fun w1_3 =>
  ∃ t11 : Option Addr, (drw w1_3).cell? ⟨r_2, 0, none⟩ = some (.pointer t11) ∧
  ∃ t13 : Option Addr, (drw w1_3).cell? ⟨r_2, 0, none⟩ = some (.pointer t13) ∧
  (C_script_reader_text t11 (drw w1_3) fun t12 w1_4 =>
  w1_4.cell? ⟨r_2, 0, none⟩ = (drw w1_3).cell? ⟨r_2, 0, none⟩ ∧
  (C_script_reader_text t13 w1_4 fun t14 w1_5 =>
  New w1_5 (.cells #[.string ⟨#[]⟩, .string ⟨#[]⟩, .int .i64 0, .int .i64 0, .int .i64 0, .int .i64 0, .int .i64 0, .int .i64 0, .slice none 0 0] 26) fun r_3 w1_6 =>
  St w1_6 ((⟨r_3, 0, none⟩ : Addr).add 0) (.string t12) fun w1_7 =>
  St w1_7 ((⟨r_3, 0, none⟩ : Addr).add 1) (.string t14) fun w1_8 =>
  St w1_8 ((⟨r_3, 0, none⟩ : Addr).add 2) (.int .i64 0) fun w1_9 =>
  St w1_9 ((⟨r_3, 0, none⟩ : Addr).add 3) (.int .i64 0) fun w1_10 =>
  St w1_10 ((⟨r_3, 0, none⟩ : Addr).add 4) (.int .i64 0) fun w1_11 =>
  St w1_11 ((⟨r_3, 0, none⟩ : Addr).add 5) (.int .i64 0) fun w1_12 =>
  St w1_12 ((⟨r_3, 0, none⟩ : Addr).add 6) (.int .i64 0) fun w1_13 =>
  St w1_13 ((⟨r_3, 0, none⟩ : Addr).add 7) (.int .i64 0) fun w1_14 =>
  St w1_14 ((⟨r_3, 0, none⟩ : Addr).add 8) (.slice none 0 0) fun w1_15 =>
  F_script_Decode_k1 R r r_2 ⟨r_3, 0, none⟩ w1_15) ∧
  (New w1_4 (.cells #[.string ⟨#[]⟩, .string ⟨#[]⟩, .int .i64 0, .int .i64 0, .int .i64 0, .int .i64 0, .int .i64 0, .int .i64 0, .slice none 0 0] 26) fun r_4 w1_16 =>
  w1_16.cell? ⟨r_2, 0, none⟩ = (drw w1_3).cell? ⟨r_2, 0, none⟩ ∧
  C_script_reader_text t13 w1_16 fun t14_1 w1_17 =>
  St w1_17 ((⟨r_4, 0, none⟩ : Addr).add 0) (.string t12) fun w1_18 =>
  St w1_18 ((⟨r_4, 0, none⟩ : Addr).add 1) (.string t14_1) fun w1_19 =>
  St w1_19 ((⟨r_4, 0, none⟩ : Addr).add 2) (.int .i64 0) fun w1_20 =>
  St w1_20 ((⟨r_4, 0, none⟩ : Addr).add 3) (.int .i64 0) fun w1_21 =>
  St w1_21 ((⟨r_4, 0, none⟩ : Addr).add 4) (.int .i64 0) fun w1_22 =>
  St w1_22 ((⟨r_4, 0, none⟩ : Addr).add 5) (.int .i64 0) fun w1_23 =>
  St w1_23 ((⟨r_4, 0, none⟩ : Addr).add 6) (.int .i64 0) fun w1_24 =>
  St w1_24 ((⟨r_4, 0, none⟩ : Addr).add 7) (.int .i64 0) fun w1_25 =>
  St w1_25 ((⟨r_4, 0, none⟩ : Addr).add 8) (.slice none 0 0) fun w1_26 =>
  F_script_Decode_k1 R r r_2 ⟨r_4, 0, none⟩ w1_26)) ∧
  (New (drw w1_3) (.cells #[.string ⟨#[]⟩, .string ⟨#[]⟩, .int .i64 0, .int .i64 0, .int .i64 0, .int .i64 0, .int .i64 0, .int .i64 0, .slice none 0 0] 26) fun r_5 w1_27 =>
  w1_27.cell? ⟨r_2, 0, none⟩ = (drw w1_3).cell? ⟨r_2, 0, none⟩ ∧
  w1_27.cell? ⟨r_2, 0, none⟩ = (drw w1_3).cell? ⟨r_2, 0, none⟩ ∧
  C_script_reader_text t11 w1_27 fun t12_1 w1_28 =>
  w1_28.cell? ⟨r_2, 0, none⟩ = (drw w1_3).cell? ⟨r_2, 0, none⟩ ∧
  C_script_reader_text t13 w1_28 fun t14_2 w1_29 =>
  St w1_29 ((⟨r_5, 0, none⟩ : Addr).add 0) (.string t12_1) fun w1_30 =>
  St w1_30 ((⟨r_5, 0, none⟩ : Addr).add 1) (.string t14_2) fun w1_31 =>
  St w1_31 ((⟨r_5, 0, none⟩ : Addr).add 2) (.int .i64 0) fun w1_32 =>
  St w1_32 ((⟨r_5, 0, none⟩ : Addr).add 3) (.int .i64 0) fun w1_33 =>
  St w1_33 ((⟨r_5, 0, none⟩ : Addr).add 4) (.int .i64 0) fun w1_34 =>
  St w1_34 ((⟨r_5, 0, none⟩ : Addr).add 5) (.int .i64 0) fun w1_35 =>
  St w1_35 ((⟨r_5, 0, none⟩ : Addr).add 6) (.int .i64 0) fun w1_36 =>
  St w1_36 ((⟨r_5, 0, none⟩ : Addr).add 7) (.int .i64 0) fun w1_37 =>
  St w1_37 ((⟨r_5, 0, none⟩ : Addr).add 8) (.slice none 0 0) fun w1_38 =>
  F_script_Decode_k1 R r r_2 ⟨r_5, 0, none⟩ w1_38)

def lit_script_Decode_L1 (f : Addr × Addr × Addr × (Option Addr) × Nat × Nat × Int) (s : S_script_Decode_L1) : Env := [⟨2, .pointer (some f.1), none⟩, ⟨4, .pointer (some f.2.1), none⟩, ⟨5, .pointer (some f.2.2.1), none⟩, ⟨27, .slice f.2.2.2.1 f.2.2.2.2.1 f.2.2.2.2.2.1, none⟩, ⟨28, .int .i64 f.2.2.2.2.2.2, none⟩, ⟨29, .int .i64 s.t29, none⟩]

def dec_script_Decode_L1 (e : Env) (K : (Addr × Addr × Addr × (Option Addr) × Nat × Nat × Int) → S_script_Decode_L1 → Prop) : Prop :=
  onV (getV e 2) fun u1 =>
  asA u1 fun t2 =>
  onV (getV e 4) fun u2 =>
  asA u2 fun r_6 =>
  onV (getV e 5) fun u3 =>
  asA u3 fun sx_1 =>
  onV (getV e 27) fun u4 =>
  asS u4 fun t27P_1 t27N_1 t27C_1 =>
  onV (getV e 28) fun u5 =>
  asI .i64 u5 fun t28 =>
  onV (getV e 29) fun u6 =>
  asI .i64 u6 fun t29 =>
    K (t2, r_6, sx_1, t27P_1, t27N_1, t27C_1, t28) ⟨t29⟩

theorem dec_script_Decode_L1_ok {N : Nat} (e : Env) (a : Act) (K : (Addr × Addr × Addr × (Option Addr) × Nat × Nat × Int) → S_script_Decode_L1 → Prop) (hr : Rep N a e) (h0 : dec_script_Decode_L1 e K) : ∃ f s, K f s ∧ Rep N a (lit_script_Decode_L1 f s) := by
  unfold dec_script_Decode_L1 at h0
  obtain ⟨u1, g2, h1⟩ := onV_elim h0
  obtain ⟨t2, rfl, h2⟩ := asA_elim h1
  obtain ⟨u2, g4, h3⟩ := onV_elim h2
  obtain ⟨r_6, rfl, h4⟩ := asA_elim h3
  obtain ⟨u3, g5, h5⟩ := onV_elim h4
  obtain ⟨sx_1, rfl, h6⟩ := asA_elim h5
  obtain ⟨u4, g27, h7⟩ := onV_elim h6
  obtain ⟨t27P_1, t27N_1, t27C_1, rfl, h8⟩ := asS_elim h7
  obtain ⟨u5, g28, h9⟩ := onV_elim h8
  obtain ⟨t28, rfl, h10⟩ := asI_elim h9
  obtain ⟨u6, g29, h11⟩ := onV_elim h10
  obtain ⟨t29, rfl, h12⟩ := asI_elim h11
  exact ⟨_, _, h12, rep_less hr (by simp [lit_script_Decode_L1, g2, g4, g5, g27, g28, g29])⟩

def spec_script_Decode_L1 (Q : Post) (e : Env) (w : World) : Prop :=
  dec_script_Decode_L1 e fun f s => F_script_Decode_L1 f.1 f.2.1 f.2.2.1 f.2.2.2.1 f.2.2.2.2.1 f.2.2.2.2.2.1 f.2.2.2.2.2.2 s w (fun w1 => Q (.exit 0) [⟨2, .pointer (some f.1), none⟩, ⟨4, .pointer (some f.2.1), none⟩, ⟨5, .pointer (some f.2.2.1), none⟩] w1)

def G_script_Decode : Gen where
  loop := lookL [([false, true, false, true, true, true], spec_script_Decode_L1)]
  plan := fun id =>
    bif Nat.beq id 2 then some ([0, 1, 0, 7, 15, 0, 63], .take 0 (.take 2 (.both 1 (.both 3 (.take 4 (.take 5 (.take 6 .done))) 5 (.take 3 (.take 4 (.take 6 .done)))) 5 (.take 1 (.take 3 (.take 4 (.take 6 .done))))))) else none

def dx_script_Decode_L1_0 (e : Env) (K : (Addr × Addr × Addr × (Option Addr) × Nat × Nat × Int) → Prop) : Prop :=
  onV (getV e 2) fun u1 =>
  asA u1 fun t2 =>
  onV (getV e 4) fun u2 =>
  asA u2 fun r_6 =>
  onV (getV e 5) fun u3 =>
  asA u3 fun sx_1 =>
  onV (getV e 27) fun u4 =>
  asS u4 fun t27P_1 t27N_1 t27C_1 =>
  onV (getV e 28) fun u5 =>
  asI .i64 u5 fun t28 =>
    K (t2, r_6, sx_1, t27P_1, t27N_1, t27C_1, t28)

theorem body_script_Decode_L1 (f : Addr × Addr × Addr × (Option Addr) × Nat × Nat × Int) (s : S_script_Decode_L1) (w : World) (Kn : (Addr × Addr × Addr × (Option Addr) × Nat × Nat × Int) → S_script_Decode_L1 → World → Prop) (Kx0 : (Addr × Addr × Addr × (Option Addr) × Nat × Nat × Int) → World → Prop) :
    B_script_Decode_L1 f.1 f.2.1 f.2.2.1 f.2.2.2.1 f.2.2.2.2.1 f.2.2.2.2.2.1 f.2.2.2.2.2.2 s w (fun s1 w1 => Kn f s1 w1) (fun w1 => Kx0 f w1) =
    den Tryd.prog Tryd.f11.ntmps G_script_Decode (sub (codeOf Tryd.f11) [false, false, true, false, true, true, true]) [false, false, true, false, true, true, true] (roundQ (fun e w => dec_script_Decode_L1 e fun f s => Kn f s w) (fun e w => False) (fun id e w => match Nat.beq id 0 with | true => dx_script_Decode_L1_0 e fun f => Kx0 f w | false => False)) (lit_script_Decode_L1 f s) w := by kernel_rfl

theorem ok_script_Decode_L1 : OneOk Tryd.prog Tryd.f11.ntmps G_script_Decode (codeOf Tryd.f11) [false, true, false, true, true, true] spec_script_Decode_L1 := by
  intro c hc ih Q e w a hr h
  have hcc : sub (codeOf Tryd.f11) [false, false, true, false, true, true, true] = c := sub_of_codeAt hc
  obtain ⟨f, s, h, hrep⟩ := dec_script_Decode_L1_ok e a _ hr h
  obtain ⟨J, μ, hj, hround⟩ := h
  refine loop_rule_deep seat_ok seat_mixed ih lit_script_Decode_L1 dec_script_Decode_L1 dec_script_Decode_L1_ok hc f J μ (Kr := fun e w => False) (Kx := fun id e w => match Nat.beq id 0 with | true => (dx_script_Decode_L1_0 e fun f1 => f1 = f ∧ Q (.exit 0) [⟨2, .pointer (some f.1), none⟩, ⟨4, .pointer (some f.2.1), none⟩, ⟨5, .pointer (some f.2.2.1), none⟩] w) | false => False) ?_ ?_ ?_ s w a hj hrep
  · intro e a w hr h
    exact h.elim
  · intro id e a w hr h0
    (try dsimp only at h0)
    split at h0
    · rename_i hid
      obtain rfl := Nat.eq_of_beq_eq_true hid
      unfold dx_script_Decode_L1_0 at h0
      obtain ⟨u1, g2, h1⟩ := onV_elim h0
      obtain ⟨t2, rfl, h2⟩ := asA_elim h1
      obtain ⟨u2, g4, h3⟩ := onV_elim h2
      obtain ⟨r_6, rfl, h4⟩ := asA_elim h3
      obtain ⟨u3, g5, h5⟩ := onV_elim h4
      obtain ⟨sx_1, rfl, h6⟩ := asA_elim h5
      obtain ⟨u4, g27, h7⟩ := onV_elim h6
      obtain ⟨t27P_1, t27N_1, t27C_1, rfl, h8⟩ := asS_elim h7
      obtain ⟨u5, g28, h9⟩ := onV_elim h8
      obtain ⟨t28, rfl, h10⟩ := asI_elim h9
      obtain ⟨hf, hq⟩ := h10
      subst hf
      exact ⟨_, rep_less hr (by simp [g2, g4, g5]), hq⟩
    · exact h0.elim
  · intro s w hj
    have hb := hround s w hj
    rw [← hcc]
    have e1 := body_script_Decode_L1 f s w (fun f1 s1 w1 => f1 = f ∧ J s1 w1 ∧ μ s1 w1 < μ s w) (fun f1 w1 => f1 = f ∧ Q (.exit 0) [⟨2, .pointer (some f.1), none⟩, ⟨4, .pointer (some f.2.1), none⟩, ⟨5, .pointer (some f.2.2.1), none⟩] w1)
    simp only [true_and] at e1
    exact cast e1 hb

theorem loops_script_Decode : LoopOk Tryd.prog Tryd.f11.ntmps G_script_Decode (codeOf Tryd.f11) := loopOk_list rfl ⟨ok_script_Decode_L1, trivial⟩

theorem den_script_Decode (bP : Option Addr) (bN : Nat) (bC : Nat) (w : World) (R : Value → World → Prop) :
    F_script_Decode bP bN bC w (fun r00 r01 r02 r03 r04 r05 r06 r07 r08P r08N r08C r1 w1 => R (.tuple #[.agg #[.string r00, .string r01, .int .i64 r02, .int .i64 r03, .int .i64 r04, .int .i64 r05, .int .i64 r06, .int .i64 r07, .slice r08P r08N r08C], .int .i64 r1]) w1) = den Tryd.prog Tryd.f11.ntmps G_script_Decode (codeOf Tryd.f11) [] (postD Tryd.prog Tryd.f11.results.toList R) (entry [.slice bP bN bC] 0) w := by kernel_rfl

theorem C_script_Decode.of {bP : Option Addr} {bN : Nat} {bC : Nat} {w : World} {R : ByteArray → ByteArray → Int → Int → Int → Int → Int → Int → Option Addr → Nat → Nat → Int → World → Prop} (h : F_script_Decode bP bN bC w R) : C_script_Decode bP bN bC w R := by
  refine (calls_of_den (c := codeOf Tryd.f11) seat_ok seat_mixed Tryd.func11 (by kernel_rfl) loops_script_Decode (args := [.slice bP bN bC]) rfl (R := fun v w1 => ∃ (r00 : ByteArray) (r01 : ByteArray) (r02 : Int) (r03 : Int) (r04 : Int) (r05 : Int) (r06 : Int) (r07 : Int) (r08P : Option Addr) (r08N : Nat) (r08C : Nat) (r1 : Int), v = (.tuple #[.agg #[.string r00, .string r01, .int .i64 r02, .int .i64 r03, .int .i64 r04, .int .i64 r05, .int .i64 r06, .int .i64 r07, .slice r08P r08N r08C], .int .i64 r1] : Value) ∧ R r00 r01 r02 r03 r04 r05 r06 r07 r08P r08N r08C r1 w1) ?_).mono ?_
  · rw [← den_script_Decode]
    have e : (fun r00 r01 r02 r03 r04 r05 r06 r07 r08P r08N r08C r1 w1 => ∃ (r00' : ByteArray) (r01' : ByteArray) (r02' : Int) (r03' : Int) (r04' : Int) (r05' : Int) (r06' : Int) (r07' : Int) (r08P' : Option Addr) (r08N' : Nat) (r08C' : Nat) (r1' : Int), (.tuple #[.agg #[.string r00, .string r01, .int .i64 r02, .int .i64 r03, .int .i64 r04, .int .i64 r05, .int .i64 r06, .int .i64 r07, .slice r08P r08N r08C], .int .i64 r1] : Value) = (.tuple #[.agg #[.string r00', .string r01', .int .i64 r02', .int .i64 r03', .int .i64 r04', .int .i64 r05', .int .i64 r06', .int .i64 r07', .slice r08P' r08N' r08C'], .int .i64 r1'] : Value) ∧ R r00' r01' r02' r03' r04' r05' r06' r07' r08P' r08N' r08C' r1' w1) = R := by
      funext r00 r01 r02 r03 r04 r05 r06 r07 r08P r08N r08C r1 w1
      exact propext ⟨fun ⟨r00', r01', r02', r03', r04', r05', r06', r07', r08P', r08N', r08C', r1', he, h⟩ => by first | (simp at he; simp_all) | (cases he; exact h), fun h => ⟨_, _, _, _, _, _, _, _, _, _, _, _, rfl, h⟩⟩
    simpa only [e] using h
  · rintro en w1 ⟨v, he, r00, r01, r02, r03, r04, r05, r06, r07, r08P, r08N, r08C, r1, rfl, h⟩
    exact ⟨_, _, _, _, _, _, _, _, _, _, _, _, he, h⟩

structure S_ref27_Same_L1 where
  i : Int

def F_ref27_Same_k1 (R : Bool → World → Prop) (w1_2 : World) : Prop :=
  R false w1_2

/-- One round. -/
def B_ref27_Same_L1 (a : Addr) (b : Addr) (s : S_ref27_Same_L1) (w : World) (Kn : S_ref27_Same_L1 → World → Prop) (Kx0 : World → Prop) (Kr : Bool → World → Prop) : Prop :=
  ∃ CollectP_2 : Option Addr, ∃ CollectN_2 : Nat, ∃ CollectC_2 : Nat, w.cell? (a.add 8) = some (.slice CollectP_2 CollectN_2 CollectC_2) ∧
  If (decide ((s.i : Int) < (CollectN_2 : Int)))
  (∃ CollectP_3 : Option Addr, ∃ CollectN_3 : Nat, ∃ CollectC_3 : Nat, (drw w).cell? (a.add 8) = some (.slice CollectP_3 CollectN_3 CollectC_3) ∧
  0 ≤ (s.i : Int) ∧ (s.i : Int) < (CollectN_3 : Int) ∧ NN CollectP_3 fun a_1 =>
  ∃ t52 : Int, (drw w).cell? (a_1.add ((s.i : Int).toNat * 1)) = some (.int .i64 t52) ∧
  ∃ CollectP_4 : Option Addr, ∃ CollectN_4 : Nat, ∃ CollectC_4 : Nat, (drw w).cell? (b.add 8) = some (.slice CollectP_4 CollectN_4 CollectC_4) ∧
  0 ≤ (s.i : Int) ∧ (s.i : Int) < (CollectN_4 : Int) ∧ NN CollectP_4 fun a_2 =>
  ∃ t57 : Int, (drw w).cell? (a_2.add ((s.i : Int).toNat * 1)) = some (.int .i64 t57) ∧
  If (t52 != t57)
  (Kr false (drw w))
  (Kn ⟨(IntKind.i64.wrap ((s.i : Int) + (1 : Int)))⟩ (drw w)))
  (Kx0 w)

def F_ref27_Same_L1 (a : Addr) (b : Addr) (s : S_ref27_Same_L1) (w : World) (Kx0 : World → Prop) (Kr : Bool → World → Prop) : Prop :=
  LoopS (fun s w Kn => B_ref27_Same_L1 a b s w Kn Kx0 Kr) s w

def F_ref27_Same (a0 : ByteArray) (a1 : ByteArray) (a2 : Int) (a3 : Int) (a4 : Int) (a5 : Int) (a6 : Int) (a7 : Int) (a8P : Option Addr) (a8N : Nat) (a8C : Nat) (b0 : ByteArray) (b1 : ByteArray) (b2 : Int) (b3 : Int) (b4 : Int) (b5 : Int) (b6 : Int) (b7 : Int) (b8P : Option Addr) (b8N : Nat) (b8C : Nat) (w : World) (R : Bool → World → Prop) : Prop :=
  New w (.cells #[.string a0, .string a1, .int .i64 a2, .int .i64 a3, .int .i64 a4, .int .i64 a5, .int .i64 a6, .int .i64 a7, .slice a8P a8N a8C] 26) fun r w1 =>
  New w1 (.cells #[.string b0, .string b1, .int .i64 b2, .int .i64 b3, .int .i64 b4, .int .i64 b5, .int .i64 b6, .int .i64 b7, .slice b8P b8N b8C] 26) fun r_1 w1_1 =>
  ∃ Program : ByteArray, w1_1.cell? ((⟨r, 0, none⟩ : Addr).add 0) = some (.string Program) ∧
  ∃ Program_1 : ByteArray, w1_1.cell? ((⟨r_1, 0, none⟩ : Addr).add 0) = some (.string Program_1) ∧
  If (!(Program.toList == Program_1.toList))
  (F_ref27_Same_k1 R w1_1)
  (∃ Query : ByteArray, w1_1.cell? ((⟨r, 0, none⟩ : Addr).add 1) = some (.string Query) ∧
  ∃ Query_1 : ByteArray, w1_1.cell? ((⟨r_1, 0, none⟩ : Addr).add 1) = some (.string Query_1) ∧
  If (!(Query.toList == Query_1.toList))
  (F_ref27_Same_k1 R w1_1)
  (∃ Caps0 : Int, w1_1.cell? (((⟨r, 0, none⟩ : Addr).add 2).add 0) = some (.int .i64 Caps0) ∧
  ∃ Caps1 : Int, w1_1.cell? (((⟨r, 0, none⟩ : Addr).add 2).add 1) = some (.int .i64 Caps1) ∧
  ∃ Caps2 : Int, w1_1.cell? (((⟨r, 0, none⟩ : Addr).add 2).add 2) = some (.int .i64 Caps2) ∧
  ∃ Caps3 : Int, w1_1.cell? (((⟨r, 0, none⟩ : Addr).add 2).add 3) = some (.int .i64 Caps3) ∧
  ∃ Caps4 : Int, w1_1.cell? (((⟨r, 0, none⟩ : Addr).add 2).add 4) = some (.int .i64 Caps4) ∧
  ∃ Caps0_1 : Int, w1_1.cell? (((⟨r_1, 0, none⟩ : Addr).add 2).add 0) = some (.int .i64 Caps0_1) ∧
  ∃ Caps1_1 : Int, w1_1.cell? (((⟨r_1, 0, none⟩ : Addr).add 2).add 1) = some (.int .i64 Caps1_1) ∧
  ∃ Caps2_1 : Int, w1_1.cell? (((⟨r_1, 0, none⟩ : Addr).add 2).add 2) = some (.int .i64 Caps2_1) ∧
  ∃ Caps3_1 : Int, w1_1.cell? (((⟨r_1, 0, none⟩ : Addr).add 2).add 3) = some (.int .i64 Caps3_1) ∧
  ∃ Caps4_1 : Int, w1_1.cell? (((⟨r_1, 0, none⟩ : Addr).add 2).add 4) = some (.int .i64 Caps4_1) ∧
  AggEq Tryd.prog 23 (.agg #[.int .i64 Caps0, .int .i64 Caps1, .int .i64 Caps2, .int .i64 Caps3, .int .i64 Caps4]) (.agg #[.int .i64 Caps0_1, .int .i64 Caps1_1, .int .i64 Caps2_1, .int .i64 Caps3_1, .int .i64 Caps4_1]) fun bb =>
  If (!bb)
  (F_ref27_Same_k1 R w1_1)
  (∃ Steps : Int, w1_1.cell? ((⟨r, 0, none⟩ : Addr).add 7) = some (.int .i64 Steps) ∧
  ∃ Steps_1 : Int, w1_1.cell? ((⟨r_1, 0, none⟩ : Addr).add 7) = some (.int .i64 Steps_1) ∧
  If (Steps != Steps_1)
  (F_ref27_Same_k1 R w1_1)
  (∃ CollectP : Option Addr, ∃ CollectN : Nat, ∃ CollectC : Nat, w1_1.cell? ((⟨r, 0, none⟩ : Addr).add 8) = some (.slice CollectP CollectN CollectC) ∧
  ∃ CollectP_1 : Option Addr, ∃ CollectN_1 : Nat, ∃ CollectC_1 : Nat, w1_1.cell? ((⟨r_1, 0, none⟩ : Addr).add 8) = some (.slice CollectP_1 CollectN_1 CollectC_1) ∧
  If ((CollectN : Int) != (CollectN_1 : Int))
  (R false w1_1)
  (F_ref27_Same_L1 ⟨r, 0, none⟩ ⟨r_1, 0, none⟩ ⟨(0 : Int)⟩ w1_1
  (fun w1_3 =>
  R true w1_3)
  (fun t4_1 w1_4 =>
  R t4_1 w1_4))))))

def lit_ref27_Same_L1 (f : Addr × Addr) (s : S_ref27_Same_L1) : Env := [⟨2, .pointer (some f.1), none⟩, ⟨3, .pointer (some f.2), none⟩, ⟨5, .int .i64 s.i, none⟩]

def dec_ref27_Same_L1 (e : Env) (K : (Addr × Addr) → S_ref27_Same_L1 → Prop) : Prop :=
  onV (getV e 2) fun u1 =>
  asA u1 fun a =>
  onV (getV e 3) fun u2 =>
  asA u2 fun b =>
  onV (getV e 5) fun u3 =>
  asI .i64 u3 fun i =>
    K (a, b) ⟨i⟩

theorem dec_ref27_Same_L1_ok {N : Nat} (e : Env) (a : Act) (K : (Addr × Addr) → S_ref27_Same_L1 → Prop) (hr : Rep N a e) (h0 : dec_ref27_Same_L1 e K) : ∃ f s, K f s ∧ Rep N a (lit_ref27_Same_L1 f s) := by
  unfold dec_ref27_Same_L1 at h0
  obtain ⟨u1, g2, h1⟩ := onV_elim h0
  obtain ⟨a, rfl, h2⟩ := asA_elim h1
  obtain ⟨u2, g3, h3⟩ := onV_elim h2
  obtain ⟨b, rfl, h4⟩ := asA_elim h3
  obtain ⟨u3, g5, h5⟩ := onV_elim h4
  obtain ⟨i, rfl, h6⟩ := asI_elim h5
  exact ⟨_, _, h6, rep_less hr (by simp [lit_ref27_Same_L1, g2, g3, g5])⟩

def spec_ref27_Same_L1 (Q : Post) (e : Env) (w : World) : Prop :=
  dec_ref27_Same_L1 e fun f s => F_ref27_Same_L1 f.1 f.2 s w (fun w1 => Q (.exit 0) [] w1) (fun t4 w1 => Q .ret [⟨4, .bool t4, none⟩] w1)

def G_ref27_Same : Gen where
  loop := lookL [([false, true, false, true, true], spec_ref27_Same_L1)]
  plan := fun id =>
    bif Nat.beq id 6 then some ([0, 1, 0, 7, 15, 0, 32, 0, 224, 480, 1023], .take 0 (.take 1 (.take 2 (.take 3 (.take 4 (.take 5 (.take 6 (.take 7 (.take 8 (.take 9 (.take 10 .done))))))))))) else none

def dx_ref27_Same_L1_0 (e : Env) (K : (Addr × Addr) → Prop) : Prop :=
  onV (getV e 2) fun u1 =>
  asA u1 fun a =>
  onV (getV e 3) fun u2 =>
  asA u2 fun b =>
    K (a, b)

def dx_ref27_Same_L1_ret (e : Env) (K : (Addr × Addr) → Bool → Prop) : Prop :=
  onV (getV e 2) fun u1 =>
  asA u1 fun a =>
  onV (getV e 3) fun u2 =>
  asA u2 fun b =>
  onV (getV e 4) fun u3 =>
  asB u3 fun t4 =>
    K (a, b) t4

theorem body_ref27_Same_L1 (f : Addr × Addr) (s : S_ref27_Same_L1) (w : World) (Kn : (Addr × Addr) → S_ref27_Same_L1 → World → Prop) (Kx0 : (Addr × Addr) → World → Prop) (Kr : (Addr × Addr) → Bool → World → Prop) :
    B_ref27_Same_L1 f.1 f.2 s w (fun s1 w1 => Kn f s1 w1) (fun w1 => Kx0 f w1) (fun t4 w1 => Kr f t4 w1) =
    den Tryd.prog Tryd.f12.ntmps G_ref27_Same (sub (codeOf Tryd.f12) [false, false, true, false, true, true]) [false, false, true, false, true, true] (roundQ (fun e w => dec_ref27_Same_L1 e fun f s => Kn f s w) (fun e w => dx_ref27_Same_L1_ret e fun f t4 => Kr f t4 w) (fun id e w => match Nat.beq id 0 with | true => dx_ref27_Same_L1_0 e fun f => Kx0 f w | false => False)) (lit_ref27_Same_L1 f s) w := by kernel_rfl

theorem ok_ref27_Same_L1 : OneOk Tryd.prog Tryd.f12.ntmps G_ref27_Same (codeOf Tryd.f12) [false, true, false, true, true] spec_ref27_Same_L1 := by
  intro c hc ih Q e w a hr h
  have hcc : sub (codeOf Tryd.f12) [false, false, true, false, true, true] = c := sub_of_codeAt hc
  obtain ⟨f, s, h, hrep⟩ := dec_ref27_Same_L1_ok e a _ hr h
  obtain ⟨J, μ, hj, hround⟩ := h
  refine loop_rule_deep seat_ok seat_mixed ih lit_ref27_Same_L1 dec_ref27_Same_L1 dec_ref27_Same_L1_ok hc f J μ (Kr := fun e w => dx_ref27_Same_L1_ret e fun f1 t4 => f1 = f ∧ Q .ret [⟨4, .bool t4, none⟩] w) (Kx := fun id e w => match Nat.beq id 0 with | true => (dx_ref27_Same_L1_0 e fun f1 => f1 = f ∧ Q (.exit 0) [] w) | false => False) ?_ ?_ ?_ s w a hj hrep
  · intro e a w hr h0
    unfold dx_ref27_Same_L1_ret at h0
    obtain ⟨u1, g2, h1⟩ := onV_elim h0
    obtain ⟨a, rfl, h2⟩ := asA_elim h1
    obtain ⟨u2, g3, h3⟩ := onV_elim h2
    obtain ⟨b, rfl, h4⟩ := asA_elim h3
    obtain ⟨u3, g4, h5⟩ := onV_elim h4
    obtain ⟨t4, rfl, h6⟩ := asB_elim h5
    obtain ⟨hf, hq⟩ := h6
    subst hf
    exact ⟨_, rep_less hr (by simp [g4]), hq⟩
  · intro id e a w hr h0
    (try dsimp only at h0)
    split at h0
    · rename_i hid
      obtain rfl := Nat.eq_of_beq_eq_true hid
      unfold dx_ref27_Same_L1_0 at h0
      obtain ⟨u1, g2, h1⟩ := onV_elim h0
      obtain ⟨a, rfl, h2⟩ := asA_elim h1
      obtain ⟨u2, g3, h3⟩ := onV_elim h2
      obtain ⟨b, rfl, h4⟩ := asA_elim h3
      obtain ⟨hf, hq⟩ := h4
      subst hf
      exact ⟨_, rep_less hr (by simp), hq⟩
    · exact h0.elim
  · intro s w hj
    have hb := hround s w hj
    rw [← hcc]
    have e1 := body_ref27_Same_L1 f s w (fun f1 s1 w1 => f1 = f ∧ J s1 w1 ∧ μ s1 w1 < μ s w) (fun f1 w1 => f1 = f ∧ Q (.exit 0) [] w1) (fun f1 t4 w1 => f1 = f ∧ Q .ret [⟨4, .bool t4, none⟩] w1)
    simp only [true_and] at e1
    exact cast e1 hb

theorem loops_ref27_Same : LoopOk Tryd.prog Tryd.f12.ntmps G_ref27_Same (codeOf Tryd.f12) := loopOk_list rfl ⟨ok_ref27_Same_L1, trivial⟩

theorem den_ref27_Same (a0 : ByteArray) (a1 : ByteArray) (a2 : Int) (a3 : Int) (a4 : Int) (a5 : Int) (a6 : Int) (a7 : Int) (a8P : Option Addr) (a8N : Nat) (a8C : Nat) (b0 : ByteArray) (b1 : ByteArray) (b2 : Int) (b3 : Int) (b4 : Int) (b5 : Int) (b6 : Int) (b7 : Int) (b8P : Option Addr) (b8N : Nat) (b8C : Nat) (w : World) (R : Value → World → Prop) :
    F_ref27_Same a0 a1 a2 a3 a4 a5 a6 a7 a8P a8N a8C b0 b1 b2 b3 b4 b5 b6 b7 b8P b8N b8C w (fun r w1 => R (.bool r) w1) = den Tryd.prog Tryd.f12.ntmps G_ref27_Same (codeOf Tryd.f12) [] (postD Tryd.prog Tryd.f12.results.toList R) (entry [.agg #[.string a0, .string a1, .int .i64 a2, .int .i64 a3, .int .i64 a4, .int .i64 a5, .int .i64 a6, .int .i64 a7, .slice a8P a8N a8C], .agg #[.string b0, .string b1, .int .i64 b2, .int .i64 b3, .int .i64 b4, .int .i64 b5, .int .i64 b6, .int .i64 b7, .slice b8P b8N b8C]] 0) w := by kernel_rfl

theorem C_ref27_Same.of {a0 : ByteArray} {a1 : ByteArray} {a2 : Int} {a3 : Int} {a4 : Int} {a5 : Int} {a6 : Int} {a7 : Int} {a8P : Option Addr} {a8N : Nat} {a8C : Nat} {b0 : ByteArray} {b1 : ByteArray} {b2 : Int} {b3 : Int} {b4 : Int} {b5 : Int} {b6 : Int} {b7 : Int} {b8P : Option Addr} {b8N : Nat} {b8C : Nat} {w : World} {R : Bool → World → Prop} (h : F_ref27_Same a0 a1 a2 a3 a4 a5 a6 a7 a8P a8N a8C b0 b1 b2 b3 b4 b5 b6 b7 b8P b8N b8C w R) : C_ref27_Same a0 a1 a2 a3 a4 a5 a6 a7 a8P a8N a8C b0 b1 b2 b3 b4 b5 b6 b7 b8P b8N b8C w R := by
  refine (calls_of_den (c := codeOf Tryd.f12) seat_ok seat_mixed Tryd.func12 (by kernel_rfl) loops_ref27_Same (args := [.agg #[.string a0, .string a1, .int .i64 a2, .int .i64 a3, .int .i64 a4, .int .i64 a5, .int .i64 a6, .int .i64 a7, .slice a8P a8N a8C], .agg #[.string b0, .string b1, .int .i64 b2, .int .i64 b3, .int .i64 b4, .int .i64 b5, .int .i64 b6, .int .i64 b7, .slice b8P b8N b8C]]) rfl (R := fun v w1 => ∃ (r : Bool), v = (.bool r : Value) ∧ R r w1) ?_).mono ?_
  · rw [← den_ref27_Same]
    have e : (fun r w1 => ∃ (r' : Bool), (.bool r : Value) = (.bool r' : Value) ∧ R r' w1) = R := by
      funext r w1
      exact propext ⟨fun ⟨r', he, h⟩ => by first | (simp at he; simp_all) | (cases he; exact h), fun h => ⟨_, rfl, h⟩⟩
    simpa only [e] using h
  · rintro en w1 ⟨v, he, r, rfl, h⟩
    exact ⟨_, he, h⟩

structure S_ref27_Decode_L1 where
  i : Int

/-- One round. -/
def B_ref27_Decode_L1 (t2 : Addr) (r_3 : Addr) (sx : Addr) (n : Int) (s : S_ref27_Decode_L1) (w : World) (Kn : S_ref27_Decode_L1 → World → Prop) (Kx0 : World → Prop) : Prop :=
  If (decide ((s.i : Int) < n))
  (NN (some r_3) fun a =>
  ∃ bad : Bool, w.cell? (a.add 1) = some (.bool bad) ∧
  If (!bad)
  (∃ CollectP : Option Addr, ∃ CollectN : Nat, ∃ CollectC : Nat, (drw w).cell? (sx.add 8) = some (.slice CollectP CollectN CollectC) ∧
  C_ref27_reader_number (some r_3) (drw w) fun t56 w1_27 =>
  w1_27.cell? (sx.add 8) = (drw w).cell? (sx.add 8) ∧
  BSl Tryd.prog 24 1 [(0, .int .i64 t56)] w1_27 fun t57P t57N t57C w1_28 =>
  w1_28.cell? (sx.add 8) = (drw w).cell? (sx.add 8) ∧
  App Tryd.prog #[24, 24] 24 #[.slice CollectP CollectN CollectC, .slice t57P t57N t57C] w1_28 fun t58P t58N t58C w1_29 =>
  St w1_29 ((sx.add 8).add 0) (.slice t58P t58N t58C) fun w1_30 =>
  Kn ⟨(IntKind.i64.wrap ((s.i : Int) + (1 : Int)))⟩ w1_30)
  (Kx0 w))
  (Kx0 w)

def F_ref27_Decode_L1 (t2 : Addr) (r_3 : Addr) (sx : Addr) (n : Int) (s : S_ref27_Decode_L1) (w : World) (Kx0 : World → Prop) : Prop :=
  LoopS (fun s w Kn => B_ref27_Decode_L1 t2 r_3 sx n s w Kn Kx0) s w

def F_ref27_Decode (bP : Option Addr) (bN : Nat) (bC : Nat) (w : World) (R : ByteArray → ByteArray → Int → Int → Int → Int → Int → Int → Option Addr → Nat → Nat → Bool → World → Prop) : Prop :=
  New w (.cells #[.string ⟨#[]⟩, .string ⟨#[]⟩, .int .i64 0, .int .i64 0, .int .i64 0, .int .i64 0, .int .i64 0, .int .i64 0, .slice none 0 0] 26) fun r w1 =>
  New w1 (.cells #[.slice bP bN bC, .bool false] 72) fun r_1 w1_1 =>
  C_ref27_reader_text (some ⟨r_1, 0, none⟩) w1_1 fun t12 w1_2 =>
  C_ref27_reader_text (some ⟨r_1, 0, none⟩) w1_2 fun t14 w1_3 =>
  New w1_3 (.cells #[.string ⟨#[]⟩, .string ⟨#[]⟩, .int .i64 0, .int .i64 0, .int .i64 0, .int .i64 0, .int .i64 0, .int .i64 0, .slice none 0 0] 26) fun r_2 w1_4 =>
  St w1_4 ((⟨r_2, 0, none⟩ : Addr).add 0) (.string t12) fun w1_5 =>
  St w1_5 ((⟨r_2, 0, none⟩ : Addr).add 1) (.string t14) fun w1_6 =>
  St w1_6 ((⟨r_2, 0, none⟩ : Addr).add 2) (.int .i64 0) fun w1_7 =>
  St w1_7 ((⟨r_2, 0, none⟩ : Addr).add 3) (.int .i64 0) fun w1_8 =>
  St w1_8 ((⟨r_2, 0, none⟩ : Addr).add 4) (.int .i64 0) fun w1_9 =>
  St w1_9 ((⟨r_2, 0, none⟩ : Addr).add 5) (.int .i64 0) fun w1_10 =>
  St w1_10 ((⟨r_2, 0, none⟩ : Addr).add 6) (.int .i64 0) fun w1_11 =>
  St w1_11 ((⟨r_2, 0, none⟩ : Addr).add 7) (.int .i64 0) fun w1_12 =>
  St w1_12 ((⟨r_2, 0, none⟩ : Addr).add 8) (.slice none 0 0) fun w1_13 =>
  C_ref27_reader_number (some ⟨r_1, 0, none⟩) w1_13 fun t17 w1_14 =>
  St w1_14 ((((⟨r_2, 0, none⟩ : Addr).add 2).add 0).add 0) (.int .i64 t17) fun w1_15 =>
  C_ref27_reader_number (some ⟨r_1, 0, none⟩) w1_15 fun t21 w1_16 =>
  St w1_16 ((((⟨r_2, 0, none⟩ : Addr).add 2).add 1).add 0) (.int .i64 t21) fun w1_17 =>
  C_ref27_reader_number (some ⟨r_1, 0, none⟩) w1_17 fun t25 w1_18 =>
  St w1_18 ((((⟨r_2, 0, none⟩ : Addr).add 2).add 2).add 0) (.int .i64 t25) fun w1_19 =>
  C_ref27_reader_number (some ⟨r_1, 0, none⟩) w1_19 fun t29 w1_20 =>
  St w1_20 ((((⟨r_2, 0, none⟩ : Addr).add 2).add 3).add 0) (.int .i64 t29) fun w1_21 =>
  C_ref27_reader_number (some ⟨r_1, 0, none⟩) w1_21 fun t33 w1_22 =>
  St w1_22 ((((⟨r_2, 0, none⟩ : Addr).add 2).add 4).add 0) (.int .i64 t33) fun w1_23 =>
  C_ref27_reader_number (some ⟨r_1, 0, none⟩) w1_23 fun t37 w1_24 =>
  St w1_24 (((⟨r_2, 0, none⟩ : Addr).add 7).add 0) (.int .i64 t37) fun w1_25 =>
  C_ref27_reader_count (some ⟨r_1, 0, none⟩) (1000 : Int) w1_25 fun t40 w1_26 =>
  F_ref27_Decode_L1 ⟨r, 0, none⟩ ⟨r_1, 0, none⟩ ⟨r_2, 0, none⟩ t40 ⟨(0 : Int)⟩ w1_26
  (fun w1_31 =>
  NN (some ⟨r_1, 0, none⟩) fun a_1 =>
  ∃ bad_1 : Bool, w1_31.cell? (a_1.add 1) = some (.bool bad_1) ∧
  If bad_1
  (St w1_31 ((⟨r, 0, none⟩ : Addr).add 0) (.string ⟨#[]⟩) fun w1_32 =>
  St w1_32 ((⟨r, 0, none⟩ : Addr).add 1) (.string ⟨#[]⟩) fun w1_33 =>
  St w1_33 ((⟨r, 0, none⟩ : Addr).add 2) (.int .i64 0) fun w1_34 =>
  St w1_34 ((⟨r, 0, none⟩ : Addr).add 3) (.int .i64 0) fun w1_35 =>
  St w1_35 ((⟨r, 0, none⟩ : Addr).add 4) (.int .i64 0) fun w1_36 =>
  St w1_36 ((⟨r, 0, none⟩ : Addr).add 5) (.int .i64 0) fun w1_37 =>
  St w1_37 ((⟨r, 0, none⟩ : Addr).add 6) (.int .i64 0) fun w1_38 =>
  St w1_38 ((⟨r, 0, none⟩ : Addr).add 7) (.int .i64 0) fun w1_39 =>
  St w1_39 ((⟨r, 0, none⟩ : Addr).add 8) (.slice none 0 0) fun w1_40 =>
  ∃ r_4 : ByteArray, w1_40.cell? ((⟨r, 0, none⟩ : Addr).add 0) = some (.string r_4) ∧
  ∃ r_5 : ByteArray, w1_40.cell? ((⟨r, 0, none⟩ : Addr).add 1) = some (.string r_5) ∧
  ∃ r_6 : Int, w1_40.cell? ((⟨r, 0, none⟩ : Addr).add 2) = some (.int .i64 r_6) ∧
  ∃ r_7 : Int, w1_40.cell? ((⟨r, 0, none⟩ : Addr).add 3) = some (.int .i64 r_7) ∧
  ∃ r_8 : Int, w1_40.cell? ((⟨r, 0, none⟩ : Addr).add 4) = some (.int .i64 r_8) ∧
  ∃ r_9 : Int, w1_40.cell? ((⟨r, 0, none⟩ : Addr).add 5) = some (.int .i64 r_9) ∧
  ∃ r_10 : Int, w1_40.cell? ((⟨r, 0, none⟩ : Addr).add 6) = some (.int .i64 r_10) ∧
  ∃ r_11 : Int, w1_40.cell? ((⟨r, 0, none⟩ : Addr).add 7) = some (.int .i64 r_11) ∧
  ∃ rP : Option Addr, ∃ rN : Nat, ∃ rC : Nat, w1_40.cell? ((⟨r, 0, none⟩ : Addr).add 8) = some (.slice rP rN rC) ∧
  R r_4 r_5 r_6 r_7 r_8 r_9 r_10 r_11 rP rN rC false w1_40)
  (NN (some ⟨r_1, 0, none⟩) fun a_2 =>
  ∃ bP_1 : Option Addr, ∃ bN_1 : Nat, ∃ bC_1 : Nat, w1_31.cell? (a_2.add 0) = some (.slice bP_1 bN_1 bC_1) ∧
  If (decide ((bN_1 : Int) > (0 : Int)))
  (St w1_31 ((⟨r, 0, none⟩ : Addr).add 0) (.string ⟨#[]⟩) fun w1_41 =>
  St w1_41 ((⟨r, 0, none⟩ : Addr).add 1) (.string ⟨#[]⟩) fun w1_42 =>
  St w1_42 ((⟨r, 0, none⟩ : Addr).add 2) (.int .i64 0) fun w1_43 =>
  St w1_43 ((⟨r, 0, none⟩ : Addr).add 3) (.int .i64 0) fun w1_44 =>
  St w1_44 ((⟨r, 0, none⟩ : Addr).add 4) (.int .i64 0) fun w1_45 =>
  St w1_45 ((⟨r, 0, none⟩ : Addr).add 5) (.int .i64 0) fun w1_46 =>
  St w1_46 ((⟨r, 0, none⟩ : Addr).add 6) (.int .i64 0) fun w1_47 =>
  St w1_47 ((⟨r, 0, none⟩ : Addr).add 7) (.int .i64 0) fun w1_48 =>
  St w1_48 ((⟨r, 0, none⟩ : Addr).add 8) (.slice none 0 0) fun w1_49 =>
  ∃ r_12 : ByteArray, w1_49.cell? ((⟨r, 0, none⟩ : Addr).add 0) = some (.string r_12) ∧
  ∃ r_13 : ByteArray, w1_49.cell? ((⟨r, 0, none⟩ : Addr).add 1) = some (.string r_13) ∧
  ∃ r_14 : Int, w1_49.cell? ((⟨r, 0, none⟩ : Addr).add 2) = some (.int .i64 r_14) ∧
  ∃ r_15 : Int, w1_49.cell? ((⟨r, 0, none⟩ : Addr).add 3) = some (.int .i64 r_15) ∧
  ∃ r_16 : Int, w1_49.cell? ((⟨r, 0, none⟩ : Addr).add 4) = some (.int .i64 r_16) ∧
  ∃ r_17 : Int, w1_49.cell? ((⟨r, 0, none⟩ : Addr).add 5) = some (.int .i64 r_17) ∧
  ∃ r_18 : Int, w1_49.cell? ((⟨r, 0, none⟩ : Addr).add 6) = some (.int .i64 r_18) ∧
  ∃ r_19 : Int, w1_49.cell? ((⟨r, 0, none⟩ : Addr).add 7) = some (.int .i64 r_19) ∧
  ∃ rP_1 : Option Addr, ∃ rN_1 : Nat, ∃ rC_1 : Nat, w1_49.cell? ((⟨r, 0, none⟩ : Addr).add 8) = some (.slice rP_1 rN_1 rC_1) ∧
  R r_12 r_13 r_14 r_15 r_16 r_17 r_18 r_19 rP_1 rN_1 rC_1 false w1_49)
  (∃ t730 : ByteArray, w1_31.cell? ((⟨r_2, 0, none⟩ : Addr).add 0) = some (.string t730) ∧
  ∃ t731 : ByteArray, w1_31.cell? ((⟨r_2, 0, none⟩ : Addr).add 1) = some (.string t731) ∧
  ∃ t732 : Int, w1_31.cell? ((⟨r_2, 0, none⟩ : Addr).add 2) = some (.int .i64 t732) ∧
  ∃ t733 : Int, w1_31.cell? ((⟨r_2, 0, none⟩ : Addr).add 3) = some (.int .i64 t733) ∧
  ∃ t734 : Int, w1_31.cell? ((⟨r_2, 0, none⟩ : Addr).add 4) = some (.int .i64 t734) ∧
  ∃ t735 : Int, w1_31.cell? ((⟨r_2, 0, none⟩ : Addr).add 5) = some (.int .i64 t735) ∧
  ∃ t736 : Int, w1_31.cell? ((⟨r_2, 0, none⟩ : Addr).add 6) = some (.int .i64 t736) ∧
  ∃ t737 : Int, w1_31.cell? ((⟨r_2, 0, none⟩ : Addr).add 7) = some (.int .i64 t737) ∧
  ∃ t738P : Option Addr, ∃ t738N : Nat, ∃ t738C : Nat, w1_31.cell? ((⟨r_2, 0, none⟩ : Addr).add 8) = some (.slice t738P t738N t738C) ∧
  St w1_31 ((⟨r, 0, none⟩ : Addr).add 0) (.string t730) fun w1_50 =>
  St w1_50 ((⟨r, 0, none⟩ : Addr).add 1) (.string t731) fun w1_51 =>
  St w1_51 ((⟨r, 0, none⟩ : Addr).add 2) (.int .i64 t732) fun w1_52 =>
  St w1_52 ((⟨r, 0, none⟩ : Addr).add 3) (.int .i64 t733) fun w1_53 =>
  St w1_53 ((⟨r, 0, none⟩ : Addr).add 4) (.int .i64 t734) fun w1_54 =>
  St w1_54 ((⟨r, 0, none⟩ : Addr).add 5) (.int .i64 t735) fun w1_55 =>
  St w1_55 ((⟨r, 0, none⟩ : Addr).add 6) (.int .i64 t736) fun w1_56 =>
  St w1_56 ((⟨r, 0, none⟩ : Addr).add 7) (.int .i64 t737) fun w1_57 =>
  St w1_57 ((⟨r, 0, none⟩ : Addr).add 8) (.slice t738P t738N t738C) fun w1_58 =>
  ∃ r_20 : ByteArray, w1_58.cell? ((⟨r, 0, none⟩ : Addr).add 0) = some (.string r_20) ∧
  ∃ r_21 : ByteArray, w1_58.cell? ((⟨r, 0, none⟩ : Addr).add 1) = some (.string r_21) ∧
  ∃ r_22 : Int, w1_58.cell? ((⟨r, 0, none⟩ : Addr).add 2) = some (.int .i64 r_22) ∧
  ∃ r_23 : Int, w1_58.cell? ((⟨r, 0, none⟩ : Addr).add 3) = some (.int .i64 r_23) ∧
  ∃ r_24 : Int, w1_58.cell? ((⟨r, 0, none⟩ : Addr).add 4) = some (.int .i64 r_24) ∧
  ∃ r_25 : Int, w1_58.cell? ((⟨r, 0, none⟩ : Addr).add 5) = some (.int .i64 r_25) ∧
  ∃ r_26 : Int, w1_58.cell? ((⟨r, 0, none⟩ : Addr).add 6) = some (.int .i64 r_26) ∧
  ∃ r_27 : Int, w1_58.cell? ((⟨r, 0, none⟩ : Addr).add 7) = some (.int .i64 r_27) ∧
  ∃ rP_2 : Option Addr, ∃ rN_2 : Nat, ∃ rC_2 : Nat, w1_58.cell? ((⟨r, 0, none⟩ : Addr).add 8) = some (.slice rP_2 rN_2 rC_2) ∧
  R r_20 r_21 r_22 r_23 r_24 r_25 r_26 r_27 rP_2 rN_2 rC_2 true w1_58)))

def lit_ref27_Decode_L1 (f : Addr × Addr × Addr × Int) (s : S_ref27_Decode_L1) : Env := [⟨2, .pointer (some f.1), none⟩, ⟨4, .pointer (some f.2.1), none⟩, ⟨5, .pointer (some f.2.2.1), none⟩, ⟨6, .int .i64 f.2.2.2, none⟩, ⟨7, .int .i64 s.i, none⟩]

def dec_ref27_Decode_L1 (e : Env) (K : (Addr × Addr × Addr × Int) → S_ref27_Decode_L1 → Prop) : Prop :=
  onV (getV e 2) fun u1 =>
  asA u1 fun t2 =>
  onV (getV e 4) fun u2 =>
  asA u2 fun r_3 =>
  onV (getV e 5) fun u3 =>
  asA u3 fun sx =>
  onV (getV e 6) fun u4 =>
  asI .i64 u4 fun n =>
  onV (getV e 7) fun u5 =>
  asI .i64 u5 fun i =>
    K (t2, r_3, sx, n) ⟨i⟩

theorem dec_ref27_Decode_L1_ok {N : Nat} (e : Env) (a : Act) (K : (Addr × Addr × Addr × Int) → S_ref27_Decode_L1 → Prop) (hr : Rep N a e) (h0 : dec_ref27_Decode_L1 e K) : ∃ f s, K f s ∧ Rep N a (lit_ref27_Decode_L1 f s) := by
  unfold dec_ref27_Decode_L1 at h0
  obtain ⟨u1, g2, h1⟩ := onV_elim h0
  obtain ⟨t2, rfl, h2⟩ := asA_elim h1
  obtain ⟨u2, g4, h3⟩ := onV_elim h2
  obtain ⟨r_3, rfl, h4⟩ := asA_elim h3
  obtain ⟨u3, g5, h5⟩ := onV_elim h4
  obtain ⟨sx, rfl, h6⟩ := asA_elim h5
  obtain ⟨u4, g6, h7⟩ := onV_elim h6
  obtain ⟨n, rfl, h8⟩ := asI_elim h7
  obtain ⟨u5, g7, h9⟩ := onV_elim h8
  obtain ⟨i, rfl, h10⟩ := asI_elim h9
  exact ⟨_, _, h10, rep_less hr (by simp [lit_ref27_Decode_L1, g2, g4, g5, g6, g7])⟩

def spec_ref27_Decode_L1 (Q : Post) (e : Env) (w : World) : Prop :=
  dec_ref27_Decode_L1 e fun f s => F_ref27_Decode_L1 f.1 f.2.1 f.2.2.1 f.2.2.2 s w (fun w1 => Q (.exit 0) [⟨2, .pointer (some f.1), none⟩, ⟨4, .pointer (some f.2.1), none⟩, ⟨5, .pointer (some f.2.2.1), none⟩] w1)

def G_ref27_Decode : Gen where
  loop := lookL [([false, true, false, true, true, true, true, true, true, true, true, true, true], spec_ref27_Decode_L1)]
  plan := fun id =>
    bif Nat.beq id 13 then some ([0, 1, 0, 4, 12, 31, 63, 127], .take 0 (.take 1 (.take 2 (.take 3 (.take 4 (.take 5 (.take 6 (.take 7 .done)))))))) else none

def dx_ref27_Decode_L1_0 (e : Env) (K : (Addr × Addr × Addr × Int) → Prop) : Prop :=
  onV (getV e 2) fun u1 =>
  asA u1 fun t2 =>
  onV (getV e 4) fun u2 =>
  asA u2 fun r_3 =>
  onV (getV e 5) fun u3 =>
  asA u3 fun sx =>
  onV (getV e 6) fun u4 =>
  asI .i64 u4 fun n =>
    K (t2, r_3, sx, n)

theorem body_ref27_Decode_L1 (f : Addr × Addr × Addr × Int) (s : S_ref27_Decode_L1) (w : World) (Kn : (Addr × Addr × Addr × Int) → S_ref27_Decode_L1 → World → Prop) (Kx0 : (Addr × Addr × Addr × Int) → World → Prop) :
    B_ref27_Decode_L1 f.1 f.2.1 f.2.2.1 f.2.2.2 s w (fun s1 w1 => Kn f s1 w1) (fun w1 => Kx0 f w1) =
    den Tryd.prog Tryd.f13.ntmps G_ref27_Decode (sub (codeOf Tryd.f13) [false, false, true, false, true, true, true, true, true, true, true, true, true, true]) [false, false, true, false, true, true, true, true, true, true, true, true, true, true] (roundQ (fun e w => dec_ref27_Decode_L1 e fun f s => Kn f s w) (fun e w => False) (fun id e w => match Nat.beq id 0 with | true => dx_ref27_Decode_L1_0 e fun f => Kx0 f w | false => False)) (lit_ref27_Decode_L1 f s) w := by kernel_rfl

theorem ok_ref27_Decode_L1 : OneOk Tryd.prog Tryd.f13.ntmps G_ref27_Decode (codeOf Tryd.f13) [false, true, false, true, true, true, true, true, true, true, true, true, true] spec_ref27_Decode_L1 := by
  intro c hc ih Q e w a hr h
  have hcc : sub (codeOf Tryd.f13) [false, false, true, false, true, true, true, true, true, true, true, true, true, true] = c := sub_of_codeAt hc
  obtain ⟨f, s, h, hrep⟩ := dec_ref27_Decode_L1_ok e a _ hr h
  obtain ⟨J, μ, hj, hround⟩ := h
  refine loop_rule_deep seat_ok seat_mixed ih lit_ref27_Decode_L1 dec_ref27_Decode_L1 dec_ref27_Decode_L1_ok hc f J μ (Kr := fun e w => False) (Kx := fun id e w => match Nat.beq id 0 with | true => (dx_ref27_Decode_L1_0 e fun f1 => f1 = f ∧ Q (.exit 0) [⟨2, .pointer (some f.1), none⟩, ⟨4, .pointer (some f.2.1), none⟩, ⟨5, .pointer (some f.2.2.1), none⟩] w) | false => False) ?_ ?_ ?_ s w a hj hrep
  · intro e a w hr h
    exact h.elim
  · intro id e a w hr h0
    (try dsimp only at h0)
    split at h0
    · rename_i hid
      obtain rfl := Nat.eq_of_beq_eq_true hid
      unfold dx_ref27_Decode_L1_0 at h0
      obtain ⟨u1, g2, h1⟩ := onV_elim h0
      obtain ⟨t2, rfl, h2⟩ := asA_elim h1
      obtain ⟨u2, g4, h3⟩ := onV_elim h2
      obtain ⟨r_3, rfl, h4⟩ := asA_elim h3
      obtain ⟨u3, g5, h5⟩ := onV_elim h4
      obtain ⟨sx, rfl, h6⟩ := asA_elim h5
      obtain ⟨u4, g6, h7⟩ := onV_elim h6
      obtain ⟨n, rfl, h8⟩ := asI_elim h7
      obtain ⟨hf, hq⟩ := h8
      subst hf
      exact ⟨_, rep_less hr (by simp [g2, g4, g5]), hq⟩
    · exact h0.elim
  · intro s w hj
    have hb := hround s w hj
    rw [← hcc]
    have e1 := body_ref27_Decode_L1 f s w (fun f1 s1 w1 => f1 = f ∧ J s1 w1 ∧ μ s1 w1 < μ s w) (fun f1 w1 => f1 = f ∧ Q (.exit 0) [⟨2, .pointer (some f.1), none⟩, ⟨4, .pointer (some f.2.1), none⟩, ⟨5, .pointer (some f.2.2.1), none⟩] w1)
    simp only [true_and] at e1
    exact cast e1 hb

theorem loops_ref27_Decode : LoopOk Tryd.prog Tryd.f13.ntmps G_ref27_Decode (codeOf Tryd.f13) := loopOk_list rfl ⟨ok_ref27_Decode_L1, trivial⟩

theorem den_ref27_Decode (bP : Option Addr) (bN : Nat) (bC : Nat) (w : World) (R : Value → World → Prop) :
    F_ref27_Decode bP bN bC w (fun r00 r01 r02 r03 r04 r05 r06 r07 r08P r08N r08C r1 w1 => R (.tuple #[.agg #[.string r00, .string r01, .int .i64 r02, .int .i64 r03, .int .i64 r04, .int .i64 r05, .int .i64 r06, .int .i64 r07, .slice r08P r08N r08C], .bool r1]) w1) = den Tryd.prog Tryd.f13.ntmps G_ref27_Decode (codeOf Tryd.f13) [] (postD Tryd.prog Tryd.f13.results.toList R) (entry [.slice bP bN bC] 0) w := by kernel_rfl

theorem C_ref27_Decode.of {bP : Option Addr} {bN : Nat} {bC : Nat} {w : World} {R : ByteArray → ByteArray → Int → Int → Int → Int → Int → Int → Option Addr → Nat → Nat → Bool → World → Prop} (h : F_ref27_Decode bP bN bC w R) : C_ref27_Decode bP bN bC w R := by
  refine (calls_of_den (c := codeOf Tryd.f13) seat_ok seat_mixed Tryd.func13 (by kernel_rfl) loops_ref27_Decode (args := [.slice bP bN bC]) rfl (R := fun v w1 => ∃ (r00 : ByteArray) (r01 : ByteArray) (r02 : Int) (r03 : Int) (r04 : Int) (r05 : Int) (r06 : Int) (r07 : Int) (r08P : Option Addr) (r08N : Nat) (r08C : Nat) (r1 : Bool), v = (.tuple #[.agg #[.string r00, .string r01, .int .i64 r02, .int .i64 r03, .int .i64 r04, .int .i64 r05, .int .i64 r06, .int .i64 r07, .slice r08P r08N r08C], .bool r1] : Value) ∧ R r00 r01 r02 r03 r04 r05 r06 r07 r08P r08N r08C r1 w1) ?_).mono ?_
  · rw [← den_ref27_Decode]
    have e : (fun r00 r01 r02 r03 r04 r05 r06 r07 r08P r08N r08C r1 w1 => ∃ (r00' : ByteArray) (r01' : ByteArray) (r02' : Int) (r03' : Int) (r04' : Int) (r05' : Int) (r06' : Int) (r07' : Int) (r08P' : Option Addr) (r08N' : Nat) (r08C' : Nat) (r1' : Bool), (.tuple #[.agg #[.string r00, .string r01, .int .i64 r02, .int .i64 r03, .int .i64 r04, .int .i64 r05, .int .i64 r06, .int .i64 r07, .slice r08P r08N r08C], .bool r1] : Value) = (.tuple #[.agg #[.string r00', .string r01', .int .i64 r02', .int .i64 r03', .int .i64 r04', .int .i64 r05', .int .i64 r06', .int .i64 r07', .slice r08P' r08N' r08C'], .bool r1'] : Value) ∧ R r00' r01' r02' r03' r04' r05' r06' r07' r08P' r08N' r08C' r1' w1) = R := by
      funext r00 r01 r02 r03 r04 r05 r06 r07 r08P r08N r08C r1 w1
      exact propext ⟨fun ⟨r00', r01', r02', r03', r04', r05', r06', r07', r08P', r08N', r08C', r1', he, h⟩ => by first | (simp at he; simp_all) | (cases he; exact h), fun h => ⟨_, _, _, _, _, _, _, _, _, _, _, _, rfl, h⟩⟩
    simpa only [e] using h
  · rintro en w1 ⟨v, he, r00, r01, r02, r03, r04, r05, r06, r07, r08P, r08N, r08C, r1, rfl, h⟩
    exact ⟨_, _, _, _, _, _, _, _, _, _, _, _, he, h⟩

end Go.Proofs.YtggbmakfifllnaaDoor
