/- The formulas of this seat's functions, held against the loaded program by the kernel. Printed by a program. -/
import Derived.Test.YtggbmakfifllnaaDoorGenC
set_option maxRecDepth 100000
set_option linter.unusedVariables false
namespace Go.Proofs.YtggbmakfifllnaaDoor
open Go Go.D Go.Proofs

def F_script_Decode_1 (c0 : Addr) (c1 : Addr) (w : World) (R : World → Prop) : Prop :=
  ∃ CollectP : Option Addr, ∃ CollectN : Nat, ∃ CollectC : Nat, (drw w).cell? (c0.add 8) = some (.slice CollectP CollectN CollectC) ∧
  ∃ t4 : Option Addr, (drw w).cell? c1 = some (.pointer t4) ∧
  C_script_reader_number t4 (drw w) fun t5 w1 =>
  w1.cell? (c0.add 8) = (drw w).cell? (c0.add 8) ∧
  BSl Tryd.prog 24 1 [(0, .int .i64 t5)] w1 fun t6P t6N t6C w1_1 =>
  w1_1.cell? (c0.add 8) = (drw w).cell? (c0.add 8) ∧
  App Tryd.prog #[24, 24] 24 #[.slice CollectP CollectN CollectC, .slice t6P t6N t6C] w1_1 fun t7P t7N t7C w1_2 =>
  St w1_2 ((c0.add 8).add 0) (.slice t7P t7N t7C) fun w1_3 =>
  R w1_3

def G_script_Decode_1 : Gen where
  loop := lookL []
  plan := fun id =>
    bif Nat.beq id 0 then some ([0, 1, 0, 4, 12, 31, 63, 127], .take 0 (.take 1 (.take 2 (.take 3 (.take 4 (.take 5 (.take 6 (.take 7 .done)))))))) else none

theorem loops_script_Decode_1 : LoopOk Tryd.prog Tryd.f29.ntmps G_script_Decode_1 (codeOf Tryd.f29) := loopOk_none fun _ => rfl

theorem den_script_Decode_1 (c0 : Addr) (c1 : Addr) (w : World) (R : Value → World → Prop) :
    F_script_Decode_1 c0 c1 w (fun w1 => R (.tuple #[]) w1) = den Tryd.prog Tryd.f29.ntmps G_script_Decode_1 (codeOf Tryd.f29) [] (postD Tryd.prog Tryd.f29.results.toList R) (entry [.pointer (some c0), .pointer (some c1)] 0) w := by kernel_rfl

theorem C_script_Decode_1.of {c0 : Addr} {c1 : Addr} {w : World} {R : World → Prop} (h : F_script_Decode_1 c0 c1 w R) : C_script_Decode_1 c0 c1 w R := by
  refine (calls_of_den (c := codeOf Tryd.f29) seat_ok seat_mixed Tryd.func29 (by kernel_rfl) loops_script_Decode_1 (args := [.pointer (some c0), .pointer (some c1)]) rfl (R := fun v w1 => v = (.tuple #[] : Value) ∧ R w1) ?_).mono ?_
  · rw [← den_script_Decode_1]
    simpa using h
  · rintro en w1 ⟨v, he, rfl, h⟩
    exact ⟨he, h⟩

def F_script_reader_whole (r : Option Addr) (w : World) (R : Bool → World → Prop) : Prop :=
  NN r fun a =>
  ∃ bad : Bool, w.cell? (a.add 1) = some (.bool bad) ∧
  If (!bad)
  (NN r fun a_1 =>
  ∃ bP : Option Addr, ∃ bN : Nat, ∃ bC : Nat, w.cell? (a_1.add 0) = some (.slice bP bN bC) ∧
  R ((bN : Int) == (0 : Int)) w)
  (R false w)

def G_script_reader_whole : Gen where
  loop := lookL []
  plan := fun _ => none

theorem loops_script_reader_whole : LoopOk Tryd.prog Tryd.f30.ntmps G_script_reader_whole (codeOf Tryd.f30) := loopOk_none fun _ => rfl

theorem den_script_reader_whole (r : Option Addr) (w : World) (R : Value → World → Prop) :
    F_script_reader_whole r w (fun r w1 => R (.bool r) w1) = den Tryd.prog Tryd.f30.ntmps G_script_reader_whole (codeOf Tryd.f30) [] (postD Tryd.prog Tryd.f30.results.toList R) (entry [.pointer r] 0) w := by kernel_rfl

theorem C_script_reader_whole.of {r : Option Addr} {w : World} {R : Bool → World → Prop} (h : F_script_reader_whole r w R) : C_script_reader_whole r w R := by
  refine (calls_of_den (c := codeOf Tryd.f30) seat_ok seat_mixed Tryd.func30 (by kernel_rfl) loops_script_reader_whole (args := [.pointer r]) rfl (R := fun v w1 => ∃ (r : Bool), v = (.bool r : Value) ∧ R r w1) ?_).mono ?_
  · rw [← den_script_reader_whole]
    have e : (fun r w1 => ∃ (r' : Bool), (.bool r : Value) = (.bool r' : Value) ∧ R r' w1) = R := by
      funext r w1
      exact propext ⟨fun ⟨r', he, h⟩ => by first | (simp at he; simp_all) | (cases he; exact h), fun h => ⟨_, rfl, h⟩⟩
    simpa only [e] using h
  · rintro en w1 ⟨v, he, r, rfl, h⟩
    exact ⟨_, he, h⟩

def F_ref27_reader_text_k1 (r : Option Addr) (R : ByteArray → World → Prop) (w1_1 : World) : Prop :=
  NN r fun a_2 =>
  St w1_1 ((a_2.add 1).add 0) (.bool true) fun w1_2 =>
  NN r fun a_3 =>
  St w1_2 ((a_3.add 0).add 0) (.slice none 0 0) fun w1_3 =>
  R ⟨#[]⟩ w1_3

def F_ref27_reader_text (r : Option Addr) (w : World) (R : ByteArray → World → Prop) : Prop :=
  C_ref27_reader_number r w fun t6 w1 =>
  NN r fun a =>
  ∃ bad : Bool, w1.cell? (a.add 1) = some (.bool bad) ∧
  If bad
  (F_ref27_reader_text_k1 r R w1)
  (If (decide (t6 < (0 : Int)))
  (F_ref27_reader_text_k1 r R w1)
  (If (decide (t6 > (65536 : Int)))
  (F_ref27_reader_text_k1 r R w1)
  (NN r fun a_1 =>
  ∃ bP : Option Addr, ∃ bN : Nat, ∃ bC : Nat, w1.cell? (a_1.add 0) = some (.slice bP bN bC) ∧
  If (decide (t6 > (bN : Int)))
  (NN r fun a_4 =>
  St w1 ((a_4.add 1).add 0) (.bool true) fun w1_4 =>
  NN r fun a_5 =>
  St w1_4 ((a_5.add 0).add 0) (.slice none 0 0) fun w1_5 =>
  R ⟨#[]⟩ w1_5)
  (NN r fun a_6 =>
  ∃ bP_1 : Option Addr, ∃ bN_1 : Nat, ∃ bC_1 : Nat, w1.cell? (a_6.add 0) = some (.slice bP_1 bN_1 bC_1) ∧
  0 ≤ t6 ∧ t6 ≤ (bC_1 : Int) ∧
  Run Tryd.prog (convert 28 9 (.slice bP_1 t6.toNat bC_1)) w1 fun v w1_6 => ∃ t40 : ByteArray, v = (.string t40) ∧
  NN r fun a_7 =>
  ∃ bP_2 : Option Addr, ∃ bN_2 : Nat, ∃ bC_2 : Nat, w1_6.cell? (a_7.add 0) = some (.slice bP_2 bN_2 bC_2) ∧
  0 ≤ t6 ∧ t6 ≤ (bN_2 : Int) ∧
  NN r fun a_8 =>
  St w1_6 ((a_8.add 0).add 0) (.slice (adv bP_2 bC_2 t6.toNat 1) (bN_2 - t6.toNat) (bC_2 - t6.toNat)) fun w1_7 =>
  R t40 w1_7))))

def G_ref27_reader_text : Gen where
  loop := lookL []
  plan := fun _ => none

theorem loops_ref27_reader_text : LoopOk Tryd.prog Tryd.f31.ntmps G_ref27_reader_text (codeOf Tryd.f31) := loopOk_none fun _ => rfl

theorem den_ref27_reader_text (r : Option Addr) (w : World) (R : Value → World → Prop) :
    F_ref27_reader_text r w (fun r w1 => R (.string r) w1) = den Tryd.prog Tryd.f31.ntmps G_ref27_reader_text (codeOf Tryd.f31) [] (postD Tryd.prog Tryd.f31.results.toList R) (entry [.pointer r] 0) w := by kernel_rfl

theorem C_ref27_reader_text.of {r : Option Addr} {w : World} {R : ByteArray → World → Prop} (h : F_ref27_reader_text r w R) : C_ref27_reader_text r w R := by
  refine (calls_of_den (c := codeOf Tryd.f31) seat_ok seat_mixed Tryd.func31 (by kernel_rfl) loops_ref27_reader_text (args := [.pointer r]) rfl (R := fun v w1 => ∃ (r : ByteArray), v = (.string r : Value) ∧ R r w1) ?_).mono ?_
  · rw [← den_ref27_reader_text]
    have e : (fun r w1 => ∃ (r' : ByteArray), (.string r : Value) = (.string r' : Value) ∧ R r' w1) = R := by
      funext r w1
      exact propext ⟨fun ⟨r', he, h⟩ => by first | (simp at he; simp_all) | (cases he; exact h), fun h => ⟨_, rfl, h⟩⟩
    simpa only [e] using h
  · rintro en w1 ⟨v, he, r, rfl, h⟩
    exact ⟨_, he, h⟩

structure S_ref27_reader_number_L1 where
  u : Int
  k : Int

def F_ref27_reader_number_k1 (s : S_ref27_reader_number_L1) (Kr : Int → World → Prop) (t21 : Int) (w1_2 : World) : Prop :=
  (2 : Int) ≠ 0 ∧
  If (((IntKind.u64.wrap ((s.u : Int) + (shlI .u64 (IntKind.u64.wrap (t21.tmod (128 : Int))) (IntKind.i64.wrap ((7 : Int) * (s.k : Int)))))).tmod (2 : Int)) == (1 : Int))
  ((2 : Int) ≠ 0 ∧
  Kr (IntKind.i64.wrap ((-1) - (IntKind.i64.wrap (IntKind.u64.wrap ((IntKind.u64.wrap ((s.u : Int) + (shlI .u64 (IntKind.u64.wrap (t21.tmod (128 : Int))) (IntKind.i64.wrap ((7 : Int) * (s.k : Int)))))).tdiv (2 : Int)))))) w1_2)
  ((2 : Int) ≠ 0 ∧
  Kr (IntKind.i64.wrap (IntKind.u64.wrap ((IntKind.u64.wrap ((s.u : Int) + (shlI .u64 (IntKind.u64.wrap (t21.tmod (128 : Int))) (IntKind.i64.wrap ((7 : Int) * (s.k : Int)))))).tdiv (2 : Int)))) w1_2)

def F_ref27_reader_number_k2 (s : S_ref27_reader_number_L1) (Kn : S_ref27_reader_number_L1 → World → Prop) (Kx0 : World → Prop) (Kr : Int → World → Prop) (t21 : Int) (w1_1 : World) : Prop :=
  (128 : Int) ≠ 0 ∧
  0 ≤ (IntKind.i64.wrap ((7 : Int) * (s.k : Int))) ∧
  If (decide (t21 < (128 : Int)))
  (If (t21 == (0 : Int))
  (If (decide ((s.k : Int) > (0 : Int)))
  (Kx0 w1_1)
  (F_ref27_reader_number_k1 s Kr t21 w1_1))
  (F_ref27_reader_number_k1 s Kr t21 w1_1))
  (Kn ⟨(IntKind.u64.wrap ((s.u : Int) + (shlI .u64 (IntKind.u64.wrap (t21.tmod (128 : Int))) (IntKind.i64.wrap ((7 : Int) * (s.k : Int)))))), (IntKind.i64.wrap ((s.k : Int) + (1 : Int)))⟩ w1_1)

/-- One round. -/
def B_ref27_reader_number_L1 (r_1 : Option Addr) (s : S_ref27_reader_number_L1) (w : World) (Kn : S_ref27_reader_number_L1 → World → Prop) (Kx0 : World → Prop) (Kr : Int → World → Prop) : Prop :=
  If (decide ((s.k : Int) < (10 : Int)))
  (NN r_1 fun a =>
  ∃ bP : Option Addr, ∃ bN : Nat, ∃ bC : Nat, w.cell? (a.add 0) = some (.slice bP bN bC) ∧
  If ((bN : Int) == (0 : Int))
  (Kx0 w)
  (NN r_1 fun a_1 =>
  ∃ bP_1 : Option Addr, ∃ bN_1 : Nat, ∃ bC_1 : Nat, w.cell? (a_1.add 0) = some (.slice bP_1 bN_1 bC_1) ∧
  0 ≤ (0 : Int) ∧ (0 : Int) < (bN_1 : Int) ∧ NN bP_1 fun a_2 =>
  ∃ t21 : Int, w.cell? (a_2.add ((0 : Int).toNat * 1)) = some (.int .u8 t21) ∧
  NN r_1 fun a_3 =>
  ∃ bP_2 : Option Addr, ∃ bN_2 : Nat, ∃ bC_2 : Nat, w.cell? (a_3.add 0) = some (.slice bP_2 bN_2 bC_2) ∧
  0 ≤ (1 : Int) ∧ (1 : Int) ≤ (bN_2 : Int) ∧
  NN r_1 fun a_4 =>
  St w ((a_4.add 0).add 0) (.slice (adv bP_2 bC_2 (1 : Int).toNat 1) (bN_2 - (1 : Int).toNat) (bC_2 - (1 : Int).toNat)) fun w1 =>
  If ((s.k : Int) == (9 : Int))
  (If (decide (t21 > (1 : Int)))
  (Kx0 w1)
  (F_ref27_reader_number_k2 s Kn Kx0 Kr t21 w1))
  (F_ref27_reader_number_k2 s Kn Kx0 Kr t21 w1)))
  (Kx0 w)

def F_ref27_reader_number_L1 (r_1 : Option Addr) (s : S_ref27_reader_number_L1) (w : World) (Kx0 : World → Prop) (Kr : Int → World → Prop) : Prop :=
  LoopS (fun s w Kn => B_ref27_reader_number_L1 r_1 s w Kn Kx0 Kr) s w

def F_ref27_reader_number (r : Option Addr) (w : World) (R : Int → World → Prop) : Prop :=
  F_ref27_reader_number_L1 r ⟨(0 : Int), (0 : Int)⟩ w
  (fun w1_3 =>
  NN r fun a_5 =>
  St w1_3 ((a_5.add 1).add 0) (.bool true) fun w1_5 =>
  NN r fun a_6 =>
  St w1_5 ((a_6.add 0).add 0) (.slice none 0 0) fun w1_6 =>
  R (0 : Int) w1_6)
  (fun t2_1 w1_4 =>
  R t2_1 w1_4)

def lit_ref27_reader_number_L1 (f : (Option Addr)) (s : S_ref27_reader_number_L1) : Env := [⟨0, .pointer f, none⟩, ⟨3, .int .u64 s.u, none⟩, ⟨4, .int .i64 s.k, none⟩]

def dec_ref27_reader_number_L1 (e : Env) (K : (Option Addr) → S_ref27_reader_number_L1 → Prop) : Prop :=
  onV (getV e 0) fun u1 =>
  asP u1 fun r_1 =>
  onV (getV e 3) fun u2 =>
  asI .u64 u2 fun u =>
  onV (getV e 4) fun u3 =>
  asI .i64 u3 fun k =>
    K (r_1) ⟨u, k⟩

theorem dec_ref27_reader_number_L1_ok {N : Nat} (e : Env) (a : Act) (K : (Option Addr) → S_ref27_reader_number_L1 → Prop) (hr : Rep N a e) (h0 : dec_ref27_reader_number_L1 e K) : ∃ f s, K f s ∧ Rep N a (lit_ref27_reader_number_L1 f s) := by
  unfold dec_ref27_reader_number_L1 at h0
  obtain ⟨u1, g0, h1⟩ := onV_elim h0
  obtain ⟨r_1, rfl, h2⟩ := asP_elim h1
  obtain ⟨u2, g3, h3⟩ := onV_elim h2
  obtain ⟨u, rfl, h4⟩ := asI_elim h3
  obtain ⟨u3, g4, h5⟩ := onV_elim h4
  obtain ⟨k, rfl, h6⟩ := asI_elim h5
  exact ⟨_, _, h6, rep_less hr (by simp [lit_ref27_reader_number_L1, g0, g3, g4])⟩

def spec_ref27_reader_number_L1 (Q : Post) (e : Env) (w : World) : Prop :=
  dec_ref27_reader_number_L1 e fun f s => F_ref27_reader_number_L1 f s w (fun w1 => Q (.exit 0) [⟨0, .pointer f, none⟩] w1) (fun t2 w1 => Q .ret [⟨2, .int .i64 t2, none⟩] w1)

def G_ref27_reader_number : Gen where
  loop := lookL [([false, true, false, true, true], spec_ref27_reader_number_L1)]
  plan := fun _ => none

def dx_ref27_reader_number_L1_0 (e : Env) (K : (Option Addr) → Prop) : Prop :=
  onV (getV e 0) fun u1 =>
  asP u1 fun r_1 =>
    K (r_1)

def dx_ref27_reader_number_L1_ret (e : Env) (K : (Option Addr) → Int → Prop) : Prop :=
  onV (getV e 0) fun u1 =>
  asP u1 fun r_1 =>
  onV (getV e 2) fun u2 =>
  asI .i64 u2 fun t2 =>
    K (r_1) t2

theorem body_ref27_reader_number_L1 (f : (Option Addr)) (s : S_ref27_reader_number_L1) (w : World) (Kn : (Option Addr) → S_ref27_reader_number_L1 → World → Prop) (Kx0 : (Option Addr) → World → Prop) (Kr : (Option Addr) → Int → World → Prop) :
    B_ref27_reader_number_L1 f s w (fun s1 w1 => Kn f s1 w1) (fun w1 => Kx0 f w1) (fun t2 w1 => Kr f t2 w1) =
    den Tryd.prog Tryd.f32.ntmps G_ref27_reader_number (sub (codeOf Tryd.f32) [false, false, true, false, true, true]) [false, false, true, false, true, true] (roundQ (fun e w => dec_ref27_reader_number_L1 e fun f s => Kn f s w) (fun e w => dx_ref27_reader_number_L1_ret e fun f t2 => Kr f t2 w) (fun id e w => match Nat.beq id 0 with | true => dx_ref27_reader_number_L1_0 e fun f => Kx0 f w | false => False)) (lit_ref27_reader_number_L1 f s) w := by kernel_rfl

theorem ok_ref27_reader_number_L1 : OneOk Tryd.prog Tryd.f32.ntmps G_ref27_reader_number (codeOf Tryd.f32) [false, true, false, true, true] spec_ref27_reader_number_L1 := by
  intro c hc ih Q e w a hr h
  have hcc : sub (codeOf Tryd.f32) [false, false, true, false, true, true] = c := sub_of_codeAt hc
  obtain ⟨f, s, h, hrep⟩ := dec_ref27_reader_number_L1_ok e a _ hr h
  obtain ⟨J, μ, hj, hround⟩ := h
  refine loop_rule_deep seat_ok seat_mixed ih lit_ref27_reader_number_L1 dec_ref27_reader_number_L1 dec_ref27_reader_number_L1_ok hc f J μ (Kr := fun e w => dx_ref27_reader_number_L1_ret e fun f1 t2 => f1 = f ∧ Q .ret [⟨2, .int .i64 t2, none⟩] w) (Kx := fun id e w => match Nat.beq id 0 with | true => (dx_ref27_reader_number_L1_0 e fun f1 => f1 = f ∧ Q (.exit 0) [⟨0, .pointer f, none⟩] w) | false => False) ?_ ?_ ?_ s w a hj hrep
  · intro e a w hr h0
    unfold dx_ref27_reader_number_L1_ret at h0
    obtain ⟨u1, g0, h1⟩ := onV_elim h0
    obtain ⟨r_1, rfl, h2⟩ := asP_elim h1
    obtain ⟨u2, g2, h3⟩ := onV_elim h2
    obtain ⟨t2, rfl, h4⟩ := asI_elim h3
    obtain ⟨hf, hq⟩ := h4
    subst hf
    exact ⟨_, rep_less hr (by simp [g2]), hq⟩
  · intro id e a w hr h0
    (try dsimp only at h0)
    split at h0
    · rename_i hid
      obtain rfl := Nat.eq_of_beq_eq_true hid
      unfold dx_ref27_reader_number_L1_0 at h0
      obtain ⟨u1, g0, h1⟩ := onV_elim h0
      obtain ⟨r_1, rfl, h2⟩ := asP_elim h1
      obtain ⟨hf, hq⟩ := h2
      subst hf
      exact ⟨_, rep_less hr (by simp [g0]), hq⟩
    · exact h0.elim
  · intro s w hj
    have hb := hround s w hj
    rw [← hcc]
    have e1 := body_ref27_reader_number_L1 f s w (fun f1 s1 w1 => f1 = f ∧ J s1 w1 ∧ μ s1 w1 < μ s w) (fun f1 w1 => f1 = f ∧ Q (.exit 0) [⟨0, .pointer f, none⟩] w1) (fun f1 t2 w1 => f1 = f ∧ Q .ret [⟨2, .int .i64 t2, none⟩] w1)
    simp only [true_and] at e1
    exact cast e1 hb

theorem loops_ref27_reader_number : LoopOk Tryd.prog Tryd.f32.ntmps G_ref27_reader_number (codeOf Tryd.f32) := loopOk_list rfl ⟨ok_ref27_reader_number_L1, trivial⟩

theorem den_ref27_reader_number (r : Option Addr) (w : World) (R : Value → World → Prop) :
    F_ref27_reader_number r w (fun r w1 => R (.int .i64 r) w1) = den Tryd.prog Tryd.f32.ntmps G_ref27_reader_number (codeOf Tryd.f32) [] (postD Tryd.prog Tryd.f32.results.toList R) (entry [.pointer r] 0) w := by kernel_rfl

theorem C_ref27_reader_number.of {r : Option Addr} {w : World} {R : Int → World → Prop} (h : F_ref27_reader_number r w R) : C_ref27_reader_number r w R := by
  refine (calls_of_den (c := codeOf Tryd.f32) seat_ok seat_mixed Tryd.func32 (by kernel_rfl) loops_ref27_reader_number (args := [.pointer r]) rfl (R := fun v w1 => ∃ (r : Int), v = (.int .i64 r : Value) ∧ R r w1) ?_).mono ?_
  · rw [← den_ref27_reader_number]
    have e : (fun r w1 => ∃ (r' : Int), (.int .i64 r : Value) = (.int .i64 r' : Value) ∧ R r' w1) = R := by
      funext r w1
      exact propext ⟨fun ⟨r', he, h⟩ => by first | (simp at he; simp_all) | (cases he; exact h), fun h => ⟨_, rfl, h⟩⟩
    simpa only [e] using h
  · rintro en w1 ⟨v, he, r, rfl, h⟩
    exact ⟨_, he, h⟩

def F_ref27_reader_count (r : Option Addr) (mostx : Int) (w : World) (R : Int → World → Prop) : Prop :=
  C_ref27_reader_number r w fun t7 w1 =>
  If (decide (t7 < (0 : Int)))
  (NN r fun a =>
  St w1 ((a.add 1).add 0) (.bool true) fun w1_1 =>
  R (0 : Int) w1_1)
  (If (decide (t7 > mostx))
  (NN r fun a_1 =>
  St w1 ((a_1.add 1).add 0) (.bool true) fun w1_2 =>
  R (0 : Int) w1_2)
  (R t7 w1))

def G_ref27_reader_count : Gen where
  loop := lookL []
  plan := fun _ => none

theorem loops_ref27_reader_count : LoopOk Tryd.prog Tryd.f33.ntmps G_ref27_reader_count (codeOf Tryd.f33) := loopOk_none fun _ => rfl

theorem den_ref27_reader_count (r : Option Addr) (mostx : Int) (w : World) (R : Value → World → Prop) :
    F_ref27_reader_count r mostx w (fun r w1 => R (.int .i64 r) w1) = den Tryd.prog Tryd.f33.ntmps G_ref27_reader_count (codeOf Tryd.f33) [] (postD Tryd.prog Tryd.f33.results.toList R) (entry [.pointer r, .int .i64 mostx] 0) w := by kernel_rfl

theorem C_ref27_reader_count.of {r : Option Addr} {mostx : Int} {w : World} {R : Int → World → Prop} (h : F_ref27_reader_count r mostx w R) : C_ref27_reader_count r mostx w R := by
  refine (calls_of_den (c := codeOf Tryd.f33) seat_ok seat_mixed Tryd.func33 (by kernel_rfl) loops_ref27_reader_count (args := [.pointer r, .int .i64 mostx]) rfl (R := fun v w1 => ∃ (r : Int), v = (.int .i64 r : Value) ∧ R r w1) ?_).mono ?_
  · rw [← den_ref27_reader_count]
    have e : (fun r w1 => ∃ (r' : Int), (.int .i64 r : Value) = (.int .i64 r' : Value) ∧ R r' w1) = R := by
      funext r w1
      exact propext ⟨fun ⟨r', he, h⟩ => by first | (simp at he; simp_all) | (cases he; exact h), fun h => ⟨_, rfl, h⟩⟩
    simpa only [e] using h
  · rintro en w1 ⟨v, he, r, rfl, h⟩
    exact ⟨_, he, h⟩

def F_strings_Builder_WriteString (b : Option Addr) (sx : ByteArray) (w : World) (R : Int → Value → World → Prop) : Prop :=
  C_strings_Builder_copyCheck b w fun w1 =>
  NN b fun a =>
  ∃ bufP : Option Addr, ∃ bufN : Nat, ∃ bufC : Nat, w1.cell? (a.add 1) = some (.slice bufP bufN bufC) ∧
  App Tryd.prog #[28, 9] 28 #[.slice bufP bufN bufC, .string sx] w1 fun t14P t14N t14C w1_1 =>
  NN b fun a_1 =>
  St w1_1 ((a_1.add 1).add 0) (.slice t14P t14N t14C) fun w1_2 =>
  R (sx.size : Int) .nilIface w1_2

def G_strings_Builder_WriteString : Gen where
  loop := lookL []
  plan := fun _ => none

theorem loops_strings_Builder_WriteString : LoopOk Tryd.prog Tryd.f34.ntmps G_strings_Builder_WriteString (codeOf Tryd.f34) := loopOk_none fun _ => rfl

theorem den_strings_Builder_WriteString (b : Option Addr) (sx : ByteArray) (w : World) (R : Value → World → Prop) :
    F_strings_Builder_WriteString b sx w (fun r0 r1 w1 => R (.tuple #[.int .i64 r0, r1]) w1) = den Tryd.prog Tryd.f34.ntmps G_strings_Builder_WriteString (codeOf Tryd.f34) [] (postD Tryd.prog Tryd.f34.results.toList R) (entry [.pointer b, .string sx] 0) w := by kernel_rfl

theorem C_strings_Builder_WriteString.of {b : Option Addr} {sx : ByteArray} {w : World} {R : Int → Value → World → Prop} (h : F_strings_Builder_WriteString b sx w R) : C_strings_Builder_WriteString b sx w R := by
  refine (calls_of_den (c := codeOf Tryd.f34) seat_ok seat_mixed Tryd.func34 (by kernel_rfl) loops_strings_Builder_WriteString (args := [.pointer b, .string sx]) rfl (R := fun v w1 => ∃ (r0 : Int) (r1 : Value), v = (.tuple #[.int .i64 r0, r1] : Value) ∧ R r0 r1 w1) ?_).mono ?_
  · rw [← den_strings_Builder_WriteString]
    have e : (fun r0 r1 w1 => ∃ (r0' : Int) (r1' : Value), (.tuple #[.int .i64 r0, r1] : Value) = (.tuple #[.int .i64 r0', r1'] : Value) ∧ R r0' r1' w1) = R := by
      funext r0 r1 w1
      exact propext ⟨fun ⟨r0', r1', he, h⟩ => by first | (simp at he; simp_all) | (cases he; exact h), fun h => ⟨_, _, rfl, h⟩⟩
    simpa only [e] using h
  · rintro en w1 ⟨v, he, r0, r1, rfl, h⟩
    exact ⟨_, _, he, h⟩

def F_script_line (e0 : Int) (e1 : ByteArray) (w : World) (R : ByteArray → World → Prop) : Prop :=
  New w (.cells #[.int .i64 e0, .string e1] 45) fun r w1 =>
  ∃ Text : ByteArray, w1.cell? ((⟨r, 0, none⟩ : Addr).add 1) = some (.string Text) ∧
  C_token_Quote Text w1 fun t6 w1_1 =>
  (((⟨#[32]⟩ : ByteArray).size + t6.size : Nat) : Int) ≤ IntKind.i64.max ∧
  ∃ Kind : Int, w1_1.cell? ((⟨r, 0, none⟩ : Addr).add 0) = some (.int .i64 Kind) ∧
  If (Kind == (1 : Int))
  ((((⟨#[97, 110, 115, 119, 101, 114]⟩ : ByteArray).size + ((⟨#[32]⟩ : ByteArray) ++ t6).size : Nat) : Int) ≤ IntKind.i64.max ∧
  R ((⟨#[97, 110, 115, 119, 101, 114]⟩ : ByteArray) ++ ((⟨#[32]⟩ : ByteArray) ++ t6)) w1_1)
  (If (Kind == (2 : Int))
  ((((⟨#[119, 114, 105, 116, 101]⟩ : ByteArray).size + ((⟨#[32]⟩ : ByteArray) ++ t6).size : Nat) : Int) ≤ IntKind.i64.max ∧
  R ((⟨#[119, 114, 105, 116, 101]⟩ : ByteArray) ++ ((⟨#[32]⟩ : ByteArray) ++ t6)) w1_1)
  (If (Kind == (3 : Int))
  ((((⟨#[98, 97, 108, 108]⟩ : ByteArray).size + ((⟨#[32]⟩ : ByteArray) ++ t6).size : Nat) : Int) ≤ IntKind.i64.max ∧
  R ((⟨#[98, 97, 108, 108]⟩ : ByteArray) ++ ((⟨#[32]⟩ : ByteArray) ++ t6)) w1_1)
  (If (Kind == (4 : Int))
  (R ⟨#[110, 111]⟩ w1_1)
  (If (Kind == (5 : Int))
  (R ⟨#[104, 97, 108, 116]⟩ w1_1)
  (R ⟨#[111, 100, 100]⟩ w1_1)))))

def G_script_line : Gen where
  loop := lookL []
  plan := fun _ => none

theorem loops_script_line : LoopOk Tryd.prog Tryd.f35.ntmps G_script_line (codeOf Tryd.f35) := loopOk_none fun _ => rfl

theorem den_script_line (e0 : Int) (e1 : ByteArray) (w : World) (R : Value → World → Prop) :
    F_script_line e0 e1 w (fun r w1 => R (.string r) w1) = den Tryd.prog Tryd.f35.ntmps G_script_line (codeOf Tryd.f35) [] (postD Tryd.prog Tryd.f35.results.toList R) (entry [.agg #[.int .i64 e0, .string e1]] 0) w := by kernel_rfl

theorem C_script_line.of {e0 : Int} {e1 : ByteArray} {w : World} {R : ByteArray → World → Prop} (h : F_script_line e0 e1 w R) : C_script_line e0 e1 w R := by
  refine (calls_of_den (c := codeOf Tryd.f35) seat_ok seat_mixed Tryd.func35 (by kernel_rfl) loops_script_line (args := [.agg #[.int .i64 e0, .string e1]]) rfl (R := fun v w1 => ∃ (r : ByteArray), v = (.string r : Value) ∧ R r w1) ?_).mono ?_
  · rw [← den_script_line]
    have e : (fun r w1 => ∃ (r' : ByteArray), (.string r : Value) = (.string r' : Value) ∧ R r' w1) = R := by
      funext r w1
      exact propext ⟨fun ⟨r', he, h⟩ => by first | (simp at he; simp_all) | (cases he; exact h), fun h => ⟨_, rfl, h⟩⟩
    simpa only [e] using h
  · rintro en w1 ⟨v, he, r, rfl, h⟩
    exact ⟨_, he, h⟩

def F_script_end (tag : Int) (w : World) (R : ByteArray → World → Prop) : Prop :=
  If (tag == (1 : Int))
  (R ⟨#[97, 114, 103, 117, 109, 101, 110, 116]⟩ w)
  (If (tag == (2 : Int))
  (R ⟨#[115, 121, 110, 116, 97, 120]⟩ w)
  (If (tag == (3 : Int))
  (R ⟨#[99, 108, 97, 117, 115, 101]⟩ w)
  (If (tag == (4 : Int))
  (R ⟨#[100, 111, 110, 101]⟩ w)
  (If (tag == (5 : Int))
  (R ⟨#[115, 116, 101, 112, 115]⟩ w)
  (If (tag == (6 : Int))
  (R ⟨#[102, 117, 108, 108]⟩ w)
  (R ⟨#[111, 100, 100]⟩ w))))))

def G_script_end : Gen where
  loop := lookL []
  plan := fun _ => none

theorem loops_script_end : LoopOk Tryd.prog Tryd.f36.ntmps G_script_end (codeOf Tryd.f36) := loopOk_none fun _ => rfl

theorem den_script_end (tag : Int) (w : World) (R : Value → World → Prop) :
    F_script_end tag w (fun r w1 => R (.string r) w1) = den Tryd.prog Tryd.f36.ntmps G_script_end (codeOf Tryd.f36) [] (postD Tryd.prog Tryd.f36.results.toList R) (entry [.int .i64 tag] 0) w := by kernel_rfl

theorem C_script_end.of {tag : Int} {w : World} {R : ByteArray → World → Prop} (h : F_script_end tag w R) : C_script_end tag w R := by
  refine (calls_of_den (c := codeOf Tryd.f36) seat_ok seat_mixed Tryd.func36 (by kernel_rfl) loops_script_end (args := [.int .i64 tag]) rfl (R := fun v w1 => ∃ (r : ByteArray), v = (.string r : Value) ∧ R r w1) ?_).mono ?_
  · rw [← den_script_end]
    have e : (fun r w1 => ∃ (r' : ByteArray), (.string r : Value) = (.string r' : Value) ∧ R r' w1) = R := by
      funext r w1
      exact propext ⟨fun ⟨r', he, h⟩ => by first | (simp at he; simp_all) | (cases he; exact h), fun h => ⟨_, rfl, h⟩⟩
    simpa only [e] using h
  · rintro en w1 ⟨v, he, r, rfl, h⟩
    exact ⟨_, he, h⟩

structure S_ref08_Quote_L1 where
  outP : Option Addr
  outN : Nat
  outC : Nat
  i : Int

def F_ref08_Quote_k2 (s : S_ref08_Quote_L1) (Kn : S_ref08_Quote_L1 → World → Prop) (outP_2 : Option Addr) (outN_2 : Nat) (outC_2 : Nat) (w1_19 : World) : Prop :=
  Kn ⟨outP_2, outN_2, outC_2, (IntKind.i64.wrap ((s.i : Int) + (1 : Int)))⟩ w1_19

def F_ref08_Quote_k1 (s : S_ref08_Quote_L1) (Kn : S_ref08_Quote_L1 → World → Prop) (b : UInt8) (w1_12 : World) : Prop :=
  If ((b.toNat : Int) == (127 : Int))
  ((16 : Int) ≠ 0 ∧
  0 ≤ (IntKind.u8.wrap ((b.toNat : Int).tdiv (16 : Int))) ∧ ∃ b_3 : UInt8, (⟨#[48, 49, 50, 51, 52, 53, 54, 55, 56, 57, 97, 98, 99, 100, 101, 102]⟩ : ByteArray)[(IntKind.u8.wrap ((b.toNat : Int).tdiv (16 : Int))).toNat]? = some b_3 ∧
  (16 : Int) ≠ 0 ∧
  0 ≤ ((b.toNat : Int).tmod (16 : Int)) ∧ ∃ b_4 : UInt8, (⟨#[48, 49, 50, 51, 52, 53, 54, 55, 56, 57, 97, 98, 99, 100, 101, 102]⟩ : ByteArray)[((b.toNat : Int).tmod (16 : Int)).toNat]? = some b_4 ∧
  BSl Tryd.prog 28 5 [(0, .int .u8 92), (1, .int .u8 120), (2, .int .u8 (b_3.toNat : Int)), (3, .int .u8 (b_4.toNat : Int)), (4, .int .u8 92)] (drw w1_12) fun t64P_1 t64N_1 t64C_1 w1_13 =>
  App Tryd.prog #[28, 28] 28 #[.slice s.outP s.outN s.outC, .slice t64P_1 t64N_1 t64C_1] w1_13 fun t65P_1 t65N_1 t65C_1 w1_14 =>
  F_ref08_Quote_k2 s Kn t65P_1 t65N_1 t65C_1 w1_14)
  (If (decide ((b.toNat : Int) < (16 : Int)))
  (0 ≤ (b.toNat : Int) ∧ ∃ b_5 : UInt8, (⟨#[48, 49, 50, 51, 52, 53, 54, 55, 56, 57, 97, 98, 99, 100, 101, 102]⟩ : ByteArray)[(b.toNat : Int).toNat]? = some b_5 ∧
  BSl Tryd.prog 28 4 [(0, .int .u8 92), (1, .int .u8 120), (2, .int .u8 (b_5.toNat : Int)), (3, .int .u8 92)] w1_12 fun t72P t72N t72C w1_15 =>
  App Tryd.prog #[28, 28] 28 #[.slice s.outP s.outN s.outC, .slice t72P t72N t72C] w1_15 fun t73P t73N t73C w1_16 =>
  F_ref08_Quote_k2 s Kn t73P t73N t73C w1_16)
  (BSl Tryd.prog 28 1 [(0, .int .u8 (b.toNat : Int))] w1_12 fun t21P t21N t21C w1_17 =>
  App Tryd.prog #[28, 28] 28 #[.slice s.outP s.outN s.outC, .slice t21P t21N t21C] w1_17 fun t22P t22N t22C w1_18 =>
  F_ref08_Quote_k2 s Kn t22P t22N t22C w1_18))

/-- One round. -/
def B_ref08_Quote_L1 (sx_1 : ByteArray) (s : S_ref08_Quote_L1) (w : World) (Kn : S_ref08_Quote_L1 → World → Prop) (Kx0 : Option Addr → Nat → Nat → World → Prop) : Prop :=
  If (decide ((s.i : Int) < (sx_1.size : Int)))
  (0 ≤ (s.i : Int) ∧ ∃ b : UInt8, sx_1[(s.i : Int).toNat]? = some b ∧
  If ((b.toNat : Int) == (39 : Int))
  (BSl Tryd.prog 28 2 [(0, .int .u8 92), (1, .int .u8 (b.toNat : Int))] w fun t32P t32N t32C w1_2 =>
  App Tryd.prog #[28, 28] 28 #[.slice s.outP s.outN s.outC, .slice t32P t32N t32C] w1_2 fun t33P t33N t33C w1_3 =>
  F_ref08_Quote_k2 s Kn t33P t33N t33C w1_3)
  (If ((b.toNat : Int) == (92 : Int))
  (BSl Tryd.prog 28 2 [(0, .int .u8 92), (1, .int .u8 (b.toNat : Int))] w fun t32P_1 t32N_1 t32C_1 w1_4 =>
  App Tryd.prog #[28, 28] 28 #[.slice s.outP s.outN s.outC, .slice t32P_1 t32N_1 t32C_1] w1_4 fun t33P_1 t33N_1 t33C_1 w1_5 =>
  F_ref08_Quote_k2 s Kn t33P_1 t33N_1 t33C_1 w1_5)
  (If ((b.toNat : Int) == (10 : Int))
  (BSl Tryd.prog 28 2 [(0, .int .u8 92), (1, .int .u8 110)] w fun t38P t38N t38C w1_6 =>
  App Tryd.prog #[28, 28] 28 #[.slice s.outP s.outN s.outC, .slice t38P t38N t38C] w1_6 fun t39P t39N t39C w1_7 =>
  F_ref08_Quote_k2 s Kn t39P t39N t39C w1_7)
  (If ((b.toNat : Int) == (9 : Int))
  (BSl Tryd.prog 28 2 [(0, .int .u8 92), (1, .int .u8 116)] w fun t44P t44N t44C w1_8 =>
  App Tryd.prog #[28, 28] 28 #[.slice s.outP s.outN s.outC, .slice t44P t44N t44C] w1_8 fun t45P t45N t45C w1_9 =>
  F_ref08_Quote_k2 s Kn t45P t45N t45C w1_9)
  (If (decide ((b.toNat : Int) ≥ (16 : Int)))
  (If (decide ((b.toNat : Int) < (32 : Int)))
  ((16 : Int) ≠ 0 ∧
  0 ≤ (IntKind.u8.wrap ((b.toNat : Int).tdiv (16 : Int))) ∧ ∃ b_1 : UInt8, (⟨#[48, 49, 50, 51, 52, 53, 54, 55, 56, 57, 97, 98, 99, 100, 101, 102]⟩ : ByteArray)[(IntKind.u8.wrap ((b.toNat : Int).tdiv (16 : Int))).toNat]? = some b_1 ∧
  (16 : Int) ≠ 0 ∧
  0 ≤ ((b.toNat : Int).tmod (16 : Int)) ∧ ∃ b_2 : UInt8, (⟨#[48, 49, 50, 51, 52, 53, 54, 55, 56, 57, 97, 98, 99, 100, 101, 102]⟩ : ByteArray)[((b.toNat : Int).tmod (16 : Int)).toNat]? = some b_2 ∧
  BSl Tryd.prog 28 5 [(0, .int .u8 92), (1, .int .u8 120), (2, .int .u8 (b_1.toNat : Int)), (3, .int .u8 (b_2.toNat : Int)), (4, .int .u8 92)] (drw w) fun t64P t64N t64C w1_10 =>
  App Tryd.prog #[28, 28] 28 #[.slice s.outP s.outN s.outC, .slice t64P t64N t64C] w1_10 fun t65P t65N t65C w1_11 =>
  F_ref08_Quote_k2 s Kn t65P t65N t65C w1_11)
  (F_ref08_Quote_k1 s Kn b w))
  (F_ref08_Quote_k1 s Kn b w))))))
  (Kx0 s.outP s.outN s.outC w)

def F_ref08_Quote_L1 (sx_1 : ByteArray) (s : S_ref08_Quote_L1) (w : World) (Kx0 : Option Addr → Nat → Nat → World → Prop) : Prop :=
  LoopS (fun s w Kn => B_ref08_Quote_L1 sx_1 s w Kn Kx0) s w

def F_ref08_Quote (sx : ByteArray) (w : World) (R : ByteArray → World → Prop) : Prop :=
  C_ref08_Plain sx w fun t7 w1 =>
  If t7
  (R sx w1)
  (BSl Tryd.prog 28 1 [(0, .int .u8 39)] w1 fun t9P t9N t9C w1_1 =>
  F_ref08_Quote_L1 sx ⟨t9P, t9N, t9C, (0 : Int)⟩ w1_1
  (fun outP_3 outN_3 outC_3 w1_20 =>
  BSl Tryd.prog 28 1 [(0, .int .u8 39)] w1_20 fun t75P t75N t75C w1_21 =>
  App Tryd.prog #[28, 28] 28 #[.slice outP_3 outN_3 outC_3, .slice t75P t75N t75C] w1_21 fun t76P t76N t76C w1_22 =>
  Run Tryd.prog (convert 28 9 (.slice t76P t76N t76C)) w1_22 fun v w1_23 => ∃ t77 : ByteArray, v = (.string t77) ∧
  R t77 w1_23))

def lit_ref08_Quote_L1 (f : ByteArray) (s : S_ref08_Quote_L1) : Env := [⟨0, .string f, none⟩, ⟨3, .slice s.outP s.outN s.outC, none⟩, ⟨4, .int .i64 s.i, none⟩]

def dec_ref08_Quote_L1 (e : Env) (K : ByteArray → S_ref08_Quote_L1 → Prop) : Prop :=
  onV (getV e 0) fun u1 =>
  asT u1 fun sx_1 =>
  onV (getV e 3) fun u2 =>
  asS u2 fun outP outN outC =>
  onV (getV e 4) fun u3 =>
  asI .i64 u3 fun i =>
    K (sx_1) ⟨outP, outN, outC, i⟩

theorem dec_ref08_Quote_L1_ok {N : Nat} (e : Env) (a : Act) (K : ByteArray → S_ref08_Quote_L1 → Prop) (hr : Rep N a e) (h0 : dec_ref08_Quote_L1 e K) : ∃ f s, K f s ∧ Rep N a (lit_ref08_Quote_L1 f s) := by
  unfold dec_ref08_Quote_L1 at h0
  obtain ⟨u1, g0, h1⟩ := onV_elim h0
  obtain ⟨sx_1, rfl, h2⟩ := asT_elim h1
  obtain ⟨u2, g3, h3⟩ := onV_elim h2
  obtain ⟨outP, outN, outC, rfl, h4⟩ := asS_elim h3
  obtain ⟨u3, g4, h5⟩ := onV_elim h4
  obtain ⟨i, rfl, h6⟩ := asI_elim h5
  exact ⟨_, _, h6, rep_less hr (by simp [lit_ref08_Quote_L1, g0, g3, g4])⟩

def spec_ref08_Quote_L1 (Q : Post) (e : Env) (w : World) : Prop :=
  dec_ref08_Quote_L1 e fun f s => F_ref08_Quote_L1 f s w (fun outP_1 outN_1 outC_1 w1 => Q (.exit 0) [⟨3, .slice outP_1 outN_1 outC_1, none⟩] w1)

def G_ref08_Quote : Gen where
  loop := lookL [([false, true, false, true, true, true], spec_ref08_Quote_L1)]
  plan := fun id =>
    bif Nat.beq id 16 then some ([0, 0, 2, 6, 0, 16, 48, 126, 255, 511], .take 0 (.take 1 (.take 2 (.take 3 (.take 4 (.take 5 (.take 6 (.take 7 (.take 8 (.take 9 .done)))))))))) else none

def dx_ref08_Quote_L1_0 (e : Env) (K : ByteArray → Option Addr → Nat → Nat → Prop) : Prop :=
  onV (getV e 0) fun u1 =>
  asT u1 fun sx_1 =>
  onV (getV e 3) fun u2 =>
  asS u2 fun outP_1 outN_1 outC_1 =>
    K (sx_1) outP_1 outN_1 outC_1

theorem body_ref08_Quote_L1 (f : ByteArray) (s : S_ref08_Quote_L1) (w : World) (Kn : ByteArray → S_ref08_Quote_L1 → World → Prop) (Kx0 : ByteArray → Option Addr → Nat → Nat → World → Prop) :
    B_ref08_Quote_L1 f s w (fun s1 w1 => Kn f s1 w1) (fun outP_1 outN_1 outC_1 w1 => Kx0 f outP_1 outN_1 outC_1 w1) =
    den Tryd.prog Tryd.f38.ntmps G_ref08_Quote (sub (codeOf Tryd.f38) [false, false, true, false, true, true, true]) [false, false, true, false, true, true, true] (roundQ (fun e w => dec_ref08_Quote_L1 e fun f s => Kn f s w) (fun e w => False) (fun id e w => match Nat.beq id 0 with | true => dx_ref08_Quote_L1_0 e fun f outP_1 outN_1 outC_1 => Kx0 f outP_1 outN_1 outC_1 w | false => False)) (lit_ref08_Quote_L1 f s) w := by kernel_rfl

theorem ok_ref08_Quote_L1 : OneOk Tryd.prog Tryd.f38.ntmps G_ref08_Quote (codeOf Tryd.f38) [false, true, false, true, true, true] spec_ref08_Quote_L1 := by
  intro c hc ih Q e w a hr h
  have hcc : sub (codeOf Tryd.f38) [false, false, true, false, true, true, true] = c := sub_of_codeAt hc
  obtain ⟨f, s, h, hrep⟩ := dec_ref08_Quote_L1_ok e a _ hr h
  obtain ⟨J, μ, hj, hround⟩ := h
  refine loop_rule_deep seat_ok seat_mixed ih lit_ref08_Quote_L1 dec_ref08_Quote_L1 dec_ref08_Quote_L1_ok hc f J μ (Kr := fun e w => False) (Kx := fun id e w => match Nat.beq id 0 with | true => (dx_ref08_Quote_L1_0 e fun f1 outP_1 outN_1 outC_1 => f1 = f ∧ Q (.exit 0) [⟨3, .slice outP_1 outN_1 outC_1, none⟩] w) | false => False) ?_ ?_ ?_ s w a hj hrep
  · intro e a w hr h
    exact h.elim
  · intro id e a w hr h0
    (try dsimp only at h0)
    split at h0
    · rename_i hid
      obtain rfl := Nat.eq_of_beq_eq_true hid
      unfold dx_ref08_Quote_L1_0 at h0
      obtain ⟨u1, g0, h1⟩ := onV_elim h0
      obtain ⟨sx_1, rfl, h2⟩ := asT_elim h1
      obtain ⟨u2, g3, h3⟩ := onV_elim h2
      obtain ⟨outP_1, outN_1, outC_1, rfl, h4⟩ := asS_elim h3
      obtain ⟨hf, hq⟩ := h4
      subst hf
      exact ⟨_, rep_less hr (by simp [g3]), hq⟩
    · exact h0.elim
  · intro s w hj
    have hb := hround s w hj
    rw [← hcc]
    have e1 := body_ref08_Quote_L1 f s w (fun f1 s1 w1 => f1 = f ∧ J s1 w1 ∧ μ s1 w1 < μ s w) (fun f1 outP_1 outN_1 outC_1 w1 => f1 = f ∧ Q (.exit 0) [⟨3, .slice outP_1 outN_1 outC_1, none⟩] w1)
    simp only [true_and] at e1
    exact cast e1 hb

theorem loops_ref08_Quote : LoopOk Tryd.prog Tryd.f38.ntmps G_ref08_Quote (codeOf Tryd.f38) := loopOk_list rfl ⟨ok_ref08_Quote_L1, trivial⟩

theorem den_ref08_Quote (sx : ByteArray) (w : World) (R : Value → World → Prop) :
    F_ref08_Quote sx w (fun r w1 => R (.string r) w1) = den Tryd.prog Tryd.f38.ntmps G_ref08_Quote (codeOf Tryd.f38) [] (postD Tryd.prog Tryd.f38.results.toList R) (entry [.string sx] 0) w := by kernel_rfl

theorem C_ref08_Quote.of {sx : ByteArray} {w : World} {R : ByteArray → World → Prop} (h : F_ref08_Quote sx w R) : C_ref08_Quote sx w R := by
  refine (calls_of_den (c := codeOf Tryd.f38) seat_ok seat_mixed Tryd.func38 (by kernel_rfl) loops_ref08_Quote (args := [.string sx]) rfl (R := fun v w1 => ∃ (r : ByteArray), v = (.string r : Value) ∧ R r w1) ?_).mono ?_
  · rw [← den_ref08_Quote]
    have e : (fun r w1 => ∃ (r' : ByteArray), (.string r : Value) = (.string r' : Value) ∧ R r' w1) = R := by
      funext r w1
      exact propext ⟨fun ⟨r', he, h⟩ => by first | (simp at he; simp_all) | (cases he; exact h), fun h => ⟨_, rfl, h⟩⟩
    simpa only [e] using h
  · rintro en w1 ⟨v, he, r, rfl, h⟩
    exact ⟨_, he, h⟩

def F_script_DecodeRun_1 (c0 : Addr) (c1 : Addr) (w : World) (R : World → Prop) : Prop :=
  ∃ t3 : Option Addr, w.cell? c0 = some (.pointer t3) ∧
  C_script_reader_number t3 w fun t4 w1 =>
  ∃ EventsP : Option Addr, ∃ EventsN : Nat, ∃ EventsC : Nat, (drw w1).cell? (c1.add 1) = some (.slice EventsP EventsN EventsC) ∧
  ∃ t8 : Option Addr, (drw w1).cell? c0 = some (.pointer t8) ∧
  C_script_reader_text t8 (drw w1) fun t9 w1_1 =>
  w1_1.cell? (c1.add 1) = (drw w1).cell? (c1.add 1) ∧
  BSl Tryd.prog 41 1 [(0, .agg #[.int .i64 t4, .string t9])] w1_1 fun t11P t11N t11C w1_2 =>
  w1_2.cell? (c1.add 1) = (drw w1).cell? (c1.add 1) ∧
  App Tryd.prog #[41, 41] 41 #[.slice EventsP EventsN EventsC, .slice t11P t11N t11C] w1_2 fun t12P t12N t12C w1_3 =>
  St w1_3 ((c1.add 1).add 0) (.slice t12P t12N t12C) fun w1_4 =>
  R w1_4

def G_script_DecodeRun_1 : Gen where
  loop := lookL []
  plan := fun id =>
    bif Nat.beq id 1 then some ([0, 1, 0, 0, 8, 28, 60, 127, 255, 511], .take 0 (.take 1 (.take 2 (.take 3 (.take 4 (.take 5 (.take 6 (.take 7 (.take 8 (.take 9 .done)))))))))) else none

theorem loops_script_DecodeRun_1 : LoopOk Tryd.prog Tryd.f39.ntmps G_script_DecodeRun_1 (codeOf Tryd.f39) := loopOk_none fun _ => rfl

theorem den_script_DecodeRun_1 (c0 : Addr) (c1 : Addr) (w : World) (R : Value → World → Prop) :
    F_script_DecodeRun_1 c0 c1 w (fun w1 => R (.tuple #[]) w1) = den Tryd.prog Tryd.f39.ntmps G_script_DecodeRun_1 (codeOf Tryd.f39) [] (postD Tryd.prog Tryd.f39.results.toList R) (entry [.pointer (some c0), .pointer (some c1)] 0) w := by kernel_rfl

theorem C_script_DecodeRun_1.of {c0 : Addr} {c1 : Addr} {w : World} {R : World → Prop} (h : F_script_DecodeRun_1 c0 c1 w R) : C_script_DecodeRun_1 c0 c1 w R := by
  refine (calls_of_den (c := codeOf Tryd.f39) seat_ok seat_mixed Tryd.func39 (by kernel_rfl) loops_script_DecodeRun_1 (args := [.pointer (some c0), .pointer (some c1)]) rfl (R := fun v w1 => v = (.tuple #[] : Value) ∧ R w1) ?_).mono ?_
  · rw [← den_script_DecodeRun_1]
    simpa using h
  · rintro en w1 ⟨v, he, rfl, h⟩
    exact ⟨he, h⟩

def F_script_fold_k1 (R : Int → World → Prop) (u : Int) (w1 : World) : Prop :=
  R u w1

def F_script_fold (n : Int) (w : World) (R : Int → World → Prop) : Prop :=
  0 ≤ (1 : Int) ∧
  If (decide (n < (0 : Int)))
  (F_script_fold_k1 R (xorI .u64 IntKind.u64.max (shlI .u64 (IntKind.u64.wrap n) (1 : Int))) w)
  (F_script_fold_k1 R (shlI .u64 (IntKind.u64.wrap n) (1 : Int)) w)

def G_script_fold : Gen where
  loop := lookL []
  plan := fun _ => none

theorem loops_script_fold : LoopOk Tryd.prog Tryd.f40.ntmps G_script_fold (codeOf Tryd.f40) := loopOk_none fun _ => rfl

theorem den_script_fold (n : Int) (w : World) (R : Value → World → Prop) :
    F_script_fold n w (fun r w1 => R (.int .u64 r) w1) = den Tryd.prog Tryd.f40.ntmps G_script_fold (codeOf Tryd.f40) [] (postD Tryd.prog Tryd.f40.results.toList R) (entry [.int .i64 n] 0) w := by kernel_rfl

theorem C_script_fold.of {n : Int} {w : World} {R : Int → World → Prop} (h : F_script_fold n w R) : C_script_fold n w R := by
  refine (calls_of_den (c := codeOf Tryd.f40) seat_ok seat_mixed Tryd.func40 (by kernel_rfl) loops_script_fold (args := [.int .i64 n]) rfl (R := fun v w1 => ∃ (r : Int), v = (.int .u64 r : Value) ∧ R r w1) ?_).mono ?_
  · rw [← den_script_fold]
    have e : (fun r w1 => ∃ (r' : Int), (.int .u64 r : Value) = (.int .u64 r' : Value) ∧ R r' w1) = R := by
      funext r w1
      exact propext ⟨fun ⟨r', he, h⟩ => by first | (simp at he; simp_all) | (cases he; exact h), fun h => ⟨_, rfl, h⟩⟩
    simpa only [e] using h
  · rintro en w1 ⟨v, he, r, rfl, h⟩
    exact ⟨_, he, h⟩

def F_script_reader_count (r : Option Addr) (mostx : Int) (w : World) (R : Int → World → Prop) : Prop :=
  C_script_reader_number r w fun t7 w1 =>
  If (decide (t7 < (0 : Int)))
  (NN r fun a =>
  St w1 ((a.add 1).add 0) (.bool true) fun w1_1 =>
  R (0 : Int) w1_1)
  (If (decide (t7 > mostx))
  (NN r fun a_1 =>
  St w1 ((a_1.add 1).add 0) (.bool true) fun w1_2 =>
  R (0 : Int) w1_2)
  (R t7 w1))

def G_script_reader_count : Gen where
  loop := lookL []
  plan := fun _ => none

theorem loops_script_reader_count : LoopOk Tryd.prog Tryd.f41.ntmps G_script_reader_count (codeOf Tryd.f41) := loopOk_none fun _ => rfl

theorem den_script_reader_count (r : Option Addr) (mostx : Int) (w : World) (R : Value → World → Prop) :
    F_script_reader_count r mostx w (fun r w1 => R (.int .i64 r) w1) = den Tryd.prog Tryd.f41.ntmps G_script_reader_count (codeOf Tryd.f41) [] (postD Tryd.prog Tryd.f41.results.toList R) (entry [.pointer r, .int .i64 mostx] 0) w := by kernel_rfl

theorem C_script_reader_count.of {r : Option Addr} {mostx : Int} {w : World} {R : Int → World → Prop} (h : F_script_reader_count r mostx w R) : C_script_reader_count r mostx w R := by
  refine (calls_of_den (c := codeOf Tryd.f41) seat_ok seat_mixed Tryd.func41 (by kernel_rfl) loops_script_reader_count (args := [.pointer r, .int .i64 mostx]) rfl (R := fun v w1 => ∃ (r : Int), v = (.int .i64 r : Value) ∧ R r w1) ?_).mono ?_
  · rw [← den_script_reader_count]
    have e : (fun r w1 => ∃ (r' : Int), (.int .i64 r : Value) = (.int .i64 r' : Value) ∧ R r' w1) = R := by
      funext r w1
      exact propext ⟨fun ⟨r', he, h⟩ => by first | (simp at he; simp_all) | (cases he; exact h), fun h => ⟨_, rfl, h⟩⟩
    simpa only [e] using h
  · rintro en w1 ⟨v, he, r, rfl, h⟩
    exact ⟨_, he, h⟩

def F_script_reader_next (r : Option Addr) (w : World) (R : Int → World → Prop) : Prop :=
  NN r fun a =>
  ∃ bad : Bool, w.cell? (a.add 1) = some (.bool bad) ∧
  If bad
  (NN r fun a_2 =>
  St w ((a_2.add 1).add 0) (.bool true) fun w1 =>
  R (0 : Int) w1)
  (NN r fun a_1 =>
  ∃ bP : Option Addr, ∃ bN : Nat, ∃ bC : Nat, w.cell? (a_1.add 0) = some (.slice bP bN bC) ∧
  If ((bN : Int) == (0 : Int))
  (NN r fun a_3 =>
  St w ((a_3.add 1).add 0) (.bool true) fun w1_1 =>
  R (0 : Int) w1_1)
  (NN r fun a_4 =>
  ∃ bP_1 : Option Addr, ∃ bN_1 : Nat, ∃ bC_1 : Nat, w.cell? (a_4.add 0) = some (.slice bP_1 bN_1 bC_1) ∧
  0 ≤ (0 : Int) ∧ (0 : Int) < (bN_1 : Int) ∧ NN bP_1 fun a_5 =>
  ∃ t24 : Int, w.cell? (a_5.add ((0 : Int).toNat * 1)) = some (.int .u8 t24) ∧
  NN r fun a_6 =>
  ∃ bP_2 : Option Addr, ∃ bN_2 : Nat, ∃ bC_2 : Nat, w.cell? (a_6.add 0) = some (.slice bP_2 bN_2 bC_2) ∧
  0 ≤ (1 : Int) ∧ (1 : Int) ≤ (bN_2 : Int) ∧
  NN r fun a_7 =>
  St w ((a_7.add 0).add 0) (.slice (adv bP_2 bC_2 (1 : Int).toNat 1) (bN_2 - (1 : Int).toNat) (bC_2 - (1 : Int).toNat)) fun w1_2 =>
  R t24 w1_2))

def G_script_reader_next : Gen where
  loop := lookL []
  plan := fun _ => none

theorem loops_script_reader_next : LoopOk Tryd.prog Tryd.f42.ntmps G_script_reader_next (codeOf Tryd.f42) := loopOk_none fun _ => rfl

theorem den_script_reader_next (r : Option Addr) (w : World) (R : Value → World → Prop) :
    F_script_reader_next r w (fun r w1 => R (.int .u8 r) w1) = den Tryd.prog Tryd.f42.ntmps G_script_reader_next (codeOf Tryd.f42) [] (postD Tryd.prog Tryd.f42.results.toList R) (entry [.pointer r] 0) w := by kernel_rfl

theorem C_script_reader_next.of {r : Option Addr} {w : World} {R : Int → World → Prop} (h : F_script_reader_next r w R) : C_script_reader_next r w R := by
  refine (calls_of_den (c := codeOf Tryd.f42) seat_ok seat_mixed Tryd.func42 (by kernel_rfl) loops_script_reader_next (args := [.pointer r]) rfl (R := fun v w1 => ∃ (r : Int), v = (.int .u8 r : Value) ∧ R r w1) ?_).mono ?_
  · rw [← den_script_reader_next]
    have e : (fun r w1 => ∃ (r' : Int), (.int .u8 r : Value) = (.int .u8 r' : Value) ∧ R r' w1) = R := by
      funext r w1
      exact propext ⟨fun ⟨r', he, h⟩ => by first | (simp at he; simp_all) | (cases he; exact h), fun h => ⟨_, rfl, h⟩⟩
    simpa only [e] using h
  · rintro en w1 ⟨v, he, r, rfl, h⟩
    exact ⟨_, he, h⟩

def F_script_unfold_k1 (R : Int → World → Prop) (n : Int) (w1 : World) : Prop :=
  R n w1

def F_script_unfold (u : Int) (w : World) (R : Int → World → Prop) : Prop :=
  0 ≤ (1 : Int) ∧
  If ((andI .u64 u (1 : Int)) == (1 : Int))
  (F_script_unfold_k1 R (xorI .i64 (-1) (IntKind.i64.wrap (shrI .u64 u (1 : Int)))) w)
  (F_script_unfold_k1 R (IntKind.i64.wrap (shrI .u64 u (1 : Int))) w)

def G_script_unfold : Gen where
  loop := lookL []
  plan := fun _ => none

theorem loops_script_unfold : LoopOk Tryd.prog Tryd.f43.ntmps G_script_unfold (codeOf Tryd.f43) := loopOk_none fun _ => rfl

theorem den_script_unfold (u : Int) (w : World) (R : Value → World → Prop) :
    F_script_unfold u w (fun r w1 => R (.int .i64 r) w1) = den Tryd.prog Tryd.f43.ntmps G_script_unfold (codeOf Tryd.f43) [] (postD Tryd.prog Tryd.f43.results.toList R) (entry [.int .u64 u] 0) w := by kernel_rfl

theorem C_script_unfold.of {u : Int} {w : World} {R : Int → World → Prop} (h : F_script_unfold u w R) : C_script_unfold u w R := by
  refine (calls_of_den (c := codeOf Tryd.f43) seat_ok seat_mixed Tryd.func43 (by kernel_rfl) loops_script_unfold (args := [.int .u64 u]) rfl (R := fun v w1 => ∃ (r : Int), v = (.int .i64 r : Value) ∧ R r w1) ?_).mono ?_
  · rw [← den_script_unfold]
    have e : (fun r w1 => ∃ (r' : Int), (.int .i64 r : Value) = (.int .i64 r' : Value) ∧ R r' w1) = R := by
      funext r w1
      exact propext ⟨fun ⟨r', he, h⟩ => by first | (simp at he; simp_all) | (cases he; exact h), fun h => ⟨_, rfl, h⟩⟩
    simpa only [e] using h
  · rintro en w1 ⟨v, he, r, rfl, h⟩
    exact ⟨_, he, h⟩

structure S_token_Quote_L1 where
  t13 : Int

/-- One round. -/
def B_token_Quote_L1 (wx : Addr) (t11P_1 : Option Addr) (t11N_1 : Nat) (t11C_1 : Nat) (t12 : Int) (s : S_token_Quote_L1) (w : World) (Kn : S_token_Quote_L1 → World → Prop) (Kx0 : World → Prop) : Prop :=
  If (decide ((s.t13 : Int) < t12))
  (0 ≤ (s.t13 : Int) ∧ (s.t13 : Int) < (t11N_1 : Int) ∧ NN t11P_1 fun a =>
  ∃ t16 : Int, w.cell? (a.add ((s.t13 : Int).toNat * 1)) = some (.int .u8 t16) ∧
  C_token_sign t16 w fun t18 w1_4 =>
  C_strings_Builder_WriteString (some wx) t18 w1_4 fun t190 t191 w1_5 =>
  Kn ⟨(IntKind.i64.wrap ((s.t13 : Int) + (1 : Int)))⟩ w1_5)
  (Kx0 w)

def F_token_Quote_L1 (wx : Addr) (t11P_1 : Option Addr) (t11N_1 : Nat) (t11C_1 : Nat) (t12 : Int) (s : S_token_Quote_L1) (w : World) (Kx0 : World → Prop) : Prop :=
  LoopS (fun s w Kn => B_token_Quote_L1 wx t11P_1 t11N_1 t11C_1 t12 s w Kn Kx0) s w

def F_token_Quote (namex : ByteArray) (w : World) (R : ByteArray → World → Prop) : Prop :=
  C_token_Plain namex w fun t7 w1 =>
  If t7
  (R namex w1)
  (New w1 (.cells #[.pointer none, .slice none 0 0] 76) fun r w1_1 =>
  C_strings_Builder_WriteByte (some ⟨r, 0, none⟩) (39 : Int) w1_1 fun t9 w1_2 =>
  Run Tryd.prog (convert 9 28 (.string namex)) w1_2 fun v w1_3 => ∃ t11P : Option Addr, ∃ t11N : Nat, ∃ t11C : Nat, v = (.slice t11P t11N t11C) ∧
  F_token_Quote_L1 ⟨r, 0, none⟩ t11P t11N t11C (t11N : Int) ⟨(0 : Int)⟩ w1_3
  (fun w1_6 =>
  C_strings_Builder_WriteByte (some ⟨r, 0, none⟩) (39 : Int) w1_6 fun t21 w1_7 =>
  C_strings_Builder_String (some ⟨r, 0, none⟩) w1_7 fun t22 w1_8 =>
  R t22 w1_8))

def lit_token_Quote_L1 (f : Addr × (Option Addr) × Nat × Nat × Int) (s : S_token_Quote_L1) : Env := [⟨3, .pointer (some f.1), none⟩, ⟨11, .slice f.2.1 f.2.2.1 f.2.2.2.1, none⟩, ⟨12, .int .i64 f.2.2.2.2, none⟩, ⟨13, .int .i64 s.t13, none⟩]

def dec_token_Quote_L1 (e : Env) (K : (Addr × (Option Addr) × Nat × Nat × Int) → S_token_Quote_L1 → Prop) : Prop :=
  onV (getV e 3) fun u1 =>
  asA u1 fun wx =>
  onV (getV e 11) fun u2 =>
  asS u2 fun t11P_1 t11N_1 t11C_1 =>
  onV (getV e 12) fun u3 =>
  asI .i64 u3 fun t12 =>
  onV (getV e 13) fun u4 =>
  asI .i64 u4 fun t13 =>
    K (wx, t11P_1, t11N_1, t11C_1, t12) ⟨t13⟩

theorem dec_token_Quote_L1_ok {N : Nat} (e : Env) (a : Act) (K : (Addr × (Option Addr) × Nat × Nat × Int) → S_token_Quote_L1 → Prop) (hr : Rep N a e) (h0 : dec_token_Quote_L1 e K) : ∃ f s, K f s ∧ Rep N a (lit_token_Quote_L1 f s) := by
  unfold dec_token_Quote_L1 at h0
  obtain ⟨u1, g3, h1⟩ := onV_elim h0
  obtain ⟨wx, rfl, h2⟩ := asA_elim h1
  obtain ⟨u2, g11, h3⟩ := onV_elim h2
  obtain ⟨t11P_1, t11N_1, t11C_1, rfl, h4⟩ := asS_elim h3
  obtain ⟨u3, g12, h5⟩ := onV_elim h4
  obtain ⟨t12, rfl, h6⟩ := asI_elim h5
  obtain ⟨u4, g13, h7⟩ := onV_elim h6
  obtain ⟨t13, rfl, h8⟩ := asI_elim h7
  exact ⟨_, _, h8, rep_less hr (by simp [lit_token_Quote_L1, g3, g11, g12, g13])⟩

def spec_token_Quote_L1 (Q : Post) (e : Env) (w : World) : Prop :=
  dec_token_Quote_L1 e fun f s => F_token_Quote_L1 f.1 f.2.1 f.2.2.1 f.2.2.2.1 f.2.2.2.2 s w (fun w1 => Q (.exit 0) [⟨3, .pointer (some f.1), none⟩] w1)

def G_token_Quote : Gen where
  loop := lookL [([false, true, false, true, true, true, true], spec_token_Quote_L1)]
  plan := fun _ => none

def dx_token_Quote_L1_0 (e : Env) (K : (Addr × (Option Addr) × Nat × Nat × Int) → Prop) : Prop :=
  onV (getV e 3) fun u1 =>
  asA u1 fun wx =>
  onV (getV e 11) fun u2 =>
  asS u2 fun t11P_1 t11N_1 t11C_1 =>
  onV (getV e 12) fun u3 =>
  asI .i64 u3 fun t12 =>
    K (wx, t11P_1, t11N_1, t11C_1, t12)

theorem body_token_Quote_L1 (f : Addr × (Option Addr) × Nat × Nat × Int) (s : S_token_Quote_L1) (w : World) (Kn : (Addr × (Option Addr) × Nat × Nat × Int) → S_token_Quote_L1 → World → Prop) (Kx0 : (Addr × (Option Addr) × Nat × Nat × Int) → World → Prop) :
    B_token_Quote_L1 f.1 f.2.1 f.2.2.1 f.2.2.2.1 f.2.2.2.2 s w (fun s1 w1 => Kn f s1 w1) (fun w1 => Kx0 f w1) =
    den Tryd.prog Tryd.f45.ntmps G_token_Quote (sub (codeOf Tryd.f45) [false, false, true, false, true, true, true, true]) [false, false, true, false, true, true, true, true] (roundQ (fun e w => dec_token_Quote_L1 e fun f s => Kn f s w) (fun e w => False) (fun id e w => match Nat.beq id 0 with | true => dx_token_Quote_L1_0 e fun f => Kx0 f w | false => False)) (lit_token_Quote_L1 f s) w := by kernel_rfl

theorem ok_token_Quote_L1 : OneOk Tryd.prog Tryd.f45.ntmps G_token_Quote (codeOf Tryd.f45) [false, true, false, true, true, true, true] spec_token_Quote_L1 := by
  intro c hc ih Q e w a hr h
  have hcc : sub (codeOf Tryd.f45) [false, false, true, false, true, true, true, true] = c := sub_of_codeAt hc
  obtain ⟨f, s, h, hrep⟩ := dec_token_Quote_L1_ok e a _ hr h
  obtain ⟨J, μ, hj, hround⟩ := h
  refine loop_rule_deep seat_ok seat_mixed ih lit_token_Quote_L1 dec_token_Quote_L1 dec_token_Quote_L1_ok hc f J μ (Kr := fun e w => False) (Kx := fun id e w => match Nat.beq id 0 with | true => (dx_token_Quote_L1_0 e fun f1 => f1 = f ∧ Q (.exit 0) [⟨3, .pointer (some f.1), none⟩] w) | false => False) ?_ ?_ ?_ s w a hj hrep
  · intro e a w hr h
    exact h.elim
  · intro id e a w hr h0
    (try dsimp only at h0)
    split at h0
    · rename_i hid
      obtain rfl := Nat.eq_of_beq_eq_true hid
      unfold dx_token_Quote_L1_0 at h0
      obtain ⟨u1, g3, h1⟩ := onV_elim h0
      obtain ⟨wx, rfl, h2⟩ := asA_elim h1
      obtain ⟨u2, g11, h3⟩ := onV_elim h2
      obtain ⟨t11P_1, t11N_1, t11C_1, rfl, h4⟩ := asS_elim h3
      obtain ⟨u3, g12, h5⟩ := onV_elim h4
      obtain ⟨t12, rfl, h6⟩ := asI_elim h5
      obtain ⟨hf, hq⟩ := h6
      subst hf
      exact ⟨_, rep_less hr (by simp [g3]), hq⟩
    · exact h0.elim
  · intro s w hj
    have hb := hround s w hj
    rw [← hcc]
    have e1 := body_token_Quote_L1 f s w (fun f1 s1 w1 => f1 = f ∧ J s1 w1 ∧ μ s1 w1 < μ s w) (fun f1 w1 => f1 = f ∧ Q (.exit 0) [⟨3, .pointer (some f.1), none⟩] w1)
    simp only [true_and] at e1
    exact cast e1 hb

theorem loops_token_Quote : LoopOk Tryd.prog Tryd.f45.ntmps G_token_Quote (codeOf Tryd.f45) := loopOk_list rfl ⟨ok_token_Quote_L1, trivial⟩

theorem den_token_Quote (namex : ByteArray) (w : World) (R : Value → World → Prop) :
    F_token_Quote namex w (fun r w1 => R (.string r) w1) = den Tryd.prog Tryd.f45.ntmps G_token_Quote (codeOf Tryd.f45) [] (postD Tryd.prog Tryd.f45.results.toList R) (entry [.string namex] 0) w := by kernel_rfl

theorem C_token_Quote.of {namex : ByteArray} {w : World} {R : ByteArray → World → Prop} (h : F_token_Quote namex w R) : C_token_Quote namex w R := by
  refine (calls_of_den (c := codeOf Tryd.f45) seat_ok seat_mixed Tryd.func45 (by kernel_rfl) loops_token_Quote (args := [.string namex]) rfl (R := fun v w1 => ∃ (r : ByteArray), v = (.string r : Value) ∧ R r w1) ?_).mono ?_
  · rw [← den_token_Quote]
    have e : (fun r w1 => ∃ (r' : ByteArray), (.string r : Value) = (.string r' : Value) ∧ R r' w1) = R := by
      funext r w1
      exact propext ⟨fun ⟨r', he, h⟩ => by first | (simp at he; simp_all) | (cases he; exact h), fun h => ⟨_, rfl, h⟩⟩
    simpa only [e] using h
  · rintro en w1 ⟨v, he, r, rfl, h⟩
    exact ⟨_, he, h⟩

structure S_ref08_Plain_L1 where
  words : Bool
  signs : Bool
  i : Int

def F_ref08_Plain_k1 (R : Bool → World → Prop) (w1 : World) : Prop :=
  R true w1

def F_ref08_Plain_k2 (R : Bool → World → Prop) (w1_1 : World) : Prop :=
  R false w1_1

/-- One round. -/
def B_ref08_Plain_L1 (sx_1 : ByteArray) (s : S_ref08_Plain_L1) (w : World) (Kn : S_ref08_Plain_L1 → World → Prop) (Kx0 : Bool → Bool → World → Prop) : Prop :=
  If (decide ((s.i : Int) < (sx_1.size : Int)))
  (If s.words
  (0 ≤ (s.i : Int) ∧ ∃ b_1 : UInt8, sx_1[(s.i : Int).toNat]? = some b_1 ∧
  C_ref08_word (b_1.toNat : Int) w fun t50 w1_4 =>
  If s.signs
  (0 ≤ (s.i : Int) ∧ ∃ b_2 : UInt8, sx_1[(s.i : Int).toNat]? = some b_2 ∧
  C_ref08_sign (b_2.toNat : Int) w1_4 fun t57 w1_5 =>
  Kn ⟨t50, t57, (IntKind.i64.wrap ((s.i : Int) + (1 : Int)))⟩ w1_5)
  (Kn ⟨t50, false, (IntKind.i64.wrap ((s.i : Int) + (1 : Int)))⟩ w1_4))
  (If s.signs
  (0 ≤ (s.i : Int) ∧ ∃ b_3 : UInt8, sx_1[(s.i : Int).toNat]? = some b_3 ∧
  C_ref08_sign (b_3.toNat : Int) w fun t57_1 w1_6 =>
  Kn ⟨false, t57_1, (IntKind.i64.wrap ((s.i : Int) + (1 : Int)))⟩ w1_6)
  (Kn ⟨false, false, (IntKind.i64.wrap ((s.i : Int) + (1 : Int)))⟩ w)))
  (Kx0 s.words s.signs w)

def F_ref08_Plain_L1 (sx_1 : ByteArray) (s : S_ref08_Plain_L1) (w : World) (Kx0 : Bool → Bool → World → Prop) : Prop :=
  LoopS (fun s w Kn => B_ref08_Plain_L1 sx_1 s w Kn Kx0) s w

def F_ref08_Plain_k3 (sx : ByteArray) (R : Bool → World → Prop) (w1_2 : World) : Prop :=
  0 ≤ (0 : Int) ∧ ∃ b : UInt8, sx[(0 : Int).toNat]? = some b ∧
  C_ref08_small (b.toNat : Int) w1_2 fun t38 w1_3 =>
  F_ref08_Plain_L1 sx ⟨t38, true, (0 : Int)⟩ w1_3
  (fun words_2 signs_2 w1_7 =>
  If words_2
  (R true w1_7)
  (R signs_2 w1_7))

def F_ref08_Plain (sx : ByteArray) (w : World) (R : Bool → World → Prop) : Prop :=
  If (sx.toList == (⟨#[33]⟩ : ByteArray).toList)
  (F_ref08_Plain_k1 R w)
  (If (sx.toList == (⟨#[59]⟩ : ByteArray).toList)
  (F_ref08_Plain_k1 R w)
  (If (sx.toList == (⟨#[91, 93]⟩ : ByteArray).toList)
  (F_ref08_Plain_k1 R w)
  (If (sx.toList == (⟨#[123, 125]⟩ : ByteArray).toList)
  (R true w)
  (If (sx.toList == (⟨#[]⟩ : ByteArray).toList)
  (F_ref08_Plain_k2 R w)
  (If (sx.toList == (⟨#[46]⟩ : ByteArray).toList)
  (F_ref08_Plain_k2 R w)
  (If (decide ((sx.size : Int) ≥ (2 : Int)))
  (0 ≤ (2 : Int) ∧ (2 : Int) ≤ (sx.size : Int) ∧
  If ((sx.extract 0 (2 : Int).toNat).toList == (⟨#[47, 42]⟩ : ByteArray).toList)
  (R false w)
  (F_ref08_Plain_k3 sx R w))
  (F_ref08_Plain_k3 sx R w)))))))

def lit_ref08_Plain_L1 (f : ByteArray) (s : S_ref08_Plain_L1) : Env := [⟨0, .string f, none⟩, ⟨3, .bool s.words, none⟩, ⟨4, .bool s.signs, none⟩, ⟨5, .int .i64 s.i, none⟩]

def dec_ref08_Plain_L1 (e : Env) (K : ByteArray → S_ref08_Plain_L1 → Prop) : Prop :=
  onV (getV e 0) fun u1 =>
  asT u1 fun sx_1 =>
  onV (getV e 3) fun u2 =>
  asB u2 fun words =>
  onV (getV e 4) fun u3 =>
  asB u3 fun signs =>
  onV (getV e 5) fun u4 =>
  asI .i64 u4 fun i =>
    K (sx_1) ⟨words, signs, i⟩

theorem dec_ref08_Plain_L1_ok {N : Nat} (e : Env) (a : Act) (K : ByteArray → S_ref08_Plain_L1 → Prop) (hr : Rep N a e) (h0 : dec_ref08_Plain_L1 e K) : ∃ f s, K f s ∧ Rep N a (lit_ref08_Plain_L1 f s) := by
  unfold dec_ref08_Plain_L1 at h0
  obtain ⟨u1, g0, h1⟩ := onV_elim h0
  obtain ⟨sx_1, rfl, h2⟩ := asT_elim h1
  obtain ⟨u2, g3, h3⟩ := onV_elim h2
  obtain ⟨words, rfl, h4⟩ := asB_elim h3
  obtain ⟨u3, g4, h5⟩ := onV_elim h4
  obtain ⟨signs, rfl, h6⟩ := asB_elim h5
  obtain ⟨u4, g5, h7⟩ := onV_elim h6
  obtain ⟨i, rfl, h8⟩ := asI_elim h7
  exact ⟨_, _, h8, rep_less hr (by simp [lit_ref08_Plain_L1, g0, g3, g4, g5])⟩

def spec_ref08_Plain_L1 (Q : Post) (e : Env) (w : World) : Prop :=
  dec_ref08_Plain_L1 e fun f s => F_ref08_Plain_L1 f s w (fun words_1 signs_1 w1 => Q (.exit 0) [⟨3, .bool words_1, none⟩, ⟨4, .bool signs_1, none⟩] w1)

def G_ref08_Plain : Gen where
  loop := lookL [([false, true, false, true, true, true, true], spec_ref08_Plain_L1)]
  plan := fun _ => none

def dx_ref08_Plain_L1_0 (e : Env) (K : ByteArray → Bool → Bool → Prop) : Prop :=
  onV (getV e 0) fun u1 =>
  asT u1 fun sx_1 =>
  onV (getV e 3) fun u2 =>
  asB u2 fun words_1 =>
  onV (getV e 4) fun u3 =>
  asB u3 fun signs_1 =>
    K (sx_1) words_1 signs_1

theorem body_ref08_Plain_L1 (f : ByteArray) (s : S_ref08_Plain_L1) (w : World) (Kn : ByteArray → S_ref08_Plain_L1 → World → Prop) (Kx0 : ByteArray → Bool → Bool → World → Prop) :
    B_ref08_Plain_L1 f s w (fun s1 w1 => Kn f s1 w1) (fun words_1 signs_1 w1 => Kx0 f words_1 signs_1 w1) =
    den Tryd.prog Tryd.f46.ntmps G_ref08_Plain (sub (codeOf Tryd.f46) [false, false, true, false, true, true, true, true]) [false, false, true, false, true, true, true, true] (roundQ (fun e w => dec_ref08_Plain_L1 e fun f s => Kn f s w) (fun e w => False) (fun id e w => match Nat.beq id 0 with | true => dx_ref08_Plain_L1_0 e fun f words_1 signs_1 => Kx0 f words_1 signs_1 w | false => False)) (lit_ref08_Plain_L1 f s) w := by kernel_rfl

theorem ok_ref08_Plain_L1 : OneOk Tryd.prog Tryd.f46.ntmps G_ref08_Plain (codeOf Tryd.f46) [false, true, false, true, true, true, true] spec_ref08_Plain_L1 := by
  intro c hc ih Q e w a hr h
  have hcc : sub (codeOf Tryd.f46) [false, false, true, false, true, true, true, true] = c := sub_of_codeAt hc
  obtain ⟨f, s, h, hrep⟩ := dec_ref08_Plain_L1_ok e a _ hr h
  obtain ⟨J, μ, hj, hround⟩ := h
  refine loop_rule_deep seat_ok seat_mixed ih lit_ref08_Plain_L1 dec_ref08_Plain_L1 dec_ref08_Plain_L1_ok hc f J μ (Kr := fun e w => False) (Kx := fun id e w => match Nat.beq id 0 with | true => (dx_ref08_Plain_L1_0 e fun f1 words_1 signs_1 => f1 = f ∧ Q (.exit 0) [⟨3, .bool words_1, none⟩, ⟨4, .bool signs_1, none⟩] w) | false => False) ?_ ?_ ?_ s w a hj hrep
  · intro e a w hr h
    exact h.elim
  · intro id e a w hr h0
    (try dsimp only at h0)
    split at h0
    · rename_i hid
      obtain rfl := Nat.eq_of_beq_eq_true hid
      unfold dx_ref08_Plain_L1_0 at h0
      obtain ⟨u1, g0, h1⟩ := onV_elim h0
      obtain ⟨sx_1, rfl, h2⟩ := asT_elim h1
      obtain ⟨u2, g3, h3⟩ := onV_elim h2
      obtain ⟨words_1, rfl, h4⟩ := asB_elim h3
      obtain ⟨u3, g4, h5⟩ := onV_elim h4
      obtain ⟨signs_1, rfl, h6⟩ := asB_elim h5
      obtain ⟨hf, hq⟩ := h6
      subst hf
      exact ⟨_, rep_less hr (by simp [g3, g4]), hq⟩
    · exact h0.elim
  · intro s w hj
    have hb := hround s w hj
    rw [← hcc]
    have e1 := body_ref08_Plain_L1 f s w (fun f1 s1 w1 => f1 = f ∧ J s1 w1 ∧ μ s1 w1 < μ s w) (fun f1 words_1 signs_1 w1 => f1 = f ∧ Q (.exit 0) [⟨3, .bool words_1, none⟩, ⟨4, .bool signs_1, none⟩] w1)
    simp only [true_and] at e1
    exact cast e1 hb

theorem loops_ref08_Plain : LoopOk Tryd.prog Tryd.f46.ntmps G_ref08_Plain (codeOf Tryd.f46) := loopOk_list rfl ⟨ok_ref08_Plain_L1, trivial⟩

theorem den_ref08_Plain (sx : ByteArray) (w : World) (R : Value → World → Prop) :
    F_ref08_Plain sx w (fun r w1 => R (.bool r) w1) = den Tryd.prog Tryd.f46.ntmps G_ref08_Plain (codeOf Tryd.f46) [] (postD Tryd.prog Tryd.f46.results.toList R) (entry [.string sx] 0) w := by kernel_rfl

theorem C_ref08_Plain.of {sx : ByteArray} {w : World} {R : Bool → World → Prop} (h : F_ref08_Plain sx w R) : C_ref08_Plain sx w R := by
  refine (calls_of_den (c := codeOf Tryd.f46) seat_ok seat_mixed Tryd.func46 (by kernel_rfl) loops_ref08_Plain (args := [.string sx]) rfl (R := fun v w1 => ∃ (r : Bool), v = (.bool r : Value) ∧ R r w1) ?_).mono ?_
  · rw [← den_ref08_Plain]
    have e : (fun r w1 => ∃ (r' : Bool), (.bool r : Value) = (.bool r' : Value) ∧ R r' w1) = R := by
      funext r w1
      exact propext ⟨fun ⟨r', he, h⟩ => by first | (simp at he; simp_all) | (cases he; exact h), fun h => ⟨_, rfl, h⟩⟩
    simpa only [e] using h
  · rintro en w1 ⟨v, he, r, rfl, h⟩
    exact ⟨_, he, h⟩

def F_token_Plain_k3 (R : Bool → World → Prop) (t2 : Bool) (w1_7 : World) : Prop :=
  R t2 w1_7

def F_token_Plain_k1 (namex : ByteArray) (R : Bool → World → Prop) (t9 : Bool) (w1_1 : World) : Prop :=
  If t9
  (R false w1_1)
  (C_strings_HasPrefix namex ⟨#[47, 42]⟩ w1_1 fun t13 w1_2 =>
  If t13
  (R false w1_2)
  (0 ≤ (0 : Int) ∧ ∃ b : UInt8, namex[(0 : Int).toNat]? = some b ∧
  C_token_in (b.toNat : Int) ⟨#[97, 98, 99, 100, 101, 102, 103, 104, 105, 106, 107, 108, 109, 110, 111, 112, 113, 114, 115, 116, 117, 118, 119, 120, 121, 122]⟩ w1_2 fun t16 w1_3 =>
  If t16
  (C_token_all namex ⟨#[97, 98, 99, 100, 101, 102, 103, 104, 105, 106, 107, 108, 109, 110, 111, 112, 113, 114, 115, 116, 117, 118, 119, 120, 121, 122, 65, 66, 67, 68, 69, 70, 71, 72, 73, 74, 75, 76, 77, 78, 79, 80, 81, 82, 83, 84, 85, 86, 87, 88, 89, 90, 48, 49, 50, 51, 52, 53, 54, 55, 56, 57, 95]⟩ w1_3 fun t19 w1_4 =>
  If t19
  (R true w1_4)
  (C_token_all namex ⟨#[43, 45, 42, 47, 92, 94, 60, 62, 61, 126, 58, 46, 63, 64, 35, 38, 36]⟩ w1_4 fun t23 w1_5 =>
  F_token_Plain_k3 R t23 w1_5))
  (C_token_all namex ⟨#[43, 45, 42, 47, 92, 94, 60, 62, 61, 126, 58, 46, 63, 64, 35, 38, 36]⟩ w1_3 fun t23_1 w1_6 =>
  F_token_Plain_k3 R t23_1 w1_6)))

def F_token_Plain_k2 (namex : ByteArray) (R : Bool → World → Prop) (t4 : Bool) (w1 : World) : Prop :=
  If t4
  (R true w1)
  (If (namex.toList == (⟨#[]⟩ : ByteArray).toList)
  (F_token_Plain_k1 namex R (namex.toList == (⟨#[]⟩ : ByteArray).toList) w1)
  (F_token_Plain_k1 namex R (namex.toList == (⟨#[46]⟩ : ByteArray).toList) w1))

def F_token_Plain (namex : ByteArray) (w : World) (R : Bool → World → Prop) : Prop :=
  If (namex.toList == (⟨#[33]⟩ : ByteArray).toList)
  (F_token_Plain_k2 namex R (namex.toList == (⟨#[33]⟩ : ByteArray).toList) w)
  (If (namex.toList == (⟨#[59]⟩ : ByteArray).toList)
  (F_token_Plain_k2 namex R (namex.toList == (⟨#[59]⟩ : ByteArray).toList) w)
  (If (namex.toList == (⟨#[91, 93]⟩ : ByteArray).toList)
  (F_token_Plain_k2 namex R (namex.toList == (⟨#[91, 93]⟩ : ByteArray).toList) w)
  (F_token_Plain_k2 namex R (namex.toList == (⟨#[123, 125]⟩ : ByteArray).toList) w)))

def G_token_Plain : Gen where
  loop := lookL []
  plan := fun _ => none

theorem loops_token_Plain : LoopOk Tryd.prog Tryd.f48.ntmps G_token_Plain (codeOf Tryd.f48) := loopOk_none fun _ => rfl

theorem den_token_Plain (namex : ByteArray) (w : World) (R : Value → World → Prop) :
    F_token_Plain namex w (fun r w1 => R (.bool r) w1) = den Tryd.prog Tryd.f48.ntmps G_token_Plain (codeOf Tryd.f48) [] (postD Tryd.prog Tryd.f48.results.toList R) (entry [.string namex] 0) w := by kernel_rfl

theorem C_token_Plain.of {namex : ByteArray} {w : World} {R : Bool → World → Prop} (h : F_token_Plain namex w R) : C_token_Plain namex w R := by
  refine (calls_of_den (c := codeOf Tryd.f48) seat_ok seat_mixed Tryd.func48 (by kernel_rfl) loops_token_Plain (args := [.string namex]) rfl (R := fun v w1 => ∃ (r : Bool), v = (.bool r : Value) ∧ R r w1) ?_).mono ?_
  · rw [← den_token_Plain]
    have e : (fun r w1 => ∃ (r' : Bool), (.bool r : Value) = (.bool r' : Value) ∧ R r' w1) = R := by
      funext r w1
      exact propext ⟨fun ⟨r', he, h⟩ => by first | (simp at he; simp_all) | (cases he; exact h), fun h => ⟨_, rfl, h⟩⟩
    simpa only [e] using h
  · rintro en w1 ⟨v, he, r, rfl, h⟩
    exact ⟨_, he, h⟩

end Go.Proofs.YtggbmakfifllnaaDoor
