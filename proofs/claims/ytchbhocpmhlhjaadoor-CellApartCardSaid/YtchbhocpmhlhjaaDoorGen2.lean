/- The formulas of this seat's functions, held against the loaded program by the kernel. Printed by a program. -/
import Derived.Test.YtchbhocpmhlhjaaDoorGenC
set_option maxRecDepth 100000
set_option linter.unusedVariables false
namespace Go.Proofs.YtchbhocpmhlhjaaDoor
open Go Go.D Go.Proofs

structure S_ref01_number_L1 where
  n : Int
  i : Int

def F_ref01_number_k1 (Kr : Int → Bool → World → Prop) (w1_1 : World) : Prop :=
  Kr (0 : Int) false w1_1

def F_ref01_number_k2 (R : Int → Bool → World → Prop) (n_3 : Int) (w1_6 : World) : Prop :=
  R n_3 false w1_6

def F_ref01_number_k3 (sx : ByteArray) (R : Int → Bool → World → Prop) (n_3 : Int) (w1_4 : World) : Prop :=
  C_ref01_Digits n_3 w1_4 fun t63 w1_5 =>
  If (t63.toList == sx.toList)
  (If (decide (n_3 ≥ (-1152921504606846976)))
  (R n_3 (decide (n_3 ≤ (1152921504606846975 : Int))) w1_5)
  (F_ref01_number_k2 R n_3 w1_5))
  (F_ref01_number_k2 R n_3 w1_5)

def F_ref01_number_k5 (R : Int → Bool → World → Prop) (n_5 : Int) (w1_11 : World) : Prop :=
  R n_5 false w1_11

def F_ref01_number_k6 (sx : ByteArray) (R : Int → Bool → World → Prop) (n_5 : Int) (w1_9 : World) : Prop :=
  C_ref01_Digits n_5 w1_9 fun t63_1 w1_10 =>
  If (t63_1.toList == sx.toList)
  (If (decide (n_5 ≥ (-1152921504606846976)))
  (R n_5 (decide (n_5 ≤ (1152921504606846975 : Int))) w1_10)
  (F_ref01_number_k5 R n_5 w1_10))
  (F_ref01_number_k5 R n_5 w1_10)

/-- One round. -/
def B_ref01_number_L1 (sx_1 : ByteArray) (neg : Bool) (d_1 : ByteArray) (s : S_ref01_number_L1) (w : World) (Kn : S_ref01_number_L1 → World → Prop) (Kx0 : Int → World → Prop) (Kr : Int → Bool → World → Prop) : Prop :=
  If (decide ((s.i : Int) < (d_1.size : Int)))
  (If (decide ((s.i : Int) < (20 : Int)))
  (0 ≤ (s.i : Int) ∧ ∃ b_1 : UInt8, d_1[(s.i : Int).toNat]? = some b_1 ∧
  If (decide ((b_1.toNat : Int) < (48 : Int)))
  (F_ref01_number_k1 Kr w)
  (0 ≤ (s.i : Int) ∧ ∃ b_2 : UInt8, d_1[(s.i : Int).toNat]? = some b_2 ∧
  If (decide ((b_2.toNat : Int) > (57 : Int)))
  (F_ref01_number_k1 Kr w)
  (If (decide ((s.n : Int) > (1152921504606846976 : Int)))
  (Kr (0 : Int) false w)
  (0 ≤ (s.i : Int) ∧ ∃ b_3 : UInt8, d_1[(s.i : Int).toNat]? = some b_3 ∧
  If (decide ((IntKind.i64.wrap ((IntKind.i64.wrap ((10 : Int) * (s.n : Int))) + (IntKind.i64.wrap (IntKind.u8.wrap ((b_3.toNat : Int) - (48 : Int)))))) < (0 : Int)))
  (Kr (0 : Int) false w)
  (If (decide ((IntKind.i64.wrap ((IntKind.i64.wrap ((10 : Int) * (s.n : Int))) + (IntKind.i64.wrap (IntKind.u8.wrap ((b_3.toNat : Int) - (48 : Int)))))) > (1152921504606846976 : Int)))
  (Kr (0 : Int) false w)
  (Kn ⟨(IntKind.i64.wrap ((IntKind.i64.wrap ((10 : Int) * (s.n : Int))) + (IntKind.i64.wrap (IntKind.u8.wrap ((b_3.toNat : Int) - (48 : Int)))))), (IntKind.i64.wrap ((s.i : Int) + (1 : Int)))⟩ w))))))
  (Kx0 (s.n : Int) w))
  (Kx0 (s.n : Int) w)

def F_ref01_number_L1 (sx_1 : ByteArray) (neg : Bool) (d_1 : ByteArray) (s : S_ref01_number_L1) (w : World) (Kx0 : Int → World → Prop) (Kr : Int → Bool → World → Prop) : Prop :=
  LoopS (fun s w Kn => B_ref01_number_L1 sx_1 neg d_1 s w Kn Kx0 Kr) s w

def F_ref01_number_k4 (sx : ByteArray) (R : Int → Bool → World → Prop) (b : UInt8) (d : ByteArray) (w1 : World) : Prop :=
  F_ref01_number_L1 sx ((b.toNat : Int) == (45 : Int)) d ⟨(0 : Int), (0 : Int)⟩ w1
  (fun n_2 w1_2 =>
  If ((b.toNat : Int) == (45 : Int))
  (F_ref01_number_k3 sx R (IntKind.i64.wrap (0 - n_2)) w1_2)
  (F_ref01_number_k3 sx R n_2 w1_2))
  (fun t2_1 t3_1 w1_3 =>
  R t2_1 t3_1 w1_3)

def F_ref01_number (sx : ByteArray) (w : World) (R : Int → Bool → World → Prop) : Prop :=
  If (decide ((sx.size : Int) > (0 : Int)))
  (0 ≤ (0 : Int) ∧ ∃ b : UInt8, sx[(0 : Int).toNat]? = some b ∧
  If ((b.toNat : Int) == (45 : Int))
  (0 ≤ (1 : Int) ∧ (1 : Int) ≤ (sx.size : Int) ∧
  F_ref01_number_k4 sx R b (sx.extract (1 : Int).toNat sx.size) w)
  (F_ref01_number_k4 sx R b sx w))
  (F_ref01_number_L1 sx false sx ⟨(0 : Int), (0 : Int)⟩ w
  (fun n_4 w1_7 =>
  If false
  (F_ref01_number_k6 sx R (IntKind.i64.wrap (0 - n_4)) w1_7)
  (F_ref01_number_k6 sx R n_4 w1_7))
  (fun t2_2 t3_2 w1_8 =>
  R t2_2 t3_2 w1_8))

def lit_ref01_number_L1 (f : ByteArray × Bool × ByteArray) (s : S_ref01_number_L1) : Env := [⟨0, .string f.1, none⟩, ⟨4, .bool f.2.1, none⟩, ⟨5, .string f.2.2, none⟩, ⟨6, .int .i64 s.n, none⟩, ⟨7, .int .i64 s.i, none⟩]

def dec_ref01_number_L1 (e : Env) (K : (ByteArray × Bool × ByteArray) → S_ref01_number_L1 → Prop) : Prop :=
  onV (getV e 0) fun u1 =>
  asT u1 fun sx_1 =>
  onV (getV e 4) fun u2 =>
  asB u2 fun neg =>
  onV (getV e 5) fun u3 =>
  asT u3 fun d_1 =>
  onV (getV e 6) fun u4 =>
  asI .i64 u4 fun n =>
  onV (getV e 7) fun u5 =>
  asI .i64 u5 fun i =>
    K (sx_1, neg, d_1) ⟨n, i⟩

theorem dec_ref01_number_L1_ok {N : Nat} (e : Env) (a : Act) (K : (ByteArray × Bool × ByteArray) → S_ref01_number_L1 → Prop) (hr : Rep N a e) (h0 : dec_ref01_number_L1 e K) : ∃ f s, K f s ∧ Rep N a (lit_ref01_number_L1 f s) := by
  unfold dec_ref01_number_L1 at h0
  obtain ⟨u1, g0, h1⟩ := onV_elim h0
  obtain ⟨sx_1, rfl, h2⟩ := asT_elim h1
  obtain ⟨u2, g4, h3⟩ := onV_elim h2
  obtain ⟨neg, rfl, h4⟩ := asB_elim h3
  obtain ⟨u3, g5, h5⟩ := onV_elim h4
  obtain ⟨d_1, rfl, h6⟩ := asT_elim h5
  obtain ⟨u4, g6, h7⟩ := onV_elim h6
  obtain ⟨n, rfl, h8⟩ := asI_elim h7
  obtain ⟨u5, g7, h9⟩ := onV_elim h8
  obtain ⟨i, rfl, h10⟩ := asI_elim h9
  exact ⟨_, _, h10, rep_less hr (by simp [lit_ref01_number_L1, g0, g4, g5, g6, g7])⟩

def spec_ref01_number_L1 (Q : Post) (e : Env) (w : World) : Prop :=
  dec_ref01_number_L1 e fun f s => F_ref01_number_L1 f.1 f.2.1 f.2.2 s w (fun n_1 w1 => Q (.exit 0) [⟨0, .string f.1, none⟩, ⟨4, .bool f.2.1, none⟩, ⟨6, .int .i64 n_1, none⟩] w1) (fun t2 t3 w1 => Q .ret [⟨2, .int .i64 t2, none⟩, ⟨3, .bool t3, none⟩] w1)

def G_ref01_number : Gen where
  loop := lookL [([false, true, false, true, true, true, true, true], spec_ref01_number_L1)]
  plan := fun _ => none

def dx_ref01_number_L1_0 (e : Env) (K : (ByteArray × Bool × ByteArray) → Int → Prop) : Prop :=
  onV (getV e 0) fun u1 =>
  asT u1 fun sx_1 =>
  onV (getV e 4) fun u2 =>
  asB u2 fun neg =>
  onV (getV e 5) fun u3 =>
  asT u3 fun d_1 =>
  onV (getV e 6) fun u4 =>
  asI .i64 u4 fun n_1 =>
    K (sx_1, neg, d_1) n_1

def dx_ref01_number_L1_ret (e : Env) (K : (ByteArray × Bool × ByteArray) → Int → Bool → Prop) : Prop :=
  onV (getV e 0) fun u1 =>
  asT u1 fun sx_1 =>
  onV (getV e 4) fun u2 =>
  asB u2 fun neg =>
  onV (getV e 5) fun u3 =>
  asT u3 fun d_1 =>
  onV (getV e 2) fun u4 =>
  asI .i64 u4 fun t2 =>
  onV (getV e 3) fun u5 =>
  asB u5 fun t3 =>
    K (sx_1, neg, d_1) t2 t3

theorem body_ref01_number_L1 (f : ByteArray × Bool × ByteArray) (s : S_ref01_number_L1) (w : World) (Kn : (ByteArray × Bool × ByteArray) → S_ref01_number_L1 → World → Prop) (Kx0 : (ByteArray × Bool × ByteArray) → Int → World → Prop) (Kr : (ByteArray × Bool × ByteArray) → Int → Bool → World → Prop) :
    B_ref01_number_L1 f.1 f.2.1 f.2.2 s w (fun s1 w1 => Kn f s1 w1) (fun n_1 w1 => Kx0 f n_1 w1) (fun t2 t3 w1 => Kr f t2 t3 w1) =
    den Tryd.prog Tryd.f29.ntmps G_ref01_number (sub (codeOf Tryd.f29) [false, false, true, false, true, true, true, true, true]) [false, false, true, false, true, true, true, true, true] (roundQ (fun e w => dec_ref01_number_L1 e fun f s => Kn f s w) (fun e w => dx_ref01_number_L1_ret e fun f t2 t3 => Kr f t2 t3 w) (fun id e w => match Nat.beq id 0 with | true => dx_ref01_number_L1_0 e fun f n_1 => Kx0 f n_1 w | false => False)) (lit_ref01_number_L1 f s) w := by kernel_rfl

theorem ok_ref01_number_L1 : OneOk Tryd.prog Tryd.f29.ntmps G_ref01_number (codeOf Tryd.f29) [false, true, false, true, true, true, true, true] spec_ref01_number_L1 := by
  intro c hc ih Q e w a hr h
  have hcc : sub (codeOf Tryd.f29) [false, false, true, false, true, true, true, true, true] = c := sub_of_codeAt hc
  obtain ⟨f, s, h, hrep⟩ := dec_ref01_number_L1_ok e a _ hr h
  obtain ⟨J, μ, hj, hround⟩ := h
  refine loop_rule_deep seat_ok seat_mixed ih lit_ref01_number_L1 dec_ref01_number_L1 dec_ref01_number_L1_ok hc f J μ (Kr := fun e w => dx_ref01_number_L1_ret e fun f1 t2 t3 => f1 = f ∧ Q .ret [⟨2, .int .i64 t2, none⟩, ⟨3, .bool t3, none⟩] w) (Kx := fun id e w => match Nat.beq id 0 with | true => (dx_ref01_number_L1_0 e fun f1 n_1 => f1 = f ∧ Q (.exit 0) [⟨0, .string f.1, none⟩, ⟨4, .bool f.2.1, none⟩, ⟨6, .int .i64 n_1, none⟩] w) | false => False) ?_ ?_ ?_ s w a hj hrep
  · intro e a w hr h0
    unfold dx_ref01_number_L1_ret at h0
    obtain ⟨u1, g0, h1⟩ := onV_elim h0
    obtain ⟨sx_1, rfl, h2⟩ := asT_elim h1
    obtain ⟨u2, g4, h3⟩ := onV_elim h2
    obtain ⟨neg, rfl, h4⟩ := asB_elim h3
    obtain ⟨u3, g5, h5⟩ := onV_elim h4
    obtain ⟨d_1, rfl, h6⟩ := asT_elim h5
    obtain ⟨u4, g2, h7⟩ := onV_elim h6
    obtain ⟨t2, rfl, h8⟩ := asI_elim h7
    obtain ⟨u5, g3, h9⟩ := onV_elim h8
    obtain ⟨t3, rfl, h10⟩ := asB_elim h9
    obtain ⟨hf, hq⟩ := h10
    subst hf
    exact ⟨_, rep_less hr (by simp [g2, g3]), hq⟩
  · intro id e a w hr h0
    (try dsimp only at h0)
    split at h0
    · rename_i hid
      obtain rfl := Nat.eq_of_beq_eq_true hid
      unfold dx_ref01_number_L1_0 at h0
      obtain ⟨u1, g0, h1⟩ := onV_elim h0
      obtain ⟨sx_1, rfl, h2⟩ := asT_elim h1
      obtain ⟨u2, g4, h3⟩ := onV_elim h2
      obtain ⟨neg, rfl, h4⟩ := asB_elim h3
      obtain ⟨u3, g5, h5⟩ := onV_elim h4
      obtain ⟨d_1, rfl, h6⟩ := asT_elim h5
      obtain ⟨u4, g6, h7⟩ := onV_elim h6
      obtain ⟨n_1, rfl, h8⟩ := asI_elim h7
      obtain ⟨hf, hq⟩ := h8
      subst hf
      exact ⟨_, rep_less hr (by simp [g0, g4, g6]), hq⟩
    · exact h0.elim
  · intro s w hj
    have hb := hround s w hj
    rw [← hcc]
    have e1 := body_ref01_number_L1 f s w (fun f1 s1 w1 => f1 = f ∧ J s1 w1 ∧ μ s1 w1 < μ s w) (fun f1 n_1 w1 => f1 = f ∧ Q (.exit 0) [⟨0, .string f.1, none⟩, ⟨4, .bool f.2.1, none⟩, ⟨6, .int .i64 n_1, none⟩] w1) (fun f1 t2 t3 w1 => f1 = f ∧ Q .ret [⟨2, .int .i64 t2, none⟩, ⟨3, .bool t3, none⟩] w1)
    simp only [true_and] at e1
    exact cast e1 hb

theorem loops_ref01_number : LoopOk Tryd.prog Tryd.f29.ntmps G_ref01_number (codeOf Tryd.f29) := loopOk_list rfl ⟨ok_ref01_number_L1, trivial⟩

theorem den_ref01_number (sx : ByteArray) (w : World) (R : Value → World → Prop) :
    F_ref01_number sx w (fun r0 r1 w1 => R (.tuple #[.int .i64 r0, .bool r1]) w1) = den Tryd.prog Tryd.f29.ntmps G_ref01_number (codeOf Tryd.f29) [] (postD Tryd.prog Tryd.f29.results.toList R) (entry [.string sx] 0) w := by kernel_rfl

theorem C_ref01_number.of {sx : ByteArray} {w : World} {R : Int → Bool → World → Prop} (h : F_ref01_number sx w R) : C_ref01_number sx w R := by
  refine (calls_of_den (c := codeOf Tryd.f29) seat_ok seat_mixed Tryd.func29 (by kernel_rfl) loops_ref01_number (args := [.string sx]) rfl (R := fun v w1 => ∃ (r0 : Int) (r1 : Bool), v = (.tuple #[.int .i64 r0, .bool r1] : Value) ∧ R r0 r1 w1) ?_).mono ?_
  · rw [← den_ref01_number]
    have e : (fun r0 r1 w1 => ∃ (r0' : Int) (r1' : Bool), (.tuple #[.int .i64 r0, .bool r1] : Value) = (.tuple #[.int .i64 r0', .bool r1'] : Value) ∧ R r0' r1' w1) = R := by
      funext r0 r1 w1
      exact propext ⟨fun ⟨r0', r1', he, h⟩ => by simp at he; simp_all, fun h => ⟨_, _, rfl, h⟩⟩
    simpa only [e] using h
  · rintro en w1 ⟨v, he, r0, r1, rfl, h⟩
    exact ⟨_, _, he, h⟩

def F_internal_stringslite_Cut (sx : ByteArray) (sep : ByteArray) (w : World) (R : ByteArray → ByteArray → Bool → World → Prop) : Prop :=
  C_internal_stringslite_Index sx sep w fun t10 w1 =>
  If (decide (t10 ≥ (0 : Int)))
  (0 ≤ t10 ∧ t10 ≤ (sx.size : Int) ∧
  0 ≤ (IntKind.i64.wrap (t10 + (sep.size : Int))) ∧ (IntKind.i64.wrap (t10 + (sep.size : Int))) ≤ (sx.size : Int) ∧
  R (sx.extract 0 t10.toNat) (sx.extract (IntKind.i64.wrap (t10 + (sep.size : Int))).toNat sx.size) true (drw w1))
  (R sx ⟨#[]⟩ false w1)

def G_internal_stringslite_Cut : Gen where
  loop := lookL []
  plan := fun id =>
    bif Nat.beq id 3 then some ([0, 0, 3, 0, 0, 0, 32, 112, 248, 7, 1023, 2047], .take 0 (.take 1 (.take 2 (.take 3 (.take 4 (.take 5 (.take 6 (.take 7 (.take 8 (.take 9 (.take 10 (.take 11 .done)))))))))))) else none

theorem loops_internal_stringslite_Cut : LoopOk Tryd.prog Tryd.f31.ntmps G_internal_stringslite_Cut (codeOf Tryd.f31) := loopOk_none fun _ => rfl

theorem den_internal_stringslite_Cut (sx : ByteArray) (sep : ByteArray) (w : World) (R : Value → World → Prop) :
    F_internal_stringslite_Cut sx sep w (fun r0 r1 r2 w1 => R (.tuple #[.string r0, .string r1, .bool r2]) w1) = den Tryd.prog Tryd.f31.ntmps G_internal_stringslite_Cut (codeOf Tryd.f31) [] (postD Tryd.prog Tryd.f31.results.toList R) (entry [.string sx, .string sep] 0) w := by kernel_rfl

theorem C_internal_stringslite_Cut.of {sx : ByteArray} {sep : ByteArray} {w : World} {R : ByteArray → ByteArray → Bool → World → Prop} (h : F_internal_stringslite_Cut sx sep w R) : C_internal_stringslite_Cut sx sep w R := by
  refine (calls_of_den (c := codeOf Tryd.f31) seat_ok seat_mixed Tryd.func31 (by kernel_rfl) loops_internal_stringslite_Cut (args := [.string sx, .string sep]) rfl (R := fun v w1 => ∃ (r0 : ByteArray) (r1 : ByteArray) (r2 : Bool), v = (.tuple #[.string r0, .string r1, .bool r2] : Value) ∧ R r0 r1 r2 w1) ?_).mono ?_
  · rw [← den_internal_stringslite_Cut]
    have e : (fun r0 r1 r2 w1 => ∃ (r0' : ByteArray) (r1' : ByteArray) (r2' : Bool), (.tuple #[.string r0, .string r1, .bool r2] : Value) = (.tuple #[.string r0', .string r1', .bool r2'] : Value) ∧ R r0' r1' r2' w1) = R := by
      funext r0 r1 r2 w1
      exact propext ⟨fun ⟨r0', r1', r2', he, h⟩ => by simp at he; simp_all, fun h => ⟨_, _, _, rfl, h⟩⟩
    simpa only [e] using h
  · rintro en w1 ⟨v, he, r0, r1, r2, rfl, h⟩
    exact ⟨_, _, _, he, h⟩

end Go.Proofs.YtchbhocpmhlhjaaDoor
