/- The formulas of this seat's functions, held against the loaded program by the kernel. Printed by a program. -/
import Derived.Test.YtggbmakfifllnaaDoorGenC
set_option maxRecDepth 100000
set_option linter.unusedVariables false
namespace Go.Proofs.YtggbmakfifllnaaDoor
open Go Go.D Go.Proofs

def F_strings_Builder_WriteByte (b : Option Addr) (cx : Int) (w : World) (R : Value → World → Prop) : Prop :=
  C_strings_Builder_copyCheck b w fun w1 =>
  NN b fun a =>
  ∃ bufP : Option Addr, ∃ bufN : Nat, ∃ bufC : Nat, w1.cell? (a.add 1) = some (.slice bufP bufN bufC) ∧
  BSl Tryd.prog 28 1 [(0, .int .u8 cx)] w1 fun t13P t13N t13C w1_1 =>
  App Tryd.prog #[28, 28] 28 #[.slice bufP bufN bufC, .slice t13P t13N t13C] w1_1 fun t14P t14N t14C w1_2 =>
  NN b fun a_1 =>
  St w1_2 ((a_1.add 1).add 0) (.slice t14P t14N t14C) fun w1_3 =>
  R .nilIface w1_3

def G_strings_Builder_WriteByte : Gen where
  loop := lookL []
  plan := fun _ => none

theorem loops_strings_Builder_WriteByte : LoopOk Tryd.prog Tryd.f49.ntmps G_strings_Builder_WriteByte (codeOf Tryd.f49) := loopOk_none fun _ => rfl

theorem den_strings_Builder_WriteByte (b : Option Addr) (cx : Int) (w : World) (R : Value → World → Prop) :
    F_strings_Builder_WriteByte b cx w (fun r w1 => R (r) w1) = den Tryd.prog Tryd.f49.ntmps G_strings_Builder_WriteByte (codeOf Tryd.f49) [] (postD Tryd.prog Tryd.f49.results.toList R) (entry [.pointer b, .int .u8 cx] 0) w := by kernel_rfl

theorem C_strings_Builder_WriteByte.of {b : Option Addr} {cx : Int} {w : World} {R : Value → World → Prop} (h : F_strings_Builder_WriteByte b cx w R) : C_strings_Builder_WriteByte b cx w R := by
  refine (calls_of_den (c := codeOf Tryd.f49) seat_ok seat_mixed Tryd.func49 (by kernel_rfl) loops_strings_Builder_WriteByte (args := [.pointer b, .int .u8 cx]) rfl (R := fun v w1 => ∃ (r : Value), v = (r : Value) ∧ R r w1) ?_).mono ?_
  · rw [← den_strings_Builder_WriteByte]
    have e : (fun r w1 => ∃ (r' : Value), (r : Value) = (r' : Value) ∧ R r' w1) = R := by
      funext r w1
      exact propext ⟨fun ⟨r', he, h⟩ => by first | (simp at he; simp_all) | (cases he; exact h), fun h => ⟨_, rfl, h⟩⟩
    simpa only [e] using h
  · rintro en w1 ⟨v, he, r, rfl, h⟩
    exact ⟨_, he, h⟩

def F_token_sign (cx : Int) (w : World) (R : ByteArray → World → Prop) : Prop :=
  If (cx == (10 : Int))
  (R ⟨#[92, 110]⟩ w)
  (If (cx == (9 : Int))
  (R ⟨#[92, 116]⟩ w)
  (If (cx == (39 : Int))
  (BSl Tryd.prog 28 1 [(0, .int .u8 cx)] w fun t17P t17N t17C w1 =>
  Run Tryd.prog (convert 28 9 (.slice t17P t17N t17C)) w1 fun v w1_1 => ∃ t18 : ByteArray, v = (.string t18) ∧
  (((⟨#[92]⟩ : ByteArray).size + t18.size : Nat) : Int) ≤ IntKind.i64.max ∧
  R ((⟨#[92]⟩ : ByteArray) ++ t18) w1_1)
  (If (cx == (92 : Int))
  (BSl Tryd.prog 28 1 [(0, .int .u8 cx)] w fun t17P_1 t17N_1 t17C_1 w1_2 =>
  Run Tryd.prog (convert 28 9 (.slice t17P_1 t17N_1 t17C_1)) w1_2 fun v_1 w1_3 => ∃ t18_1 : ByteArray, v_1 = (.string t18_1) ∧
  (((⟨#[92]⟩ : ByteArray).size + t18_1.size : Nat) : Int) ≤ IntKind.i64.max ∧
  R ((⟨#[92]⟩ : ByteArray) ++ t18_1) w1_3)
  (If (decide (cx < (32 : Int)))
  (C_strconv_FormatUint (IntKind.u64.wrap cx) (16 : Int) w fun t29 w1_4 =>
  (((⟨#[92, 120]⟩ : ByteArray).size + t29.size : Nat) : Int) ≤ IntKind.i64.max ∧
  ((((⟨#[92, 120]⟩ : ByteArray) ++ t29).size + (⟨#[92]⟩ : ByteArray).size : Nat) : Int) ≤ IntKind.i64.max ∧
  R (((⟨#[92, 120]⟩ : ByteArray) ++ t29) ++ (⟨#[92]⟩ : ByteArray)) w1_4)
  (If (cx == (127 : Int))
  (C_strconv_FormatUint (IntKind.u64.wrap cx) (16 : Int) w fun t29_1 w1_5 =>
  (((⟨#[92, 120]⟩ : ByteArray).size + t29_1.size : Nat) : Int) ≤ IntKind.i64.max ∧
  ((((⟨#[92, 120]⟩ : ByteArray) ++ t29_1).size + (⟨#[92]⟩ : ByteArray).size : Nat) : Int) ≤ IntKind.i64.max ∧
  R (((⟨#[92, 120]⟩ : ByteArray) ++ t29_1) ++ (⟨#[92]⟩ : ByteArray)) w1_5)
  (BSl Tryd.prog 28 1 [(0, .int .u8 cx)] w fun t33P t33N t33C w1_6 =>
  Run Tryd.prog (convert 28 9 (.slice t33P t33N t33C)) w1_6 fun v_2 w1_7 => ∃ t34 : ByteArray, v_2 = (.string t34) ∧
  R t34 w1_7))))))

def G_token_sign : Gen where
  loop := lookL []
  plan := fun _ => none

theorem loops_token_sign : LoopOk Tryd.prog Tryd.f50.ntmps G_token_sign (codeOf Tryd.f50) := loopOk_none fun _ => rfl

theorem den_token_sign (cx : Int) (w : World) (R : Value → World → Prop) :
    F_token_sign cx w (fun r w1 => R (.string r) w1) = den Tryd.prog Tryd.f50.ntmps G_token_sign (codeOf Tryd.f50) [] (postD Tryd.prog Tryd.f50.results.toList R) (entry [.int .u8 cx] 0) w := by kernel_rfl

theorem C_token_sign.of {cx : Int} {w : World} {R : ByteArray → World → Prop} (h : F_token_sign cx w R) : C_token_sign cx w R := by
  refine (calls_of_den (c := codeOf Tryd.f50) seat_ok seat_mixed Tryd.func50 (by kernel_rfl) loops_token_sign (args := [.int .u8 cx]) rfl (R := fun v w1 => ∃ (r : ByteArray), v = (.string r : Value) ∧ R r w1) ?_).mono ?_
  · rw [← den_token_sign]
    have e : (fun r w1 => ∃ (r' : ByteArray), (.string r : Value) = (.string r' : Value) ∧ R r' w1) = R := by
      funext r w1
      exact propext ⟨fun ⟨r', he, h⟩ => by first | (simp at he; simp_all) | (cases he; exact h), fun h => ⟨_, rfl, h⟩⟩
    simpa only [e] using h
  · rintro en w1 ⟨v, he, r, rfl, h⟩
    exact ⟨_, he, h⟩

def F_ref08_small (cx : Int) (w : World) (R : Bool → World → Prop) : Prop :=
  If (decide (cx ≥ (97 : Int)))
  (R (decide (cx ≤ (122 : Int))) w)
  (R false w)

def G_ref08_small : Gen where
  loop := lookL []
  plan := fun _ => none

theorem loops_ref08_small : LoopOk Tryd.prog Tryd.f51.ntmps G_ref08_small (codeOf Tryd.f51) := loopOk_none fun _ => rfl

theorem den_ref08_small (cx : Int) (w : World) (R : Value → World → Prop) :
    F_ref08_small cx w (fun r w1 => R (.bool r) w1) = den Tryd.prog Tryd.f51.ntmps G_ref08_small (codeOf Tryd.f51) [] (postD Tryd.prog Tryd.f51.results.toList R) (entry [.int .u8 cx] 0) w := by kernel_rfl

theorem C_ref08_small.of {cx : Int} {w : World} {R : Bool → World → Prop} (h : F_ref08_small cx w R) : C_ref08_small cx w R := by
  refine (calls_of_den (c := codeOf Tryd.f51) seat_ok seat_mixed Tryd.func51 (by kernel_rfl) loops_ref08_small (args := [.int .u8 cx]) rfl (R := fun v w1 => ∃ (r : Bool), v = (.bool r : Value) ∧ R r w1) ?_).mono ?_
  · rw [← den_ref08_small]
    have e : (fun r w1 => ∃ (r' : Bool), (.bool r : Value) = (.bool r' : Value) ∧ R r' w1) = R := by
      funext r w1
      exact propext ⟨fun ⟨r', he, h⟩ => by first | (simp at he; simp_all) | (cases he; exact h), fun h => ⟨_, rfl, h⟩⟩
    simpa only [e] using h
  · rintro en w1 ⟨v, he, r, rfl, h⟩
    exact ⟨_, he, h⟩

def F_ref08_word_k1 (R : Bool → World → Prop) (w1_1 : World) : Prop :=
  R true w1_1

def F_ref08_word_k2 (cx : Int) (R : Bool → World → Prop) (w1_2 : World) : Prop :=
  R (cx == (95 : Int)) w1_2

def F_ref08_word (cx : Int) (w : World) (R : Bool → World → Prop) : Prop :=
  C_ref08_small cx w fun t4 w1 =>
  If t4
  (F_ref08_word_k1 R w1)
  (If (decide (cx ≥ (65 : Int)))
  (If (decide (cx ≤ (90 : Int)))
  (F_ref08_word_k1 R w1)
  (If (decide (cx ≥ (48 : Int)))
  (If (decide (cx ≤ (57 : Int)))
  (F_ref08_word_k1 R w1)
  (F_ref08_word_k2 cx R w1))
  (F_ref08_word_k2 cx R w1)))
  (If (decide (cx ≥ (48 : Int)))
  (If (decide (cx ≤ (57 : Int)))
  (F_ref08_word_k1 R w1)
  (F_ref08_word_k2 cx R w1))
  (F_ref08_word_k2 cx R w1)))

def G_ref08_word : Gen where
  loop := lookL []
  plan := fun _ => none

theorem loops_ref08_word : LoopOk Tryd.prog Tryd.f52.ntmps G_ref08_word (codeOf Tryd.f52) := loopOk_none fun _ => rfl

theorem den_ref08_word (cx : Int) (w : World) (R : Value → World → Prop) :
    F_ref08_word cx w (fun r w1 => R (.bool r) w1) = den Tryd.prog Tryd.f52.ntmps G_ref08_word (codeOf Tryd.f52) [] (postD Tryd.prog Tryd.f52.results.toList R) (entry [.int .u8 cx] 0) w := by kernel_rfl

theorem C_ref08_word.of {cx : Int} {w : World} {R : Bool → World → Prop} (h : F_ref08_word cx w R) : C_ref08_word cx w R := by
  refine (calls_of_den (c := codeOf Tryd.f52) seat_ok seat_mixed Tryd.func52 (by kernel_rfl) loops_ref08_word (args := [.int .u8 cx]) rfl (R := fun v w1 => ∃ (r : Bool), v = (.bool r : Value) ∧ R r w1) ?_).mono ?_
  · rw [← den_ref08_word]
    have e : (fun r w1 => ∃ (r' : Bool), (.bool r : Value) = (.bool r' : Value) ∧ R r' w1) = R := by
      funext r w1
      exact propext ⟨fun ⟨r', he, h⟩ => by first | (simp at he; simp_all) | (cases he; exact h), fun h => ⟨_, rfl, h⟩⟩
    simpa only [e] using h
  · rintro en w1 ⟨v, he, r, rfl, h⟩
    exact ⟨_, he, h⟩

structure S_ref08_sign_L1 where
  i : Int

/-- One round. -/
def B_ref08_sign_L1 (cx_1 : Int) (sx : ByteArray) (s : S_ref08_sign_L1) (w : World) (Kn : S_ref08_sign_L1 → World → Prop) (Kx0 : World → Prop) (Kr : Bool → World → Prop) : Prop :=
  If (decide ((s.i : Int) < (sx.size : Int)))
  (0 ≤ (s.i : Int) ∧ ∃ b : UInt8, sx[(s.i : Int).toNat]? = some b ∧
  If ((b.toNat : Int) == cx_1)
  (Kr true w)
  (Kn ⟨(IntKind.i64.wrap ((s.i : Int) + (1 : Int)))⟩ w))
  (Kx0 w)

def F_ref08_sign_L1 (cx_1 : Int) (sx : ByteArray) (s : S_ref08_sign_L1) (w : World) (Kx0 : World → Prop) (Kr : Bool → World → Prop) : Prop :=
  LoopS (fun s w Kn => B_ref08_sign_L1 cx_1 sx s w Kn Kx0 Kr) s w

def F_ref08_sign (cx : Int) (w : World) (R : Bool → World → Prop) : Prop :=
  F_ref08_sign_L1 cx ⟨#[43, 45, 42, 47, 92, 94, 60, 62, 61, 126, 58, 46, 63, 64, 35, 38, 36]⟩ ⟨(0 : Int)⟩ w
  (fun w1 =>
  R false w1)
  (fun t2_1 w1_1 =>
  R t2_1 w1_1)

def lit_ref08_sign_L1 (f : Int × ByteArray) (s : S_ref08_sign_L1) : Env := [⟨0, .int .u8 f.1, none⟩, ⟨3, .string f.2, none⟩, ⟨4, .int .i64 s.i, none⟩]

def dec_ref08_sign_L1 (e : Env) (K : (Int × ByteArray) → S_ref08_sign_L1 → Prop) : Prop :=
  onV (getV e 0) fun u1 =>
  asI .u8 u1 fun cx_1 =>
  onV (getV e 3) fun u2 =>
  asT u2 fun sx =>
  onV (getV e 4) fun u3 =>
  asI .i64 u3 fun i =>
    K (cx_1, sx) ⟨i⟩

theorem dec_ref08_sign_L1_ok {N : Nat} (e : Env) (a : Act) (K : (Int × ByteArray) → S_ref08_sign_L1 → Prop) (hr : Rep N a e) (h0 : dec_ref08_sign_L1 e K) : ∃ f s, K f s ∧ Rep N a (lit_ref08_sign_L1 f s) := by
  unfold dec_ref08_sign_L1 at h0
  obtain ⟨u1, g0, h1⟩ := onV_elim h0
  obtain ⟨cx_1, rfl, h2⟩ := asI_elim h1
  obtain ⟨u2, g3, h3⟩ := onV_elim h2
  obtain ⟨sx, rfl, h4⟩ := asT_elim h3
  obtain ⟨u3, g4, h5⟩ := onV_elim h4
  obtain ⟨i, rfl, h6⟩ := asI_elim h5
  exact ⟨_, _, h6, rep_less hr (by simp [lit_ref08_sign_L1, g0, g3, g4])⟩

def spec_ref08_sign_L1 (Q : Post) (e : Env) (w : World) : Prop :=
  dec_ref08_sign_L1 e fun f s => F_ref08_sign_L1 f.1 f.2 s w (fun w1 => Q (.exit 0) [] w1) (fun t2 w1 => Q .ret [⟨2, .bool t2, none⟩] w1)

def G_ref08_sign : Gen where
  loop := lookL [([false, true, false, true, true], spec_ref08_sign_L1)]
  plan := fun _ => none

def dx_ref08_sign_L1_0 (e : Env) (K : (Int × ByteArray) → Prop) : Prop :=
  onV (getV e 0) fun u1 =>
  asI .u8 u1 fun cx_1 =>
  onV (getV e 3) fun u2 =>
  asT u2 fun sx =>
    K (cx_1, sx)

def dx_ref08_sign_L1_ret (e : Env) (K : (Int × ByteArray) → Bool → Prop) : Prop :=
  onV (getV e 0) fun u1 =>
  asI .u8 u1 fun cx_1 =>
  onV (getV e 3) fun u2 =>
  asT u2 fun sx =>
  onV (getV e 2) fun u3 =>
  asB u3 fun t2 =>
    K (cx_1, sx) t2

theorem body_ref08_sign_L1 (f : Int × ByteArray) (s : S_ref08_sign_L1) (w : World) (Kn : (Int × ByteArray) → S_ref08_sign_L1 → World → Prop) (Kx0 : (Int × ByteArray) → World → Prop) (Kr : (Int × ByteArray) → Bool → World → Prop) :
    B_ref08_sign_L1 f.1 f.2 s w (fun s1 w1 => Kn f s1 w1) (fun w1 => Kx0 f w1) (fun t2 w1 => Kr f t2 w1) =
    den Tryd.prog Tryd.f53.ntmps G_ref08_sign (sub (codeOf Tryd.f53) [false, false, true, false, true, true]) [false, false, true, false, true, true] (roundQ (fun e w => dec_ref08_sign_L1 e fun f s => Kn f s w) (fun e w => dx_ref08_sign_L1_ret e fun f t2 => Kr f t2 w) (fun id e w => match Nat.beq id 0 with | true => dx_ref08_sign_L1_0 e fun f => Kx0 f w | false => False)) (lit_ref08_sign_L1 f s) w := by kernel_rfl

theorem ok_ref08_sign_L1 : OneOk Tryd.prog Tryd.f53.ntmps G_ref08_sign (codeOf Tryd.f53) [false, true, false, true, true] spec_ref08_sign_L1 := by
  intro c hc ih Q e w a hr h
  have hcc : sub (codeOf Tryd.f53) [false, false, true, false, true, true] = c := sub_of_codeAt hc
  obtain ⟨f, s, h, hrep⟩ := dec_ref08_sign_L1_ok e a _ hr h
  obtain ⟨J, μ, hj, hround⟩ := h
  refine loop_rule_deep seat_ok seat_mixed ih lit_ref08_sign_L1 dec_ref08_sign_L1 dec_ref08_sign_L1_ok hc f J μ (Kr := fun e w => dx_ref08_sign_L1_ret e fun f1 t2 => f1 = f ∧ Q .ret [⟨2, .bool t2, none⟩] w) (Kx := fun id e w => match Nat.beq id 0 with | true => (dx_ref08_sign_L1_0 e fun f1 => f1 = f ∧ Q (.exit 0) [] w) | false => False) ?_ ?_ ?_ s w a hj hrep
  · intro e a w hr h0
    unfold dx_ref08_sign_L1_ret at h0
    obtain ⟨u1, g0, h1⟩ := onV_elim h0
    obtain ⟨cx_1, rfl, h2⟩ := asI_elim h1
    obtain ⟨u2, g3, h3⟩ := onV_elim h2
    obtain ⟨sx, rfl, h4⟩ := asT_elim h3
    obtain ⟨u3, g2, h5⟩ := onV_elim h4
    obtain ⟨t2, rfl, h6⟩ := asB_elim h5
    obtain ⟨hf, hq⟩ := h6
    subst hf
    exact ⟨_, rep_less hr (by simp [g2]), hq⟩
  · intro id e a w hr h0
    (try dsimp only at h0)
    split at h0
    · rename_i hid
      obtain rfl := Nat.eq_of_beq_eq_true hid
      unfold dx_ref08_sign_L1_0 at h0
      obtain ⟨u1, g0, h1⟩ := onV_elim h0
      obtain ⟨cx_1, rfl, h2⟩ := asI_elim h1
      obtain ⟨u2, g3, h3⟩ := onV_elim h2
      obtain ⟨sx, rfl, h4⟩ := asT_elim h3
      obtain ⟨hf, hq⟩ := h4
      subst hf
      exact ⟨_, rep_less hr (by simp), hq⟩
    · exact h0.elim
  · intro s w hj
    have hb := hround s w hj
    rw [← hcc]
    have e1 := body_ref08_sign_L1 f s w (fun f1 s1 w1 => f1 = f ∧ J s1 w1 ∧ μ s1 w1 < μ s w) (fun f1 w1 => f1 = f ∧ Q (.exit 0) [] w1) (fun f1 t2 w1 => f1 = f ∧ Q .ret [⟨2, .bool t2, none⟩] w1)
    simp only [true_and] at e1
    exact cast e1 hb

theorem loops_ref08_sign : LoopOk Tryd.prog Tryd.f53.ntmps G_ref08_sign (codeOf Tryd.f53) := loopOk_list rfl ⟨ok_ref08_sign_L1, trivial⟩

theorem den_ref08_sign (cx : Int) (w : World) (R : Value → World → Prop) :
    F_ref08_sign cx w (fun r w1 => R (.bool r) w1) = den Tryd.prog Tryd.f53.ntmps G_ref08_sign (codeOf Tryd.f53) [] (postD Tryd.prog Tryd.f53.results.toList R) (entry [.int .u8 cx] 0) w := by kernel_rfl

theorem C_ref08_sign.of {cx : Int} {w : World} {R : Bool → World → Prop} (h : F_ref08_sign cx w R) : C_ref08_sign cx w R := by
  refine (calls_of_den (c := codeOf Tryd.f53) seat_ok seat_mixed Tryd.func53 (by kernel_rfl) loops_ref08_sign (args := [.int .u8 cx]) rfl (R := fun v w1 => ∃ (r : Bool), v = (.bool r : Value) ∧ R r w1) ?_).mono ?_
  · rw [← den_ref08_sign]
    have e : (fun r w1 => ∃ (r' : Bool), (.bool r : Value) = (.bool r' : Value) ∧ R r' w1) = R := by
      funext r w1
      exact propext ⟨fun ⟨r', he, h⟩ => by first | (simp at he; simp_all) | (cases he; exact h), fun h => ⟨_, rfl, h⟩⟩
    simpa only [e] using h
  · rintro en w1 ⟨v, he, r, rfl, h⟩
    exact ⟨_, he, h⟩

def F_strings_HasPrefix (sx : ByteArray) (prefixx : ByteArray) (w : World) (R : Bool → World → Prop) : Prop :=
  C_internal_stringslite_HasPrefix sx prefixx w fun t7 w1 =>
  R t7 w1

def G_strings_HasPrefix : Gen where
  loop := lookL []
  plan := fun _ => none

theorem loops_strings_HasPrefix : LoopOk Tryd.prog Tryd.f54.ntmps G_strings_HasPrefix (codeOf Tryd.f54) := loopOk_none fun _ => rfl

theorem den_strings_HasPrefix (sx : ByteArray) (prefixx : ByteArray) (w : World) (R : Value → World → Prop) :
    F_strings_HasPrefix sx prefixx w (fun r w1 => R (.bool r) w1) = den Tryd.prog Tryd.f54.ntmps G_strings_HasPrefix (codeOf Tryd.f54) [] (postD Tryd.prog Tryd.f54.results.toList R) (entry [.string sx, .string prefixx] 0) w := by kernel_rfl

theorem C_strings_HasPrefix.of {sx : ByteArray} {prefixx : ByteArray} {w : World} {R : Bool → World → Prop} (h : F_strings_HasPrefix sx prefixx w R) : C_strings_HasPrefix sx prefixx w R := by
  refine (calls_of_den (c := codeOf Tryd.f54) seat_ok seat_mixed Tryd.func54 (by kernel_rfl) loops_strings_HasPrefix (args := [.string sx, .string prefixx]) rfl (R := fun v w1 => ∃ (r : Bool), v = (.bool r : Value) ∧ R r w1) ?_).mono ?_
  · rw [← den_strings_HasPrefix]
    have e : (fun r w1 => ∃ (r' : Bool), (.bool r : Value) = (.bool r' : Value) ∧ R r' w1) = R := by
      funext r w1
      exact propext ⟨fun ⟨r', he, h⟩ => by first | (simp at he; simp_all) | (cases he; exact h), fun h => ⟨_, rfl, h⟩⟩
    simpa only [e] using h
  · rintro en w1 ⟨v, he, r, rfl, h⟩
    exact ⟨_, he, h⟩

def F_token_in (cx : Int) (of : ByteArray) (w : World) (R : Bool → World → Prop) : Prop :=
  C_strings_IndexByte of cx w fun t7 w1 =>
  R (decide (t7 ≥ (0 : Int))) w1

def G_token_in : Gen where
  loop := lookL []
  plan := fun _ => none

theorem loops_token_in : LoopOk Tryd.prog Tryd.f55.ntmps G_token_in (codeOf Tryd.f55) := loopOk_none fun _ => rfl

theorem den_token_in (cx : Int) (of : ByteArray) (w : World) (R : Value → World → Prop) :
    F_token_in cx of w (fun r w1 => R (.bool r) w1) = den Tryd.prog Tryd.f55.ntmps G_token_in (codeOf Tryd.f55) [] (postD Tryd.prog Tryd.f55.results.toList R) (entry [.int .u8 cx, .string of] 0) w := by kernel_rfl

theorem C_token_in.of {cx : Int} {of : ByteArray} {w : World} {R : Bool → World → Prop} (h : F_token_in cx of w R) : C_token_in cx of w R := by
  refine (calls_of_den (c := codeOf Tryd.f55) seat_ok seat_mixed Tryd.func55 (by kernel_rfl) loops_token_in (args := [.int .u8 cx, .string of]) rfl (R := fun v w1 => ∃ (r : Bool), v = (.bool r : Value) ∧ R r w1) ?_).mono ?_
  · rw [← den_token_in]
    have e : (fun r w1 => ∃ (r' : Bool), (.bool r : Value) = (.bool r' : Value) ∧ R r' w1) = R := by
      funext r w1
      exact propext ⟨fun ⟨r', he, h⟩ => by first | (simp at he; simp_all) | (cases he; exact h), fun h => ⟨_, rfl, h⟩⟩
    simpa only [e] using h
  · rintro en w1 ⟨v, he, r, rfl, h⟩
    exact ⟨_, he, h⟩

structure S_token_all_L1 where
  mk ::

/-- One round. -/
def B_token_all_L1 (of_1 : ByteArray) (t8_1 : Option Addr) (s : S_token_all_L1) (w : World) (Kn : S_token_all_L1 → World → Prop) (Kx0 : World → Prop) (Kr : Bool → World → Prop) : Prop :=
  Run Tryd.prog (Instr.next (.pointer t8_1) true 0) w fun v w1_1 =>
  (v = .tuple #[.bool false] ∧
  (If false
  (False)
  (Kx0 w1_1))) ∨
  (∃ kx : Int, ∃ vx : Int, v = (.tuple #[.bool true, .int .i64 kx, .int .i32 vx]) ∧
  (If true
  (If (decide (vx > (127 : Int)))
  (Kr false w1_1)
  (C_token_in (IntKind.u8.wrap vx) of_1 w1_1 fun t18 w1_2 =>
  If (!t18)
  (Kr false w1_2)
  (Kn ⟨⟩ w1_2)))
  (Kx0 w1_1)))

def F_token_all_L1 (of_1 : ByteArray) (t8_1 : Option Addr) (s : S_token_all_L1) (w : World) (Kx0 : World → Prop) (Kr : Bool → World → Prop) : Prop :=
  LoopS (fun s w Kn => B_token_all_L1 of_1 t8_1 s w Kn Kx0 Kr) s w

def F_token_all (namex : ByteArray) (of : ByteArray) (w : World) (R : Bool → World → Prop) : Prop :=
  Rng Tryd.prog 9 (.string namex) w fun t8 w1 =>
  F_token_all_L1 of t8 ⟨⟩ w1
  (fun w1_3 =>
  R true w1_3)
  (fun t4_1 w1_4 =>
  R t4_1 w1_4)

def lit_token_all_L1 (f : ByteArray × (Option Addr)) (s : S_token_all_L1) : Env := [⟨1, .string f.1, none⟩, ⟨8, .pointer f.2, none⟩]

def dec_token_all_L1 (e : Env) (K : (ByteArray × (Option Addr)) → S_token_all_L1 → Prop) : Prop :=
  onV (getV e 1) fun u1 =>
  asT u1 fun of_1 =>
  onV (getV e 8) fun u2 =>
  asP u2 fun t8_1 =>
    K (of_1, t8_1) ⟨⟩

theorem dec_token_all_L1_ok {N : Nat} (e : Env) (a : Act) (K : (ByteArray × (Option Addr)) → S_token_all_L1 → Prop) (hr : Rep N a e) (h0 : dec_token_all_L1 e K) : ∃ f s, K f s ∧ Rep N a (lit_token_all_L1 f s) := by
  unfold dec_token_all_L1 at h0
  obtain ⟨u1, g1, h1⟩ := onV_elim h0
  obtain ⟨of_1, rfl, h2⟩ := asT_elim h1
  obtain ⟨u2, g8, h3⟩ := onV_elim h2
  obtain ⟨t8_1, rfl, h4⟩ := asP_elim h3
  exact ⟨_, _, h4, rep_less hr (by simp [lit_token_all_L1, g1, g8])⟩

def spec_token_all_L1 (Q : Post) (e : Env) (w : World) : Prop :=
  dec_token_all_L1 e fun f s => F_token_all_L1 f.1 f.2 s w (fun w1 => Q (.exit 0) [] w1) (fun t4 w1 => Q .ret [⟨4, .bool t4, none⟩] w1)

def G_token_all : Gen where
  loop := lookL [([false, true, false, true], spec_token_all_L1)]
  plan := fun _ => none

def dx_token_all_L1_0 (e : Env) (K : (ByteArray × (Option Addr)) → Prop) : Prop :=
  onV (getV e 1) fun u1 =>
  asT u1 fun of_1 =>
  onV (getV e 8) fun u2 =>
  asP u2 fun t8_1 =>
    K (of_1, t8_1)

def dx_token_all_L1_ret (e : Env) (K : (ByteArray × (Option Addr)) → Bool → Prop) : Prop :=
  onV (getV e 1) fun u1 =>
  asT u1 fun of_1 =>
  onV (getV e 8) fun u2 =>
  asP u2 fun t8_1 =>
  onV (getV e 4) fun u3 =>
  asB u3 fun t4 =>
    K (of_1, t8_1) t4

theorem body_token_all_L1 (f : ByteArray × (Option Addr)) (s : S_token_all_L1) (w : World) (Kn : (ByteArray × (Option Addr)) → S_token_all_L1 → World → Prop) (Kx0 : (ByteArray × (Option Addr)) → World → Prop) (Kr : (ByteArray × (Option Addr)) → Bool → World → Prop) :
    B_token_all_L1 f.1 f.2 s w (fun s1 w1 => Kn f s1 w1) (fun w1 => Kx0 f w1) (fun t4 w1 => Kr f t4 w1) =
    den Tryd.prog Tryd.f56.ntmps G_token_all (sub (codeOf Tryd.f56) [false, false, true, false, true]) [false, false, true, false, true] (roundQ (fun e w => dec_token_all_L1 e fun f s => Kn f s w) (fun e w => dx_token_all_L1_ret e fun f t4 => Kr f t4 w) (fun id e w => match Nat.beq id 0 with | true => dx_token_all_L1_0 e fun f => Kx0 f w | false => False)) (lit_token_all_L1 f s) w := by kernel_rfl

theorem ok_token_all_L1 : OneOk Tryd.prog Tryd.f56.ntmps G_token_all (codeOf Tryd.f56) [false, true, false, true] spec_token_all_L1 := by
  intro c hc ih Q e w a hr h
  have hcc : sub (codeOf Tryd.f56) [false, false, true, false, true] = c := sub_of_codeAt hc
  obtain ⟨f, s, h, hrep⟩ := dec_token_all_L1_ok e a _ hr h
  obtain ⟨J, μ, hj, hround⟩ := h
  refine loop_rule_deep seat_ok seat_mixed ih lit_token_all_L1 dec_token_all_L1 dec_token_all_L1_ok hc f J μ (Kr := fun e w => dx_token_all_L1_ret e fun f1 t4 => f1 = f ∧ Q .ret [⟨4, .bool t4, none⟩] w) (Kx := fun id e w => match Nat.beq id 0 with | true => (dx_token_all_L1_0 e fun f1 => f1 = f ∧ Q (.exit 0) [] w) | false => False) ?_ ?_ ?_ s w a hj hrep
  · intro e a w hr h0
    unfold dx_token_all_L1_ret at h0
    obtain ⟨u1, g1, h1⟩ := onV_elim h0
    obtain ⟨of_1, rfl, h2⟩ := asT_elim h1
    obtain ⟨u2, g8, h3⟩ := onV_elim h2
    obtain ⟨t8_1, rfl, h4⟩ := asP_elim h3
    obtain ⟨u3, g4, h5⟩ := onV_elim h4
    obtain ⟨t4, rfl, h6⟩ := asB_elim h5
    obtain ⟨hf, hq⟩ := h6
    subst hf
    exact ⟨_, rep_less hr (by simp [g4]), hq⟩
  · intro id e a w hr h0
    (try dsimp only at h0)
    split at h0
    · rename_i hid
      obtain rfl := Nat.eq_of_beq_eq_true hid
      unfold dx_token_all_L1_0 at h0
      obtain ⟨u1, g1, h1⟩ := onV_elim h0
      obtain ⟨of_1, rfl, h2⟩ := asT_elim h1
      obtain ⟨u2, g8, h3⟩ := onV_elim h2
      obtain ⟨t8_1, rfl, h4⟩ := asP_elim h3
      obtain ⟨hf, hq⟩ := h4
      subst hf
      exact ⟨_, rep_less hr (by simp), hq⟩
    · exact h0.elim
  · intro s w hj
    have hb := hround s w hj
    rw [← hcc]
    have e1 := body_token_all_L1 f s w (fun f1 s1 w1 => f1 = f ∧ J s1 w1 ∧ μ s1 w1 < μ s w) (fun f1 w1 => f1 = f ∧ Q (.exit 0) [] w1) (fun f1 t4 w1 => f1 = f ∧ Q .ret [⟨4, .bool t4, none⟩] w1)
    simp only [true_and] at e1
    exact cast e1 hb

theorem loops_token_all : LoopOk Tryd.prog Tryd.f56.ntmps G_token_all (codeOf Tryd.f56) := loopOk_list rfl ⟨ok_token_all_L1, trivial⟩

theorem den_token_all (namex : ByteArray) (of : ByteArray) (w : World) (R : Value → World → Prop) :
    F_token_all namex of w (fun r w1 => R (.bool r) w1) = den Tryd.prog Tryd.f56.ntmps G_token_all (codeOf Tryd.f56) [] (postD Tryd.prog Tryd.f56.results.toList R) (entry [.string namex, .string of] 0) w := by kernel_rfl

theorem C_token_all.of {namex : ByteArray} {of : ByteArray} {w : World} {R : Bool → World → Prop} (h : F_token_all namex of w R) : C_token_all namex of w R := by
  refine (calls_of_den (c := codeOf Tryd.f56) seat_ok seat_mixed Tryd.func56 (by kernel_rfl) loops_token_all (args := [.string namex, .string of]) rfl (R := fun v w1 => ∃ (r : Bool), v = (.bool r : Value) ∧ R r w1) ?_).mono ?_
  · rw [← den_token_all]
    have e : (fun r w1 => ∃ (r' : Bool), (.bool r : Value) = (.bool r' : Value) ∧ R r' w1) = R := by
      funext r w1
      exact propext ⟨fun ⟨r', he, h⟩ => by first | (simp at he; simp_all) | (cases he; exact h), fun h => ⟨_, rfl, h⟩⟩
    simpa only [e] using h
  · rintro en w1 ⟨v, he, r, rfl, h⟩
    exact ⟨_, he, h⟩

def F_strconv_FormatUint (i : Int) (basex : Int) (w : World) (R : ByteArray → World → Prop) : Prop :=
  C_internal_strconv_FormatUint i basex w fun t7 w1 =>
  R t7 w1

def G_strconv_FormatUint : Gen where
  loop := lookL []
  plan := fun _ => none

theorem loops_strconv_FormatUint : LoopOk Tryd.prog Tryd.f57.ntmps G_strconv_FormatUint (codeOf Tryd.f57) := loopOk_none fun _ => rfl

theorem den_strconv_FormatUint (i : Int) (basex : Int) (w : World) (R : Value → World → Prop) :
    F_strconv_FormatUint i basex w (fun r w1 => R (.string r) w1) = den Tryd.prog Tryd.f57.ntmps G_strconv_FormatUint (codeOf Tryd.f57) [] (postD Tryd.prog Tryd.f57.results.toList R) (entry [.int .u64 i, .int .i64 basex] 0) w := by kernel_rfl

theorem C_strconv_FormatUint.of {i : Int} {basex : Int} {w : World} {R : ByteArray → World → Prop} (h : F_strconv_FormatUint i basex w R) : C_strconv_FormatUint i basex w R := by
  refine (calls_of_den (c := codeOf Tryd.f57) seat_ok seat_mixed Tryd.func57 (by kernel_rfl) loops_strconv_FormatUint (args := [.int .u64 i, .int .i64 basex]) rfl (R := fun v w1 => ∃ (r : ByteArray), v = (.string r : Value) ∧ R r w1) ?_).mono ?_
  · rw [← den_strconv_FormatUint]
    have e : (fun r w1 => ∃ (r' : ByteArray), (.string r : Value) = (.string r' : Value) ∧ R r' w1) = R := by
      funext r w1
      exact propext ⟨fun ⟨r', he, h⟩ => by first | (simp at he; simp_all) | (cases he; exact h), fun h => ⟨_, rfl, h⟩⟩
    simpa only [e] using h
  · rintro en w1 ⟨v, he, r, rfl, h⟩
    exact ⟨_, he, h⟩

def F_internal_stringslite_HasPrefix (sx : ByteArray) (prefixx : ByteArray) (w : World) (R : Bool → World → Prop) : Prop :=
  If (decide ((sx.size : Int) ≥ (prefixx.size : Int)))
  (0 ≤ (prefixx.size : Int) ∧ (prefixx.size : Int) ≤ (sx.size : Int) ∧
  R ((sx.extract 0 (prefixx.size : Int).toNat).toList == prefixx.toList) w)
  (R false w)

def G_internal_stringslite_HasPrefix : Gen where
  loop := lookL []
  plan := fun _ => none

theorem loops_internal_stringslite_HasPrefix : LoopOk Tryd.prog Tryd.f58.ntmps G_internal_stringslite_HasPrefix (codeOf Tryd.f58) := loopOk_none fun _ => rfl

theorem den_internal_stringslite_HasPrefix (sx : ByteArray) (prefixx : ByteArray) (w : World) (R : Value → World → Prop) :
    F_internal_stringslite_HasPrefix sx prefixx w (fun r w1 => R (.bool r) w1) = den Tryd.prog Tryd.f58.ntmps G_internal_stringslite_HasPrefix (codeOf Tryd.f58) [] (postD Tryd.prog Tryd.f58.results.toList R) (entry [.string sx, .string prefixx] 0) w := by kernel_rfl

theorem C_internal_stringslite_HasPrefix.of {sx : ByteArray} {prefixx : ByteArray} {w : World} {R : Bool → World → Prop} (h : F_internal_stringslite_HasPrefix sx prefixx w R) : C_internal_stringslite_HasPrefix sx prefixx w R := by
  refine (calls_of_den (c := codeOf Tryd.f58) seat_ok seat_mixed Tryd.func58 (by kernel_rfl) loops_internal_stringslite_HasPrefix (args := [.string sx, .string prefixx]) rfl (R := fun v w1 => ∃ (r : Bool), v = (.bool r : Value) ∧ R r w1) ?_).mono ?_
  · rw [← den_internal_stringslite_HasPrefix]
    have e : (fun r w1 => ∃ (r' : Bool), (.bool r : Value) = (.bool r' : Value) ∧ R r' w1) = R := by
      funext r w1
      exact propext ⟨fun ⟨r', he, h⟩ => by first | (simp at he; simp_all) | (cases he; exact h), fun h => ⟨_, rfl, h⟩⟩
    simpa only [e] using h
  · rintro en w1 ⟨v, he, r, rfl, h⟩
    exact ⟨_, he, h⟩

def F_strings_IndexByte (sx : ByteArray) (cx : Int) (w : World) (R : Int → World → Prop) : Prop :=
  C_internal_stringslite_IndexByte sx cx w fun t7 w1 =>
  R t7 w1

def G_strings_IndexByte : Gen where
  loop := lookL []
  plan := fun _ => none

theorem loops_strings_IndexByte : LoopOk Tryd.prog Tryd.f59.ntmps G_strings_IndexByte (codeOf Tryd.f59) := loopOk_none fun _ => rfl

theorem den_strings_IndexByte (sx : ByteArray) (cx : Int) (w : World) (R : Value → World → Prop) :
    F_strings_IndexByte sx cx w (fun r w1 => R (.int .i64 r) w1) = den Tryd.prog Tryd.f59.ntmps G_strings_IndexByte (codeOf Tryd.f59) [] (postD Tryd.prog Tryd.f59.results.toList R) (entry [.string sx, .int .u8 cx] 0) w := by kernel_rfl

theorem C_strings_IndexByte.of {sx : ByteArray} {cx : Int} {w : World} {R : Int → World → Prop} (h : F_strings_IndexByte sx cx w R) : C_strings_IndexByte sx cx w R := by
  refine (calls_of_den (c := codeOf Tryd.f59) seat_ok seat_mixed Tryd.func59 (by kernel_rfl) loops_strings_IndexByte (args := [.string sx, .int .u8 cx]) rfl (R := fun v w1 => ∃ (r : Int), v = (.int .i64 r : Value) ∧ R r w1) ?_).mono ?_
  · rw [← den_strings_IndexByte]
    have e : (fun r w1 => ∃ (r' : Int), (.int .i64 r : Value) = (.int .i64 r' : Value) ∧ R r' w1) = R := by
      funext r w1
      exact propext ⟨fun ⟨r', he, h⟩ => by first | (simp at he; simp_all) | (cases he; exact h), fun h => ⟨_, rfl, h⟩⟩
    simpa only [e] using h
  · rintro en w1 ⟨v, he, r, rfl, h⟩
    exact ⟨_, he, h⟩

def F_internal_strconv_FormatUint (i : Int) (basex : Int) (w : World) (R : ByteArray → World → Prop) : Prop :=
  If (basex == (10 : Int))
  (If (decide (i < (100 : Int)))
  (C_internal_strconv_small (IntKind.i64.wrap i) w fun t15 w1 =>
  R t15 w1)
  (New w (.cells #[.int .u8 0, .int .u8 0, .int .u8 0, .int .u8 0, .int .u8 0, .int .u8 0, .int .u8 0, .int .u8 0, .int .u8 0, .int .u8 0, .int .u8 0, .int .u8 0, .int .u8 0, .int .u8 0, .int .u8 0, .int .u8 0, .int .u8 0, .int .u8 0, .int .u8 0, .int .u8 0, .int .u8 0, .int .u8 0, .int .u8 0, .int .u8 0] 101) fun r w1_1 =>
  C_internal_strconv_numDigits i w1_1 fun t17 w1_2 =>
  0 ≤ t17 ∧ t17 ≤ ((24 : Nat) : Int) ∧
  C_internal_strconv_formatBase10 (some ⟨r, 0, none⟩) t17.toNat 24 i w1_2 fun w1_3 =>
  0 ≤ t17 ∧ t17 ≤ ((24 : Nat) : Int) ∧
  Run Tryd.prog (convert 28 9 (.slice (some ⟨r, 0, none⟩) t17.toNat 24)) w1_3 fun v w1_4 => ∃ t24 : ByteArray, v = (.string t24) ∧
  R t24 w1_4))
  (C_internal_strconv_formatBits none 0 0 i basex false false w fun t280P t280N t280C t281 w1_5 =>
  R t281 w1_5)

def G_internal_strconv_FormatUint : Gen where
  loop := lookL []
  plan := fun _ => none

theorem loops_internal_strconv_FormatUint : LoopOk Tryd.prog Tryd.f60.ntmps G_internal_strconv_FormatUint (codeOf Tryd.f60) := loopOk_none fun _ => rfl

theorem den_internal_strconv_FormatUint (i : Int) (basex : Int) (w : World) (R : Value → World → Prop) :
    F_internal_strconv_FormatUint i basex w (fun r w1 => R (.string r) w1) = den Tryd.prog Tryd.f60.ntmps G_internal_strconv_FormatUint (codeOf Tryd.f60) [] (postD Tryd.prog Tryd.f60.results.toList R) (entry [.int .u64 i, .int .i64 basex] 0) w := by kernel_rfl

theorem C_internal_strconv_FormatUint.of {i : Int} {basex : Int} {w : World} {R : ByteArray → World → Prop} (h : F_internal_strconv_FormatUint i basex w R) : C_internal_strconv_FormatUint i basex w R := by
  refine (calls_of_den (c := codeOf Tryd.f60) seat_ok seat_mixed Tryd.func60 (by kernel_rfl) loops_internal_strconv_FormatUint (args := [.int .u64 i, .int .i64 basex]) rfl (R := fun v w1 => ∃ (r : ByteArray), v = (.string r : Value) ∧ R r w1) ?_).mono ?_
  · rw [← den_internal_strconv_FormatUint]
    have e : (fun r w1 => ∃ (r' : ByteArray), (.string r : Value) = (.string r' : Value) ∧ R r' w1) = R := by
      funext r w1
      exact propext ⟨fun ⟨r', he, h⟩ => by first | (simp at he; simp_all) | (cases he; exact h), fun h => ⟨_, rfl, h⟩⟩
    simpa only [e] using h
  · rintro en w1 ⟨v, he, r, rfl, h⟩
    exact ⟨_, he, h⟩

def F_internal_strconv_small (i : Int) (w : World) (R : ByteArray → World → Prop) : Prop :=
  If (decide (i < (10 : Int)))
  (0 ≤ i ∧ i ≤ (IntKind.i64.wrap (i + (1 : Int))) ∧ (IntKind.i64.wrap (i + (1 : Int))) ≤ ((⟨#[48, 49, 50, 51, 52, 53, 54, 55, 56, 57, 97, 98, 99, 100, 101, 102, 103, 104, 105, 106, 107, 108, 109, 110, 111, 112, 113, 114, 115, 116, 117, 118, 119, 120, 121, 122]⟩ : ByteArray).size : Int) ∧
  R ((⟨#[48, 49, 50, 51, 52, 53, 54, 55, 56, 57, 97, 98, 99, 100, 101, 102, 103, 104, 105, 106, 107, 108, 109, 110, 111, 112, 113, 114, 115, 116, 117, 118, 119, 120, 121, 122]⟩ : ByteArray).extract i.toNat (IntKind.i64.wrap (i + (1 : Int))).toNat) w)
  (0 ≤ (IntKind.i64.wrap (i * (2 : Int))) ∧ (IntKind.i64.wrap (i * (2 : Int))) ≤ (IntKind.i64.wrap ((IntKind.i64.wrap (i * (2 : Int))) + (2 : Int))) ∧ (IntKind.i64.wrap ((IntKind.i64.wrap (i * (2 : Int))) + (2 : Int))) ≤ ((⟨#[48, 48, 48, 49, 48, 50, 48, 51, 48, 52, 48, 53, 48, 54, 48, 55, 48, 56, 48, 57, 49, 48, 49, 49, 49, 50, 49, 51, 49, 52, 49, 53, 49, 54, 49, 55, 49, 56, 49, 57, 50, 48, 50, 49, 50, 50, 50, 51, 50, 52, 50, 53, 50, 54, 50, 55, 50, 56, 50, 57, 51, 48, 51, 49, 51, 50, 51, 51, 51, 52, 51, 53, 51, 54, 51, 55, 51, 56, 51, 57, 52, 48, 52, 49, 52, 50, 52, 51, 52, 52, 52, 53, 52, 54, 52, 55, 52, 56, 52, 57, 53, 48, 53, 49, 53, 50, 53, 51, 53, 52, 53, 53, 53, 54, 53, 55, 53, 56, 53, 57, 54, 48, 54, 49, 54, 50, 54, 51, 54, 52, 54, 53, 54, 54, 54, 55, 54, 56, 54, 57, 55, 48, 55, 49, 55, 50, 55, 51, 55, 52, 55, 53, 55, 54, 55, 55, 55, 56, 55, 57, 56, 48, 56, 49, 56, 50, 56, 51, 56, 52, 56, 53, 56, 54, 56, 55, 56, 56, 56, 57, 57, 48, 57, 49, 57, 50, 57, 51, 57, 52, 57, 53, 57, 54, 57, 55, 57, 56, 57, 57]⟩ : ByteArray).size : Int) ∧
  R ((⟨#[48, 48, 48, 49, 48, 50, 48, 51, 48, 52, 48, 53, 48, 54, 48, 55, 48, 56, 48, 57, 49, 48, 49, 49, 49, 50, 49, 51, 49, 52, 49, 53, 49, 54, 49, 55, 49, 56, 49, 57, 50, 48, 50, 49, 50, 50, 50, 51, 50, 52, 50, 53, 50, 54, 50, 55, 50, 56, 50, 57, 51, 48, 51, 49, 51, 50, 51, 51, 51, 52, 51, 53, 51, 54, 51, 55, 51, 56, 51, 57, 52, 48, 52, 49, 52, 50, 52, 51, 52, 52, 52, 53, 52, 54, 52, 55, 52, 56, 52, 57, 53, 48, 53, 49, 53, 50, 53, 51, 53, 52, 53, 53, 53, 54, 53, 55, 53, 56, 53, 57, 54, 48, 54, 49, 54, 50, 54, 51, 54, 52, 54, 53, 54, 54, 54, 55, 54, 56, 54, 57, 55, 48, 55, 49, 55, 50, 55, 51, 55, 52, 55, 53, 55, 54, 55, 55, 55, 56, 55, 57, 56, 48, 56, 49, 56, 50, 56, 51, 56, 52, 56, 53, 56, 54, 56, 55, 56, 56, 56, 57, 57, 48, 57, 49, 57, 50, 57, 51, 57, 52, 57, 53, 57, 54, 57, 55, 57, 56, 57, 57]⟩ : ByteArray).extract (IntKind.i64.wrap (i * (2 : Int))).toNat (IntKind.i64.wrap ((IntKind.i64.wrap (i * (2 : Int))) + (2 : Int))).toNat) w)

def G_internal_strconv_small : Gen where
  loop := lookL []
  plan := fun _ => none

theorem loops_internal_strconv_small : LoopOk Tryd.prog Tryd.f62.ntmps G_internal_strconv_small (codeOf Tryd.f62) := loopOk_none fun _ => rfl

theorem den_internal_strconv_small (i : Int) (w : World) (R : Value → World → Prop) :
    F_internal_strconv_small i w (fun r w1 => R (.string r) w1) = den Tryd.prog Tryd.f62.ntmps G_internal_strconv_small (codeOf Tryd.f62) [] (postD Tryd.prog Tryd.f62.results.toList R) (entry [.int .i64 i] 0) w := by kernel_rfl

theorem C_internal_strconv_small.of {i : Int} {w : World} {R : ByteArray → World → Prop} (h : F_internal_strconv_small i w R) : C_internal_strconv_small i w R := by
  refine (calls_of_den (c := codeOf Tryd.f62) seat_ok seat_mixed Tryd.func62 (by kernel_rfl) loops_internal_strconv_small (args := [.int .i64 i]) rfl (R := fun v w1 => ∃ (r : ByteArray), v = (.string r : Value) ∧ R r w1) ?_).mono ?_
  · rw [← den_internal_strconv_small]
    have e : (fun r w1 => ∃ (r' : ByteArray), (.string r : Value) = (.string r' : Value) ∧ R r' w1) = R := by
      funext r w1
      exact propext ⟨fun ⟨r', he, h⟩ => by first | (simp at he; simp_all) | (cases he; exact h), fun h => ⟨_, rfl, h⟩⟩
    simpa only [e] using h
  · rintro en w1 ⟨v, he, r, rfl, h⟩
    exact ⟨_, he, h⟩

structure S_internal_strconv_formatBits_L1 where
  u_2 : Int
  i : Int

structure S_internal_strconv_formatBits_L2 where
  u_5 : Int
  i_3 : Int

def F_internal_strconv_formatBits_k1 (w1 : World) : Prop :=
  Run Tryd.prog (Instr.makeInterface 9 (.string ⟨#[115, 116, 114, 99, 111, 110, 118, 58, 32, 105, 108, 108, 101, 103, 97, 108, 32, 65, 112, 112, 101, 110, 100, 73, 110, 116, 47, 70, 111, 114, 109, 97, 116, 73, 110, 116, 32, 98, 97, 115, 101]⟩)) w1 fun v w1_1 =>
  False

def F_internal_strconv_formatBits_k2 (dstP : Option Addr) (dstN : Nat) (dstC : Nat) (append : Bool) (R : Option Addr → Nat → Nat → ByteArray → World → Prop) (r : Nat) (i_7 : Int) (w1_15 : World) : Prop :=
  If append
  (0 ≤ i_7 ∧ i_7 ≤ ((65 : Nat) : Int) ∧
  App Tryd.prog #[28, 28] 28 #[.slice dstP dstN dstC, .slice (some (advA ⟨r, 0, none⟩ 65 i_7.toNat 1)) (65 - i_7.toNat) (65 - i_7.toNat)] w1_15 fun t98P t98N t98C w1_16 =>
  R t98P t98N t98C ⟨#[]⟩ w1_16)
  (0 ≤ i_7 ∧ i_7 ≤ ((65 : Nat) : Int) ∧
  Run Tryd.prog (convert 28 9 (.slice (some (advA ⟨r, 0, none⟩ 65 i_7.toNat 1)) (65 - i_7.toNat) (65 - i_7.toNat))) w1_15 fun v_2 w1_17 => ∃ t101 : ByteArray, v_2 = (.string t101) ∧
  R none 0 0 t101 w1_17)

def F_internal_strconv_formatBits_k3 (dstP : Option Addr) (dstN : Nat) (dstC : Nat) (neg : Bool) (append : Bool) (R : Option Addr → Nat → Nat → ByteArray → World → Prop) (r : Nat) (i_6 : Int) (w1_13 : World) : Prop :=
  If neg
  (0 ≤ (IntKind.i64.wrap (i_6 - (1 : Int))) ∧ (IntKind.i64.wrap (i_6 - (1 : Int))) < ((65 : Nat) : Int) ∧
  St w1_13 (((⟨r, 0, none⟩ : Addr).add ((IntKind.i64.wrap (i_6 - (1 : Int))).toNat * 1)).add 0) (.int .u8 45) fun w1_14 =>
  F_internal_strconv_formatBits_k2 dstP dstN dstC append R r (IntKind.i64.wrap (i_6 - (1 : Int))) w1_14)
  (F_internal_strconv_formatBits_k2 dstP dstN dstC append R r i_6 w1_13)

/-- One round. -/
def B_internal_strconv_formatBits_L1 (dstP_1 : Option Addr) (dstN_1 : Nat) (dstC_1 : Nat) (neg_1 : Bool) (append_1 : Bool) (dP : Option Addr) (dN : Nat) (dC : Nat) (sx : ByteArray) (a : Addr) (shift : Int) (b : Int) (m : Int) (s : S_internal_strconv_formatBits_L1) (w : World) (Kn : S_internal_strconv_formatBits_L1 → World → Prop) (Kx0 : Int → Int → World → Prop) : Prop :=
  If (decide ((s.u_2 : Int) ≥ b))
  (0 ≤ (andI .u64 (s.u_2 : Int) m) ∧ ∃ b_1 : UInt8, (⟨#[48, 49, 50, 51, 52, 53, 54, 55, 56, 57, 97, 98, 99, 100, 101, 102, 103, 104, 105, 106, 107, 108, 109, 110, 111, 112, 113, 114, 115, 116, 117, 118, 119, 120, 121, 122]⟩ : ByteArray)[(andI .u64 (s.u_2 : Int) m).toNat]? = some b_1 ∧
  0 ≤ (IntKind.i64.wrap ((s.i : Int) - (1 : Int))) ∧ (IntKind.i64.wrap ((s.i : Int) - (1 : Int))) < ((65 : Nat) : Int) ∧
  St w ((a.add ((IntKind.i64.wrap ((s.i : Int) - (1 : Int))).toNat * 1)).add 0) (.int .u8 (b_1.toNat : Int)) fun w1_7 =>
  0 ≤ shift ∧
  Kn ⟨(shrI .u64 (s.u_2 : Int) shift), (IntKind.i64.wrap ((s.i : Int) - (1 : Int)))⟩ w1_7)
  (Kx0 (s.u_2 : Int) (s.i : Int) w)

def F_internal_strconv_formatBits_L1 (dstP_1 : Option Addr) (dstN_1 : Nat) (dstC_1 : Nat) (neg_1 : Bool) (append_1 : Bool) (dP : Option Addr) (dN : Nat) (dC : Nat) (sx : ByteArray) (a : Addr) (shift : Int) (b : Int) (m : Int) (s : S_internal_strconv_formatBits_L1) (w : World) (Kx0 : Int → Int → World → Prop) : Prop :=
  LoopS (fun s w Kn => B_internal_strconv_formatBits_L1 dstP_1 dstN_1 dstC_1 neg_1 append_1 dP dN dC sx a shift b m s w Kn Kx0) s w

/-- One round. -/
def B_internal_strconv_formatBits_L2 (dstP_2 : Option Addr) (dstN_2 : Nat) (dstC_2 : Nat) (neg_2 : Bool) (append_2 : Bool) (dP_1 : Option Addr) (dN_1 : Nat) (dC_1 : Nat) (sx_1 : ByteArray) (a_1 : Addr) (b_3 : Int) (s : S_internal_strconv_formatBits_L2) (w : World) (Kn : S_internal_strconv_formatBits_L2 → World → Prop) (Kx2 : Int → Int → World → Prop) : Prop :=
  If (decide ((s.u_5 : Int) ≥ b_3))
  (b_3 ≠ 0 ∧
  0 ≤ (IntKind.u64.wrap ((s.u_5 : Int) - (IntKind.u64.wrap ((IntKind.u64.wrap ((s.u_5 : Int).tdiv b_3)) * b_3)))) ∧ ∃ b_4 : UInt8, (⟨#[48, 49, 50, 51, 52, 53, 54, 55, 56, 57, 97, 98, 99, 100, 101, 102, 103, 104, 105, 106, 107, 108, 109, 110, 111, 112, 113, 114, 115, 116, 117, 118, 119, 120, 121, 122]⟩ : ByteArray)[(IntKind.u64.wrap ((s.u_5 : Int) - (IntKind.u64.wrap ((IntKind.u64.wrap ((s.u_5 : Int).tdiv b_3)) * b_3)))).toNat]? = some b_4 ∧
  0 ≤ (IntKind.i64.wrap ((s.i_3 : Int) - (1 : Int))) ∧ (IntKind.i64.wrap ((s.i_3 : Int) - (1 : Int))) < ((65 : Nat) : Int) ∧
  St w ((a_1.add ((IntKind.i64.wrap ((s.i_3 : Int) - (1 : Int))).toNat * 1)).add 0) (.int .u8 (b_4.toNat : Int)) fun w1_10 =>
  Kn ⟨(IntKind.u64.wrap ((s.u_5 : Int).tdiv b_3)), (IntKind.i64.wrap ((s.i_3 : Int) - (1 : Int)))⟩ w1_10)
  (Kx2 (s.u_5 : Int) (s.i_3 : Int) w)

def F_internal_strconv_formatBits_L2 (dstP_2 : Option Addr) (dstN_2 : Nat) (dstC_2 : Nat) (neg_2 : Bool) (append_2 : Bool) (dP_1 : Option Addr) (dN_1 : Nat) (dC_1 : Nat) (sx_1 : ByteArray) (a_1 : Addr) (b_3 : Int) (s : S_internal_strconv_formatBits_L2) (w : World) (Kx2 : Int → Int → World → Prop) : Prop :=
  LoopS (fun s w Kn => B_internal_strconv_formatBits_L2 dstP_2 dstN_2 dstC_2 neg_2 append_2 dP_1 dN_1 dC_1 sx_1 a_1 b_3 s w Kn Kx2) s w

def F_internal_strconv_formatBits_k4 (dstP : Option Addr) (dstN : Nat) (dstC : Nat) (basex : Int) (neg : Bool) (append : Bool) (R : Option Addr → Nat → Nat → ByteArray → World → Prop) (r : Nat) (u_1 : Int) (w1_4 : World) : Prop :=
  C_internal_strconv_isPowerOfTwo basex w1_4 fun t34 w1_5 =>
  If t34
  (C_math_bits_TrailingZeros (IntKind.u64.wrap basex) w1_5 fun t37 w1_6 =>
  F_internal_strconv_formatBits_L1 dstP dstN dstC neg append none 0 0 ⟨#[]⟩ ⟨r, 0, none⟩ (IntKind.u64.wrap t37) (IntKind.u64.wrap basex) (IntKind.u64.wrap ((IntKind.u64.wrap basex) - (1 : Int))) ⟨u_1, (65 : Int)⟩ w1_6
  (fun u_4 i_2 w1_8 =>
  0 ≤ u_4 ∧ ∃ b_2 : UInt8, (⟨#[48, 49, 50, 51, 52, 53, 54, 55, 56, 57, 97, 98, 99, 100, 101, 102, 103, 104, 105, 106, 107, 108, 109, 110, 111, 112, 113, 114, 115, 116, 117, 118, 119, 120, 121, 122]⟩ : ByteArray)[u_4.toNat]? = some b_2 ∧
  0 ≤ (IntKind.i64.wrap (i_2 - (1 : Int))) ∧ (IntKind.i64.wrap (i_2 - (1 : Int))) < ((65 : Nat) : Int) ∧
  St w1_8 (((⟨r, 0, none⟩ : Addr).add ((IntKind.i64.wrap (i_2 - (1 : Int))).toNat * 1)).add 0) (.int .u8 (b_2.toNat : Int)) fun w1_9 =>
  F_internal_strconv_formatBits_k3 dstP dstN dstC neg append R r (IntKind.i64.wrap (i_2 - (1 : Int))) w1_9))
  (F_internal_strconv_formatBits_L2 dstP dstN dstC neg append none 0 0 ⟨#[]⟩ ⟨r, 0, none⟩ (IntKind.u64.wrap basex) ⟨u_1, (65 : Int)⟩ w1_5
  (fun u_7 i_5 w1_11 =>
  0 ≤ u_7 ∧ ∃ b_5 : UInt8, (⟨#[48, 49, 50, 51, 52, 53, 54, 55, 56, 57, 97, 98, 99, 100, 101, 102, 103, 104, 105, 106, 107, 108, 109, 110, 111, 112, 113, 114, 115, 116, 117, 118, 119, 120, 121, 122]⟩ : ByteArray)[u_7.toNat]? = some b_5 ∧
  0 ≤ (IntKind.i64.wrap (i_5 - (1 : Int))) ∧ (IntKind.i64.wrap (i_5 - (1 : Int))) < ((65 : Nat) : Int) ∧
  St w1_11 (((⟨r, 0, none⟩ : Addr).add ((IntKind.i64.wrap (i_5 - (1 : Int))).toNat * 1)).add 0) (.int .u8 (b_5.toNat : Int)) fun w1_12 =>
  F_internal_strconv_formatBits_k3 dstP dstN dstC neg append R r (IntKind.i64.wrap (i_5 - (1 : Int))) w1_12))

def F_internal_strconv_formatBits (dstP : Option Addr) (dstN : Nat) (dstC : Nat) (u : Int) (basex : Int) (neg : Bool) (append : Bool) (w : World) (R : Option Addr → Nat → Nat → ByteArray → World → Prop) : Prop :=
  If (decide (basex < (2 : Int)))
  (F_internal_strconv_formatBits_k1 w)
  (If (basex == (10 : Int))
  (F_internal_strconv_formatBits_k1 w)
  (If (decide (basex > (36 : Int)))
  (Run Tryd.prog (Instr.makeInterface 9 (.string ⟨#[115, 116, 114, 99, 111, 110, 118, 58, 32, 105, 108, 108, 101, 103, 97, 108, 32, 65, 112, 112, 101, 110, 100, 73, 110, 116, 47, 70, 111, 114, 109, 97, 116, 73, 110, 116, 32, 98, 97, 115, 101]⟩)) w fun v_1 w1_2 =>
  False)
  (New w (.cells #[.int .u8 0, .int .u8 0, .int .u8 0, .int .u8 0, .int .u8 0, .int .u8 0, .int .u8 0, .int .u8 0, .int .u8 0, .int .u8 0, .int .u8 0, .int .u8 0, .int .u8 0, .int .u8 0, .int .u8 0, .int .u8 0, .int .u8 0, .int .u8 0, .int .u8 0, .int .u8 0, .int .u8 0, .int .u8 0, .int .u8 0, .int .u8 0, .int .u8 0, .int .u8 0, .int .u8 0, .int .u8 0, .int .u8 0, .int .u8 0, .int .u8 0, .int .u8 0, .int .u8 0, .int .u8 0, .int .u8 0, .int .u8 0, .int .u8 0, .int .u8 0, .int .u8 0, .int .u8 0, .int .u8 0, .int .u8 0, .int .u8 0, .int .u8 0, .int .u8 0, .int .u8 0, .int .u8 0, .int .u8 0, .int .u8 0, .int .u8 0, .int .u8 0, .int .u8 0, .int .u8 0, .int .u8 0, .int .u8 0, .int .u8 0, .int .u8 0, .int .u8 0, .int .u8 0, .int .u8 0, .int .u8 0, .int .u8 0, .int .u8 0, .int .u8 0, .int .u8 0] 108) fun r w1_3 =>
  If neg
  (F_internal_strconv_formatBits_k4 dstP dstN dstC basex neg append R r (IntKind.u64.wrap (0 - u)) w1_3)
  (F_internal_strconv_formatBits_k4 dstP dstN dstC basex neg append R r u w1_3))))

def lit_internal_strconv_formatBits_L1 (f : (Option Addr) × Nat × Nat × Bool × Bool × (Option Addr) × Nat × Nat × ByteArray × Addr × Int × Int × Int) (s : S_internal_strconv_formatBits_L1) : Env := [⟨0, .slice f.1 f.2.1 f.2.2.1, none⟩, ⟨3, .bool f.2.2.2.1, none⟩, ⟨4, .bool f.2.2.2.2.1, none⟩, ⟨10, .slice f.2.2.2.2.2.1 f.2.2.2.2.2.2.1 f.2.2.2.2.2.2.2.1, none⟩, ⟨11, .string f.2.2.2.2.2.2.2.2.1, none⟩, ⟨12, .pointer (some f.2.2.2.2.2.2.2.2.2.1), none⟩, ⟨14, .int .u64 f.2.2.2.2.2.2.2.2.2.2.1, none⟩, ⟨15, .int .u64 f.2.2.2.2.2.2.2.2.2.2.2.1, none⟩, ⟨16, .int .u64 f.2.2.2.2.2.2.2.2.2.2.2.2, none⟩, ⟨1, .int .u64 s.u_2, none⟩, ⟨13, .int .i64 s.i, none⟩]

def dec_internal_strconv_formatBits_L1 (e : Env) (K : ((Option Addr) × Nat × Nat × Bool × Bool × (Option Addr) × Nat × Nat × ByteArray × Addr × Int × Int × Int) → S_internal_strconv_formatBits_L1 → Prop) : Prop :=
  onV (getV e 0) fun u1 =>
  asS u1 fun dstP_1 dstN_1 dstC_1 =>
  onV (getV e 3) fun u2 =>
  asB u2 fun neg_1 =>
  onV (getV e 4) fun u3 =>
  asB u3 fun append_1 =>
  onV (getV e 10) fun u4 =>
  asS u4 fun dP dN dC =>
  onV (getV e 11) fun u5 =>
  asT u5 fun sx =>
  onV (getV e 12) fun u6 =>
  asA u6 fun a =>
  onV (getV e 14) fun u7 =>
  asI .u64 u7 fun shift =>
  onV (getV e 15) fun u8 =>
  asI .u64 u8 fun b =>
  onV (getV e 16) fun u9 =>
  asI .u64 u9 fun m =>
  onV (getV e 1) fun u10 =>
  asI .u64 u10 fun u_2 =>
  onV (getV e 13) fun u11 =>
  asI .i64 u11 fun i =>
    K (dstP_1, dstN_1, dstC_1, neg_1, append_1, dP, dN, dC, sx, a, shift, b, m) ⟨u_2, i⟩

theorem dec_internal_strconv_formatBits_L1_ok {N : Nat} (e : Env) (a : Act) (K : ((Option Addr) × Nat × Nat × Bool × Bool × (Option Addr) × Nat × Nat × ByteArray × Addr × Int × Int × Int) → S_internal_strconv_formatBits_L1 → Prop) (hr : Rep N a e) (h0 : dec_internal_strconv_formatBits_L1 e K) : ∃ f s, K f s ∧ Rep N a (lit_internal_strconv_formatBits_L1 f s) := by
  unfold dec_internal_strconv_formatBits_L1 at h0
  obtain ⟨u1, g0, h1⟩ := onV_elim h0
  obtain ⟨dstP_1, dstN_1, dstC_1, rfl, h2⟩ := asS_elim h1
  obtain ⟨u2, g3, h3⟩ := onV_elim h2
  obtain ⟨neg_1, rfl, h4⟩ := asB_elim h3
  obtain ⟨u3, g4, h5⟩ := onV_elim h4
  obtain ⟨append_1, rfl, h6⟩ := asB_elim h5
  obtain ⟨u4, g10, h7⟩ := onV_elim h6
  obtain ⟨dP, dN, dC, rfl, h8⟩ := asS_elim h7
  obtain ⟨u5, g11, h9⟩ := onV_elim h8
  obtain ⟨sx, rfl, h10⟩ := asT_elim h9
  obtain ⟨u6, g12, h11⟩ := onV_elim h10
  obtain ⟨a, rfl, h12⟩ := asA_elim h11
  obtain ⟨u7, g14, h13⟩ := onV_elim h12
  obtain ⟨shift, rfl, h14⟩ := asI_elim h13
  obtain ⟨u8, g15, h15⟩ := onV_elim h14
  obtain ⟨b, rfl, h16⟩ := asI_elim h15
  obtain ⟨u9, g16, h17⟩ := onV_elim h16
  obtain ⟨m, rfl, h18⟩ := asI_elim h17
  obtain ⟨u10, g1, h19⟩ := onV_elim h18
  obtain ⟨u_2, rfl, h20⟩ := asI_elim h19
  obtain ⟨u11, g13, h21⟩ := onV_elim h20
  obtain ⟨i, rfl, h22⟩ := asI_elim h21
  exact ⟨_, _, h22, rep_less hr (by simp [lit_internal_strconv_formatBits_L1, g0, g3, g4, g10, g11, g12, g14, g15, g16, g1, g13])⟩

def spec_internal_strconv_formatBits_L1 (Q : Post) (e : Env) (w : World) : Prop :=
  dec_internal_strconv_formatBits_L1 e fun f s => F_internal_strconv_formatBits_L1 f.1 f.2.1 f.2.2.1 f.2.2.2.1 f.2.2.2.2.1 f.2.2.2.2.2.1 f.2.2.2.2.2.2.1 f.2.2.2.2.2.2.2.1 f.2.2.2.2.2.2.2.2.1 f.2.2.2.2.2.2.2.2.2.1 f.2.2.2.2.2.2.2.2.2.2.1 f.2.2.2.2.2.2.2.2.2.2.2.1 f.2.2.2.2.2.2.2.2.2.2.2.2 s w (fun u_3 i_1 w1 => Q (.exit 0) [⟨0, .slice f.1 f.2.1 f.2.2.1, none⟩, ⟨3, .bool f.2.2.2.1, none⟩, ⟨4, .bool f.2.2.2.2.1, none⟩, ⟨10, .slice f.2.2.2.2.2.1 f.2.2.2.2.2.2.1 f.2.2.2.2.2.2.2.1, none⟩, ⟨11, .string f.2.2.2.2.2.2.2.2.1, none⟩, ⟨12, .pointer (some f.2.2.2.2.2.2.2.2.2.1), none⟩, ⟨1, .int .u64 u_3, none⟩, ⟨13, .int .i64 i_1, none⟩] w1)

def lit_internal_strconv_formatBits_L2 (f : (Option Addr) × Nat × Nat × Bool × Bool × (Option Addr) × Nat × Nat × ByteArray × Addr × Int) (s : S_internal_strconv_formatBits_L2) : Env := [⟨0, .slice f.1 f.2.1 f.2.2.1, none⟩, ⟨3, .bool f.2.2.2.1, none⟩, ⟨4, .bool f.2.2.2.2.1, none⟩, ⟨10, .slice f.2.2.2.2.2.1 f.2.2.2.2.2.2.1 f.2.2.2.2.2.2.2.1, none⟩, ⟨11, .string f.2.2.2.2.2.2.2.2.1, none⟩, ⟨12, .pointer (some f.2.2.2.2.2.2.2.2.2.1), none⟩, ⟨17, .int .u64 f.2.2.2.2.2.2.2.2.2.2, none⟩, ⟨1, .int .u64 s.u_5, none⟩, ⟨13, .int .i64 s.i_3, none⟩]

def dec_internal_strconv_formatBits_L2 (e : Env) (K : ((Option Addr) × Nat × Nat × Bool × Bool × (Option Addr) × Nat × Nat × ByteArray × Addr × Int) → S_internal_strconv_formatBits_L2 → Prop) : Prop :=
  onV (getV e 0) fun u1 =>
  asS u1 fun dstP_2 dstN_2 dstC_2 =>
  onV (getV e 3) fun u2 =>
  asB u2 fun neg_2 =>
  onV (getV e 4) fun u3 =>
  asB u3 fun append_2 =>
  onV (getV e 10) fun u4 =>
  asS u4 fun dP_1 dN_1 dC_1 =>
  onV (getV e 11) fun u5 =>
  asT u5 fun sx_1 =>
  onV (getV e 12) fun u6 =>
  asA u6 fun a_1 =>
  onV (getV e 17) fun u7 =>
  asI .u64 u7 fun b_3 =>
  onV (getV e 1) fun u8 =>
  asI .u64 u8 fun u_5 =>
  onV (getV e 13) fun u9 =>
  asI .i64 u9 fun i_3 =>
    K (dstP_2, dstN_2, dstC_2, neg_2, append_2, dP_1, dN_1, dC_1, sx_1, a_1, b_3) ⟨u_5, i_3⟩

theorem dec_internal_strconv_formatBits_L2_ok {N : Nat} (e : Env) (a : Act) (K : ((Option Addr) × Nat × Nat × Bool × Bool × (Option Addr) × Nat × Nat × ByteArray × Addr × Int) → S_internal_strconv_formatBits_L2 → Prop) (hr : Rep N a e) (h0 : dec_internal_strconv_formatBits_L2 e K) : ∃ f s, K f s ∧ Rep N a (lit_internal_strconv_formatBits_L2 f s) := by
  unfold dec_internal_strconv_formatBits_L2 at h0
  obtain ⟨u1, g0, h1⟩ := onV_elim h0
  obtain ⟨dstP_2, dstN_2, dstC_2, rfl, h2⟩ := asS_elim h1
  obtain ⟨u2, g3, h3⟩ := onV_elim h2
  obtain ⟨neg_2, rfl, h4⟩ := asB_elim h3
  obtain ⟨u3, g4, h5⟩ := onV_elim h4
  obtain ⟨append_2, rfl, h6⟩ := asB_elim h5
  obtain ⟨u4, g10, h7⟩ := onV_elim h6
  obtain ⟨dP_1, dN_1, dC_1, rfl, h8⟩ := asS_elim h7
  obtain ⟨u5, g11, h9⟩ := onV_elim h8
  obtain ⟨sx_1, rfl, h10⟩ := asT_elim h9
  obtain ⟨u6, g12, h11⟩ := onV_elim h10
  obtain ⟨a_1, rfl, h12⟩ := asA_elim h11
  obtain ⟨u7, g17, h13⟩ := onV_elim h12
  obtain ⟨b_3, rfl, h14⟩ := asI_elim h13
  obtain ⟨u8, g1, h15⟩ := onV_elim h14
  obtain ⟨u_5, rfl, h16⟩ := asI_elim h15
  obtain ⟨u9, g13, h17⟩ := onV_elim h16
  obtain ⟨i_3, rfl, h18⟩ := asI_elim h17
  exact ⟨_, _, h18, rep_less hr (by simp [lit_internal_strconv_formatBits_L2, g0, g3, g4, g10, g11, g12, g17, g1, g13])⟩

def spec_internal_strconv_formatBits_L2 (Q : Post) (e : Env) (w : World) : Prop :=
  dec_internal_strconv_formatBits_L2 e fun f s => F_internal_strconv_formatBits_L2 f.1 f.2.1 f.2.2.1 f.2.2.2.1 f.2.2.2.2.1 f.2.2.2.2.2.1 f.2.2.2.2.2.2.1 f.2.2.2.2.2.2.2.1 f.2.2.2.2.2.2.2.2.1 f.2.2.2.2.2.2.2.2.2.1 f.2.2.2.2.2.2.2.2.2.2 s w (fun u_6 i_4 w1 => Q (.exit 2) [⟨0, .slice f.1 f.2.1 f.2.2.1, none⟩, ⟨3, .bool f.2.2.2.1, none⟩, ⟨4, .bool f.2.2.2.2.1, none⟩, ⟨10, .slice f.2.2.2.2.2.1 f.2.2.2.2.2.2.1 f.2.2.2.2.2.2.2.1, none⟩, ⟨11, .string f.2.2.2.2.2.2.2.2.1, none⟩, ⟨12, .pointer (some f.2.2.2.2.2.2.2.2.2.1), none⟩, ⟨1, .int .u64 u_6, none⟩, ⟨13, .int .i64 i_4, none⟩] w1)

def G_internal_strconv_formatBits : Gen where
  loop := lookL [([false, false, true, true, true, false, true, false, true, true, true, true, true], spec_internal_strconv_formatBits_L1), ([false, false, true, true, true, false, true, true, true, true, true], spec_internal_strconv_formatBits_L2)]
  plan := fun _ => none

def dx_internal_strconv_formatBits_L1_0 (e : Env) (K : ((Option Addr) × Nat × Nat × Bool × Bool × (Option Addr) × Nat × Nat × ByteArray × Addr × Int × Int × Int) → Int → Int → Prop) : Prop :=
  onV (getV e 0) fun u1 =>
  asS u1 fun dstP_1 dstN_1 dstC_1 =>
  onV (getV e 3) fun u2 =>
  asB u2 fun neg_1 =>
  onV (getV e 4) fun u3 =>
  asB u3 fun append_1 =>
  onV (getV e 10) fun u4 =>
  asS u4 fun dP dN dC =>
  onV (getV e 11) fun u5 =>
  asT u5 fun sx =>
  onV (getV e 12) fun u6 =>
  asA u6 fun a =>
  onV (getV e 14) fun u7 =>
  asI .u64 u7 fun shift =>
  onV (getV e 15) fun u8 =>
  asI .u64 u8 fun b =>
  onV (getV e 16) fun u9 =>
  asI .u64 u9 fun m =>
  onV (getV e 1) fun u10 =>
  asI .u64 u10 fun u_3 =>
  onV (getV e 13) fun u11 =>
  asI .i64 u11 fun i_1 =>
    K (dstP_1, dstN_1, dstC_1, neg_1, append_1, dP, dN, dC, sx, a, shift, b, m) u_3 i_1

theorem body_internal_strconv_formatBits_L1 (f : (Option Addr) × Nat × Nat × Bool × Bool × (Option Addr) × Nat × Nat × ByteArray × Addr × Int × Int × Int) (s : S_internal_strconv_formatBits_L1) (w : World) (Kn : ((Option Addr) × Nat × Nat × Bool × Bool × (Option Addr) × Nat × Nat × ByteArray × Addr × Int × Int × Int) → S_internal_strconv_formatBits_L1 → World → Prop) (Kx0 : ((Option Addr) × Nat × Nat × Bool × Bool × (Option Addr) × Nat × Nat × ByteArray × Addr × Int × Int × Int) → Int → Int → World → Prop) :
    B_internal_strconv_formatBits_L1 f.1 f.2.1 f.2.2.1 f.2.2.2.1 f.2.2.2.2.1 f.2.2.2.2.2.1 f.2.2.2.2.2.2.1 f.2.2.2.2.2.2.2.1 f.2.2.2.2.2.2.2.2.1 f.2.2.2.2.2.2.2.2.2.1 f.2.2.2.2.2.2.2.2.2.2.1 f.2.2.2.2.2.2.2.2.2.2.2.1 f.2.2.2.2.2.2.2.2.2.2.2.2 s w (fun s1 w1 => Kn f s1 w1) (fun u_3 i_1 w1 => Kx0 f u_3 i_1 w1) =
    den Tryd.prog Tryd.f65.ntmps G_internal_strconv_formatBits (sub (codeOf Tryd.f65) [false, false, false, true, true, true, false, true, false, true, true, true, true, true]) [false, false, false, true, true, true, false, true, false, true, true, true, true, true] (roundQ (fun e w => dec_internal_strconv_formatBits_L1 e fun f s => Kn f s w) (fun e w => False) (fun id e w => match Nat.beq id 0 with | true => dx_internal_strconv_formatBits_L1_0 e fun f u_3 i_1 => Kx0 f u_3 i_1 w | false => False)) (lit_internal_strconv_formatBits_L1 f s) w := by kernel_rfl

def dx_internal_strconv_formatBits_L2_2 (e : Env) (K : ((Option Addr) × Nat × Nat × Bool × Bool × (Option Addr) × Nat × Nat × ByteArray × Addr × Int) → Int → Int → Prop) : Prop :=
  onV (getV e 0) fun u1 =>
  asS u1 fun dstP_2 dstN_2 dstC_2 =>
  onV (getV e 3) fun u2 =>
  asB u2 fun neg_2 =>
  onV (getV e 4) fun u3 =>
  asB u3 fun append_2 =>
  onV (getV e 10) fun u4 =>
  asS u4 fun dP_1 dN_1 dC_1 =>
  onV (getV e 11) fun u5 =>
  asT u5 fun sx_1 =>
  onV (getV e 12) fun u6 =>
  asA u6 fun a_1 =>
  onV (getV e 17) fun u7 =>
  asI .u64 u7 fun b_3 =>
  onV (getV e 1) fun u8 =>
  asI .u64 u8 fun u_6 =>
  onV (getV e 13) fun u9 =>
  asI .i64 u9 fun i_4 =>
    K (dstP_2, dstN_2, dstC_2, neg_2, append_2, dP_1, dN_1, dC_1, sx_1, a_1, b_3) u_6 i_4

theorem body_internal_strconv_formatBits_L2 (f : (Option Addr) × Nat × Nat × Bool × Bool × (Option Addr) × Nat × Nat × ByteArray × Addr × Int) (s : S_internal_strconv_formatBits_L2) (w : World) (Kn : ((Option Addr) × Nat × Nat × Bool × Bool × (Option Addr) × Nat × Nat × ByteArray × Addr × Int) → S_internal_strconv_formatBits_L2 → World → Prop) (Kx2 : ((Option Addr) × Nat × Nat × Bool × Bool × (Option Addr) × Nat × Nat × ByteArray × Addr × Int) → Int → Int → World → Prop) :
    B_internal_strconv_formatBits_L2 f.1 f.2.1 f.2.2.1 f.2.2.2.1 f.2.2.2.2.1 f.2.2.2.2.2.1 f.2.2.2.2.2.2.1 f.2.2.2.2.2.2.2.1 f.2.2.2.2.2.2.2.2.1 f.2.2.2.2.2.2.2.2.2.1 f.2.2.2.2.2.2.2.2.2.2 s w (fun s1 w1 => Kn f s1 w1) (fun u_6 i_4 w1 => Kx2 f u_6 i_4 w1) =
    den Tryd.prog Tryd.f65.ntmps G_internal_strconv_formatBits (sub (codeOf Tryd.f65) [false, false, false, true, true, true, false, true, true, true, true, true]) [false, false, false, true, true, true, false, true, true, true, true, true] (roundQ (fun e w => dec_internal_strconv_formatBits_L2 e fun f s => Kn f s w) (fun e w => False) (fun id e w => match Nat.beq id 2 with | true => dx_internal_strconv_formatBits_L2_2 e fun f u_6 i_4 => Kx2 f u_6 i_4 w | false => False)) (lit_internal_strconv_formatBits_L2 f s) w := by kernel_rfl

theorem ok_internal_strconv_formatBits_L1 : OneOk Tryd.prog Tryd.f65.ntmps G_internal_strconv_formatBits (codeOf Tryd.f65) [false, false, true, true, true, false, true, false, true, true, true, true, true] spec_internal_strconv_formatBits_L1 := by
  intro c hc ih Q e w a hr h
  have hcc : sub (codeOf Tryd.f65) [false, false, false, true, true, true, false, true, false, true, true, true, true, true] = c := sub_of_codeAt hc
  obtain ⟨f, s, h, hrep⟩ := dec_internal_strconv_formatBits_L1_ok e a _ hr h
  obtain ⟨J, μ, hj, hround⟩ := h
  refine loop_rule_deep seat_ok seat_mixed ih lit_internal_strconv_formatBits_L1 dec_internal_strconv_formatBits_L1 dec_internal_strconv_formatBits_L1_ok hc f J μ (Kr := fun e w => False) (Kx := fun id e w => match Nat.beq id 0 with | true => (dx_internal_strconv_formatBits_L1_0 e fun f1 u_3 i_1 => f1 = f ∧ Q (.exit 0) [⟨0, .slice f.1 f.2.1 f.2.2.1, none⟩, ⟨3, .bool f.2.2.2.1, none⟩, ⟨4, .bool f.2.2.2.2.1, none⟩, ⟨10, .slice f.2.2.2.2.2.1 f.2.2.2.2.2.2.1 f.2.2.2.2.2.2.2.1, none⟩, ⟨11, .string f.2.2.2.2.2.2.2.2.1, none⟩, ⟨12, .pointer (some f.2.2.2.2.2.2.2.2.2.1), none⟩, ⟨1, .int .u64 u_3, none⟩, ⟨13, .int .i64 i_1, none⟩] w) | false => False) ?_ ?_ ?_ s w a hj hrep
  · intro e a w hr h
    exact h.elim
  · intro id e a w hr h0
    (try dsimp only at h0)
    split at h0
    · rename_i hid
      obtain rfl := Nat.eq_of_beq_eq_true hid
      unfold dx_internal_strconv_formatBits_L1_0 at h0
      obtain ⟨u1, g0, h1⟩ := onV_elim h0
      obtain ⟨dstP_1, dstN_1, dstC_1, rfl, h2⟩ := asS_elim h1
      obtain ⟨u2, g3, h3⟩ := onV_elim h2
      obtain ⟨neg_1, rfl, h4⟩ := asB_elim h3
      obtain ⟨u3, g4, h5⟩ := onV_elim h4
      obtain ⟨append_1, rfl, h6⟩ := asB_elim h5
      obtain ⟨u4, g10, h7⟩ := onV_elim h6
      obtain ⟨dP, dN, dC, rfl, h8⟩ := asS_elim h7
      obtain ⟨u5, g11, h9⟩ := onV_elim h8
      obtain ⟨sx, rfl, h10⟩ := asT_elim h9
      obtain ⟨u6, g12, h11⟩ := onV_elim h10
      obtain ⟨a, rfl, h12⟩ := asA_elim h11
      obtain ⟨u7, g14, h13⟩ := onV_elim h12
      obtain ⟨shift, rfl, h14⟩ := asI_elim h13
      obtain ⟨u8, g15, h15⟩ := onV_elim h14
      obtain ⟨b, rfl, h16⟩ := asI_elim h15
      obtain ⟨u9, g16, h17⟩ := onV_elim h16
      obtain ⟨m, rfl, h18⟩ := asI_elim h17
      obtain ⟨u10, g1, h19⟩ := onV_elim h18
      obtain ⟨u_3, rfl, h20⟩ := asI_elim h19
      obtain ⟨u11, g13, h21⟩ := onV_elim h20
      obtain ⟨i_1, rfl, h22⟩ := asI_elim h21
      obtain ⟨hf, hq⟩ := h22
      subst hf
      exact ⟨_, rep_less hr (by simp [g0, g3, g4, g10, g11, g12, g1, g13]), hq⟩
    · exact h0.elim
  · intro s w hj
    have hb := hround s w hj
    rw [← hcc]
    have e1 := body_internal_strconv_formatBits_L1 f s w (fun f1 s1 w1 => f1 = f ∧ J s1 w1 ∧ μ s1 w1 < μ s w) (fun f1 u_3 i_1 w1 => f1 = f ∧ Q (.exit 0) [⟨0, .slice f.1 f.2.1 f.2.2.1, none⟩, ⟨3, .bool f.2.2.2.1, none⟩, ⟨4, .bool f.2.2.2.2.1, none⟩, ⟨10, .slice f.2.2.2.2.2.1 f.2.2.2.2.2.2.1 f.2.2.2.2.2.2.2.1, none⟩, ⟨11, .string f.2.2.2.2.2.2.2.2.1, none⟩, ⟨12, .pointer (some f.2.2.2.2.2.2.2.2.2.1), none⟩, ⟨1, .int .u64 u_3, none⟩, ⟨13, .int .i64 i_1, none⟩] w1)
    simp only [true_and] at e1
    exact cast e1 hb

theorem ok_internal_strconv_formatBits_L2 : OneOk Tryd.prog Tryd.f65.ntmps G_internal_strconv_formatBits (codeOf Tryd.f65) [false, false, true, true, true, false, true, true, true, true, true] spec_internal_strconv_formatBits_L2 := by
  intro c hc ih Q e w a hr h
  have hcc : sub (codeOf Tryd.f65) [false, false, false, true, true, true, false, true, true, true, true, true] = c := sub_of_codeAt hc
  obtain ⟨f, s, h, hrep⟩ := dec_internal_strconv_formatBits_L2_ok e a _ hr h
  obtain ⟨J, μ, hj, hround⟩ := h
  refine loop_rule_deep seat_ok seat_mixed ih lit_internal_strconv_formatBits_L2 dec_internal_strconv_formatBits_L2 dec_internal_strconv_formatBits_L2_ok hc f J μ (Kr := fun e w => False) (Kx := fun id e w => match Nat.beq id 2 with | true => (dx_internal_strconv_formatBits_L2_2 e fun f1 u_6 i_4 => f1 = f ∧ Q (.exit 2) [⟨0, .slice f.1 f.2.1 f.2.2.1, none⟩, ⟨3, .bool f.2.2.2.1, none⟩, ⟨4, .bool f.2.2.2.2.1, none⟩, ⟨10, .slice f.2.2.2.2.2.1 f.2.2.2.2.2.2.1 f.2.2.2.2.2.2.2.1, none⟩, ⟨11, .string f.2.2.2.2.2.2.2.2.1, none⟩, ⟨12, .pointer (some f.2.2.2.2.2.2.2.2.2.1), none⟩, ⟨1, .int .u64 u_6, none⟩, ⟨13, .int .i64 i_4, none⟩] w) | false => False) ?_ ?_ ?_ s w a hj hrep
  · intro e a w hr h
    exact h.elim
  · intro id e a w hr h0
    (try dsimp only at h0)
    split at h0
    · rename_i hid
      obtain rfl := Nat.eq_of_beq_eq_true hid
      unfold dx_internal_strconv_formatBits_L2_2 at h0
      obtain ⟨u1, g0, h1⟩ := onV_elim h0
      obtain ⟨dstP_2, dstN_2, dstC_2, rfl, h2⟩ := asS_elim h1
      obtain ⟨u2, g3, h3⟩ := onV_elim h2
      obtain ⟨neg_2, rfl, h4⟩ := asB_elim h3
      obtain ⟨u3, g4, h5⟩ := onV_elim h4
      obtain ⟨append_2, rfl, h6⟩ := asB_elim h5
      obtain ⟨u4, g10, h7⟩ := onV_elim h6
      obtain ⟨dP_1, dN_1, dC_1, rfl, h8⟩ := asS_elim h7
      obtain ⟨u5, g11, h9⟩ := onV_elim h8
      obtain ⟨sx_1, rfl, h10⟩ := asT_elim h9
      obtain ⟨u6, g12, h11⟩ := onV_elim h10
      obtain ⟨a_1, rfl, h12⟩ := asA_elim h11
      obtain ⟨u7, g17, h13⟩ := onV_elim h12
      obtain ⟨b_3, rfl, h14⟩ := asI_elim h13
      obtain ⟨u8, g1, h15⟩ := onV_elim h14
      obtain ⟨u_6, rfl, h16⟩ := asI_elim h15
      obtain ⟨u9, g13, h17⟩ := onV_elim h16
      obtain ⟨i_4, rfl, h18⟩ := asI_elim h17
      obtain ⟨hf, hq⟩ := h18
      subst hf
      exact ⟨_, rep_less hr (by simp [g0, g3, g4, g10, g11, g12, g1, g13]), hq⟩
    · exact h0.elim
  · intro s w hj
    have hb := hround s w hj
    rw [← hcc]
    have e1 := body_internal_strconv_formatBits_L2 f s w (fun f1 s1 w1 => f1 = f ∧ J s1 w1 ∧ μ s1 w1 < μ s w) (fun f1 u_6 i_4 w1 => f1 = f ∧ Q (.exit 2) [⟨0, .slice f.1 f.2.1 f.2.2.1, none⟩, ⟨3, .bool f.2.2.2.1, none⟩, ⟨4, .bool f.2.2.2.2.1, none⟩, ⟨10, .slice f.2.2.2.2.2.1 f.2.2.2.2.2.2.1 f.2.2.2.2.2.2.2.1, none⟩, ⟨11, .string f.2.2.2.2.2.2.2.2.1, none⟩, ⟨12, .pointer (some f.2.2.2.2.2.2.2.2.2.1), none⟩, ⟨1, .int .u64 u_6, none⟩, ⟨13, .int .i64 i_4, none⟩] w1)
    simp only [true_and] at e1
    exact cast e1 hb

theorem loops_internal_strconv_formatBits : LoopOk Tryd.prog Tryd.f65.ntmps G_internal_strconv_formatBits (codeOf Tryd.f65) := loopOk_list rfl ⟨ok_internal_strconv_formatBits_L1, ⟨ok_internal_strconv_formatBits_L2, trivial⟩⟩

theorem den_internal_strconv_formatBits (dstP : Option Addr) (dstN : Nat) (dstC : Nat) (u : Int) (basex : Int) (neg : Bool) (append : Bool) (w : World) (R : Value → World → Prop) :
    F_internal_strconv_formatBits dstP dstN dstC u basex neg append w (fun r0P r0N r0C r1 w1 => R (.tuple #[.slice r0P r0N r0C, .string r1]) w1) = den Tryd.prog Tryd.f65.ntmps G_internal_strconv_formatBits (codeOf Tryd.f65) [] (postD Tryd.prog Tryd.f65.results.toList R) (entry [.slice dstP dstN dstC, .int .u64 u, .int .i64 basex, .bool neg, .bool append] 0) w := by kernel_rfl

theorem C_internal_strconv_formatBits.of {dstP : Option Addr} {dstN : Nat} {dstC : Nat} {u : Int} {basex : Int} {neg : Bool} {append : Bool} {w : World} {R : Option Addr → Nat → Nat → ByteArray → World → Prop} (h : F_internal_strconv_formatBits dstP dstN dstC u basex neg append w R) : C_internal_strconv_formatBits dstP dstN dstC u basex neg append w R := by
  refine (calls_of_den (c := codeOf Tryd.f65) seat_ok seat_mixed Tryd.func65 (by kernel_rfl) loops_internal_strconv_formatBits (args := [.slice dstP dstN dstC, .int .u64 u, .int .i64 basex, .bool neg, .bool append]) rfl (R := fun v w1 => ∃ (r0P : Option Addr) (r0N : Nat) (r0C : Nat) (r1 : ByteArray), v = (.tuple #[.slice r0P r0N r0C, .string r1] : Value) ∧ R r0P r0N r0C r1 w1) ?_).mono ?_
  · rw [← den_internal_strconv_formatBits]
    have e : (fun r0P r0N r0C r1 w1 => ∃ (r0P' : Option Addr) (r0N' : Nat) (r0C' : Nat) (r1' : ByteArray), (.tuple #[.slice r0P r0N r0C, .string r1] : Value) = (.tuple #[.slice r0P' r0N' r0C', .string r1'] : Value) ∧ R r0P' r0N' r0C' r1' w1) = R := by
      funext r0P r0N r0C r1 w1
      exact propext ⟨fun ⟨r0P', r0N', r0C', r1', he, h⟩ => by first | (simp at he; simp_all) | (cases he; exact h), fun h => ⟨_, _, _, _, rfl, h⟩⟩
    simpa only [e] using h
  · rintro en w1 ⟨v, he, r0P, r0N, r0C, r1, rfl, h⟩
    exact ⟨_, _, _, _, he, h⟩

end Go.Proofs.YtggbmakfifllnaaDoor
