/- The formulas of this seat's functions, held against the loaded program by the kernel. Printed by a program. -/
import Derived.Test.YtdaenijbokialaaGreatGenC
set_option maxRecDepth 100000
set_option linter.unusedVariables false
namespace Go.Proofs.YtdaenijbokialaaGreat
open Go Go.D Go.Proofs

structure S_ref06_Size_L1 where
  n : Int
  i : Int

/-- One round. -/
def B_ref06_Size_L1 (t : Addr) (s : S_ref06_Size_L1) (w : World) (Kn : S_ref06_Size_L1 → World → Prop) (Kx0 : Int → World → Prop) : Prop :=
  ∃ LP : Option Addr, ∃ LN : Nat, ∃ LC : Nat, w.cell? (t.add 3) = some (.slice LP LN LC) ∧
  If (decide ((s.i : Int) < (LN : Int)))
  (∃ LP_1 : Option Addr, ∃ LN_1 : Nat, ∃ LC_1 : Nat, w.cell? (t.add 3) = some (.slice LP_1 LN_1 LC_1) ∧
  0 ≤ (s.i : Int) ∧ (s.i : Int) < (LN_1 : Int) ∧ NN LP_1 fun a =>
  ∃ t170 : Int, w.cell? ((a.add ((s.i : Int).toNat * 4)).add 0) = some (.int .i64 t170) ∧
  ∃ t171 : Int, w.cell? ((a.add ((s.i : Int).toNat * 4)).add 1) = some (.int .i64 t171) ∧
  ∃ t172 : ByteArray, w.cell? ((a.add ((s.i : Int).toNat * 4)).add 2) = some (.string t172) ∧
  ∃ t173P : Option Addr, ∃ t173N : Nat, ∃ t173C : Nat, w.cell? ((a.add ((s.i : Int).toNat * 4)).add 3) = some (.slice t173P t173N t173C) ∧
  C_ref06_Size t170 t171 t172 t173P t173N t173C w fun t18 w1_1 =>
  Kn ⟨(IntKind.i64.wrap ((s.n : Int) + t18)), (IntKind.i64.wrap ((s.i : Int) + (1 : Int)))⟩ w1_1)
  (Kx0 (s.n : Int) w)

def F_ref06_Size_L1 (t : Addr) (s : S_ref06_Size_L1) (w : World) (Kx0 : Int → World → Prop) : Prop :=
  LoopS (fun s w Kn => B_ref06_Size_L1 t s w Kn Kx0) s w

def F_ref06_Size (t0 : Int) (t1 : Int) (t2 : ByteArray) (t3P : Option Addr) (t3N : Nat) (t3C : Nat) (w : World) (R : Int → World → Prop) : Prop :=
  New w (.cells #[.int .i64 t0, .int .i64 t1, .string t2, .slice t3P t3N t3C] 31) fun r w1 =>
  F_ref06_Size_L1 ⟨r, 0, none⟩ ⟨(1 : Int), (0 : Int)⟩ w1
  (fun n_2 w1_2 =>
  R n_2 w1_2)

def lit_ref06_Size_L1 (f : Addr) (s : S_ref06_Size_L1) : Env := [⟨1, .pointer (some f), none⟩, ⟨3, .int .i64 s.n, none⟩, ⟨4, .int .i64 s.i, none⟩]

def dec_ref06_Size_L1 (e : Env) (K : Addr → S_ref06_Size_L1 → Prop) : Prop :=
  onV (getV e 1) fun u1 =>
  asA u1 fun t =>
  onV (getV e 3) fun u2 =>
  asI .i64 u2 fun n =>
  onV (getV e 4) fun u3 =>
  asI .i64 u3 fun i =>
    K (t) ⟨n, i⟩

theorem dec_ref06_Size_L1_ok {N : Nat} (e : Env) (a : Act) (K : Addr → S_ref06_Size_L1 → Prop) (hr : Rep N a e) (h0 : dec_ref06_Size_L1 e K) : ∃ f s, K f s ∧ Rep N a (lit_ref06_Size_L1 f s) := by
  unfold dec_ref06_Size_L1 at h0
  obtain ⟨u1, g1, h1⟩ := onV_elim h0
  obtain ⟨t, rfl, h2⟩ := asA_elim h1
  obtain ⟨u2, g3, h3⟩ := onV_elim h2
  obtain ⟨n, rfl, h4⟩ := asI_elim h3
  obtain ⟨u3, g4, h5⟩ := onV_elim h4
  obtain ⟨i, rfl, h6⟩ := asI_elim h5
  exact ⟨_, _, h6, rep_less hr (by simp [lit_ref06_Size_L1, g1, g3, g4])⟩

def spec_ref06_Size_L1 (Q : Post) (e : Env) (w : World) : Prop :=
  dec_ref06_Size_L1 e fun f s => F_ref06_Size_L1 f s w (fun n_1 w1 => Q (.exit 0) [⟨3, .int .i64 n_1, none⟩] w1)

def G_ref06_Size : Gen where
  loop := lookL [([false, true, false, true, true], spec_ref06_Size_L1)]
  plan := fun _ => none

def dx_ref06_Size_L1_0 (e : Env) (K : Addr → Int → Prop) : Prop :=
  onV (getV e 1) fun u1 =>
  asA u1 fun t =>
  onV (getV e 3) fun u2 =>
  asI .i64 u2 fun n_1 =>
    K (t) n_1

theorem body_ref06_Size_L1 (f : Addr) (s : S_ref06_Size_L1) (w : World) (Kn : Addr → S_ref06_Size_L1 → World → Prop) (Kx0 : Addr → Int → World → Prop) :
    B_ref06_Size_L1 f s w (fun s1 w1 => Kn f s1 w1) (fun n_1 w1 => Kx0 f n_1 w1) =
    den Tryz.prog Tryz.f64.ntmps G_ref06_Size (sub (codeOf Tryz.f64) [false, false, true, false, true, true]) [false, false, true, false, true, true] (roundQ (fun e w => dec_ref06_Size_L1 e fun f s => Kn f s w) (fun e w => False) (fun id e w => match Nat.beq id 0 with | true => dx_ref06_Size_L1_0 e fun f n_1 => Kx0 f n_1 w | false => False)) (lit_ref06_Size_L1 f s) w := by kernel_rfl

theorem ok_ref06_Size_L1 : OneOk Tryz.prog Tryz.f64.ntmps G_ref06_Size (codeOf Tryz.f64) [false, true, false, true, true] spec_ref06_Size_L1 := by
  intro c hc ih Q e w a hr h
  have hcc : sub (codeOf Tryz.f64) [false, false, true, false, true, true] = c := sub_of_codeAt hc
  obtain ⟨f, s, h, hrep⟩ := dec_ref06_Size_L1_ok e a _ hr h
  obtain ⟨J, μ, hj, hround⟩ := h
  refine loop_rule_deep seat_ok seat_mixed ih lit_ref06_Size_L1 dec_ref06_Size_L1 dec_ref06_Size_L1_ok hc f J μ (Kr := fun e w => False) (Kx := fun id e w => match Nat.beq id 0 with | true => (dx_ref06_Size_L1_0 e fun f1 n_1 => f1 = f ∧ Q (.exit 0) [⟨3, .int .i64 n_1, none⟩] w) | false => False) ?_ ?_ ?_ s w a hj hrep
  · intro e a w hr h
    exact h.elim
  · intro id e a w hr h0
    (try dsimp only at h0)
    split at h0
    · rename_i hid
      obtain rfl := Nat.eq_of_beq_eq_true hid
      unfold dx_ref06_Size_L1_0 at h0
      obtain ⟨u1, g1, h1⟩ := onV_elim h0
      obtain ⟨t, rfl, h2⟩ := asA_elim h1
      obtain ⟨u2, g3, h3⟩ := onV_elim h2
      obtain ⟨n_1, rfl, h4⟩ := asI_elim h3
      obtain ⟨hf, hq⟩ := h4
      subst hf
      exact ⟨_, rep_less hr (by simp [g3]), hq⟩
    · exact h0.elim
  · intro s w hj
    have hb := hround s w hj
    rw [← hcc]
    have e1 := body_ref06_Size_L1 f s w (fun f1 s1 w1 => f1 = f ∧ J s1 w1 ∧ μ s1 w1 < μ s w) (fun f1 n_1 w1 => f1 = f ∧ Q (.exit 0) [⟨3, .int .i64 n_1, none⟩] w1)
    simp only [true_and] at e1
    exact cast e1 hb

theorem loops_ref06_Size : LoopOk Tryz.prog Tryz.f64.ntmps G_ref06_Size (codeOf Tryz.f64) := loopOk_list rfl ⟨ok_ref06_Size_L1, trivial⟩

theorem den_ref06_Size (t0 : Int) (t1 : Int) (t2 : ByteArray) (t3P : Option Addr) (t3N : Nat) (t3C : Nat) (w : World) (R : Value → World → Prop) :
    F_ref06_Size t0 t1 t2 t3P t3N t3C w (fun r w1 => R (.int .i64 r) w1) = den Tryz.prog Tryz.f64.ntmps G_ref06_Size (codeOf Tryz.f64) [] (postD Tryz.prog Tryz.f64.results.toList R) (entry [.agg #[.int .i64 t0, .int .i64 t1, .string t2, .slice t3P t3N t3C]] 0) w := by kernel_rfl

theorem C_ref06_Size.of {t0 : Int} {t1 : Int} {t2 : ByteArray} {t3P : Option Addr} {t3N : Nat} {t3C : Nat} {w : World} {R : Int → World → Prop} (h : F_ref06_Size t0 t1 t2 t3P t3N t3C w R) : C_ref06_Size t0 t1 t2 t3P t3N t3C w R := by
  refine (calls_of_den (c := codeOf Tryz.f64) seat_ok seat_mixed Tryz.func64 (by kernel_rfl) loops_ref06_Size (args := [.agg #[.int .i64 t0, .int .i64 t1, .string t2, .slice t3P t3N t3C]]) rfl (R := fun v w1 => ∃ (r : Int), v = (.int .i64 r : Value) ∧ R r w1) ?_).mono ?_
  · rw [← den_ref06_Size]
    have e : (fun r w1 => ∃ (r' : Int), (.int .i64 r : Value) = (.int .i64 r' : Value) ∧ R r' w1) = R := by
      funext r w1
      exact propext ⟨fun ⟨r', he, h⟩ => by first | (simp at he; simp_all) | (cases he; exact h), fun h => ⟨_, rfl, h⟩⟩
    simpa only [e] using h
  · rintro en w1 ⟨v, he, r, rfl, h⟩
    exact ⟨_, he, h⟩

def F_ref06_Int (n : Int) (w : World) (R : Int → Int → ByteArray → Option Addr → Nat → Nat → World → Prop) : Prop :=
  New w (.cells #[.int .i64 0, .int .i64 0, .string ⟨#[]⟩, .slice none 0 0] 31) fun r w1 =>
  St w1 ((⟨r, 0, none⟩ : Addr).add 0) (.int .i64 2) fun w1_1 =>
  St w1_1 ((⟨r, 0, none⟩ : Addr).add 1) (.int .i64 n) fun w1_2 =>
  St w1_2 ((⟨r, 0, none⟩ : Addr).add 2) (.string ⟨#[]⟩) fun w1_3 =>
  St w1_3 ((⟨r, 0, none⟩ : Addr).add 3) (.slice none 0 0) fun w1_4 =>
  ∃ r_1 : Int, w1_4.cell? ((⟨r, 0, none⟩ : Addr).add 0) = some (.int .i64 r_1) ∧
  ∃ r_2 : Int, w1_4.cell? ((⟨r, 0, none⟩ : Addr).add 1) = some (.int .i64 r_2) ∧
  ∃ r_3 : ByteArray, w1_4.cell? ((⟨r, 0, none⟩ : Addr).add 2) = some (.string r_3) ∧
  ∃ rP : Option Addr, ∃ rN : Nat, ∃ rC : Nat, w1_4.cell? ((⟨r, 0, none⟩ : Addr).add 3) = some (.slice rP rN rC) ∧
  R r_1 r_2 r_3 rP rN rC w1_4

def G_ref06_Int : Gen where
  loop := lookL []
  plan := fun _ => none

theorem loops_ref06_Int : LoopOk Tryz.prog Tryz.f65.ntmps G_ref06_Int (codeOf Tryz.f65) := loopOk_none fun _ => rfl

theorem den_ref06_Int (n : Int) (w : World) (R : Value → World → Prop) :
    F_ref06_Int n w (fun r0 r1 r2 r3P r3N r3C w1 => R (.agg #[.int .i64 r0, .int .i64 r1, .string r2, .slice r3P r3N r3C]) w1) = den Tryz.prog Tryz.f65.ntmps G_ref06_Int (codeOf Tryz.f65) [] (postD Tryz.prog Tryz.f65.results.toList R) (entry [.int .i64 n] 0) w := by kernel_rfl

theorem C_ref06_Int.of {n : Int} {w : World} {R : Int → Int → ByteArray → Option Addr → Nat → Nat → World → Prop} (h : F_ref06_Int n w R) : C_ref06_Int n w R := by
  refine (calls_of_den (c := codeOf Tryz.f65) seat_ok seat_mixed Tryz.func65 (by kernel_rfl) loops_ref06_Int (args := [.int .i64 n]) rfl (R := fun v w1 => ∃ (r0 : Int) (r1 : Int) (r2 : ByteArray) (r3P : Option Addr) (r3N : Nat) (r3C : Nat), v = (.agg #[.int .i64 r0, .int .i64 r1, .string r2, .slice r3P r3N r3C] : Value) ∧ R r0 r1 r2 r3P r3N r3C w1) ?_).mono ?_
  · rw [← den_ref06_Int]
    have e : (fun r0 r1 r2 r3P r3N r3C w1 => ∃ (r0' : Int) (r1' : Int) (r2' : ByteArray) (r3P' : Option Addr) (r3N' : Nat) (r3C' : Nat), (.agg #[.int .i64 r0, .int .i64 r1, .string r2, .slice r3P r3N r3C] : Value) = (.agg #[.int .i64 r0', .int .i64 r1', .string r2', .slice r3P' r3N' r3C'] : Value) ∧ R r0' r1' r2' r3P' r3N' r3C' w1) = R := by
      funext r0 r1 r2 r3P r3N r3C w1
      exact propext ⟨fun ⟨r0', r1', r2', r3P', r3N', r3C', he, h⟩ => by first | (simp at he; simp_all) | (cases he; exact h), fun h => ⟨_, _, _, _, _, _, rfl, h⟩⟩
    simpa only [e] using h
  · rintro en w1 ⟨v, he, r0, r1, r2, r3P, r3N, r3C, rfl, h⟩
    exact ⟨_, _, _, _, _, _, he, h⟩

structure S_ref06_Exact_L1 where
  i : Int

def F_ref06_Exact_k1 (R : Bool → World → Prop) (w1_2 : World) : Prop :=
  R false w1_2

/-- One round. -/
def B_ref06_Exact_L1 (a : Addr) (b : Addr) (s : S_ref06_Exact_L1) (w : World) (Kn : S_ref06_Exact_L1 → World → Prop) (Kx0 : World → Prop) (Kr : Bool → World → Prop) : Prop :=
  ∃ LP_2 : Option Addr, ∃ LN_2 : Nat, ∃ LC_2 : Nat, w.cell? (a.add 3) = some (.slice LP_2 LN_2 LC_2) ∧
  If (decide ((s.i : Int) < (LN_2 : Int)))
  (∃ LP_3 : Option Addr, ∃ LN_3 : Nat, ∃ LC_3 : Nat, (drw w).cell? (a.add 3) = some (.slice LP_3 LN_3 LC_3) ∧
  0 ≤ (s.i : Int) ∧ (s.i : Int) < (LN_3 : Int) ∧ NN LP_3 fun a_1 =>
  ∃ t450 : Int, (drw w).cell? ((a_1.add ((s.i : Int).toNat * 4)).add 0) = some (.int .i64 t450) ∧
  ∃ t451 : Int, (drw w).cell? ((a_1.add ((s.i : Int).toNat * 4)).add 1) = some (.int .i64 t451) ∧
  ∃ t452 : ByteArray, (drw w).cell? ((a_1.add ((s.i : Int).toNat * 4)).add 2) = some (.string t452) ∧
  ∃ t453P : Option Addr, ∃ t453N : Nat, ∃ t453C : Nat, (drw w).cell? ((a_1.add ((s.i : Int).toNat * 4)).add 3) = some (.slice t453P t453N t453C) ∧
  ∃ LP_4 : Option Addr, ∃ LN_4 : Nat, ∃ LC_4 : Nat, (drw w).cell? (b.add 3) = some (.slice LP_4 LN_4 LC_4) ∧
  0 ≤ (s.i : Int) ∧ (s.i : Int) < (LN_4 : Int) ∧ NN LP_4 fun a_2 =>
  ∃ t500 : Int, (drw w).cell? ((a_2.add ((s.i : Int).toNat * 4)).add 0) = some (.int .i64 t500) ∧
  ∃ t501 : Int, (drw w).cell? ((a_2.add ((s.i : Int).toNat * 4)).add 1) = some (.int .i64 t501) ∧
  ∃ t502 : ByteArray, (drw w).cell? ((a_2.add ((s.i : Int).toNat * 4)).add 2) = some (.string t502) ∧
  ∃ t503P : Option Addr, ∃ t503N : Nat, ∃ t503C : Nat, (drw w).cell? ((a_2.add ((s.i : Int).toNat * 4)).add 3) = some (.slice t503P t503N t503C) ∧
  C_ref06_Exact t450 t451 t452 t453P t453N t453C t500 t501 t502 t503P t503N t503C (drw w) fun t51 w1_3 =>
  If (!t51)
  (Kr false w1_3)
  (Kn ⟨(IntKind.i64.wrap ((s.i : Int) + (1 : Int)))⟩ w1_3))
  (Kx0 w)

def F_ref06_Exact_L1 (a : Addr) (b : Addr) (s : S_ref06_Exact_L1) (w : World) (Kx0 : World → Prop) (Kr : Bool → World → Prop) : Prop :=
  LoopS (fun s w Kn => B_ref06_Exact_L1 a b s w Kn Kx0 Kr) s w

def F_ref06_Exact (a0 : Int) (a1 : Int) (a2 : ByteArray) (a3P : Option Addr) (a3N : Nat) (a3C : Nat) (b0 : Int) (b1 : Int) (b2 : ByteArray) (b3P : Option Addr) (b3N : Nat) (b3C : Nat) (w : World) (R : Bool → World → Prop) : Prop :=
  New w (.cells #[.int .i64 a0, .int .i64 a1, .string a2, .slice a3P a3N a3C] 31) fun r w1 =>
  New w1 (.cells #[.int .i64 b0, .int .i64 b1, .string b2, .slice b3P b3N b3C] 31) fun r_1 w1_1 =>
  ∃ Kind : Int, w1_1.cell? ((⟨r, 0, none⟩ : Addr).add 0) = some (.int .i64 Kind) ∧
  ∃ Kind_1 : Int, w1_1.cell? ((⟨r_1, 0, none⟩ : Addr).add 0) = some (.int .i64 Kind_1) ∧
  If (Kind != Kind_1)
  (F_ref06_Exact_k1 R w1_1)
  (∃ N : Int, w1_1.cell? ((⟨r, 0, none⟩ : Addr).add 1) = some (.int .i64 N) ∧
  ∃ N_1 : Int, w1_1.cell? ((⟨r_1, 0, none⟩ : Addr).add 1) = some (.int .i64 N_1) ∧
  If (N != N_1)
  (F_ref06_Exact_k1 R w1_1)
  (∃ S : ByteArray, w1_1.cell? ((⟨r, 0, none⟩ : Addr).add 2) = some (.string S) ∧
  ∃ S_1 : ByteArray, w1_1.cell? ((⟨r_1, 0, none⟩ : Addr).add 2) = some (.string S_1) ∧
  If (!(S.toList == S_1.toList))
  (F_ref06_Exact_k1 R w1_1)
  (∃ LP : Option Addr, ∃ LN : Nat, ∃ LC : Nat, w1_1.cell? ((⟨r, 0, none⟩ : Addr).add 3) = some (.slice LP LN LC) ∧
  ∃ LP_1 : Option Addr, ∃ LN_1 : Nat, ∃ LC_1 : Nat, w1_1.cell? ((⟨r_1, 0, none⟩ : Addr).add 3) = some (.slice LP_1 LN_1 LC_1) ∧
  If ((LN : Int) != (LN_1 : Int))
  (R false w1_1)
  (F_ref06_Exact_L1 ⟨r, 0, none⟩ ⟨r_1, 0, none⟩ ⟨(0 : Int)⟩ w1_1
  (fun w1_4 =>
  R true w1_4)
  (fun t4_1 w1_5 =>
  R t4_1 w1_5)))))

def lit_ref06_Exact_L1 (f : Addr × Addr) (s : S_ref06_Exact_L1) : Env := [⟨2, .pointer (some f.1), none⟩, ⟨3, .pointer (some f.2), none⟩, ⟨5, .int .i64 s.i, none⟩]

def dec_ref06_Exact_L1 (e : Env) (K : (Addr × Addr) → S_ref06_Exact_L1 → Prop) : Prop :=
  onV (getV e 2) fun u1 =>
  asA u1 fun a =>
  onV (getV e 3) fun u2 =>
  asA u2 fun b =>
  onV (getV e 5) fun u3 =>
  asI .i64 u3 fun i =>
    K (a, b) ⟨i⟩

theorem dec_ref06_Exact_L1_ok {N : Nat} (e : Env) (a : Act) (K : (Addr × Addr) → S_ref06_Exact_L1 → Prop) (hr : Rep N a e) (h0 : dec_ref06_Exact_L1 e K) : ∃ f s, K f s ∧ Rep N a (lit_ref06_Exact_L1 f s) := by
  unfold dec_ref06_Exact_L1 at h0
  obtain ⟨u1, g2, h1⟩ := onV_elim h0
  obtain ⟨a, rfl, h2⟩ := asA_elim h1
  obtain ⟨u2, g3, h3⟩ := onV_elim h2
  obtain ⟨b, rfl, h4⟩ := asA_elim h3
  obtain ⟨u3, g5, h5⟩ := onV_elim h4
  obtain ⟨i, rfl, h6⟩ := asI_elim h5
  exact ⟨_, _, h6, rep_less hr (by simp [lit_ref06_Exact_L1, g2, g3, g5])⟩

def spec_ref06_Exact_L1 (Q : Post) (e : Env) (w : World) : Prop :=
  dec_ref06_Exact_L1 e fun f s => F_ref06_Exact_L1 f.1 f.2 s w (fun w1 => Q (.exit 0) [] w1) (fun t4 w1 => Q .ret [⟨4, .bool t4, none⟩] w1)

def G_ref06_Exact : Gen where
  loop := lookL [([false, true, false, true, true], spec_ref06_Exact_L1)]
  plan := fun id =>
    bif Nat.beq id 6 then some ([0, 1, 0, 7, 15, 0, 32, 0, 224, 480, 1023, 2047], .take 0 (.take 1 (.take 2 (.take 3 (.take 4 (.take 5 (.take 6 (.take 7 (.take 8 (.take 9 (.take 10 (.take 11 .done)))))))))))) else none

def dx_ref06_Exact_L1_0 (e : Env) (K : (Addr × Addr) → Prop) : Prop :=
  onV (getV e 2) fun u1 =>
  asA u1 fun a =>
  onV (getV e 3) fun u2 =>
  asA u2 fun b =>
    K (a, b)

def dx_ref06_Exact_L1_ret (e : Env) (K : (Addr × Addr) → Bool → Prop) : Prop :=
  onV (getV e 2) fun u1 =>
  asA u1 fun a =>
  onV (getV e 3) fun u2 =>
  asA u2 fun b =>
  onV (getV e 4) fun u3 =>
  asB u3 fun t4 =>
    K (a, b) t4

theorem body_ref06_Exact_L1 (f : Addr × Addr) (s : S_ref06_Exact_L1) (w : World) (Kn : (Addr × Addr) → S_ref06_Exact_L1 → World → Prop) (Kx0 : (Addr × Addr) → World → Prop) (Kr : (Addr × Addr) → Bool → World → Prop) :
    B_ref06_Exact_L1 f.1 f.2 s w (fun s1 w1 => Kn f s1 w1) (fun w1 => Kx0 f w1) (fun t4 w1 => Kr f t4 w1) =
    den Tryz.prog Tryz.f66.ntmps G_ref06_Exact (sub (codeOf Tryz.f66) [false, false, true, false, true, true]) [false, false, true, false, true, true] (roundQ (fun e w => dec_ref06_Exact_L1 e fun f s => Kn f s w) (fun e w => dx_ref06_Exact_L1_ret e fun f t4 => Kr f t4 w) (fun id e w => match Nat.beq id 0 with | true => dx_ref06_Exact_L1_0 e fun f => Kx0 f w | false => False)) (lit_ref06_Exact_L1 f s) w := by kernel_rfl

theorem ok_ref06_Exact_L1 : OneOk Tryz.prog Tryz.f66.ntmps G_ref06_Exact (codeOf Tryz.f66) [false, true, false, true, true] spec_ref06_Exact_L1 := by
  intro c hc ih Q e w a hr h
  have hcc : sub (codeOf Tryz.f66) [false, false, true, false, true, true] = c := sub_of_codeAt hc
  obtain ⟨f, s, h, hrep⟩ := dec_ref06_Exact_L1_ok e a _ hr h
  obtain ⟨J, μ, hj, hround⟩ := h
  refine loop_rule_deep seat_ok seat_mixed ih lit_ref06_Exact_L1 dec_ref06_Exact_L1 dec_ref06_Exact_L1_ok hc f J μ (Kr := fun e w => dx_ref06_Exact_L1_ret e fun f1 t4 => f1 = f ∧ Q .ret [⟨4, .bool t4, none⟩] w) (Kx := fun id e w => match Nat.beq id 0 with | true => (dx_ref06_Exact_L1_0 e fun f1 => f1 = f ∧ Q (.exit 0) [] w) | false => False) ?_ ?_ ?_ s w a hj hrep
  · intro e a w hr h0
    unfold dx_ref06_Exact_L1_ret at h0
    obtain ⟨u1, g2, h1⟩ := onV_elim h0
    obtain ⟨a, rfl, h2⟩ := asA_elim h1
    obtain ⟨u2, g3, h3⟩ := onV_elim h2
    obtain ⟨b, rfl, h4⟩ := asA_elim h3
    obtain ⟨u3, g4, h5⟩ := onV_elim h4
    obtain ⟨t4, rfl, h6⟩ := asB_elim h5
    obtain ⟨hf, hq⟩ := h6
    subst hf
    exact ⟨_, rep_less hr (by simp [g4]), hq⟩
  · intro id e a w hr h0
    (try dsimp only at h0)
    split at h0
    · rename_i hid
      obtain rfl := Nat.eq_of_beq_eq_true hid
      unfold dx_ref06_Exact_L1_0 at h0
      obtain ⟨u1, g2, h1⟩ := onV_elim h0
      obtain ⟨a, rfl, h2⟩ := asA_elim h1
      obtain ⟨u2, g3, h3⟩ := onV_elim h2
      obtain ⟨b, rfl, h4⟩ := asA_elim h3
      obtain ⟨hf, hq⟩ := h4
      subst hf
      exact ⟨_, rep_less hr (by simp), hq⟩
    · exact h0.elim
  · intro s w hj
    have hb := hround s w hj
    rw [← hcc]
    have e1 := body_ref06_Exact_L1 f s w (fun f1 s1 w1 => f1 = f ∧ J s1 w1 ∧ μ s1 w1 < μ s w) (fun f1 w1 => f1 = f ∧ Q (.exit 0) [] w1) (fun f1 t4 w1 => f1 = f ∧ Q .ret [⟨4, .bool t4, none⟩] w1)
    simp only [true_and] at e1
    exact cast e1 hb

theorem loops_ref06_Exact : LoopOk Tryz.prog Tryz.f66.ntmps G_ref06_Exact (codeOf Tryz.f66) := loopOk_list rfl ⟨ok_ref06_Exact_L1, trivial⟩

theorem den_ref06_Exact (a0 : Int) (a1 : Int) (a2 : ByteArray) (a3P : Option Addr) (a3N : Nat) (a3C : Nat) (b0 : Int) (b1 : Int) (b2 : ByteArray) (b3P : Option Addr) (b3N : Nat) (b3C : Nat) (w : World) (R : Value → World → Prop) :
    F_ref06_Exact a0 a1 a2 a3P a3N a3C b0 b1 b2 b3P b3N b3C w (fun r w1 => R (.bool r) w1) = den Tryz.prog Tryz.f66.ntmps G_ref06_Exact (codeOf Tryz.f66) [] (postD Tryz.prog Tryz.f66.results.toList R) (entry [.agg #[.int .i64 a0, .int .i64 a1, .string a2, .slice a3P a3N a3C], .agg #[.int .i64 b0, .int .i64 b1, .string b2, .slice b3P b3N b3C]] 0) w := by kernel_rfl

theorem C_ref06_Exact.of {a0 : Int} {a1 : Int} {a2 : ByteArray} {a3P : Option Addr} {a3N : Nat} {a3C : Nat} {b0 : Int} {b1 : Int} {b2 : ByteArray} {b3P : Option Addr} {b3N : Nat} {b3C : Nat} {w : World} {R : Bool → World → Prop} (h : F_ref06_Exact a0 a1 a2 a3P a3N a3C b0 b1 b2 b3P b3N b3C w R) : C_ref06_Exact a0 a1 a2 a3P a3N a3C b0 b1 b2 b3P b3N b3C w R := by
  refine (calls_of_den (c := codeOf Tryz.f66) seat_ok seat_mixed Tryz.func66 (by kernel_rfl) loops_ref06_Exact (args := [.agg #[.int .i64 a0, .int .i64 a1, .string a2, .slice a3P a3N a3C], .agg #[.int .i64 b0, .int .i64 b1, .string b2, .slice b3P b3N b3C]]) rfl (R := fun v w1 => ∃ (r : Bool), v = (.bool r : Value) ∧ R r w1) ?_).mono ?_
  · rw [← den_ref06_Exact]
    have e : (fun r w1 => ∃ (r' : Bool), (.bool r : Value) = (.bool r' : Value) ∧ R r' w1) = R := by
      funext r w1
      exact propext ⟨fun ⟨r', he, h⟩ => by first | (simp at he; simp_all) | (cases he; exact h), fun h => ⟨_, rfl, h⟩⟩
    simpa only [e] using h
  · rintro en w1 ⟨v, he, r, rfl, h⟩
    exact ⟨_, he, h⟩

def F_pool_New (limitx : Int) (w : World) (R : Option Addr → Int → World → Prop) : Prop :=
  If (decide (limitx < (0 : Int)))
  (R none (1 : Int) w)
  (If (decide (limitx > (1048576 : Int)))
  (R none (1 : Int) w)
  (BSl Tryz.prog 145 1 [(0, .agg #[.int .i64 0, .slice none 0 0])] w fun t11P t11N t11C w1 =>
  New w1 (.cells #[.slice t11P t11N t11C, .int .i64 0, .int .i64 limitx] 147) fun r w1_1 =>
  R (some ⟨r, 0, none⟩) (0 : Int) w1_1))

def G_pool_New : Gen where
  loop := lookL []
  plan := fun _ => none

theorem loops_pool_New : LoopOk Tryz.prog Tryz.f67.ntmps G_pool_New (codeOf Tryz.f67) := loopOk_none fun _ => rfl

theorem den_pool_New (limitx : Int) (w : World) (R : Value → World → Prop) :
    F_pool_New limitx w (fun r0 r1 w1 => R (.tuple #[.pointer r0, .int .i64 r1]) w1) = den Tryz.prog Tryz.f67.ntmps G_pool_New (codeOf Tryz.f67) [] (postD Tryz.prog Tryz.f67.results.toList R) (entry [.int .i64 limitx] 0) w := by kernel_rfl

theorem C_pool_New.of {limitx : Int} {w : World} {R : Option Addr → Int → World → Prop} (h : F_pool_New limitx w R) : C_pool_New limitx w R := by
  refine (calls_of_den (c := codeOf Tryz.f67) seat_ok seat_mixed Tryz.func67 (by kernel_rfl) loops_pool_New (args := [.int .i64 limitx]) rfl (R := fun v w1 => ∃ (r0 : Option Addr) (r1 : Int), v = (.tuple #[.pointer r0, .int .i64 r1] : Value) ∧ R r0 r1 w1) ?_).mono ?_
  · rw [← den_pool_New]
    have e : (fun r0 r1 w1 => ∃ (r0' : Option Addr) (r1' : Int), (.tuple #[.pointer r0, .int .i64 r1] : Value) = (.tuple #[.pointer r0', .int .i64 r1'] : Value) ∧ R r0' r1' w1) = R := by
      funext r0 r1 w1
      exact propext ⟨fun ⟨r0', r1', he, h⟩ => by first | (simp at he; simp_all) | (cases he; exact h), fun h => ⟨_, _, rfl, h⟩⟩
    simpa only [e] using h
  · rintro en w1 ⟨v, he, r0, r1, rfl, h⟩
    exact ⟨_, _, he, h⟩

def F_room_New (limitx : Int) (w : World) (R : Option Addr → Int → World → Prop) : Prop :=
  If (decide (limitx < (0 : Int)))
  (R none (1 : Int) w)
  (If (decide (limitx > (1048576 : Int)))
  (R none (1 : Int) w)
  (New w (.cells #[.slice none 0 0, .int .i64 limitx, .int .i64 0] 161) fun r w1 =>
  R (some ⟨r, 0, none⟩) (0 : Int) w1))

def G_room_New : Gen where
  loop := lookL []
  plan := fun _ => none

theorem loops_room_New : LoopOk Tryz.prog Tryz.f68.ntmps G_room_New (codeOf Tryz.f68) := loopOk_none fun _ => rfl

theorem den_room_New (limitx : Int) (w : World) (R : Value → World → Prop) :
    F_room_New limitx w (fun r0 r1 w1 => R (.tuple #[.pointer r0, .int .i64 r1]) w1) = den Tryz.prog Tryz.f68.ntmps G_room_New (codeOf Tryz.f68) [] (postD Tryz.prog Tryz.f68.results.toList R) (entry [.int .i64 limitx] 0) w := by kernel_rfl

theorem C_room_New.of {limitx : Int} {w : World} {R : Option Addr → Int → World → Prop} (h : F_room_New limitx w R) : C_room_New limitx w R := by
  refine (calls_of_den (c := codeOf Tryz.f68) seat_ok seat_mixed Tryz.func68 (by kernel_rfl) loops_room_New (args := [.int .i64 limitx]) rfl (R := fun v w1 => ∃ (r0 : Option Addr) (r1 : Int), v = (.tuple #[.pointer r0, .int .i64 r1] : Value) ∧ R r0 r1 w1) ?_).mono ?_
  · rw [← den_room_New]
    have e : (fun r0 r1 w1 => ∃ (r0' : Option Addr) (r1' : Int), (.tuple #[.pointer r0, .int .i64 r1] : Value) = (.tuple #[.pointer r0', .int .i64 r1'] : Value) ∧ R r0' r1' w1) = R := by
      funext r0 r1 w1
      exact propext ⟨fun ⟨r0', r1', he, h⟩ => by first | (simp at he; simp_all) | (cases he; exact h), fun h => ⟨_, _, rfl, h⟩⟩
    simpa only [e] using h
  · rintro en w1 ⟨v, he, r0, r1, rfl, h⟩
    exact ⟨_, _, he, h⟩

def F_atom_New (limitx : Int) (w : World) (R : Option Addr → Int → World → Prop) : Prop :=
  C_atom_Reserved  w fun t5P t5N t5C w1 =>
  If (decide (limitx < (t5N : Int)))
  (R none (1 : Int) w1)
  (If (decide (limitx > (16384 : Int)))
  (R none (1 : Int) w1)
  (New w1 (.cells #[.int .u32 0, .int .i32 0, .int .u32 0, .int .i64 0, .int .i64 limitx, .slice none 0 0, .map none, .slice none 0 0] 190) fun r w1_1 =>
  R (some ⟨r, 0, none⟩) (0 : Int) w1_1))

def G_atom_New : Gen where
  loop := lookL []
  plan := fun _ => none

theorem loops_atom_New : LoopOk Tryz.prog Tryz.f69.ntmps G_atom_New (codeOf Tryz.f69) := loopOk_none fun _ => rfl

theorem den_atom_New (limitx : Int) (w : World) (R : Value → World → Prop) :
    F_atom_New limitx w (fun r0 r1 w1 => R (.tuple #[.pointer r0, .int .i64 r1]) w1) = den Tryz.prog Tryz.f69.ntmps G_atom_New (codeOf Tryz.f69) [] (postD Tryz.prog Tryz.f69.results.toList R) (entry [.int .i64 limitx] 0) w := by kernel_rfl

theorem C_atom_New.of {limitx : Int} {w : World} {R : Option Addr → Int → World → Prop} (h : F_atom_New limitx w R) : C_atom_New limitx w R := by
  refine (calls_of_den (c := codeOf Tryz.f69) seat_ok seat_mixed Tryz.func69 (by kernel_rfl) loops_atom_New (args := [.int .i64 limitx]) rfl (R := fun v w1 => ∃ (r0 : Option Addr) (r1 : Int), v = (.tuple #[.pointer r0, .int .i64 r1] : Value) ∧ R r0 r1 w1) ?_).mono ?_
  · rw [← den_atom_New]
    have e : (fun r0 r1 w1 => ∃ (r0' : Option Addr) (r1' : Int), (.tuple #[.pointer r0, .int .i64 r1] : Value) = (.tuple #[.pointer r0', .int .i64 r1'] : Value) ∧ R r0' r1' w1) = R := by
      funext r0 r1 w1
      exact propext ⟨fun ⟨r0', r1', he, h⟩ => by first | (simp at he; simp_all) | (cases he; exact h), fun h => ⟨_, _, rfl, h⟩⟩
    simpa only [e] using h
  · rintro en w1 ⟨v, he, r0, r1, rfl, h⟩
    exact ⟨_, _, he, h⟩

def F_functor_New_k1 (R : Option Addr → Int → World → Prop) (w1 : World) : Prop :=
  R none (1 : Int) w1

def F_functor_New (limitx : Int) (atoms : Option Addr) (w : World) (R : Option Addr → Int → World → Prop) : Prop :=
  If (decide (limitx < (1 : Int)))
  (F_functor_New_k1 R w)
  (If (decide (limitx > (16384 : Int)))
  (F_functor_New_k1 R w)
  (If atoms.isNone
  (R none (1 : Int) w)
  (New w (.map #[] 0) fun r w1_1 =>
  New w1_1 (.cells #[.pointer atoms, .int .i64 limitx, .slice none 0 0, .map (some r), .slice none 0 0] 194) fun r_1 w1_2 =>
  R (some ⟨r_1, 0, none⟩) (0 : Int) w1_2)))

def G_functor_New : Gen where
  loop := lookL []
  plan := fun _ => none

theorem loops_functor_New : LoopOk Tryz.prog Tryz.f70.ntmps G_functor_New (codeOf Tryz.f70) := loopOk_none fun _ => rfl

theorem den_functor_New (limitx : Int) (atoms : Option Addr) (w : World) (R : Value → World → Prop) :
    F_functor_New limitx atoms w (fun r0 r1 w1 => R (.tuple #[.pointer r0, .int .i64 r1]) w1) = den Tryz.prog Tryz.f70.ntmps G_functor_New (codeOf Tryz.f70) [] (postD Tryz.prog Tryz.f70.results.toList R) (entry [.int .i64 limitx, .pointer atoms] 0) w := by kernel_rfl

theorem C_functor_New.of {limitx : Int} {atoms : Option Addr} {w : World} {R : Option Addr → Int → World → Prop} (h : F_functor_New limitx atoms w R) : C_functor_New limitx atoms w R := by
  refine (calls_of_den (c := codeOf Tryz.f70) seat_ok seat_mixed Tryz.func70 (by kernel_rfl) loops_functor_New (args := [.int .i64 limitx, .pointer atoms]) rfl (R := fun v w1 => ∃ (r0 : Option Addr) (r1 : Int), v = (.tuple #[.pointer r0, .int .i64 r1] : Value) ∧ R r0 r1 w1) ?_).mono ?_
  · rw [← den_functor_New]
    have e : (fun r0 r1 w1 => ∃ (r0' : Option Addr) (r1' : Int), (.tuple #[.pointer r0, .int .i64 r1] : Value) = (.tuple #[.pointer r0', .int .i64 r1'] : Value) ∧ R r0' r1' w1) = R := by
      funext r0 r1 w1
      exact propext ⟨fun ⟨r0', r1', he, h⟩ => by first | (simp at he; simp_all) | (cases he; exact h), fun h => ⟨_, _, rfl, h⟩⟩
    simpa only [e] using h
  · rintro en w1 ⟨v, he, r0, r1, rfl, h⟩
    exact ⟨_, _, he, h⟩

structure S_ref06_right_L1 where
  i : Int

/-- One round. -/
def B_ref06_right_L1 (t : Addr) (s : S_ref06_right_L1) (w : World) (Kn : S_ref06_right_L1 → World → Prop) (Kx0 : World → Prop) (Kr : Bool → World → Prop) : Prop :=
  ∃ LP : Option Addr, ∃ LN : Nat, ∃ LC : Nat, w.cell? (t.add 3) = some (.slice LP LN LC) ∧
  If (decide ((s.i : Int) < (LN : Int)))
  (∃ LP_1 : Option Addr, ∃ LN_1 : Nat, ∃ LC_1 : Nat, w.cell? (t.add 3) = some (.slice LP_1 LN_1 LC_1) ∧
  0 ≤ (s.i : Int) ∧ (s.i : Int) < (LN_1 : Int) ∧ NN LP_1 fun a =>
  ∃ t180 : Int, w.cell? ((a.add ((s.i : Int).toNat * 4)).add 0) = some (.int .i64 t180) ∧
  ∃ t181 : Int, w.cell? ((a.add ((s.i : Int).toNat * 4)).add 1) = some (.int .i64 t181) ∧
  ∃ t182 : ByteArray, w.cell? ((a.add ((s.i : Int).toNat * 4)).add 2) = some (.string t182) ∧
  ∃ t183P : Option Addr, ∃ t183N : Nat, ∃ t183C : Nat, w.cell? ((a.add ((s.i : Int).toNat * 4)).add 3) = some (.slice t183P t183N t183C) ∧
  C_ref06_right t180 t181 t182 t183P t183N t183C w fun t19 w1_2 =>
  If (!t19)
  (Kr false w1_2)
  (Kn ⟨(IntKind.i64.wrap ((s.i : Int) + (1 : Int)))⟩ w1_2))
  (Kx0 w)

def F_ref06_right_L1 (t : Addr) (s : S_ref06_right_L1) (w : World) (Kx0 : World → Prop) (Kr : Bool → World → Prop) : Prop :=
  LoopS (fun s w Kn => B_ref06_right_L1 t s w Kn Kx0 Kr) s w

def F_ref06_right (t0 : Int) (t1 : Int) (t2 : ByteArray) (t3P : Option Addr) (t3N : Nat) (t3C : Nat) (w : World) (R : Bool → World → Prop) : Prop :=
  New w (.cells #[.int .i64 t0, .int .i64 t1, .string t2, .slice t3P t3N t3C] 31) fun r w1 =>
  ∃ t40 : Int, w1.cell? ((⟨r, 0, none⟩ : Addr).add 0) = some (.int .i64 t40) ∧
  ∃ t41 : Int, w1.cell? ((⟨r, 0, none⟩ : Addr).add 1) = some (.int .i64 t41) ∧
  ∃ t42 : ByteArray, w1.cell? ((⟨r, 0, none⟩ : Addr).add 2) = some (.string t42) ∧
  ∃ t43P : Option Addr, ∃ t43N : Nat, ∃ t43C : Nat, w1.cell? ((⟨r, 0, none⟩ : Addr).add 3) = some (.slice t43P t43N t43C) ∧
  C_ref06_part t40 t41 t42 t43P t43N t43C w1 fun t5 w1_1 =>
  If (!t5)
  (R false w1_1)
  (F_ref06_right_L1 ⟨r, 0, none⟩ ⟨(0 : Int)⟩ w1_1
  (fun w1_3 =>
  R true w1_3)
  (fun t2_2 w1_4 =>
  R t2_2 w1_4))

def lit_ref06_right_L1 (f : Addr) (s : S_ref06_right_L1) : Env := [⟨1, .pointer (some f), none⟩, ⟨3, .int .i64 s.i, none⟩]

def dec_ref06_right_L1 (e : Env) (K : Addr → S_ref06_right_L1 → Prop) : Prop :=
  onV (getV e 1) fun u1 =>
  asA u1 fun t =>
  onV (getV e 3) fun u2 =>
  asI .i64 u2 fun i =>
    K (t) ⟨i⟩

theorem dec_ref06_right_L1_ok {N : Nat} (e : Env) (a : Act) (K : Addr → S_ref06_right_L1 → Prop) (hr : Rep N a e) (h0 : dec_ref06_right_L1 e K) : ∃ f s, K f s ∧ Rep N a (lit_ref06_right_L1 f s) := by
  unfold dec_ref06_right_L1 at h0
  obtain ⟨u1, g1, h1⟩ := onV_elim h0
  obtain ⟨t, rfl, h2⟩ := asA_elim h1
  obtain ⟨u2, g3, h3⟩ := onV_elim h2
  obtain ⟨i, rfl, h4⟩ := asI_elim h3
  exact ⟨_, _, h4, rep_less hr (by simp [lit_ref06_right_L1, g1, g3])⟩

def spec_ref06_right_L1 (Q : Post) (e : Env) (w : World) : Prop :=
  dec_ref06_right_L1 e fun f s => F_ref06_right_L1 f s w (fun w1 => Q (.exit 0) [] w1) (fun t2_1 w1 => Q .ret [⟨2, .bool t2_1, none⟩] w1)

def G_ref06_right : Gen where
  loop := lookL [([false, true, false, true, true], spec_ref06_right_L1)]
  plan := fun _ => none

def dx_ref06_right_L1_0 (e : Env) (K : Addr → Prop) : Prop :=
  onV (getV e 1) fun u1 =>
  asA u1 fun t =>
    K (t)

def dx_ref06_right_L1_ret (e : Env) (K : Addr → Bool → Prop) : Prop :=
  onV (getV e 1) fun u1 =>
  asA u1 fun t =>
  onV (getV e 2) fun u2 =>
  asB u2 fun t2_1 =>
    K (t) t2_1

theorem body_ref06_right_L1 (f : Addr) (s : S_ref06_right_L1) (w : World) (Kn : Addr → S_ref06_right_L1 → World → Prop) (Kx0 : Addr → World → Prop) (Kr : Addr → Bool → World → Prop) :
    B_ref06_right_L1 f s w (fun s1 w1 => Kn f s1 w1) (fun w1 => Kx0 f w1) (fun t2_1 w1 => Kr f t2_1 w1) =
    den Tryz.prog Tryz.f71.ntmps G_ref06_right (sub (codeOf Tryz.f71) [false, false, true, false, true, true]) [false, false, true, false, true, true] (roundQ (fun e w => dec_ref06_right_L1 e fun f s => Kn f s w) (fun e w => dx_ref06_right_L1_ret e fun f t2_1 => Kr f t2_1 w) (fun id e w => match Nat.beq id 0 with | true => dx_ref06_right_L1_0 e fun f => Kx0 f w | false => False)) (lit_ref06_right_L1 f s) w := by kernel_rfl

theorem ok_ref06_right_L1 : OneOk Tryz.prog Tryz.f71.ntmps G_ref06_right (codeOf Tryz.f71) [false, true, false, true, true] spec_ref06_right_L1 := by
  intro c hc ih Q e w a hr h
  have hcc : sub (codeOf Tryz.f71) [false, false, true, false, true, true] = c := sub_of_codeAt hc
  obtain ⟨f, s, h, hrep⟩ := dec_ref06_right_L1_ok e a _ hr h
  obtain ⟨J, μ, hj, hround⟩ := h
  refine loop_rule_deep seat_ok seat_mixed ih lit_ref06_right_L1 dec_ref06_right_L1 dec_ref06_right_L1_ok hc f J μ (Kr := fun e w => dx_ref06_right_L1_ret e fun f1 t2_1 => f1 = f ∧ Q .ret [⟨2, .bool t2_1, none⟩] w) (Kx := fun id e w => match Nat.beq id 0 with | true => (dx_ref06_right_L1_0 e fun f1 => f1 = f ∧ Q (.exit 0) [] w) | false => False) ?_ ?_ ?_ s w a hj hrep
  · intro e a w hr h0
    unfold dx_ref06_right_L1_ret at h0
    obtain ⟨u1, g1, h1⟩ := onV_elim h0
    obtain ⟨t, rfl, h2⟩ := asA_elim h1
    obtain ⟨u2, g2, h3⟩ := onV_elim h2
    obtain ⟨t2_1, rfl, h4⟩ := asB_elim h3
    obtain ⟨hf, hq⟩ := h4
    subst hf
    exact ⟨_, rep_less hr (by simp [g2]), hq⟩
  · intro id e a w hr h0
    (try dsimp only at h0)
    split at h0
    · rename_i hid
      obtain rfl := Nat.eq_of_beq_eq_true hid
      unfold dx_ref06_right_L1_0 at h0
      obtain ⟨u1, g1, h1⟩ := onV_elim h0
      obtain ⟨t, rfl, h2⟩ := asA_elim h1
      obtain ⟨hf, hq⟩ := h2
      subst hf
      exact ⟨_, rep_less hr (by simp), hq⟩
    · exact h0.elim
  · intro s w hj
    have hb := hround s w hj
    rw [← hcc]
    have e1 := body_ref06_right_L1 f s w (fun f1 s1 w1 => f1 = f ∧ J s1 w1 ∧ μ s1 w1 < μ s w) (fun f1 w1 => f1 = f ∧ Q (.exit 0) [] w1) (fun f1 t2_1 w1 => f1 = f ∧ Q .ret [⟨2, .bool t2_1, none⟩] w1)
    simp only [true_and] at e1
    exact cast e1 hb

theorem loops_ref06_right : LoopOk Tryz.prog Tryz.f71.ntmps G_ref06_right (codeOf Tryz.f71) := loopOk_list rfl ⟨ok_ref06_right_L1, trivial⟩

theorem den_ref06_right (t0 : Int) (t1 : Int) (t2 : ByteArray) (t3P : Option Addr) (t3N : Nat) (t3C : Nat) (w : World) (R : Value → World → Prop) :
    F_ref06_right t0 t1 t2 t3P t3N t3C w (fun r w1 => R (.bool r) w1) = den Tryz.prog Tryz.f71.ntmps G_ref06_right (codeOf Tryz.f71) [] (postD Tryz.prog Tryz.f71.results.toList R) (entry [.agg #[.int .i64 t0, .int .i64 t1, .string t2, .slice t3P t3N t3C]] 0) w := by kernel_rfl

theorem C_ref06_right.of {t0 : Int} {t1 : Int} {t2 : ByteArray} {t3P : Option Addr} {t3N : Nat} {t3C : Nat} {w : World} {R : Bool → World → Prop} (h : F_ref06_right t0 t1 t2 t3P t3N t3C w R) : C_ref06_right t0 t1 t2 t3P t3N t3C w R := by
  refine (calls_of_den (c := codeOf Tryz.f71) seat_ok seat_mixed Tryz.func71 (by kernel_rfl) loops_ref06_right (args := [.agg #[.int .i64 t0, .int .i64 t1, .string t2, .slice t3P t3N t3C]]) rfl (R := fun v w1 => ∃ (r : Bool), v = (.bool r : Value) ∧ R r w1) ?_).mono ?_
  · rw [← den_ref06_right]
    have e : (fun r w1 => ∃ (r' : Bool), (.bool r : Value) = (.bool r' : Value) ∧ R r' w1) = R := by
      funext r w1
      exact propext ⟨fun ⟨r', he, h⟩ => by first | (simp at he; simp_all) | (cases he; exact h), fun h => ⟨_, rfl, h⟩⟩
    simpa only [e] using h
  · rintro en w1 ⟨v, he, r, rfl, h⟩
    exact ⟨_, he, h⟩

structure S_ref06_Depth_L1 where
  d : Int
  i : Int

def F_ref06_Depth_k1 (s : S_ref06_Depth_L1) (Kn : S_ref06_Depth_L1 → World → Prop) (d_2 : Int) (w1_2 : World) : Prop :=
  Kn ⟨d_2, (IntKind.i64.wrap ((s.i : Int) + (1 : Int)))⟩ w1_2

/-- One round. -/
def B_ref06_Depth_L1 (t : Addr) (s : S_ref06_Depth_L1) (w : World) (Kn : S_ref06_Depth_L1 → World → Prop) (Kx0 : Int → World → Prop) : Prop :=
  ∃ LP : Option Addr, ∃ LN : Nat, ∃ LC : Nat, w.cell? (t.add 3) = some (.slice LP LN LC) ∧
  If (decide ((s.i : Int) < (LN : Int)))
  (∃ LP_1 : Option Addr, ∃ LN_1 : Nat, ∃ LC_1 : Nat, w.cell? (t.add 3) = some (.slice LP_1 LN_1 LC_1) ∧
  0 ≤ (s.i : Int) ∧ (s.i : Int) < (LN_1 : Int) ∧ NN LP_1 fun a =>
  ∃ t170 : Int, w.cell? ((a.add ((s.i : Int).toNat * 4)).add 0) = some (.int .i64 t170) ∧
  ∃ t171 : Int, w.cell? ((a.add ((s.i : Int).toNat * 4)).add 1) = some (.int .i64 t171) ∧
  ∃ t172 : ByteArray, w.cell? ((a.add ((s.i : Int).toNat * 4)).add 2) = some (.string t172) ∧
  ∃ t173P : Option Addr, ∃ t173N : Nat, ∃ t173C : Nat, w.cell? ((a.add ((s.i : Int).toNat * 4)).add 3) = some (.slice t173P t173N t173C) ∧
  C_ref06_Depth t170 t171 t172 t173P t173N t173C w fun t18 w1_1 =>
  If (decide (t18 > (s.d : Int)))
  (F_ref06_Depth_k1 s Kn t18 w1_1)
  (F_ref06_Depth_k1 s Kn (s.d : Int) w1_1))
  (Kx0 (s.d : Int) w)

def F_ref06_Depth_L1 (t : Addr) (s : S_ref06_Depth_L1) (w : World) (Kx0 : Int → World → Prop) : Prop :=
  LoopS (fun s w Kn => B_ref06_Depth_L1 t s w Kn Kx0) s w

def F_ref06_Depth (t0 : Int) (t1 : Int) (t2 : ByteArray) (t3P : Option Addr) (t3N : Nat) (t3C : Nat) (w : World) (R : Int → World → Prop) : Prop :=
  New w (.cells #[.int .i64 t0, .int .i64 t1, .string t2, .slice t3P t3N t3C] 31) fun r w1 =>
  F_ref06_Depth_L1 ⟨r, 0, none⟩ ⟨(0 : Int), (0 : Int)⟩ w1
  (fun d_3 w1_3 =>
  R (IntKind.i64.wrap (d_3 + (1 : Int))) w1_3)

def lit_ref06_Depth_L1 (f : Addr) (s : S_ref06_Depth_L1) : Env := [⟨1, .pointer (some f), none⟩, ⟨3, .int .i64 s.d, none⟩, ⟨4, .int .i64 s.i, none⟩]

def dec_ref06_Depth_L1 (e : Env) (K : Addr → S_ref06_Depth_L1 → Prop) : Prop :=
  onV (getV e 1) fun u1 =>
  asA u1 fun t =>
  onV (getV e 3) fun u2 =>
  asI .i64 u2 fun d =>
  onV (getV e 4) fun u3 =>
  asI .i64 u3 fun i =>
    K (t) ⟨d, i⟩

theorem dec_ref06_Depth_L1_ok {N : Nat} (e : Env) (a : Act) (K : Addr → S_ref06_Depth_L1 → Prop) (hr : Rep N a e) (h0 : dec_ref06_Depth_L1 e K) : ∃ f s, K f s ∧ Rep N a (lit_ref06_Depth_L1 f s) := by
  unfold dec_ref06_Depth_L1 at h0
  obtain ⟨u1, g1, h1⟩ := onV_elim h0
  obtain ⟨t, rfl, h2⟩ := asA_elim h1
  obtain ⟨u2, g3, h3⟩ := onV_elim h2
  obtain ⟨d, rfl, h4⟩ := asI_elim h3
  obtain ⟨u3, g4, h5⟩ := onV_elim h4
  obtain ⟨i, rfl, h6⟩ := asI_elim h5
  exact ⟨_, _, h6, rep_less hr (by simp [lit_ref06_Depth_L1, g1, g3, g4])⟩

def spec_ref06_Depth_L1 (Q : Post) (e : Env) (w : World) : Prop :=
  dec_ref06_Depth_L1 e fun f s => F_ref06_Depth_L1 f s w (fun d_1 w1 => Q (.exit 0) [⟨3, .int .i64 d_1, none⟩] w1)

def G_ref06_Depth : Gen where
  loop := lookL [([false, true, false, true, true], spec_ref06_Depth_L1)]
  plan := fun _ => none

def dx_ref06_Depth_L1_0 (e : Env) (K : Addr → Int → Prop) : Prop :=
  onV (getV e 1) fun u1 =>
  asA u1 fun t =>
  onV (getV e 3) fun u2 =>
  asI .i64 u2 fun d_1 =>
    K (t) d_1

theorem body_ref06_Depth_L1 (f : Addr) (s : S_ref06_Depth_L1) (w : World) (Kn : Addr → S_ref06_Depth_L1 → World → Prop) (Kx0 : Addr → Int → World → Prop) :
    B_ref06_Depth_L1 f s w (fun s1 w1 => Kn f s1 w1) (fun d_1 w1 => Kx0 f d_1 w1) =
    den Tryz.prog Tryz.f72.ntmps G_ref06_Depth (sub (codeOf Tryz.f72) [false, false, true, false, true, true]) [false, false, true, false, true, true] (roundQ (fun e w => dec_ref06_Depth_L1 e fun f s => Kn f s w) (fun e w => False) (fun id e w => match Nat.beq id 0 with | true => dx_ref06_Depth_L1_0 e fun f d_1 => Kx0 f d_1 w | false => False)) (lit_ref06_Depth_L1 f s) w := by kernel_rfl

theorem ok_ref06_Depth_L1 : OneOk Tryz.prog Tryz.f72.ntmps G_ref06_Depth (codeOf Tryz.f72) [false, true, false, true, true] spec_ref06_Depth_L1 := by
  intro c hc ih Q e w a hr h
  have hcc : sub (codeOf Tryz.f72) [false, false, true, false, true, true] = c := sub_of_codeAt hc
  obtain ⟨f, s, h, hrep⟩ := dec_ref06_Depth_L1_ok e a _ hr h
  obtain ⟨J, μ, hj, hround⟩ := h
  refine loop_rule_deep seat_ok seat_mixed ih lit_ref06_Depth_L1 dec_ref06_Depth_L1 dec_ref06_Depth_L1_ok hc f J μ (Kr := fun e w => False) (Kx := fun id e w => match Nat.beq id 0 with | true => (dx_ref06_Depth_L1_0 e fun f1 d_1 => f1 = f ∧ Q (.exit 0) [⟨3, .int .i64 d_1, none⟩] w) | false => False) ?_ ?_ ?_ s w a hj hrep
  · intro e a w hr h
    exact h.elim
  · intro id e a w hr h0
    (try dsimp only at h0)
    split at h0
    · rename_i hid
      obtain rfl := Nat.eq_of_beq_eq_true hid
      unfold dx_ref06_Depth_L1_0 at h0
      obtain ⟨u1, g1, h1⟩ := onV_elim h0
      obtain ⟨t, rfl, h2⟩ := asA_elim h1
      obtain ⟨u2, g3, h3⟩ := onV_elim h2
      obtain ⟨d_1, rfl, h4⟩ := asI_elim h3
      obtain ⟨hf, hq⟩ := h4
      subst hf
      exact ⟨_, rep_less hr (by simp [g3]), hq⟩
    · exact h0.elim
  · intro s w hj
    have hb := hround s w hj
    rw [← hcc]
    have e1 := body_ref06_Depth_L1 f s w (fun f1 s1 w1 => f1 = f ∧ J s1 w1 ∧ μ s1 w1 < μ s w) (fun f1 d_1 w1 => f1 = f ∧ Q (.exit 0) [⟨3, .int .i64 d_1, none⟩] w1)
    simp only [true_and] at e1
    exact cast e1 hb

theorem loops_ref06_Depth : LoopOk Tryz.prog Tryz.f72.ntmps G_ref06_Depth (codeOf Tryz.f72) := loopOk_list rfl ⟨ok_ref06_Depth_L1, trivial⟩

theorem den_ref06_Depth (t0 : Int) (t1 : Int) (t2 : ByteArray) (t3P : Option Addr) (t3N : Nat) (t3C : Nat) (w : World) (R : Value → World → Prop) :
    F_ref06_Depth t0 t1 t2 t3P t3N t3C w (fun r w1 => R (.int .i64 r) w1) = den Tryz.prog Tryz.f72.ntmps G_ref06_Depth (codeOf Tryz.f72) [] (postD Tryz.prog Tryz.f72.results.toList R) (entry [.agg #[.int .i64 t0, .int .i64 t1, .string t2, .slice t3P t3N t3C]] 0) w := by kernel_rfl

theorem C_ref06_Depth.of {t0 : Int} {t1 : Int} {t2 : ByteArray} {t3P : Option Addr} {t3N : Nat} {t3C : Nat} {w : World} {R : Int → World → Prop} (h : F_ref06_Depth t0 t1 t2 t3P t3N t3C w R) : C_ref06_Depth t0 t1 t2 t3P t3N t3C w R := by
  refine (calls_of_den (c := codeOf Tryz.f72) seat_ok seat_mixed Tryz.func72 (by kernel_rfl) loops_ref06_Depth (args := [.agg #[.int .i64 t0, .int .i64 t1, .string t2, .slice t3P t3N t3C]]) rfl (R := fun v w1 => ∃ (r : Int), v = (.int .i64 r : Value) ∧ R r w1) ?_).mono ?_
  · rw [← den_ref06_Depth]
    have e : (fun r w1 => ∃ (r' : Int), (.int .i64 r : Value) = (.int .i64 r' : Value) ∧ R r' w1) = R := by
      funext r w1
      exact propext ⟨fun ⟨r', he, h⟩ => by first | (simp at he; simp_all) | (cases he; exact h), fun h => ⟨_, rfl, h⟩⟩
    simpa only [e] using h
  · rintro en w1 ⟨v, he, r, rfl, h⟩
    exact ⟨_, he, h⟩

def F_heap_Heap_made (hx : Option Addr) (w : World) (R : Bool → World → Prop) : Prop :=
  If (!hx.isNone)
  (NN hx fun a =>
  ∃ pool : Option Addr, w.cell? (a.add 0) = some (.pointer pool) ∧
  R (!pool.isNone) w)
  (R false w)

def G_heap_Heap_made : Gen where
  loop := lookL []
  plan := fun _ => none

theorem loops_heap_Heap_made : LoopOk Tryz.prog Tryz.f73.ntmps G_heap_Heap_made (codeOf Tryz.f73) := loopOk_none fun _ => rfl

theorem den_heap_Heap_made (hx : Option Addr) (w : World) (R : Value → World → Prop) :
    F_heap_Heap_made hx w (fun r w1 => R (.bool r) w1) = den Tryz.prog Tryz.f73.ntmps G_heap_Heap_made (codeOf Tryz.f73) [] (postD Tryz.prog Tryz.f73.results.toList R) (entry [.pointer hx] 0) w := by kernel_rfl

theorem C_heap_Heap_made.of {hx : Option Addr} {w : World} {R : Bool → World → Prop} (h : F_heap_Heap_made hx w R) : C_heap_Heap_made hx w R := by
  refine (calls_of_den (c := codeOf Tryz.f73) seat_ok seat_mixed Tryz.func73 (by kernel_rfl) loops_heap_Heap_made (args := [.pointer hx]) rfl (R := fun v w1 => ∃ (r : Bool), v = (.bool r : Value) ∧ R r w1) ?_).mono ?_
  · rw [← den_heap_Heap_made]
    have e : (fun r w1 => ∃ (r' : Bool), (.bool r : Value) = (.bool r' : Value) ∧ R r' w1) = R := by
      funext r w1
      exact propext ⟨fun ⟨r', he, h⟩ => by first | (simp at he; simp_all) | (cases he; exact h), fun h => ⟨_, rfl, h⟩⟩
    simpa only [e] using h
  · rintro en w1 ⟨v, he, r, rfl, h⟩
    exact ⟨_, he, h⟩

def F_term_Check (t0 : Int) (t1 : Int) (t2 : ByteArray) (t3P : Option Addr) (t3N : Nat) (t3C : Nat) (w : World) (R : Int → World → Prop) : Prop :=
  New w (.cells #[.int .i64 t0, .int .i64 t1, .string t2, .slice t3P t3N t3C] 31) fun r w1 =>
  ∃ t40 : Int, w1.cell? ((⟨r, 0, none⟩ : Addr).add 0) = some (.int .i64 t40) ∧
  ∃ t41 : Int, w1.cell? ((⟨r, 0, none⟩ : Addr).add 1) = some (.int .i64 t41) ∧
  ∃ t42 : ByteArray, w1.cell? ((⟨r, 0, none⟩ : Addr).add 2) = some (.string t42) ∧
  ∃ t43P : Option Addr, ∃ t43N : Nat, ∃ t43C : Nat, w1.cell? ((⟨r, 0, none⟩ : Addr).add 3) = some (.slice t43P t43N t43C) ∧
  C_term_measure t40 t41 t42 t43P t43N t43C w1 fun t50 t51 t52 w1_1 =>
  New w1_1 (.cells #[.int .i64 0, .int .i64 0, .bool false] 196) fun r_1 w1_2 =>
  St w1_2 ((⟨r_1, 0, none⟩ : Addr).add 0) (.int .i64 t50) fun w1_3 =>
  St w1_3 ((⟨r_1, 0, none⟩ : Addr).add 1) (.int .i64 t51) fun w1_4 =>
  St w1_4 ((⟨r_1, 0, none⟩ : Addr).add 2) (.bool t52) fun w1_5 =>
  ∃ bad : Bool, w1_5.cell? ((⟨r_1, 0, none⟩ : Addr).add 2) = some (.bool bad) ∧
  If bad
  (R (60 : Int) w1_5)
  (∃ depth : Int, w1_5.cell? ((⟨r_1, 0, none⟩ : Addr).add 1) = some (.int .i64 depth) ∧
  If (decide (depth > (200 : Int)))
  (R (61 : Int) w1_5)
  (∃ parts : Int, w1_5.cell? ((⟨r_1, 0, none⟩ : Addr).add 0) = some (.int .i64 parts) ∧
  If (decide (parts > (4096 : Int)))
  (R (62 : Int) w1_5)
  (R (0 : Int) w1_5)))

def G_term_Check : Gen where
  loop := lookL []
  plan := fun _ => none

theorem loops_term_Check : LoopOk Tryz.prog Tryz.f74.ntmps G_term_Check (codeOf Tryz.f74) := loopOk_none fun _ => rfl

theorem den_term_Check (t0 : Int) (t1 : Int) (t2 : ByteArray) (t3P : Option Addr) (t3N : Nat) (t3C : Nat) (w : World) (R : Value → World → Prop) :
    F_term_Check t0 t1 t2 t3P t3N t3C w (fun r w1 => R (.int .i64 r) w1) = den Tryz.prog Tryz.f74.ntmps G_term_Check (codeOf Tryz.f74) [] (postD Tryz.prog Tryz.f74.results.toList R) (entry [.agg #[.int .i64 t0, .int .i64 t1, .string t2, .slice t3P t3N t3C]] 0) w := by kernel_rfl

theorem C_term_Check.of {t0 : Int} {t1 : Int} {t2 : ByteArray} {t3P : Option Addr} {t3N : Nat} {t3C : Nat} {w : World} {R : Int → World → Prop} (h : F_term_Check t0 t1 t2 t3P t3N t3C w R) : C_term_Check t0 t1 t2 t3P t3N t3C w R := by
  refine (calls_of_den (c := codeOf Tryz.f74) seat_ok seat_mixed Tryz.func74 (by kernel_rfl) loops_term_Check (args := [.agg #[.int .i64 t0, .int .i64 t1, .string t2, .slice t3P t3N t3C]]) rfl (R := fun v w1 => ∃ (r : Int), v = (.int .i64 r : Value) ∧ R r w1) ?_).mono ?_
  · rw [← den_term_Check]
    have e : (fun r w1 => ∃ (r' : Int), (.int .i64 r : Value) = (.int .i64 r' : Value) ∧ R r' w1) = R := by
      funext r w1
      exact propext ⟨fun ⟨r', he, h⟩ => by first | (simp at he; simp_all) | (cases he; exact h), fun h => ⟨_, rfl, h⟩⟩
    simpa only [e] using h
  · rintro en w1 ⟨v, he, r, rfl, h⟩
    exact ⟨_, he, h⟩

structure S_heap_Heap_build_L1 where
  t57 : Int

/-- One round. -/
def B_heap_Heap_build_L1 (hx_1 : Option Addr) (vars_1 : Option Nat) (wx : Int) (t55P : Option Addr) (t55N : Nat) (t55C : Nat) (t56 : Int) (s : S_heap_Heap_build_L1) (w : World) (Kn : S_heap_Heap_build_L1 → World → Prop) (Kx1 : World → Prop) (Kr : Int → Int → World → Prop) : Prop :=
  If (decide ((s.t57 : Int) < t56))
  (0 ≤ (s.t57 : Int) ∧ (s.t57 : Int) < (t55N : Int) ∧ NN t55P fun a =>
  ∃ t610 : Int, w.cell? ((a.add ((s.t57 : Int).toNat * 4)).add 0) = some (.int .i64 t610) ∧
  ∃ t611 : Int, w.cell? ((a.add ((s.t57 : Int).toNat * 4)).add 1) = some (.int .i64 t611) ∧
  ∃ t612 : ByteArray, w.cell? ((a.add ((s.t57 : Int).toNat * 4)).add 2) = some (.string t612) ∧
  ∃ t613P : Option Addr, ∃ t613N : Nat, ∃ t613C : Nat, w.cell? ((a.add ((s.t57 : Int).toNat * 4)).add 3) = some (.slice t613P t613N t613C) ∧
  New w (.cells #[.int .i64 0, .int .i64 0, .string ⟨#[]⟩, .slice none 0 0] 31) fun r_1 w1_5 =>
  St w1_5 ((⟨r_1, 0, none⟩ : Addr).add 0) (.int .i64 t610) fun w1_6 =>
  St w1_6 ((⟨r_1, 0, none⟩ : Addr).add 1) (.int .i64 t611) fun w1_7 =>
  St w1_7 ((⟨r_1, 0, none⟩ : Addr).add 2) (.string t612) fun w1_8 =>
  St w1_8 ((⟨r_1, 0, none⟩ : Addr).add 3) (.slice t613P t613N t613C) fun w1_9 =>
  ∃ t640 : Int, w1_9.cell? ((⟨r_1, 0, none⟩ : Addr).add 0) = some (.int .i64 t640) ∧
  ∃ t641 : Int, w1_9.cell? ((⟨r_1, 0, none⟩ : Addr).add 1) = some (.int .i64 t641) ∧
  ∃ t642 : ByteArray, w1_9.cell? ((⟨r_1, 0, none⟩ : Addr).add 2) = some (.string t642) ∧
  ∃ t643P : Option Addr, ∃ t643N : Nat, ∃ t643C : Nat, w1_9.cell? ((⟨r_1, 0, none⟩ : Addr).add 3) = some (.slice t643P t643N t643C) ∧
  C_heap_Heap_build hx_1 t640 t641 t642 t643P t643N t643C vars_1 w1_9 fun t660 t661 w1_10 =>
  If (t661 != (0 : Int))
  (Kr (0 : Int) t661 w1_10)
  (NN hx_1 fun a_1 =>
  ∃ cellsP : Option Addr, ∃ cellsN : Nat, ∃ cellsC : Nat, (drw w1_10).cell? (a_1.add 4) = some (.slice cellsP cellsN cellsC) ∧
  C_heap_arg wx (IntKind.i64.wrap ((s.t57 : Int) + (1 : Int))) (drw w1_10) fun t79 w1_11 =>
  w1_11.cell? (a_1.add 4) = (drw w1_10).cell? (a_1.add 4) ∧
  C_heap_Heap_deref hx_1 t660 w1_11 fun t82 w1_12 =>
  w1_12.cell? (a_1.add 4) = (drw w1_10).cell? (a_1.add 4) ∧
  0 ≤ t79 ∧ t79 < (cellsN : Int) ∧ NN cellsP fun a_2 =>
  St w1_12 ((a_2.add (t79.toNat * 1)).add 0) (.int .u64 t82) fun w1_13 =>
  Kn ⟨(IntKind.i64.wrap ((s.t57 : Int) + (1 : Int)))⟩ w1_13))
  (Kx1 w)

def F_heap_Heap_build_L1 (hx_1 : Option Addr) (vars_1 : Option Nat) (wx : Int) (t55P : Option Addr) (t55N : Nat) (t55C : Nat) (t56 : Int) (s : S_heap_Heap_build_L1) (w : World) (Kx1 : World → Prop) (Kr : Int → Int → World → Prop) : Prop :=
  LoopS (fun s w Kn => B_heap_Heap_build_L1 hx_1 vars_1 wx t55P t55N t55C t56 s w Kn Kx1 Kr) s w

def F_heap_Heap_build (hx : Option Addr) (t0 : Int) (t1 : Int) (t2 : ByteArray) (t3P : Option Addr) (t3N : Nat) (t3C : Nat) (vars : Option Nat) (w : World) (R : Int → Int → World → Prop) : Prop :=
  New w (.cells #[.int .i64 t0, .int .i64 t1, .string t2, .slice t3P t3N t3C] 31) fun r w1 =>
  ∃ Kind : Int, w1.cell? ((⟨r, 0, none⟩ : Addr).add 0) = some (.int .i64 Kind) ∧
  If (Kind == (1 : Int))
  (∃ N : Int, w1.cell? ((⟨r, 0, none⟩ : Addr).add 1) = some (.int .i64 N) ∧
  C_heap_Heap_variable hx N vars w1 fun t220 t221 w1_1 =>
  R t220 t221 w1_1)
  (If (Kind == (2 : Int))
  (∃ N_1 : Int, w1.cell? ((⟨r, 0, none⟩ : Addr).add 1) = some (.int .i64 N_1) ∧
  C_heap_Heap_Int hx N_1 w1 fun t300 t301 w1_2 =>
  R t300 t301 w1_2)
  (If (Kind == (3 : Int))
  (∃ S : ByteArray, w1.cell? ((⟨r, 0, none⟩ : Addr).add 2) = some (.string S) ∧
  C_heap_Heap_Atom hx S w1 fun t380 t381 w1_3 =>
  R t380 t381 w1_3)
  (∃ S_1 : ByteArray, w1.cell? ((⟨r, 0, none⟩ : Addr).add 2) = some (.string S_1) ∧
  ∃ LP : Option Addr, ∃ LN : Nat, ∃ LC : Nat, w1.cell? ((⟨r, 0, none⟩ : Addr).add 3) = some (.slice LP LN LC) ∧
  C_heap_Heap_Struct hx S_1 (LN : Int) w1 fun t480 t481 w1_4 =>
  If (t481 != (0 : Int))
  (R (0 : Int) t481 w1_4)
  (∃ LP_1 : Option Addr, ∃ LN_1 : Nat, ∃ LC_1 : Nat, w1_4.cell? ((⟨r, 0, none⟩ : Addr).add 3) = some (.slice LP_1 LN_1 LC_1) ∧
  F_heap_Heap_build_L1 hx vars t480 LP_1 LN_1 LC_1 (LN_1 : Int) ⟨(0 : Int)⟩ w1_4
  (fun w1_14 =>
  R t480 (0 : Int) w1_14)
  (fun t6_1 t7_1 w1_15 =>
  R t6_1 t7_1 w1_15)))))

def lit_heap_Heap_build_L1 (f : (Option Addr) × (Option Nat) × Int × (Option Addr) × Nat × Nat × Int) (s : S_heap_Heap_build_L1) : Env := [⟨0, .pointer f.1, none⟩, ⟨2, .map f.2.1, none⟩, ⟨8, .int .u64 f.2.2.1, none⟩, ⟨55, .slice f.2.2.2.1 f.2.2.2.2.1 f.2.2.2.2.2.1, none⟩, ⟨56, .int .i64 f.2.2.2.2.2.2, none⟩, ⟨57, .int .i64 s.t57, none⟩]

def dec_heap_Heap_build_L1 (e : Env) (K : ((Option Addr) × (Option Nat) × Int × (Option Addr) × Nat × Nat × Int) → S_heap_Heap_build_L1 → Prop) : Prop :=
  onV (getV e 0) fun u1 =>
  asP u1 fun hx_1 =>
  onV (getV e 2) fun u2 =>
  asM u2 fun vars_1 =>
  onV (getV e 8) fun u3 =>
  asI .u64 u3 fun wx =>
  onV (getV e 55) fun u4 =>
  asS u4 fun t55P t55N t55C =>
  onV (getV e 56) fun u5 =>
  asI .i64 u5 fun t56 =>
  onV (getV e 57) fun u6 =>
  asI .i64 u6 fun t57 =>
    K (hx_1, vars_1, wx, t55P, t55N, t55C, t56) ⟨t57⟩

theorem dec_heap_Heap_build_L1_ok {N : Nat} (e : Env) (a : Act) (K : ((Option Addr) × (Option Nat) × Int × (Option Addr) × Nat × Nat × Int) → S_heap_Heap_build_L1 → Prop) (hr : Rep N a e) (h0 : dec_heap_Heap_build_L1 e K) : ∃ f s, K f s ∧ Rep N a (lit_heap_Heap_build_L1 f s) := by
  unfold dec_heap_Heap_build_L1 at h0
  obtain ⟨u1, g0, h1⟩ := onV_elim h0
  obtain ⟨hx_1, rfl, h2⟩ := asP_elim h1
  obtain ⟨u2, g2, h3⟩ := onV_elim h2
  obtain ⟨vars_1, rfl, h4⟩ := asM_elim h3
  obtain ⟨u3, g8, h5⟩ := onV_elim h4
  obtain ⟨wx, rfl, h6⟩ := asI_elim h5
  obtain ⟨u4, g55, h7⟩ := onV_elim h6
  obtain ⟨t55P, t55N, t55C, rfl, h8⟩ := asS_elim h7
  obtain ⟨u5, g56, h9⟩ := onV_elim h8
  obtain ⟨t56, rfl, h10⟩ := asI_elim h9
  obtain ⟨u6, g57, h11⟩ := onV_elim h10
  obtain ⟨t57, rfl, h12⟩ := asI_elim h11
  exact ⟨_, _, h12, rep_less hr (by simp [lit_heap_Heap_build_L1, g0, g2, g8, g55, g56, g57])⟩

def spec_heap_Heap_build_L1 (Q : Post) (e : Env) (w : World) : Prop :=
  dec_heap_Heap_build_L1 e fun f s => F_heap_Heap_build_L1 f.1 f.2.1 f.2.2.1 f.2.2.2.1 f.2.2.2.2.1 f.2.2.2.2.2.1 f.2.2.2.2.2.2 s w (fun w1 => Q (.exit 1) [⟨8, .int .u64 f.2.2.1, none⟩] w1) (fun t6 t7 w1 => Q .ret [⟨6, .int .u64 t6, none⟩, ⟨7, .int .i64 t7, none⟩] w1)

def G_heap_Heap_build : Gen where
  loop := lookL [([false, true, false, true, true, true, true], spec_heap_Heap_build_L1)]
  plan := fun id =>
    bif Nat.beq id 17 then some ([0, 1, 3, 7, 0, 0, 32, 112, 0, 0, 1008, 2047, 4095], .take 0 (.take 1 (.take 2 (.take 3 (.take 4 (.take 5 (.take 6 (.take 8 (.take 9 (.take 7 (.take 10 (.take 11 (.take 12 .done))))))))))))) else none

def dx_heap_Heap_build_L1_1 (e : Env) (K : ((Option Addr) × (Option Nat) × Int × (Option Addr) × Nat × Nat × Int) → Prop) : Prop :=
  onV (getV e 0) fun u1 =>
  asP u1 fun hx_1 =>
  onV (getV e 2) fun u2 =>
  asM u2 fun vars_1 =>
  onV (getV e 8) fun u3 =>
  asI .u64 u3 fun wx =>
  onV (getV e 55) fun u4 =>
  asS u4 fun t55P t55N t55C =>
  onV (getV e 56) fun u5 =>
  asI .i64 u5 fun t56 =>
    K (hx_1, vars_1, wx, t55P, t55N, t55C, t56)

def dx_heap_Heap_build_L1_ret (e : Env) (K : ((Option Addr) × (Option Nat) × Int × (Option Addr) × Nat × Nat × Int) → Int → Int → Prop) : Prop :=
  onV (getV e 0) fun u1 =>
  asP u1 fun hx_1 =>
  onV (getV e 2) fun u2 =>
  asM u2 fun vars_1 =>
  onV (getV e 8) fun u3 =>
  asI .u64 u3 fun wx =>
  onV (getV e 55) fun u4 =>
  asS u4 fun t55P t55N t55C =>
  onV (getV e 56) fun u5 =>
  asI .i64 u5 fun t56 =>
  onV (getV e 6) fun u6 =>
  asI .u64 u6 fun t6 =>
  onV (getV e 7) fun u7 =>
  asI .i64 u7 fun t7 =>
    K (hx_1, vars_1, wx, t55P, t55N, t55C, t56) t6 t7

theorem body_heap_Heap_build_L1 (f : (Option Addr) × (Option Nat) × Int × (Option Addr) × Nat × Nat × Int) (s : S_heap_Heap_build_L1) (w : World) (Kn : ((Option Addr) × (Option Nat) × Int × (Option Addr) × Nat × Nat × Int) → S_heap_Heap_build_L1 → World → Prop) (Kx1 : ((Option Addr) × (Option Nat) × Int × (Option Addr) × Nat × Nat × Int) → World → Prop) (Kr : ((Option Addr) × (Option Nat) × Int × (Option Addr) × Nat × Nat × Int) → Int → Int → World → Prop) :
    B_heap_Heap_build_L1 f.1 f.2.1 f.2.2.1 f.2.2.2.1 f.2.2.2.2.1 f.2.2.2.2.2.1 f.2.2.2.2.2.2 s w (fun s1 w1 => Kn f s1 w1) (fun w1 => Kx1 f w1) (fun t6 t7 w1 => Kr f t6 t7 w1) =
    den Tryz.prog Tryz.f75.ntmps G_heap_Heap_build (sub (codeOf Tryz.f75) [false, false, true, false, true, true, true, true]) [false, false, true, false, true, true, true, true] (roundQ (fun e w => dec_heap_Heap_build_L1 e fun f s => Kn f s w) (fun e w => dx_heap_Heap_build_L1_ret e fun f t6 t7 => Kr f t6 t7 w) (fun id e w => match Nat.beq id 1 with | true => dx_heap_Heap_build_L1_1 e fun f => Kx1 f w | false => False)) (lit_heap_Heap_build_L1 f s) w := by kernel_rfl

theorem ok_heap_Heap_build_L1 : OneOk Tryz.prog Tryz.f75.ntmps G_heap_Heap_build (codeOf Tryz.f75) [false, true, false, true, true, true, true] spec_heap_Heap_build_L1 := by
  intro c hc ih Q e w a hr h
  have hcc : sub (codeOf Tryz.f75) [false, false, true, false, true, true, true, true] = c := sub_of_codeAt hc
  obtain ⟨f, s, h, hrep⟩ := dec_heap_Heap_build_L1_ok e a _ hr h
  obtain ⟨J, μ, hj, hround⟩ := h
  refine loop_rule_deep seat_ok seat_mixed ih lit_heap_Heap_build_L1 dec_heap_Heap_build_L1 dec_heap_Heap_build_L1_ok hc f J μ (Kr := fun e w => dx_heap_Heap_build_L1_ret e fun f1 t6 t7 => f1 = f ∧ Q .ret [⟨6, .int .u64 t6, none⟩, ⟨7, .int .i64 t7, none⟩] w) (Kx := fun id e w => match Nat.beq id 1 with | true => (dx_heap_Heap_build_L1_1 e fun f1 => f1 = f ∧ Q (.exit 1) [⟨8, .int .u64 f.2.2.1, none⟩] w) | false => False) ?_ ?_ ?_ s w a hj hrep
  · intro e a w hr h0
    unfold dx_heap_Heap_build_L1_ret at h0
    obtain ⟨u1, g0, h1⟩ := onV_elim h0
    obtain ⟨hx_1, rfl, h2⟩ := asP_elim h1
    obtain ⟨u2, g2, h3⟩ := onV_elim h2
    obtain ⟨vars_1, rfl, h4⟩ := asM_elim h3
    obtain ⟨u3, g8, h5⟩ := onV_elim h4
    obtain ⟨wx, rfl, h6⟩ := asI_elim h5
    obtain ⟨u4, g55, h7⟩ := onV_elim h6
    obtain ⟨t55P, t55N, t55C, rfl, h8⟩ := asS_elim h7
    obtain ⟨u5, g56, h9⟩ := onV_elim h8
    obtain ⟨t56, rfl, h10⟩ := asI_elim h9
    obtain ⟨u6, g6, h11⟩ := onV_elim h10
    obtain ⟨t6, rfl, h12⟩ := asI_elim h11
    obtain ⟨u7, g7, h13⟩ := onV_elim h12
    obtain ⟨t7, rfl, h14⟩ := asI_elim h13
    obtain ⟨hf, hq⟩ := h14
    subst hf
    exact ⟨_, rep_less hr (by simp [g6, g7]), hq⟩
  · intro id e a w hr h0
    (try dsimp only at h0)
    split at h0
    · rename_i hid
      obtain rfl := Nat.eq_of_beq_eq_true hid
      unfold dx_heap_Heap_build_L1_1 at h0
      obtain ⟨u1, g0, h1⟩ := onV_elim h0
      obtain ⟨hx_1, rfl, h2⟩ := asP_elim h1
      obtain ⟨u2, g2, h3⟩ := onV_elim h2
      obtain ⟨vars_1, rfl, h4⟩ := asM_elim h3
      obtain ⟨u3, g8, h5⟩ := onV_elim h4
      obtain ⟨wx, rfl, h6⟩ := asI_elim h5
      obtain ⟨u4, g55, h7⟩ := onV_elim h6
      obtain ⟨t55P, t55N, t55C, rfl, h8⟩ := asS_elim h7
      obtain ⟨u5, g56, h9⟩ := onV_elim h8
      obtain ⟨t56, rfl, h10⟩ := asI_elim h9
      obtain ⟨hf, hq⟩ := h10
      subst hf
      exact ⟨_, rep_less hr (by simp [g8]), hq⟩
    · exact h0.elim
  · intro s w hj
    have hb := hround s w hj
    rw [← hcc]
    have e1 := body_heap_Heap_build_L1 f s w (fun f1 s1 w1 => f1 = f ∧ J s1 w1 ∧ μ s1 w1 < μ s w) (fun f1 w1 => f1 = f ∧ Q (.exit 1) [⟨8, .int .u64 f.2.2.1, none⟩] w1) (fun f1 t6 t7 w1 => f1 = f ∧ Q .ret [⟨6, .int .u64 t6, none⟩, ⟨7, .int .i64 t7, none⟩] w1)
    simp only [true_and] at e1
    exact cast e1 hb

theorem loops_heap_Heap_build : LoopOk Tryz.prog Tryz.f75.ntmps G_heap_Heap_build (codeOf Tryz.f75) := loopOk_list rfl ⟨ok_heap_Heap_build_L1, trivial⟩

theorem den_heap_Heap_build (hx : Option Addr) (t0 : Int) (t1 : Int) (t2 : ByteArray) (t3P : Option Addr) (t3N : Nat) (t3C : Nat) (vars : Option Nat) (w : World) (R : Value → World → Prop) :
    F_heap_Heap_build hx t0 t1 t2 t3P t3N t3C vars w (fun r0 r1 w1 => R (.tuple #[.int .u64 r0, .int .i64 r1]) w1) = den Tryz.prog Tryz.f75.ntmps G_heap_Heap_build (codeOf Tryz.f75) [] (postD Tryz.prog Tryz.f75.results.toList R) (entry [.pointer hx, .agg #[.int .i64 t0, .int .i64 t1, .string t2, .slice t3P t3N t3C], .map vars] 0) w := by kernel_rfl

theorem C_heap_Heap_build.of {hx : Option Addr} {t0 : Int} {t1 : Int} {t2 : ByteArray} {t3P : Option Addr} {t3N : Nat} {t3C : Nat} {vars : Option Nat} {w : World} {R : Int → Int → World → Prop} (h : F_heap_Heap_build hx t0 t1 t2 t3P t3N t3C vars w R) : C_heap_Heap_build hx t0 t1 t2 t3P t3N t3C vars w R := by
  refine (calls_of_den (c := codeOf Tryz.f75) seat_ok seat_mixed Tryz.func75 (by kernel_rfl) loops_heap_Heap_build (args := [.pointer hx, .agg #[.int .i64 t0, .int .i64 t1, .string t2, .slice t3P t3N t3C], .map vars]) rfl (R := fun v w1 => ∃ (r0 : Int) (r1 : Int), v = (.tuple #[.int .u64 r0, .int .i64 r1] : Value) ∧ R r0 r1 w1) ?_).mono ?_
  · rw [← den_heap_Heap_build]
    have e : (fun r0 r1 w1 => ∃ (r0' : Int) (r1' : Int), (.tuple #[.int .u64 r0, .int .i64 r1] : Value) = (.tuple #[.int .u64 r0', .int .i64 r1'] : Value) ∧ R r0' r1' w1) = R := by
      funext r0 r1 w1
      exact propext ⟨fun ⟨r0', r1', he, h⟩ => by first | (simp at he; simp_all) | (cases he; exact h), fun h => ⟨_, _, rfl, h⟩⟩
    simpa only [e] using h
  · rintro en w1 ⟨v, he, r0, r1, rfl, h⟩
    exact ⟨_, _, he, h⟩

end Go.Proofs.YtdaenijbokialaaGreat
