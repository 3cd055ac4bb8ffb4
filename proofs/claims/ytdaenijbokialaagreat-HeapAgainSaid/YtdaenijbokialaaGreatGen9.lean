/- The formulas of this seat's functions, held against the loaded program by the kernel. Printed by a program. -/
import Derived.Test.YtdaenijbokialaaGreatGenC
set_option maxRecDepth 100000
set_option linter.unusedVariables false
namespace Go.Proofs.YtdaenijbokialaaGreat
open Go Go.D Go.Proofs

def F_heap_word (tag : Int) (n : Int) (w : World) (R : Int → World → Prop) : Prop :=
  C_cell_Make tag n w fun t100 t101 w1 =>
  R t100 w1

def G_heap_word : Gen where
  loop := lookL []
  plan := fun _ => none

theorem loops_heap_word : LoopOk Tryz.prog Tryz.f87.ntmps G_heap_word (codeOf Tryz.f87) := loopOk_none fun _ => rfl

theorem den_heap_word (tag : Int) (n : Int) (w : World) (R : Value → World → Prop) :
    F_heap_word tag n w (fun r w1 => R (.int .u64 r) w1) = den Tryz.prog Tryz.f87.ntmps G_heap_word (codeOf Tryz.f87) [] (postD Tryz.prog Tryz.f87.results.toList R) (entry [.int .i64 tag, .int .i64 n] 0) w := by kernel_rfl

theorem C_heap_word.of {tag : Int} {n : Int} {w : World} {R : Int → World → Prop} (h : F_heap_word tag n w R) : C_heap_word tag n w R := by
  refine (calls_of_den (c := codeOf Tryz.f87) seat_ok seat_mixed Tryz.func87 (by kernel_rfl) loops_heap_word (args := [.int .i64 tag, .int .i64 n]) rfl (R := fun v w1 => ∃ (r : Int), v = (.int .u64 r : Value) ∧ R r w1) ?_).mono ?_
  · rw [← den_heap_word]
    have e : (fun r w1 => ∃ (r' : Int), (.int .u64 r : Value) = (.int .u64 r' : Value) ∧ R r' w1) = R := by
      funext r w1
      exact propext ⟨fun ⟨r', he, h⟩ => by first | (simp at he; simp_all) | (cases he; exact h), fun h => ⟨_, rfl, h⟩⟩
    simpa only [e] using h
  · rintro en w1 ⟨v, he, r, rfl, h⟩
    exact ⟨_, he, h⟩

def F_heap_Heap_compound (hx : Option Addr) (wx : Int) (i : Int) (w : World) (R : Int → Bool → World → Prop) : Prop :=
  C_heap_Heap_Deref hx wx w fun t12 w1 =>
  C_cell_Is t12 (2 : Int) w1 fun t14 w1_1 =>
  If (!t14)
  (R (0 : Int) false w1_1)
  (C_heap_Heap_fun hx t12 w1_1 fun t190 t191 w1_2 =>
  If (decide (i ≥ (1 : Int)))
  (R t12 (decide (i ≤ t191)) w1_2)
  (R t12 false w1_2))

def G_heap_Heap_compound : Gen where
  loop := lookL []
  plan := fun _ => none

theorem loops_heap_Heap_compound : LoopOk Tryz.prog Tryz.f88.ntmps G_heap_Heap_compound (codeOf Tryz.f88) := loopOk_none fun _ => rfl

theorem den_heap_Heap_compound (hx : Option Addr) (wx : Int) (i : Int) (w : World) (R : Value → World → Prop) :
    F_heap_Heap_compound hx wx i w (fun r0 r1 w1 => R (.tuple #[.int .u64 r0, .bool r1]) w1) = den Tryz.prog Tryz.f88.ntmps G_heap_Heap_compound (codeOf Tryz.f88) [] (postD Tryz.prog Tryz.f88.results.toList R) (entry [.pointer hx, .int .u64 wx, .int .i64 i] 0) w := by kernel_rfl

theorem C_heap_Heap_compound.of {hx : Option Addr} {wx : Int} {i : Int} {w : World} {R : Int → Bool → World → Prop} (h : F_heap_Heap_compound hx wx i w R) : C_heap_Heap_compound hx wx i w R := by
  refine (calls_of_den (c := codeOf Tryz.f88) seat_ok seat_mixed Tryz.func88 (by kernel_rfl) loops_heap_Heap_compound (args := [.pointer hx, .int .u64 wx, .int .i64 i]) rfl (R := fun v w1 => ∃ (r0 : Int) (r1 : Bool), v = (.tuple #[.int .u64 r0, .bool r1] : Value) ∧ R r0 r1 w1) ?_).mono ?_
  · rw [← den_heap_Heap_compound]
    have e : (fun r0 r1 w1 => ∃ (r0' : Int) (r1' : Bool), (.tuple #[.int .u64 r0, .bool r1] : Value) = (.tuple #[.int .u64 r0', .bool r1'] : Value) ∧ R r0' r1' w1) = R := by
      funext r0 r1 w1
      exact propext ⟨fun ⟨r0', r1', he, h⟩ => by first | (simp at he; simp_all) | (cases he; exact h), fun h => ⟨_, _, rfl, h⟩⟩
    simpa only [e] using h
  · rintro en w1 ⟨v, he, r0, r1, rfl, h⟩
    exact ⟨_, _, he, h⟩

def F_heap_ref (atx : Int) (w : World) (R : Int → World → Prop) : Prop :=
  C_heap_word (1 : Int) atx w fun t4 w1 =>
  R t4 w1

def G_heap_ref : Gen where
  loop := lookL []
  plan := fun _ => none

theorem loops_heap_ref : LoopOk Tryz.prog Tryz.f89.ntmps G_heap_ref (codeOf Tryz.f89) := loopOk_none fun _ => rfl

theorem den_heap_ref (atx : Int) (w : World) (R : Value → World → Prop) :
    F_heap_ref atx w (fun r w1 => R (.int .u64 r) w1) = den Tryz.prog Tryz.f89.ntmps G_heap_ref (codeOf Tryz.f89) [] (postD Tryz.prog Tryz.f89.results.toList R) (entry [.int .i64 atx] 0) w := by kernel_rfl

theorem C_heap_ref.of {atx : Int} {w : World} {R : Int → World → Prop} (h : F_heap_ref atx w R) : C_heap_ref atx w R := by
  refine (calls_of_den (c := codeOf Tryz.f89) seat_ok seat_mixed Tryz.func89 (by kernel_rfl) loops_heap_ref (args := [.int .i64 atx]) rfl (R := fun v w1 => ∃ (r : Int), v = (.int .u64 r : Value) ∧ R r w1) ?_).mono ?_
  · rw [← den_heap_ref]
    have e : (fun r w1 => ∃ (r' : Int), (.int .u64 r : Value) = (.int .u64 r' : Value) ∧ R r' w1) = R := by
      funext r w1
      exact propext ⟨fun ⟨r', he, h⟩ => by first | (simp at he; simp_all) | (cases he; exact h), fun h => ⟨_, rfl, h⟩⟩
    simpa only [e] using h
  · rintro en w1 ⟨v, he, r, rfl, h⟩
    exact ⟨_, he, h⟩

def F_heap_arg (wx : Int) (i : Int) (w : World) (R : Int → World → Prop) : Prop :=
  C_cell_Number wx w fun t6 w1 =>
  R (IntKind.i64.wrap (t6 + i)) w1

def G_heap_arg : Gen where
  loop := lookL []
  plan := fun _ => none

theorem loops_heap_arg : LoopOk Tryz.prog Tryz.f90.ntmps G_heap_arg (codeOf Tryz.f90) := loopOk_none fun _ => rfl

theorem den_heap_arg (wx : Int) (i : Int) (w : World) (R : Value → World → Prop) :
    F_heap_arg wx i w (fun r w1 => R (.int .i64 r) w1) = den Tryz.prog Tryz.f90.ntmps G_heap_arg (codeOf Tryz.f90) [] (postD Tryz.prog Tryz.f90.results.toList R) (entry [.int .u64 wx, .int .i64 i] 0) w := by kernel_rfl

theorem C_heap_arg.of {wx : Int} {i : Int} {w : World} {R : Int → World → Prop} (h : F_heap_arg wx i w R) : C_heap_arg wx i w R := by
  refine (calls_of_den (c := codeOf Tryz.f90) seat_ok seat_mixed Tryz.func90 (by kernel_rfl) loops_heap_arg (args := [.int .u64 wx, .int .i64 i]) rfl (R := fun v w1 => ∃ (r : Int), v = (.int .i64 r : Value) ∧ R r w1) ?_).mono ?_
  · rw [← den_heap_arg]
    have e : (fun r w1 => ∃ (r' : Int), (.int .i64 r : Value) = (.int .i64 r' : Value) ∧ R r' w1) = R := by
      funext r w1
      exact propext ⟨fun ⟨r', he, h⟩ => by first | (simp at he; simp_all) | (cases he; exact h), fun h => ⟨_, rfl, h⟩⟩
    simpa only [e] using h
  · rintro en w1 ⟨v, he, r, rfl, h⟩
    exact ⟨_, he, h⟩

structure S_ref06_large_L1 where
  i : Int

def F_ref06_large_k1 (R : Bool → World → Prop) (w1_2 : World) : Prop :=
  R true w1_2

/-- One round. -/
def B_ref06_large_L1 (depth_1 : Int) (n_1 : Option Addr) (t : Addr) (s : S_ref06_large_L1) (w : World) (Kn : S_ref06_large_L1 → World → Prop) (Kx0 : World → Prop) (Kr : Bool → World → Prop) : Prop :=
  ∃ LP_1 : Option Addr, ∃ LN_1 : Nat, ∃ LC_1 : Nat, w.cell? (t.add 3) = some (.slice LP_1 LN_1 LC_1) ∧
  If (decide ((s.i : Int) < (LN_1 : Int)))
  (∃ LP_2 : Option Addr, ∃ LN_2 : Nat, ∃ LC_2 : Nat, w.cell? (t.add 3) = some (.slice LP_2 LN_2 LC_2) ∧
  0 ≤ (s.i : Int) ∧ (s.i : Int) < (LN_2 : Int) ∧ NN LP_2 fun a_3 =>
  ∃ t440 : Int, w.cell? ((a_3.add ((s.i : Int).toNat * 4)).add 0) = some (.int .i64 t440) ∧
  ∃ t441 : Int, w.cell? ((a_3.add ((s.i : Int).toNat * 4)).add 1) = some (.int .i64 t441) ∧
  ∃ t442 : ByteArray, w.cell? ((a_3.add ((s.i : Int).toNat * 4)).add 2) = some (.string t442) ∧
  ∃ t443P : Option Addr, ∃ t443N : Nat, ∃ t443C : Nat, w.cell? ((a_3.add ((s.i : Int).toNat * 4)).add 3) = some (.slice t443P t443N t443C) ∧
  C_ref06_large t440 t441 t442 t443P t443N t443C (IntKind.i64.wrap (depth_1 + (1 : Int))) n_1 w fun t48 w1_3 =>
  If t48
  (Kr true w1_3)
  (Kn ⟨(IntKind.i64.wrap ((s.i : Int) + (1 : Int)))⟩ w1_3))
  (Kx0 w)

def F_ref06_large_L1 (depth_1 : Int) (n_1 : Option Addr) (t : Addr) (s : S_ref06_large_L1) (w : World) (Kx0 : World → Prop) (Kr : Bool → World → Prop) : Prop :=
  LoopS (fun s w Kn => B_ref06_large_L1 depth_1 n_1 t s w Kn Kx0 Kr) s w

def F_ref06_large (t0 : Int) (t1 : Int) (t2 : ByteArray) (t3P : Option Addr) (t3N : Nat) (t3C : Nat) (depth : Int) (n : Option Addr) (w : World) (R : Bool → World → Prop) : Prop :=
  New w (.cells #[.int .i64 t0, .int .i64 t1, .string t2, .slice t3P t3N t3C] 31) fun r w1 =>
  NN n fun a =>
  ∃ t11 : Int, (drw w1).cell? a = some (.int .i64 t11) ∧
  ∃ S : ByteArray, (drw w1).cell? ((⟨r, 0, none⟩ : Addr).add 2) = some (.string S) ∧
  (16 : Int) ≠ 0 ∧
  NN n fun a_1 =>
  St (drw w1) (a_1.add 0) (.int .i64 (IntKind.i64.wrap ((IntKind.i64.wrap (t11 + (1 : Int))) + (IntKind.i64.wrap ((S.size : Int).tdiv (16 : Int)))))) fun w1_1 =>
  NN n fun a_2 =>
  ∃ t21 : Int, w1_1.cell? a_2 = some (.int .i64 t21) ∧
  If (decide (t21 > (6000 : Int)))
  (F_ref06_large_k1 R w1_1)
  (If (decide (depth > (300 : Int)))
  (F_ref06_large_k1 R w1_1)
  (∃ LP : Option Addr, ∃ LN : Nat, ∃ LC : Nat, w1_1.cell? ((⟨r, 0, none⟩ : Addr).add 3) = some (.slice LP LN LC) ∧
  If (decide ((LN : Int) > (100 : Int)))
  (R true w1_1)
  (F_ref06_large_L1 depth n ⟨r, 0, none⟩ ⟨(0 : Int)⟩ w1_1
  (fun w1_4 =>
  R false w1_4)
  (fun t6_1 w1_5 =>
  R t6_1 w1_5))))

def lit_ref06_large_L1 (f : Int × (Option Addr) × Addr) (s : S_ref06_large_L1) : Env := [⟨1, .int .i64 f.1, none⟩, ⟨2, .pointer f.2.1, none⟩, ⟨3, .pointer (some f.2.2), none⟩, ⟨7, .int .i64 s.i, none⟩]

def dec_ref06_large_L1 (e : Env) (K : (Int × (Option Addr) × Addr) → S_ref06_large_L1 → Prop) : Prop :=
  onV (getV e 1) fun u1 =>
  asI .i64 u1 fun depth_1 =>
  onV (getV e 2) fun u2 =>
  asP u2 fun n_1 =>
  onV (getV e 3) fun u3 =>
  asA u3 fun t =>
  onV (getV e 7) fun u4 =>
  asI .i64 u4 fun i =>
    K (depth_1, n_1, t) ⟨i⟩

theorem dec_ref06_large_L1_ok {N : Nat} (e : Env) (a : Act) (K : (Int × (Option Addr) × Addr) → S_ref06_large_L1 → Prop) (hr : Rep N a e) (h0 : dec_ref06_large_L1 e K) : ∃ f s, K f s ∧ Rep N a (lit_ref06_large_L1 f s) := by
  unfold dec_ref06_large_L1 at h0
  obtain ⟨u1, g1, h1⟩ := onV_elim h0
  obtain ⟨depth_1, rfl, h2⟩ := asI_elim h1
  obtain ⟨u2, g2, h3⟩ := onV_elim h2
  obtain ⟨n_1, rfl, h4⟩ := asP_elim h3
  obtain ⟨u3, g3, h5⟩ := onV_elim h4
  obtain ⟨t, rfl, h6⟩ := asA_elim h5
  obtain ⟨u4, g7, h7⟩ := onV_elim h6
  obtain ⟨i, rfl, h8⟩ := asI_elim h7
  exact ⟨_, _, h8, rep_less hr (by simp [lit_ref06_large_L1, g1, g2, g3, g7])⟩

def spec_ref06_large_L1 (Q : Post) (e : Env) (w : World) : Prop :=
  dec_ref06_large_L1 e fun f s => F_ref06_large_L1 f.1 f.2.1 f.2.2 s w (fun w1 => Q (.exit 0) [] w1) (fun t6 w1 => Q .ret [⟨6, .bool t6, none⟩] w1)

def G_ref06_large : Gen where
  loop := lookL [([false, true, false, true, true, true], spec_ref06_large_L1)]
  plan := fun id =>
    bif Nat.beq id 1 then some ([0, 0, 2, 6, 14, 0, 32, 96, 224, 510, 1023, 2047], .take 0 (.take 1 (.take 2 (.take 3 (.take 4 (.take 5 (.take 6 (.take 7 (.take 8 (.take 9 (.take 10 (.take 11 .done)))))))))))) else none

def dx_ref06_large_L1_0 (e : Env) (K : (Int × (Option Addr) × Addr) → Prop) : Prop :=
  onV (getV e 1) fun u1 =>
  asI .i64 u1 fun depth_1 =>
  onV (getV e 2) fun u2 =>
  asP u2 fun n_1 =>
  onV (getV e 3) fun u3 =>
  asA u3 fun t =>
    K (depth_1, n_1, t)

def dx_ref06_large_L1_ret (e : Env) (K : (Int × (Option Addr) × Addr) → Bool → Prop) : Prop :=
  onV (getV e 1) fun u1 =>
  asI .i64 u1 fun depth_1 =>
  onV (getV e 2) fun u2 =>
  asP u2 fun n_1 =>
  onV (getV e 3) fun u3 =>
  asA u3 fun t =>
  onV (getV e 6) fun u4 =>
  asB u4 fun t6 =>
    K (depth_1, n_1, t) t6

theorem body_ref06_large_L1 (f : Int × (Option Addr) × Addr) (s : S_ref06_large_L1) (w : World) (Kn : (Int × (Option Addr) × Addr) → S_ref06_large_L1 → World → Prop) (Kx0 : (Int × (Option Addr) × Addr) → World → Prop) (Kr : (Int × (Option Addr) × Addr) → Bool → World → Prop) :
    B_ref06_large_L1 f.1 f.2.1 f.2.2 s w (fun s1 w1 => Kn f s1 w1) (fun w1 => Kx0 f w1) (fun t6 w1 => Kr f t6 w1) =
    den Tryz.prog Tryz.f91.ntmps G_ref06_large (sub (codeOf Tryz.f91) [false, false, true, false, true, true, true]) [false, false, true, false, true, true, true] (roundQ (fun e w => dec_ref06_large_L1 e fun f s => Kn f s w) (fun e w => dx_ref06_large_L1_ret e fun f t6 => Kr f t6 w) (fun id e w => match Nat.beq id 0 with | true => dx_ref06_large_L1_0 e fun f => Kx0 f w | false => False)) (lit_ref06_large_L1 f s) w := by kernel_rfl

theorem ok_ref06_large_L1 : OneOk Tryz.prog Tryz.f91.ntmps G_ref06_large (codeOf Tryz.f91) [false, true, false, true, true, true] spec_ref06_large_L1 := by
  intro c hc ih Q e w a hr h
  have hcc : sub (codeOf Tryz.f91) [false, false, true, false, true, true, true] = c := sub_of_codeAt hc
  obtain ⟨f, s, h, hrep⟩ := dec_ref06_large_L1_ok e a _ hr h
  obtain ⟨J, μ, hj, hround⟩ := h
  refine loop_rule_deep seat_ok seat_mixed ih lit_ref06_large_L1 dec_ref06_large_L1 dec_ref06_large_L1_ok hc f J μ (Kr := fun e w => dx_ref06_large_L1_ret e fun f1 t6 => f1 = f ∧ Q .ret [⟨6, .bool t6, none⟩] w) (Kx := fun id e w => match Nat.beq id 0 with | true => (dx_ref06_large_L1_0 e fun f1 => f1 = f ∧ Q (.exit 0) [] w) | false => False) ?_ ?_ ?_ s w a hj hrep
  · intro e a w hr h0
    unfold dx_ref06_large_L1_ret at h0
    obtain ⟨u1, g1, h1⟩ := onV_elim h0
    obtain ⟨depth_1, rfl, h2⟩ := asI_elim h1
    obtain ⟨u2, g2, h3⟩ := onV_elim h2
    obtain ⟨n_1, rfl, h4⟩ := asP_elim h3
    obtain ⟨u3, g3, h5⟩ := onV_elim h4
    obtain ⟨t, rfl, h6⟩ := asA_elim h5
    obtain ⟨u4, g6, h7⟩ := onV_elim h6
    obtain ⟨t6, rfl, h8⟩ := asB_elim h7
    obtain ⟨hf, hq⟩ := h8
    subst hf
    exact ⟨_, rep_less hr (by simp [g6]), hq⟩
  · intro id e a w hr h0
    (try dsimp only at h0)
    split at h0
    · rename_i hid
      obtain rfl := Nat.eq_of_beq_eq_true hid
      unfold dx_ref06_large_L1_0 at h0
      obtain ⟨u1, g1, h1⟩ := onV_elim h0
      obtain ⟨depth_1, rfl, h2⟩ := asI_elim h1
      obtain ⟨u2, g2, h3⟩ := onV_elim h2
      obtain ⟨n_1, rfl, h4⟩ := asP_elim h3
      obtain ⟨u3, g3, h5⟩ := onV_elim h4
      obtain ⟨t, rfl, h6⟩ := asA_elim h5
      obtain ⟨hf, hq⟩ := h6
      subst hf
      exact ⟨_, rep_less hr (by simp), hq⟩
    · exact h0.elim
  · intro s w hj
    have hb := hround s w hj
    rw [← hcc]
    have e1 := body_ref06_large_L1 f s w (fun f1 s1 w1 => f1 = f ∧ J s1 w1 ∧ μ s1 w1 < μ s w) (fun f1 w1 => f1 = f ∧ Q (.exit 0) [] w1) (fun f1 t6 w1 => f1 = f ∧ Q .ret [⟨6, .bool t6, none⟩] w1)
    simp only [true_and] at e1
    exact cast e1 hb

theorem loops_ref06_large : LoopOk Tryz.prog Tryz.f91.ntmps G_ref06_large (codeOf Tryz.f91) := loopOk_list rfl ⟨ok_ref06_large_L1, trivial⟩

theorem den_ref06_large (t0 : Int) (t1 : Int) (t2 : ByteArray) (t3P : Option Addr) (t3N : Nat) (t3C : Nat) (depth : Int) (n : Option Addr) (w : World) (R : Value → World → Prop) :
    F_ref06_large t0 t1 t2 t3P t3N t3C depth n w (fun r w1 => R (.bool r) w1) = den Tryz.prog Tryz.f91.ntmps G_ref06_large (codeOf Tryz.f91) [] (postD Tryz.prog Tryz.f91.results.toList R) (entry [.agg #[.int .i64 t0, .int .i64 t1, .string t2, .slice t3P t3N t3C], .int .i64 depth, .pointer n] 0) w := by kernel_rfl

theorem C_ref06_large.of {t0 : Int} {t1 : Int} {t2 : ByteArray} {t3P : Option Addr} {t3N : Nat} {t3C : Nat} {depth : Int} {n : Option Addr} {w : World} {R : Bool → World → Prop} (h : F_ref06_large t0 t1 t2 t3P t3N t3C depth n w R) : C_ref06_large t0 t1 t2 t3P t3N t3C depth n w R := by
  refine (calls_of_den (c := codeOf Tryz.f91) seat_ok seat_mixed Tryz.func91 (by kernel_rfl) loops_ref06_large (args := [.agg #[.int .i64 t0, .int .i64 t1, .string t2, .slice t3P t3N t3C], .int .i64 depth, .pointer n]) rfl (R := fun v w1 => ∃ (r : Bool), v = (.bool r : Value) ∧ R r w1) ?_).mono ?_
  · rw [← den_ref06_large]
    have e : (fun r w1 => ∃ (r' : Bool), (.bool r : Value) = (.bool r' : Value) ∧ R r' w1) = R := by
      funext r w1
      exact propext ⟨fun ⟨r', he, h⟩ => by first | (simp at he; simp_all) | (cases he; exact h), fun h => ⟨_, rfl, h⟩⟩
    simpa only [e] using h
  · rintro en w1 ⟨v, he, r, rfl, h⟩
    exact ⟨_, he, h⟩

def F_cell_Is (wx : Int) (tag : Int) (w : World) (R : Bool → World → Prop) : Prop :=
  If (decide (tag > (0 : Int)))
  (C_cell_Tag wx w fun t9 w1 =>
  R (t9 == tag) w1)
  (R false w)

def G_cell_Is : Gen where
  loop := lookL []
  plan := fun _ => none

theorem loops_cell_Is : LoopOk Tryz.prog Tryz.f93.ntmps G_cell_Is (codeOf Tryz.f93) := loopOk_none fun _ => rfl

theorem den_cell_Is (wx : Int) (tag : Int) (w : World) (R : Value → World → Prop) :
    F_cell_Is wx tag w (fun r w1 => R (.bool r) w1) = den Tryz.prog Tryz.f93.ntmps G_cell_Is (codeOf Tryz.f93) [] (postD Tryz.prog Tryz.f93.results.toList R) (entry [.int .u64 wx, .int .i64 tag] 0) w := by kernel_rfl

theorem C_cell_Is.of {wx : Int} {tag : Int} {w : World} {R : Bool → World → Prop} (h : F_cell_Is wx tag w R) : C_cell_Is wx tag w R := by
  refine (calls_of_den (c := codeOf Tryz.f93) seat_ok seat_mixed Tryz.func93 (by kernel_rfl) loops_cell_Is (args := [.int .u64 wx, .int .i64 tag]) rfl (R := fun v w1 => ∃ (r : Bool), v = (.bool r : Value) ∧ R r w1) ?_).mono ?_
  · rw [← den_cell_Is]
    have e : (fun r w1 => ∃ (r' : Bool), (.bool r : Value) = (.bool r' : Value) ∧ R r' w1) = R := by
      funext r w1
      exact propext ⟨fun ⟨r', he, h⟩ => by first | (simp at he; simp_all) | (cases he; exact h), fun h => ⟨_, rfl, h⟩⟩
    simpa only [e] using h
  · rintro en w1 ⟨v, he, r, rfl, h⟩
    exact ⟨_, he, h⟩

structure S_heap_Heap_reach_L1 where
  i : Int

/-- One round. -/
def B_heap_Heap_reach_L1 (hx_1 : Option Addr) (wx_1 : Int) (x_1 : Int) (seen_1 : Option Nat) (arity : Int) (s : S_heap_Heap_reach_L1) (w : World) (Kn : S_heap_Heap_reach_L1 → World → Prop) (Kx1 : World → Prop) (Kr : Bool → World → Prop) : Prop :=
  If (decide ((s.i : Int) ≤ arity))
  (C_heap_arg x_1 (s.i : Int) w fun t45 w1_5 =>
  C_heap_ref t45 w1_5 fun t46 w1_6 =>
  C_heap_Heap_reach hx_1 wx_1 t46 seen_1 w1_6 fun t48 w1_7 =>
  If t48
  (Kr true w1_7)
  (Kn ⟨(IntKind.i64.wrap ((s.i : Int) + (1 : Int)))⟩ w1_7))
  (Kx1 w)

def F_heap_Heap_reach_L1 (hx_1 : Option Addr) (wx_1 : Int) (x_1 : Int) (seen_1 : Option Nat) (arity : Int) (s : S_heap_Heap_reach_L1) (w : World) (Kx1 : World → Prop) (Kr : Bool → World → Prop) : Prop :=
  LoopS (fun s w Kn => B_heap_Heap_reach_L1 hx_1 wx_1 x_1 seen_1 arity s w Kn Kx1 Kr) s w

def F_heap_Heap_reach (hx : Option Addr) (wx : Int) (x : Int) (seen : Option Nat) (w : World) (R : Bool → World → Prop) : Prop :=
  C_heap_Heap_deref hx x w fun t14 w1 =>
  If (t14 == wx)
  (R true w1)
  (C_cell_Is t14 (2 : Int) w1 fun t21 w1_1 =>
  If (!t21)
  (R false w1_1)
  (Run Tryz.prog (Instr.lookup 139 (.map seen) (.int .u64 t14) false) w1_1 fun v w1_2 => ∃ t26 : Bool, v = (.bool t26) ∧
  If t26
  (R false w1_2)
  (MUp Tryz.prog 139 (.map seen) (.int .u64 t14) (.bool true) w1_2 fun w1_3 =>
  C_heap_Heap_fun hx t14 w1_3 fun t330 t331 w1_4 =>
  F_heap_Heap_reach_L1 hx wx t14 seen t331 ⟨(1 : Int)⟩ w1_4
  (fun w1_8 =>
  R false w1_8)
  (fun t8_1 w1_9 =>
  R t8_1 w1_9))))

def lit_heap_Heap_reach_L1 (f : (Option Addr) × Int × Int × (Option Nat) × Int) (s : S_heap_Heap_reach_L1) : Env := [⟨0, .pointer f.1, none⟩, ⟨1, .int .u64 f.2.1, none⟩, ⟨2, .int .u64 f.2.2.1, none⟩, ⟨3, .map f.2.2.2.1, none⟩, ⟨10, .int .i64 f.2.2.2.2, none⟩, ⟨11, .int .i64 s.i, none⟩]

def dec_heap_Heap_reach_L1 (e : Env) (K : ((Option Addr) × Int × Int × (Option Nat) × Int) → S_heap_Heap_reach_L1 → Prop) : Prop :=
  onV (getV e 0) fun u1 =>
  asP u1 fun hx_1 =>
  onV (getV e 1) fun u2 =>
  asI .u64 u2 fun wx_1 =>
  onV (getV e 2) fun u3 =>
  asI .u64 u3 fun x_1 =>
  onV (getV e 3) fun u4 =>
  asM u4 fun seen_1 =>
  onV (getV e 10) fun u5 =>
  asI .i64 u5 fun arity =>
  onV (getV e 11) fun u6 =>
  asI .i64 u6 fun i =>
    K (hx_1, wx_1, x_1, seen_1, arity) ⟨i⟩

theorem dec_heap_Heap_reach_L1_ok {N : Nat} (e : Env) (a : Act) (K : ((Option Addr) × Int × Int × (Option Nat) × Int) → S_heap_Heap_reach_L1 → Prop) (hr : Rep N a e) (h0 : dec_heap_Heap_reach_L1 e K) : ∃ f s, K f s ∧ Rep N a (lit_heap_Heap_reach_L1 f s) := by
  unfold dec_heap_Heap_reach_L1 at h0
  obtain ⟨u1, g0, h1⟩ := onV_elim h0
  obtain ⟨hx_1, rfl, h2⟩ := asP_elim h1
  obtain ⟨u2, g1, h3⟩ := onV_elim h2
  obtain ⟨wx_1, rfl, h4⟩ := asI_elim h3
  obtain ⟨u3, g2, h5⟩ := onV_elim h4
  obtain ⟨x_1, rfl, h6⟩ := asI_elim h5
  obtain ⟨u4, g3, h7⟩ := onV_elim h6
  obtain ⟨seen_1, rfl, h8⟩ := asM_elim h7
  obtain ⟨u5, g10, h9⟩ := onV_elim h8
  obtain ⟨arity, rfl, h10⟩ := asI_elim h9
  obtain ⟨u6, g11, h11⟩ := onV_elim h10
  obtain ⟨i, rfl, h12⟩ := asI_elim h11
  exact ⟨_, _, h12, rep_less hr (by simp [lit_heap_Heap_reach_L1, g0, g1, g2, g3, g10, g11])⟩

def spec_heap_Heap_reach_L1 (Q : Post) (e : Env) (w : World) : Prop :=
  dec_heap_Heap_reach_L1 e fun f s => F_heap_Heap_reach_L1 f.1 f.2.1 f.2.2.1 f.2.2.2.1 f.2.2.2.2 s w (fun w1 => Q (.exit 1) [] w1) (fun t8 w1 => Q .ret [⟨8, .bool t8, none⟩] w1)

def G_heap_Heap_reach : Gen where
  loop := lookL [([false, true, false, true, true, true, true, true], spec_heap_Heap_reach_L1)]
  plan := fun _ => none

def dx_heap_Heap_reach_L1_1 (e : Env) (K : ((Option Addr) × Int × Int × (Option Nat) × Int) → Prop) : Prop :=
  onV (getV e 0) fun u1 =>
  asP u1 fun hx_1 =>
  onV (getV e 1) fun u2 =>
  asI .u64 u2 fun wx_1 =>
  onV (getV e 2) fun u3 =>
  asI .u64 u3 fun x_1 =>
  onV (getV e 3) fun u4 =>
  asM u4 fun seen_1 =>
  onV (getV e 10) fun u5 =>
  asI .i64 u5 fun arity =>
    K (hx_1, wx_1, x_1, seen_1, arity)

def dx_heap_Heap_reach_L1_ret (e : Env) (K : ((Option Addr) × Int × Int × (Option Nat) × Int) → Bool → Prop) : Prop :=
  onV (getV e 0) fun u1 =>
  asP u1 fun hx_1 =>
  onV (getV e 1) fun u2 =>
  asI .u64 u2 fun wx_1 =>
  onV (getV e 2) fun u3 =>
  asI .u64 u3 fun x_1 =>
  onV (getV e 3) fun u4 =>
  asM u4 fun seen_1 =>
  onV (getV e 10) fun u5 =>
  asI .i64 u5 fun arity =>
  onV (getV e 8) fun u6 =>
  asB u6 fun t8 =>
    K (hx_1, wx_1, x_1, seen_1, arity) t8

theorem body_heap_Heap_reach_L1 (f : (Option Addr) × Int × Int × (Option Nat) × Int) (s : S_heap_Heap_reach_L1) (w : World) (Kn : ((Option Addr) × Int × Int × (Option Nat) × Int) → S_heap_Heap_reach_L1 → World → Prop) (Kx1 : ((Option Addr) × Int × Int × (Option Nat) × Int) → World → Prop) (Kr : ((Option Addr) × Int × Int × (Option Nat) × Int) → Bool → World → Prop) :
    B_heap_Heap_reach_L1 f.1 f.2.1 f.2.2.1 f.2.2.2.1 f.2.2.2.2 s w (fun s1 w1 => Kn f s1 w1) (fun w1 => Kx1 f w1) (fun t8 w1 => Kr f t8 w1) =
    den Tryz.prog Tryz.f94.ntmps G_heap_Heap_reach (sub (codeOf Tryz.f94) [false, false, true, false, true, true, true, true, true]) [false, false, true, false, true, true, true, true, true] (roundQ (fun e w => dec_heap_Heap_reach_L1 e fun f s => Kn f s w) (fun e w => dx_heap_Heap_reach_L1_ret e fun f t8 => Kr f t8 w) (fun id e w => match Nat.beq id 1 with | true => dx_heap_Heap_reach_L1_1 e fun f => Kx1 f w | false => False)) (lit_heap_Heap_reach_L1 f s) w := by kernel_rfl

theorem ok_heap_Heap_reach_L1 : OneOk Tryz.prog Tryz.f94.ntmps G_heap_Heap_reach (codeOf Tryz.f94) [false, true, false, true, true, true, true, true] spec_heap_Heap_reach_L1 := by
  intro c hc ih Q e w a hr h
  have hcc : sub (codeOf Tryz.f94) [false, false, true, false, true, true, true, true, true] = c := sub_of_codeAt hc
  obtain ⟨f, s, h, hrep⟩ := dec_heap_Heap_reach_L1_ok e a _ hr h
  obtain ⟨J, μ, hj, hround⟩ := h
  refine loop_rule_deep seat_ok seat_mixed ih lit_heap_Heap_reach_L1 dec_heap_Heap_reach_L1 dec_heap_Heap_reach_L1_ok hc f J μ (Kr := fun e w => dx_heap_Heap_reach_L1_ret e fun f1 t8 => f1 = f ∧ Q .ret [⟨8, .bool t8, none⟩] w) (Kx := fun id e w => match Nat.beq id 1 with | true => (dx_heap_Heap_reach_L1_1 e fun f1 => f1 = f ∧ Q (.exit 1) [] w) | false => False) ?_ ?_ ?_ s w a hj hrep
  · intro e a w hr h0
    unfold dx_heap_Heap_reach_L1_ret at h0
    obtain ⟨u1, g0, h1⟩ := onV_elim h0
    obtain ⟨hx_1, rfl, h2⟩ := asP_elim h1
    obtain ⟨u2, g1, h3⟩ := onV_elim h2
    obtain ⟨wx_1, rfl, h4⟩ := asI_elim h3
    obtain ⟨u3, g2, h5⟩ := onV_elim h4
    obtain ⟨x_1, rfl, h6⟩ := asI_elim h5
    obtain ⟨u4, g3, h7⟩ := onV_elim h6
    obtain ⟨seen_1, rfl, h8⟩ := asM_elim h7
    obtain ⟨u5, g10, h9⟩ := onV_elim h8
    obtain ⟨arity, rfl, h10⟩ := asI_elim h9
    obtain ⟨u6, g8, h11⟩ := onV_elim h10
    obtain ⟨t8, rfl, h12⟩ := asB_elim h11
    obtain ⟨hf, hq⟩ := h12
    subst hf
    exact ⟨_, rep_less hr (by simp [g8]), hq⟩
  · intro id e a w hr h0
    (try dsimp only at h0)
    split at h0
    · rename_i hid
      obtain rfl := Nat.eq_of_beq_eq_true hid
      unfold dx_heap_Heap_reach_L1_1 at h0
      obtain ⟨u1, g0, h1⟩ := onV_elim h0
      obtain ⟨hx_1, rfl, h2⟩ := asP_elim h1
      obtain ⟨u2, g1, h3⟩ := onV_elim h2
      obtain ⟨wx_1, rfl, h4⟩ := asI_elim h3
      obtain ⟨u3, g2, h5⟩ := onV_elim h4
      obtain ⟨x_1, rfl, h6⟩ := asI_elim h5
      obtain ⟨u4, g3, h7⟩ := onV_elim h6
      obtain ⟨seen_1, rfl, h8⟩ := asM_elim h7
      obtain ⟨u5, g10, h9⟩ := onV_elim h8
      obtain ⟨arity, rfl, h10⟩ := asI_elim h9
      obtain ⟨hf, hq⟩ := h10
      subst hf
      exact ⟨_, rep_less hr (by simp), hq⟩
    · exact h0.elim
  · intro s w hj
    have hb := hround s w hj
    rw [← hcc]
    have e1 := body_heap_Heap_reach_L1 f s w (fun f1 s1 w1 => f1 = f ∧ J s1 w1 ∧ μ s1 w1 < μ s w) (fun f1 w1 => f1 = f ∧ Q (.exit 1) [] w1) (fun f1 t8 w1 => f1 = f ∧ Q .ret [⟨8, .bool t8, none⟩] w1)
    simp only [true_and] at e1
    exact cast e1 hb

theorem loops_heap_Heap_reach : LoopOk Tryz.prog Tryz.f94.ntmps G_heap_Heap_reach (codeOf Tryz.f94) := loopOk_list rfl ⟨ok_heap_Heap_reach_L1, trivial⟩

theorem den_heap_Heap_reach (hx : Option Addr) (wx : Int) (x : Int) (seen : Option Nat) (w : World) (R : Value → World → Prop) :
    F_heap_Heap_reach hx wx x seen w (fun r w1 => R (.bool r) w1) = den Tryz.prog Tryz.f94.ntmps G_heap_Heap_reach (codeOf Tryz.f94) [] (postD Tryz.prog Tryz.f94.results.toList R) (entry [.pointer hx, .int .u64 wx, .int .u64 x, .map seen] 0) w := by kernel_rfl

theorem C_heap_Heap_reach.of {hx : Option Addr} {wx : Int} {x : Int} {seen : Option Nat} {w : World} {R : Bool → World → Prop} (h : F_heap_Heap_reach hx wx x seen w R) : C_heap_Heap_reach hx wx x seen w R := by
  refine (calls_of_den (c := codeOf Tryz.f94) seat_ok seat_mixed Tryz.func94 (by kernel_rfl) loops_heap_Heap_reach (args := [.pointer hx, .int .u64 wx, .int .u64 x, .map seen]) rfl (R := fun v w1 => ∃ (r : Bool), v = (.bool r : Value) ∧ R r w1) ?_).mono ?_
  · rw [← den_heap_Heap_reach]
    have e : (fun r w1 => ∃ (r' : Bool), (.bool r : Value) = (.bool r' : Value) ∧ R r' w1) = R := by
      funext r w1
      exact propext ⟨fun ⟨r', he, h⟩ => by first | (simp at he; simp_all) | (cases he; exact h), fun h => ⟨_, rfl, h⟩⟩
    simpa only [e] using h
  · rintro en w1 ⟨v, he, r, rfl, h⟩
    exact ⟨_, he, h⟩

def F_heap_unbound (wx : Int) (w : World) (R : Bool → World → Prop) : Prop :=
  C_cell_Is wx (1 : Int) w fun t4 w1 =>
  R t4 w1

def G_heap_unbound : Gen where
  loop := lookL []
  plan := fun _ => none

theorem loops_heap_unbound : LoopOk Tryz.prog Tryz.f95.ntmps G_heap_unbound (codeOf Tryz.f95) := loopOk_none fun _ => rfl

theorem den_heap_unbound (wx : Int) (w : World) (R : Value → World → Prop) :
    F_heap_unbound wx w (fun r w1 => R (.bool r) w1) = den Tryz.prog Tryz.f95.ntmps G_heap_unbound (codeOf Tryz.f95) [] (postD Tryz.prog Tryz.f95.results.toList R) (entry [.int .u64 wx] 0) w := by kernel_rfl

theorem C_heap_unbound.of {wx : Int} {w : World} {R : Bool → World → Prop} (h : F_heap_unbound wx w R) : C_heap_unbound wx w R := by
  refine (calls_of_den (c := codeOf Tryz.f95) seat_ok seat_mixed Tryz.func95 (by kernel_rfl) loops_heap_unbound (args := [.int .u64 wx]) rfl (R := fun v w1 => ∃ (r : Bool), v = (.bool r : Value) ∧ R r w1) ?_).mono ?_
  · rw [← den_heap_unbound]
    have e : (fun r w1 => ∃ (r' : Bool), (.bool r : Value) = (.bool r' : Value) ∧ R r' w1) = R := by
      funext r w1
      exact propext ⟨fun ⟨r', he, h⟩ => by first | (simp at he; simp_all) | (cases he; exact h), fun h => ⟨_, rfl, h⟩⟩
    simpa only [e] using h
  · rintro en w1 ⟨v, he, r, rfl, h⟩
    exact ⟨_, he, h⟩

def F_heap_Heap_bind_k1 (hx : Option Addr) (x : Int) (R : Bool → Int → World → Prop) (t23 : Int) (w1_6 : World) : Prop :=
  NN hx fun a_4 =>
  ∃ cellsP : Option Addr, ∃ cellsN : Nat, ∃ cellsC : Nat, w1_6.cell? (a_4.add 4) = some (.slice cellsP cellsN cellsC) ∧
  0 ≤ t23 ∧ t23 < (cellsN : Int) ∧ NN cellsP fun a_5 =>
  St w1_6 ((a_5.add (t23.toNat * 1)).add 0) (.int .u64 x) fun w1_7 =>
  R true (0 : Int) w1_7

def F_heap_Heap_bind_k2 (hx : Option Addr) (wx : Int) (x : Int) (R : Bool → Int → World → Prop) (w1_3 : World) : Prop :=
  C_cell_Number wx w1_3 fun t23 w1_4 =>
  NN hx fun a =>
  ∃ startsP : Option Addr, ∃ startsN : Nat, ∃ startsC : Nat, (drw w1_4).cell? (a.add 5) = some (.slice startsP startsN startsC) ∧
  NN hx fun a_1 =>
  ∃ startsP_1 : Option Addr, ∃ startsN_1 : Nat, ∃ startsC_1 : Nat, (drw w1_4).cell? (a_1.add 5) = some (.slice startsP_1 startsN_1 startsC_1) ∧
  0 ≤ (IntKind.i64.wrap ((startsN_1 : Int) - (1 : Int))) ∧ (IntKind.i64.wrap ((startsN_1 : Int) - (1 : Int))) < (startsN : Int) ∧ NN startsP fun a_2 =>
  ∃ t36 : Int, (drw w1_4).cell? (a_2.add ((IntKind.i64.wrap ((startsN_1 : Int) - (1 : Int))).toNat * 1)) = some (.int .i64 t36) ∧
  If (decide (t23 < t36))
  (NN hx fun a_3 =>
  ∃ trail : Option Addr, (drw w1_4).cell? (a_3.add 1) = some (.pointer trail) ∧
  C_room_Room_Push trail (IntKind.u64.wrap t23) (drw w1_4) fun t44 w1_5 =>
  If (t44 != (0 : Int))
  (R false t44 w1_5)
  (F_heap_Heap_bind_k1 hx x R t23 w1_5))
  (F_heap_Heap_bind_k1 hx x R t23 (drw w1_4))

def F_heap_Heap_bind (hx : Option Addr) (wx : Int) (x : Int) (w : World) (R : Bool → Int → World → Prop) : Prop :=
  If (wx == x)
  (R true (0 : Int) w)
  (C_cell_Is x (2 : Int) w fun t14 w1 =>
  If t14
  (New w1 (.map #[] 0) fun r w1_1 =>
  C_heap_Heap_reach hx wx x (some r) w1_1 fun t20 w1_2 =>
  If t20
  (R false (0 : Int) w1_2)
  (F_heap_Heap_bind_k2 hx wx x R w1_2))
  (F_heap_Heap_bind_k2 hx wx x R w1))

def G_heap_Heap_bind : Gen where
  loop := lookL []
  plan := fun id =>
    bif Nat.beq id 6 then some ([0, 0, 2, 6, 14, 0, 32, 96, 224, 480, 992, 2046, 4094, 8191], .take 0 (.take 1 (.take 2 (.take 3 (.take 4 (.take 5 (.take 6 (.take 7 (.take 8 (.take 9 (.take 10 (.take 11 (.take 12 (.take 13 .done)))))))))))))) else none

theorem loops_heap_Heap_bind : LoopOk Tryz.prog Tryz.f96.ntmps G_heap_Heap_bind (codeOf Tryz.f96) := loopOk_none fun _ => rfl

theorem den_heap_Heap_bind (hx : Option Addr) (wx : Int) (x : Int) (w : World) (R : Value → World → Prop) :
    F_heap_Heap_bind hx wx x w (fun r0 r1 w1 => R (.tuple #[.bool r0, .int .i64 r1]) w1) = den Tryz.prog Tryz.f96.ntmps G_heap_Heap_bind (codeOf Tryz.f96) [] (postD Tryz.prog Tryz.f96.results.toList R) (entry [.pointer hx, .int .u64 wx, .int .u64 x] 0) w := by kernel_rfl

theorem C_heap_Heap_bind.of {hx : Option Addr} {wx : Int} {x : Int} {w : World} {R : Bool → Int → World → Prop} (h : F_heap_Heap_bind hx wx x w R) : C_heap_Heap_bind hx wx x w R := by
  refine (calls_of_den (c := codeOf Tryz.f96) seat_ok seat_mixed Tryz.func96 (by kernel_rfl) loops_heap_Heap_bind (args := [.pointer hx, .int .u64 wx, .int .u64 x]) rfl (R := fun v w1 => ∃ (r0 : Bool) (r1 : Int), v = (.tuple #[.bool r0, .int .i64 r1] : Value) ∧ R r0 r1 w1) ?_).mono ?_
  · rw [← den_heap_Heap_bind]
    have e : (fun r0 r1 w1 => ∃ (r0' : Bool) (r1' : Int), (.tuple #[.bool r0, .int .i64 r1] : Value) = (.tuple #[.bool r0', .int .i64 r1'] : Value) ∧ R r0' r1' w1) = R := by
      funext r0 r1 w1
      exact propext ⟨fun ⟨r0', r1', he, h⟩ => by first | (simp at he; simp_all) | (cases he; exact h), fun h => ⟨_, _, rfl, h⟩⟩
    simpa only [e] using h
  · rintro en w1 ⟨v, he, r0, r1, rfl, h⟩
    exact ⟨_, _, he, h⟩

structure S_heap_matcher_unify_L1 where
  i : Int

def F_heap_matcher_unify_k1 (R : Bool → World → Prop) (w1_10 : World) : Prop :=
  R false w1_10

/-- One round. -/
def B_heap_matcher_unify_L1 (m_1 : Option Addr) (a_12 : Int) (b_1 : Int) (arity : Int) (s : S_heap_matcher_unify_L1) (w : World) (Kn : S_heap_matcher_unify_L1 → World → Prop) (Kx1 : World → Prop) (Kr : Bool → World → Prop) : Prop :=
  If (decide ((s.i : Int) ≤ arity))
  (C_heap_arg a_12 (s.i : Int) w fun t106 w1_17 =>
  C_heap_ref t106 w1_17 fun t107 w1_18 =>
  C_heap_arg b_1 (s.i : Int) w1_18 fun t110 w1_19 =>
  C_heap_ref t110 w1_19 fun t111 w1_20 =>
  C_heap_matcher_unify m_1 t107 t111 w1_20 fun t112 w1_21 =>
  If (!t112)
  (Kr false w1_21)
  (Kn ⟨(IntKind.i64.wrap ((s.i : Int) + (1 : Int)))⟩ w1_21))
  (Kx1 w)

def F_heap_matcher_unify_L1 (m_1 : Option Addr) (a_12 : Int) (b_1 : Int) (arity : Int) (s : S_heap_matcher_unify_L1) (w : World) (Kx1 : World → Prop) (Kr : Bool → World → Prop) : Prop :=
  LoopS (fun s w Kn => B_heap_matcher_unify_L1 m_1 a_12 b_1 arity s w Kn Kx1 Kr) s w

def F_heap_matcher_unify (m : Option Addr) (a : Int) (b : Int) (w : World) (R : Bool → World → Prop) : Prop :=
  NN m fun a_1 =>
  ∃ hx : Option Addr, (drw w).cell? (a_1.add 0) = some (.pointer hx) ∧
  NN m fun a_2 =>
  ∃ hx_1 : Option Addr, (drw w).cell? (a_2.add 0) = some (.pointer hx_1) ∧
  C_heap_Heap_deref hx a (drw w) fun t16 w1 =>
  w1.cell? (a_2.add 0) = (drw w).cell? (a_2.add 0) ∧
  C_heap_Heap_deref hx_1 b w1 fun t22 w1_1 =>
  If (t16 == t22)
  (R true w1_1)
  (C_heap_unbound t16 w1_1 fun t29 w1_2 =>
  If t29
  (C_heap_matcher_bind m t16 t22 w1_2 fun t33 w1_3 =>
  R t33 w1_3)
  (C_heap_unbound t22 w1_2 fun t36 w1_4 =>
  If t36
  (C_heap_matcher_bind m t22 t16 w1_4 fun t40 w1_5 =>
  R t40 w1_5)
  (C_cell_Is t16 (2 : Int) (drw w1_4) fun t43 w1_6 =>
  If (!t43)
  (F_heap_matcher_unify_k1 R w1_6)
  (C_cell_Is t22 (2 : Int) w1_6 fun t47 w1_7 =>
  If (!t47)
  (F_heap_matcher_unify_k1 R w1_7)
  (NN m fun a_3 =>
  ∃ hx_2 : Option Addr, w1_7.cell? (a_3.add 0) = some (.pointer hx_2) ∧
  NN hx_2 fun a_4 =>
  ∃ cellsP : Option Addr, ∃ cellsN : Nat, ∃ cellsC : Nat, w1_7.cell? (a_4.add 4) = some (.slice cellsP cellsN cellsC) ∧
  NN m fun a_5 =>
  ∃ hx_3 : Option Addr, w1_7.cell? (a_5.add 0) = some (.pointer hx_3) ∧
  NN hx_3 fun a_6 =>
  ∃ cellsP_1 : Option Addr, ∃ cellsN_1 : Nat, ∃ cellsC_1 : Nat, w1_7.cell? (a_6.add 4) = some (.slice cellsP_1 cellsN_1 cellsC_1) ∧
  C_cell_Number t16 w1_7 fun t59 w1_8 =>
  w1_8.cell? (a_6.add 4) = w1_7.cell? (a_6.add 4) ∧
  w1_8.cell? (a_5.add 0) = w1_7.cell? (a_5.add 0) ∧
  w1_8.cell? (a_4.add 4) = w1_7.cell? (a_4.add 4) ∧
  w1_8.cell? (a_3.add 0) = w1_7.cell? (a_3.add 0) ∧
  0 ≤ t59 ∧ t59 < (cellsN : Int) ∧ NN cellsP fun a_7 =>
  ∃ t61 : Int, w1_8.cell? (a_7.add (t59.toNat * 1)) = some (.int .u64 t61) ∧
  C_cell_Number t22 w1_8 fun t70 w1_9 =>
  w1_9.cell? (a_7.add (t59.toNat * 1)) = w1_8.cell? (a_7.add (t59.toNat * 1)) ∧
  w1_9.cell? (a_6.add 4) = w1_7.cell? (a_6.add 4) ∧
  w1_9.cell? (a_5.add 0) = w1_7.cell? (a_5.add 0) ∧
  w1_9.cell? (a_4.add 4) = w1_7.cell? (a_4.add 4) ∧
  w1_9.cell? (a_3.add 0) = w1_7.cell? (a_3.add 0) ∧
  0 ≤ t70 ∧ t70 < (cellsN_1 : Int) ∧ NN cellsP_1 fun a_8 =>
  ∃ t72 : Int, w1_9.cell? (a_8.add (t70.toNat * 1)) = some (.int .u64 t72) ∧
  If (t61 != t72)
  (R false w1_9)
  (New w1_9 (.cells #[.int .u64 0, .int .u64 0] 208) fun r w1_11 =>
  St w1_11 ((⟨r, 0, none⟩ : Addr).add 0) (.int .u64 t16) fun w1_12 =>
  St w1_12 ((⟨r, 0, none⟩ : Addr).add 1) (.int .u64 t22) fun w1_13 =>
  NN m fun a_9 =>
  ∃ seen : Option Nat, (drw w1_13).cell? (a_9.add 1) = some (.map seen) ∧
  ∃ t820 : Int, (drw w1_13).cell? ((⟨r, 0, none⟩ : Addr).add 0) = some (.int .u64 t820) ∧
  ∃ t821 : Int, (drw w1_13).cell? ((⟨r, 0, none⟩ : Addr).add 1) = some (.int .u64 t821) ∧
  Run Tryz.prog (Instr.lookup 141 (.map seen) (.agg #[.int .u64 t820, .int .u64 t821]) false) (drw w1_13) fun v w1_14 => ∃ t83 : Bool, v = (.bool t83) ∧
  If t83
  (R true w1_14)
  (NN m fun a_10 =>
  ∃ seen_1 : Option Nat, (drw w1_14).cell? (a_10.add 1) = some (.map seen_1) ∧
  ∃ t880 : Int, (drw w1_14).cell? ((⟨r, 0, none⟩ : Addr).add 0) = some (.int .u64 t880) ∧
  ∃ t881 : Int, (drw w1_14).cell? ((⟨r, 0, none⟩ : Addr).add 1) = some (.int .u64 t881) ∧
  MUp Tryz.prog 141 (.map seen_1) (.agg #[.int .u64 t880, .int .u64 t881]) (.bool true) (drw w1_14) fun w1_15 =>
  NN m fun a_11 =>
  ∃ hx_4 : Option Addr, w1_15.cell? (a_11.add 0) = some (.pointer hx_4) ∧
  C_heap_Heap_fun hx_4 t16 w1_15 fun t950 t951 w1_16 =>
  F_heap_matcher_unify_L1 m t16 t22 t951 ⟨(1 : Int)⟩ w1_16
  (fun w1_22 =>
  R true w1_22)
  (fun t6_1 w1_23 =>
  R t6_1 w1_23))))))))

def lit_heap_matcher_unify_L1 (f : (Option Addr) × Int × Int × Int) (s : S_heap_matcher_unify_L1) : Env := [⟨0, .pointer f.1, none⟩, ⟨1, .int .u64 f.2.1, none⟩, ⟨2, .int .u64 f.2.2.1, none⟩, ⟨9, .int .i64 f.2.2.2, none⟩, ⟨10, .int .i64 s.i, none⟩]

def dec_heap_matcher_unify_L1 (e : Env) (K : ((Option Addr) × Int × Int × Int) → S_heap_matcher_unify_L1 → Prop) : Prop :=
  onV (getV e 0) fun u1 =>
  asP u1 fun m_1 =>
  onV (getV e 1) fun u2 =>
  asI .u64 u2 fun a_12 =>
  onV (getV e 2) fun u3 =>
  asI .u64 u3 fun b_1 =>
  onV (getV e 9) fun u4 =>
  asI .i64 u4 fun arity =>
  onV (getV e 10) fun u5 =>
  asI .i64 u5 fun i =>
    K (m_1, a_12, b_1, arity) ⟨i⟩

theorem dec_heap_matcher_unify_L1_ok {N : Nat} (e : Env) (a : Act) (K : ((Option Addr) × Int × Int × Int) → S_heap_matcher_unify_L1 → Prop) (hr : Rep N a e) (h0 : dec_heap_matcher_unify_L1 e K) : ∃ f s, K f s ∧ Rep N a (lit_heap_matcher_unify_L1 f s) := by
  unfold dec_heap_matcher_unify_L1 at h0
  obtain ⟨u1, g0, h1⟩ := onV_elim h0
  obtain ⟨m_1, rfl, h2⟩ := asP_elim h1
  obtain ⟨u2, g1, h3⟩ := onV_elim h2
  obtain ⟨a_12, rfl, h4⟩ := asI_elim h3
  obtain ⟨u3, g2, h5⟩ := onV_elim h4
  obtain ⟨b_1, rfl, h6⟩ := asI_elim h5
  obtain ⟨u4, g9, h7⟩ := onV_elim h6
  obtain ⟨arity, rfl, h8⟩ := asI_elim h7
  obtain ⟨u5, g10, h9⟩ := onV_elim h8
  obtain ⟨i, rfl, h10⟩ := asI_elim h9
  exact ⟨_, _, h10, rep_less hr (by simp [lit_heap_matcher_unify_L1, g0, g1, g2, g9, g10])⟩

def spec_heap_matcher_unify_L1 (Q : Post) (e : Env) (w : World) : Prop :=
  dec_heap_matcher_unify_L1 e fun f s => F_heap_matcher_unify_L1 f.1 f.2.1 f.2.2.1 f.2.2.2 s w (fun w1 => Q (.exit 1) [] w1) (fun t6 w1 => Q .ret [⟨6, .bool t6, none⟩] w1)

def G_heap_matcher_unify : Gen where
  loop := lookL [([false, true, false, true, true, true, true, true, true, true], spec_heap_matcher_unify_L1)]
  plan := fun id =>
    bif Nat.beq id 1 then some ([0, 1, 3, 7, 0, 31, 0, 64, 192, 448, 0, 2047, 4095, 8191], .take 0 (.take 1 (.take 2 (.take 3 (.take 4 (.take 6 (.take 7 (.take 8 (.take 9 (.take 10 (.take 5 (.take 11 (.take 12 (.take 13 .done)))))))))))))) else
    bif Nat.beq id 8 then some ([0, 1, 3, 7, 15, 31, 63, 127, 255, 511, 1023, 2047, 4095, 8191, 16383, 32767, 511, 66047, 262143, 524287, 511, 1049087, 3146239, 7340543, 15729151, 32506367, 66060799, 511, 134414847, 536019455, 1072890367, 2147483647, 4294967295, 8589934591], .take 0 (.take 1 (.take 2 (.take 3 (.take 4 (.take 5 (.take 6 (.take 7 (.take 8 (.take 9 (.take 10 (.take 11 (.take 12 (.take 13 (.take 14 (.take 15 (.take 16 (.take 20 (.take 21 (.take 22 (.take 23 (.take 24 (.take 25 (.take 26 (.take 27 (.take 17 (.take 18 (.take 19 (.take 28 (.take 29 (.take 30 (.take 31 (.take 32 (.take 33 .done)))))))))))))))))))))))))))))))))) else
    bif Nat.beq id 11 then some ([0, 1, 3, 7, 0, 31], .take 0 (.take 1 (.take 2 (.take 3 (.take 4 (.take 5 .done)))))) else
    bif Nat.beq id 13 then some ([0, 1, 3, 7, 0, 31], .take 0 (.take 1 (.take 2 (.take 3 (.take 4 (.take 5 .done)))))) else none

def dx_heap_matcher_unify_L1_1 (e : Env) (K : ((Option Addr) × Int × Int × Int) → Prop) : Prop :=
  onV (getV e 0) fun u1 =>
  asP u1 fun m_1 =>
  onV (getV e 1) fun u2 =>
  asI .u64 u2 fun a_12 =>
  onV (getV e 2) fun u3 =>
  asI .u64 u3 fun b_1 =>
  onV (getV e 9) fun u4 =>
  asI .i64 u4 fun arity =>
    K (m_1, a_12, b_1, arity)

def dx_heap_matcher_unify_L1_ret (e : Env) (K : ((Option Addr) × Int × Int × Int) → Bool → Prop) : Prop :=
  onV (getV e 0) fun u1 =>
  asP u1 fun m_1 =>
  onV (getV e 1) fun u2 =>
  asI .u64 u2 fun a_12 =>
  onV (getV e 2) fun u3 =>
  asI .u64 u3 fun b_1 =>
  onV (getV e 9) fun u4 =>
  asI .i64 u4 fun arity =>
  onV (getV e 6) fun u5 =>
  asB u5 fun t6 =>
    K (m_1, a_12, b_1, arity) t6

theorem body_heap_matcher_unify_L1 (f : (Option Addr) × Int × Int × Int) (s : S_heap_matcher_unify_L1) (w : World) (Kn : ((Option Addr) × Int × Int × Int) → S_heap_matcher_unify_L1 → World → Prop) (Kx1 : ((Option Addr) × Int × Int × Int) → World → Prop) (Kr : ((Option Addr) × Int × Int × Int) → Bool → World → Prop) :
    B_heap_matcher_unify_L1 f.1 f.2.1 f.2.2.1 f.2.2.2 s w (fun s1 w1 => Kn f s1 w1) (fun w1 => Kx1 f w1) (fun t6 w1 => Kr f t6 w1) =
    den Tryz.prog Tryz.f97.ntmps G_heap_matcher_unify (sub (codeOf Tryz.f97) [false, false, true, false, true, true, true, true, true, true, true]) [false, false, true, false, true, true, true, true, true, true, true] (roundQ (fun e w => dec_heap_matcher_unify_L1 e fun f s => Kn f s w) (fun e w => dx_heap_matcher_unify_L1_ret e fun f t6 => Kr f t6 w) (fun id e w => match Nat.beq id 1 with | true => dx_heap_matcher_unify_L1_1 e fun f => Kx1 f w | false => False)) (lit_heap_matcher_unify_L1 f s) w := by kernel_rfl

theorem ok_heap_matcher_unify_L1 : OneOk Tryz.prog Tryz.f97.ntmps G_heap_matcher_unify (codeOf Tryz.f97) [false, true, false, true, true, true, true, true, true, true] spec_heap_matcher_unify_L1 := by
  intro c hc ih Q e w a hr h
  have hcc : sub (codeOf Tryz.f97) [false, false, true, false, true, true, true, true, true, true, true] = c := sub_of_codeAt hc
  obtain ⟨f, s, h, hrep⟩ := dec_heap_matcher_unify_L1_ok e a _ hr h
  obtain ⟨J, μ, hj, hround⟩ := h
  refine loop_rule_deep seat_ok seat_mixed ih lit_heap_matcher_unify_L1 dec_heap_matcher_unify_L1 dec_heap_matcher_unify_L1_ok hc f J μ (Kr := fun e w => dx_heap_matcher_unify_L1_ret e fun f1 t6 => f1 = f ∧ Q .ret [⟨6, .bool t6, none⟩] w) (Kx := fun id e w => match Nat.beq id 1 with | true => (dx_heap_matcher_unify_L1_1 e fun f1 => f1 = f ∧ Q (.exit 1) [] w) | false => False) ?_ ?_ ?_ s w a hj hrep
  · intro e a w hr h0
    unfold dx_heap_matcher_unify_L1_ret at h0
    obtain ⟨u1, g0, h1⟩ := onV_elim h0
    obtain ⟨m_1, rfl, h2⟩ := asP_elim h1
    obtain ⟨u2, g1, h3⟩ := onV_elim h2
    obtain ⟨a_12, rfl, h4⟩ := asI_elim h3
    obtain ⟨u3, g2, h5⟩ := onV_elim h4
    obtain ⟨b_1, rfl, h6⟩ := asI_elim h5
    obtain ⟨u4, g9, h7⟩ := onV_elim h6
    obtain ⟨arity, rfl, h8⟩ := asI_elim h7
    obtain ⟨u5, g6, h9⟩ := onV_elim h8
    obtain ⟨t6, rfl, h10⟩ := asB_elim h9
    obtain ⟨hf, hq⟩ := h10
    subst hf
    exact ⟨_, rep_less hr (by simp [g6]), hq⟩
  · intro id e a w hr h0
    (try dsimp only at h0)
    split at h0
    · rename_i hid
      obtain rfl := Nat.eq_of_beq_eq_true hid
      unfold dx_heap_matcher_unify_L1_1 at h0
      obtain ⟨u1, g0, h1⟩ := onV_elim h0
      obtain ⟨m_1, rfl, h2⟩ := asP_elim h1
      obtain ⟨u2, g1, h3⟩ := onV_elim h2
      obtain ⟨a_12, rfl, h4⟩ := asI_elim h3
      obtain ⟨u3, g2, h5⟩ := onV_elim h4
      obtain ⟨b_1, rfl, h6⟩ := asI_elim h5
      obtain ⟨u4, g9, h7⟩ := onV_elim h6
      obtain ⟨arity, rfl, h8⟩ := asI_elim h7
      obtain ⟨hf, hq⟩ := h8
      subst hf
      exact ⟨_, rep_less hr (by simp), hq⟩
    · exact h0.elim
  · intro s w hj
    have hb := hround s w hj
    rw [← hcc]
    have e1 := body_heap_matcher_unify_L1 f s w (fun f1 s1 w1 => f1 = f ∧ J s1 w1 ∧ μ s1 w1 < μ s w) (fun f1 w1 => f1 = f ∧ Q (.exit 1) [] w1) (fun f1 t6 w1 => f1 = f ∧ Q .ret [⟨6, .bool t6, none⟩] w1)
    simp only [true_and] at e1
    exact cast e1 hb

theorem loops_heap_matcher_unify : LoopOk Tryz.prog Tryz.f97.ntmps G_heap_matcher_unify (codeOf Tryz.f97) := loopOk_list rfl ⟨ok_heap_matcher_unify_L1, trivial⟩

theorem den_heap_matcher_unify (m : Option Addr) (a : Int) (b : Int) (w : World) (R : Value → World → Prop) :
    F_heap_matcher_unify m a b w (fun r w1 => R (.bool r) w1) = den Tryz.prog Tryz.f97.ntmps G_heap_matcher_unify (codeOf Tryz.f97) [] (postD Tryz.prog Tryz.f97.results.toList R) (entry [.pointer m, .int .u64 a, .int .u64 b] 0) w := by kernel_rfl

theorem C_heap_matcher_unify.of {m : Option Addr} {a : Int} {b : Int} {w : World} {R : Bool → World → Prop} (h : F_heap_matcher_unify m a b w R) : C_heap_matcher_unify m a b w R := by
  refine (calls_of_den (c := codeOf Tryz.f97) seat_ok seat_mixed Tryz.func97 (by kernel_rfl) loops_heap_matcher_unify (args := [.pointer m, .int .u64 a, .int .u64 b]) rfl (R := fun v w1 => ∃ (r : Bool), v = (.bool r : Value) ∧ R r w1) ?_).mono ?_
  · rw [← den_heap_matcher_unify]
    have e : (fun r w1 => ∃ (r' : Bool), (.bool r : Value) = (.bool r' : Value) ∧ R r' w1) = R := by
      funext r w1
      exact propext ⟨fun ⟨r', he, h⟩ => by first | (simp at he; simp_all) | (cases he; exact h), fun h => ⟨_, rfl, h⟩⟩
    simpa only [e] using h
  · rintro en w1 ⟨v, he, r, rfl, h⟩
    exact ⟨_, he, h⟩

end Go.Proofs.YtdaenijbokialaaGreat
