/- The formulas of this seat's functions, held against the loaded program by the kernel. Printed by a program. -/
import Derived.Test.YtcgnligpjfhjlaaGenC
set_option maxRecDepth 100000
set_option linter.unusedVariables false
namespace Go.Proofs.Ytcgnligpjfhjlaa
open Go Go.D Go.Proofs

structure S_law03_PoolDoes_L1 where
  i : Int

def F_law03_PoolDoes_k1 (R : Bool → World → Prop) (w1_4 : World) : Prop :=
  R false w1_4

def F_law03_PoolDoes_k2 (Kx0 : World → Prop) (w1_6 : World) : Prop :=
  Kx0 w1_6

/-- One round. -/
def B_law03_PoolDoes_L1 (lP_1 : Option Addr) (lN_1 : Nat) (lC_1 : Nat) (p : Option Addr) (x : Option Addr) (s : S_law03_PoolDoes_L1) (w : World) (Kn : S_law03_PoolDoes_L1 → World → Prop) (Kx0 : World → Prop) (Kr : Bool → World → Prop) : Prop :=
  If (decide ((s.i : Int) < (lN_1 : Int)))
  (If (decide ((s.i : Int) < (50 : Int)))
  (If (!x.isNone)
  (0 ≤ (s.i : Int) ∧ (s.i : Int) < (lN_1 : Int) ∧ NN lP_1 fun a =>
  ∃ t650 : Int, w.cell? ((a.add ((s.i : Int).toNat * 3)).add 0) = some (.int .i64 t650) ∧
  ∃ t651 : Int, w.cell? ((a.add ((s.i : Int).toNat * 3)).add 1) = some (.int .i64 t651) ∧
  ∃ t652 : Int, w.cell? ((a.add ((s.i : Int).toNat * 3)).add 2) = some (.int .i64 t652) ∧
  C_law03_do p x t650 t651 t652 w fun t66 w1_7 =>
  If (!t66)
  (Kr false w1_7)
  (0 ≤ (s.i : Int) ∧ (s.i : Int) < (lN_1 : Int) ∧ NN lP_1 fun a_1 =>
  ∃ At : Int, w1_7.cell? ((a_1.add ((s.i : Int).toNat * 3)).add 1) = some (.int .i64 At) ∧
  C_law03_alike p x At w1_7 fun t76 w1_8 =>
  If (!t76)
  (Kr false w1_8)
  (Kn ⟨(IntKind.i64.wrap ((s.i : Int) + (1 : Int)))⟩ w1_8)))
  (Kx0 w))
  (F_law03_PoolDoes_k2 Kx0 w))
  (F_law03_PoolDoes_k2 Kx0 w)

def F_law03_PoolDoes_L1 (lP_1 : Option Addr) (lN_1 : Nat) (lC_1 : Nat) (p : Option Addr) (x : Option Addr) (s : S_law03_PoolDoes_L1) (w : World) (Kx0 : World → Prop) (Kr : Bool → World → Prop) : Prop :=
  LoopS (fun s w Kn => B_law03_PoolDoes_L1 lP_1 lN_1 lC_1 p x s w Kn Kx0 Kr) s w

def F_law03_PoolDoes_k3 (lP : Option Addr) (lN : Nat) (lC : Nat) (R : Bool → World → Prop) (t170 : Option Addr) (t21 : Option Addr) (w1_5 : World) : Prop :=
  F_law03_PoolDoes_L1 lP lN lC t170 t21 ⟨(0 : Int)⟩ w1_5
  (fun w1_9 =>
  R true w1_9)
  (fun t4_1 w1_10 =>
  R t4_1 w1_10)

def F_law03_PoolDoes_k4 (lP : Option Addr) (lN : Nat) (lC : Nat) (R : Bool → World → Prop) (limitx_1 : Int) (w1 : World) : Prop :=
  C_pool_New limitx_1 w1 fun t170 t171 w1_1 =>
  C_ref03_New limitx_1 w1_1 fun t21 w1_2 =>
  C_law03_lives  w1_2 fun t22 w1_3 =>
  If (!t22)
  (F_law03_PoolDoes_k1 R w1_3)
  (If (!((!t170.isNone) == (!t21.isNone)))
  (F_law03_PoolDoes_k1 R w1_3)
  (If (!((t171 == (0 : Int)) == (!t21.isNone)))
  (F_law03_PoolDoes_k1 R w1_3)
  (If t21.isNone
  (If (t171 != (1 : Int))
  (R false w1_3)
  (F_law03_PoolDoes_k3 lP lN lC R t170 t21 w1_3))
  (F_law03_PoolDoes_k3 lP lN lC R t170 t21 w1_3))))

def F_law03_PoolDoes (limitx : Int) (lP : Option Addr) (lN : Nat) (lC : Nat) (w : World) (R : Bool → World → Prop) : Prop :=
  If (decide (limitx > (5000 : Int)))
  (If (decide (limitx ≤ (1048576 : Int)))
  (F_law03_PoolDoes_k4 lP lN lC R (5000 : Int) w)
  (F_law03_PoolDoes_k4 lP lN lC R limitx w))
  (F_law03_PoolDoes_k4 lP lN lC R limitx w)

def lit_law03_PoolDoes_L1 (f : (Option Addr) × Nat × Nat × (Option Addr) × (Option Addr)) (s : S_law03_PoolDoes_L1) : Env := [⟨1, .slice f.1 f.2.1 f.2.2.1, none⟩, ⟨5, .pointer f.2.2.2.1, none⟩, ⟨7, .pointer f.2.2.2.2, none⟩, ⟨8, .int .i64 s.i, none⟩]

def dec_law03_PoolDoes_L1 (e : Env) (K : ((Option Addr) × Nat × Nat × (Option Addr) × (Option Addr)) → S_law03_PoolDoes_L1 → Prop) : Prop :=
  onV (getV e 1) fun u1 =>
  asS u1 fun lP_1 lN_1 lC_1 =>
  onV (getV e 5) fun u2 =>
  asP u2 fun p =>
  onV (getV e 7) fun u3 =>
  asP u3 fun x =>
  onV (getV e 8) fun u4 =>
  asI .i64 u4 fun i =>
    K (lP_1, lN_1, lC_1, p, x) ⟨i⟩

theorem dec_law03_PoolDoes_L1_ok {N : Nat} (e : Env) (a : Act) (K : ((Option Addr) × Nat × Nat × (Option Addr) × (Option Addr)) → S_law03_PoolDoes_L1 → Prop) (hr : Rep N a e) (h0 : dec_law03_PoolDoes_L1 e K) : ∃ f s, K f s ∧ Rep N a (lit_law03_PoolDoes_L1 f s) := by
  unfold dec_law03_PoolDoes_L1 at h0
  obtain ⟨u1, g1, h1⟩ := onV_elim h0
  obtain ⟨lP_1, lN_1, lC_1, rfl, h2⟩ := asS_elim h1
  obtain ⟨u2, g5, h3⟩ := onV_elim h2
  obtain ⟨p, rfl, h4⟩ := asP_elim h3
  obtain ⟨u3, g7, h5⟩ := onV_elim h4
  obtain ⟨x, rfl, h6⟩ := asP_elim h5
  obtain ⟨u4, g8, h7⟩ := onV_elim h6
  obtain ⟨i, rfl, h8⟩ := asI_elim h7
  exact ⟨_, _, h8, rep_less hr (by simp [lit_law03_PoolDoes_L1, g1, g5, g7, g8])⟩

def spec_law03_PoolDoes_L1 (Q : Post) (e : Env) (w : World) : Prop :=
  dec_law03_PoolDoes_L1 e fun f s => F_law03_PoolDoes_L1 f.1 f.2.1 f.2.2.1 f.2.2.2.1 f.2.2.2.2 s w (fun w1 => Q (.exit 0) [] w1) (fun t4 w1 => Q .ret [⟨4, .bool t4, none⟩] w1)

def G_law03_PoolDoes : Gen where
  loop := lookL [([false, true, false, true, true, true, true, true], spec_law03_PoolDoes_L1)]
  plan := fun _ => none

def dx_law03_PoolDoes_L1_0 (e : Env) (K : ((Option Addr) × Nat × Nat × (Option Addr) × (Option Addr)) → Prop) : Prop :=
  onV (getV e 1) fun u1 =>
  asS u1 fun lP_1 lN_1 lC_1 =>
  onV (getV e 5) fun u2 =>
  asP u2 fun p =>
  onV (getV e 7) fun u3 =>
  asP u3 fun x =>
    K (lP_1, lN_1, lC_1, p, x)

def dx_law03_PoolDoes_L1_ret (e : Env) (K : ((Option Addr) × Nat × Nat × (Option Addr) × (Option Addr)) → Bool → Prop) : Prop :=
  onV (getV e 1) fun u1 =>
  asS u1 fun lP_1 lN_1 lC_1 =>
  onV (getV e 5) fun u2 =>
  asP u2 fun p =>
  onV (getV e 7) fun u3 =>
  asP u3 fun x =>
  onV (getV e 4) fun u4 =>
  asB u4 fun t4 =>
    K (lP_1, lN_1, lC_1, p, x) t4

theorem body_law03_PoolDoes_L1 (f : (Option Addr) × Nat × Nat × (Option Addr) × (Option Addr)) (s : S_law03_PoolDoes_L1) (w : World) (Kn : ((Option Addr) × Nat × Nat × (Option Addr) × (Option Addr)) → S_law03_PoolDoes_L1 → World → Prop) (Kx0 : ((Option Addr) × Nat × Nat × (Option Addr) × (Option Addr)) → World → Prop) (Kr : ((Option Addr) × Nat × Nat × (Option Addr) × (Option Addr)) → Bool → World → Prop) :
    B_law03_PoolDoes_L1 f.1 f.2.1 f.2.2.1 f.2.2.2.1 f.2.2.2.2 s w (fun s1 w1 => Kn f s1 w1) (fun w1 => Kx0 f w1) (fun t4 w1 => Kr f t4 w1) =
    den Try.prog Try.f5.ntmps G_law03_PoolDoes (sub (codeOf Try.f5) [false, false, true, false, true, true, true, true, true]) [false, false, true, false, true, true, true, true, true] (roundQ (fun e w => dec_law03_PoolDoes_L1 e fun f s => Kn f s w) (fun e w => dx_law03_PoolDoes_L1_ret e fun f t4 => Kr f t4 w) (fun id e w => match Nat.beq id 0 with | true => dx_law03_PoolDoes_L1_0 e fun f => Kx0 f w | false => False)) (lit_law03_PoolDoes_L1 f s) w := by kernel_rfl

theorem ok_law03_PoolDoes_L1 : OneOk Try.prog Try.f5.ntmps G_law03_PoolDoes (codeOf Try.f5) [false, true, false, true, true, true, true, true] spec_law03_PoolDoes_L1 := by
  intro c hc ih Q e w a hr h
  have hcc : sub (codeOf Try.f5) [false, false, true, false, true, true, true, true, true] = c := sub_of_codeAt hc
  obtain ⟨f, s, h, hrep⟩ := dec_law03_PoolDoes_L1_ok e a _ hr h
  obtain ⟨J, μ, hj, hround⟩ := h
  refine loop_rule_deep seat_ok seat_mixed ih lit_law03_PoolDoes_L1 dec_law03_PoolDoes_L1 dec_law03_PoolDoes_L1_ok hc f J μ (Kr := fun e w => dx_law03_PoolDoes_L1_ret e fun f1 t4 => f1 = f ∧ Q .ret [⟨4, .bool t4, none⟩] w) (Kx := fun id e w => match Nat.beq id 0 with | true => (dx_law03_PoolDoes_L1_0 e fun f1 => f1 = f ∧ Q (.exit 0) [] w) | false => False) ?_ ?_ ?_ s w a hj hrep
  · intro e a w hr h0
    unfold dx_law03_PoolDoes_L1_ret at h0
    obtain ⟨u1, g1, h1⟩ := onV_elim h0
    obtain ⟨lP_1, lN_1, lC_1, rfl, h2⟩ := asS_elim h1
    obtain ⟨u2, g5, h3⟩ := onV_elim h2
    obtain ⟨p, rfl, h4⟩ := asP_elim h3
    obtain ⟨u3, g7, h5⟩ := onV_elim h4
    obtain ⟨x, rfl, h6⟩ := asP_elim h5
    obtain ⟨u4, g4, h7⟩ := onV_elim h6
    obtain ⟨t4, rfl, h8⟩ := asB_elim h7
    obtain ⟨hf, hq⟩ := h8
    subst hf
    exact ⟨_, rep_less hr (by simp [g4]), hq⟩
  · intro id e a w hr h0
    (try dsimp only at h0)
    split at h0
    · rename_i hid
      obtain rfl := Nat.eq_of_beq_eq_true hid
      unfold dx_law03_PoolDoes_L1_0 at h0
      obtain ⟨u1, g1, h1⟩ := onV_elim h0
      obtain ⟨lP_1, lN_1, lC_1, rfl, h2⟩ := asS_elim h1
      obtain ⟨u2, g5, h3⟩ := onV_elim h2
      obtain ⟨p, rfl, h4⟩ := asP_elim h3
      obtain ⟨u3, g7, h5⟩ := onV_elim h4
      obtain ⟨x, rfl, h6⟩ := asP_elim h5
      obtain ⟨hf, hq⟩ := h6
      subst hf
      exact ⟨_, rep_less hr (by simp), hq⟩
    · exact h0.elim
  · intro s w hj
    have hb := hround s w hj
    rw [← hcc]
    have e1 := body_law03_PoolDoes_L1 f s w (fun f1 s1 w1 => f1 = f ∧ J s1 w1 ∧ μ s1 w1 < μ s w) (fun f1 w1 => f1 = f ∧ Q (.exit 0) [] w1) (fun f1 t4 w1 => f1 = f ∧ Q .ret [⟨4, .bool t4, none⟩] w1)
    simp only [true_and] at e1
    exact cast e1 hb

theorem loops_law03_PoolDoes : LoopOk Try.prog Try.f5.ntmps G_law03_PoolDoes (codeOf Try.f5) := loopOk_list rfl ⟨ok_law03_PoolDoes_L1, trivial⟩

theorem den_law03_PoolDoes (limitx : Int) (lP : Option Addr) (lN : Nat) (lC : Nat) (w : World) (R : Value → World → Prop) :
    F_law03_PoolDoes limitx lP lN lC w (fun r w1 => R (.bool r) w1) = den Try.prog Try.f5.ntmps G_law03_PoolDoes (codeOf Try.f5) [] (postD Try.prog Try.f5.results.toList R) (entry [.int .i64 limitx, .slice lP lN lC] 0) w := by kernel_rfl

theorem C_law03_PoolDoes.of {limitx : Int} {lP : Option Addr} {lN : Nat} {lC : Nat} {w : World} {R : Bool → World → Prop} (h : F_law03_PoolDoes limitx lP lN lC w R) : C_law03_PoolDoes limitx lP lN lC w R := by
  refine (calls_of_den (c := codeOf Try.f5) seat_ok seat_mixed Try.func5 (by kernel_rfl) loops_law03_PoolDoes (args := [.int .i64 limitx, .slice lP lN lC]) rfl (R := fun v w1 => ∃ (r : Bool), v = (.bool r : Value) ∧ R r w1) ?_).mono ?_
  · rw [← den_law03_PoolDoes]
    have e : (fun r w1 => ∃ (r' : Bool), (.bool r : Value) = (.bool r' : Value) ∧ R r' w1) = R := by
      funext r w1
      exact propext ⟨fun ⟨r', he, h⟩ => by simp at he; simp_all, fun h => ⟨_, rfl, h⟩⟩
    simpa only [e] using h
  · rintro en w1 ⟨v, he, r, rfl, h⟩
    exact ⟨_, he, h⟩

def F_law03_PoolNobody_k1 (R : Bool → World → Prop) (w1_15 : World) : Prop :=
  R false w1_15

def F_law03_PoolNobody (o0 : Int) (o1 : Int) (o2 : Int) (w : World) (R : Bool → World → Prop) : Prop :=
  New w (.cells #[.int .i64 o0, .int .i64 o1, .int .i64 o2] 30) fun r w1 =>
  ∃ N : Int, w1.cell? ((⟨r, 0, none⟩ : Addr).add 2) = some (.int .i64 N) ∧
  C_pool_Pool_Take none N w1 fun t100 t101 w1_1 =>
  C_law03_lives  w1_1 fun t13 w1_2 =>
  If t13
  (If (t100 == (0 : Int))
  (If (t101 == (6 : Int))
  (∃ At : Int, w1_2.cell? ((⟨r, 0, none⟩ : Addr).add 1) = some (.int .i64 At) ∧
  ∃ N_1 : Int, w1_2.cell? ((⟨r, 0, none⟩ : Addr).add 2) = some (.int .i64 N_1) ∧
  C_pool_Pool_Give none At N_1 w1_2 fun t28 w1_3 =>
  If (t28 == (6 : Int))
  (C_pool_Pool_Open none w1_3 fun t33 w1_4 =>
  If (t33 == (6 : Int))
  (C_pool_Pool_Close none w1_4 fun t38 w1_5 =>
  If (t38 == (6 : Int))
  (C_pool_Pool_Back none w1_5 fun t43 w1_6 =>
  If (t43 == (6 : Int))
  (C_pool_Pool_Top none w1_6 fun t48 w1_7 =>
  If (t48 == (0 : Int))
  (C_pool_Pool_Limit none w1_7 fun t53 w1_8 =>
  If (t53 == (0 : Int))
  (C_pool_Pool_Starts none w1_8 fun t58P t58N t58C w1_9 =>
  If ((t58N : Int) == (0 : Int))
  (∃ At_1 : Int, w1_9.cell? ((⟨r, 0, none⟩ : Addr).add 1) = some (.int .i64 At_1) ∧
  C_pool_Pool_Runs none At_1 w1_9 fun t66P t66N t66C w1_10 =>
  If ((t66N : Int) == (0 : Int))
  (∃ At_2 : Int, w1_10.cell? ((⟨r, 0, none⟩ : Addr).add 1) = some (.int .i64 At_2) ∧
  C_pool_Pool_Free none At_2 w1_10 fun t74 w1_11 =>
  If (!t74)
  (C_pool_Pool_Left none w1_11 fun t79 w1_12 =>
  If (t79 == (0 : Int))
  (C_pool_Pool_Sweep none (.func (.func 26) #[] #[]) w1_12 fun t84 w1_13 =>
  If (t84 == (0 : Int))
  (∃ At_3 : Int, w1_13.cell? ((⟨r, 0, none⟩ : Addr).add 1) = some (.int .i64 At_3) ∧
  C_pool_Pool_Segment none At_3 w1_13 fun t91 w1_14 =>
  R (t91 == (-1)) w1_14)
  (F_law03_PoolNobody_k1 R w1_13))
  (F_law03_PoolNobody_k1 R w1_12))
  (F_law03_PoolNobody_k1 R w1_11))
  (F_law03_PoolNobody_k1 R w1_10))
  (F_law03_PoolNobody_k1 R w1_9))
  (F_law03_PoolNobody_k1 R w1_8))
  (F_law03_PoolNobody_k1 R w1_7))
  (F_law03_PoolNobody_k1 R w1_6))
  (F_law03_PoolNobody_k1 R w1_5))
  (F_law03_PoolNobody_k1 R w1_4))
  (F_law03_PoolNobody_k1 R w1_3))
  (F_law03_PoolNobody_k1 R w1_2))
  (F_law03_PoolNobody_k1 R w1_2))
  (F_law03_PoolNobody_k1 R w1_2)

def G_law03_PoolNobody : Gen where
  loop := lookL []
  plan := fun _ => none

theorem loops_law03_PoolNobody : LoopOk Try.prog Try.f6.ntmps G_law03_PoolNobody (codeOf Try.f6) := loopOk_none fun _ => rfl

theorem den_law03_PoolNobody (o0 : Int) (o1 : Int) (o2 : Int) (w : World) (R : Value → World → Prop) :
    F_law03_PoolNobody o0 o1 o2 w (fun r w1 => R (.bool r) w1) = den Try.prog Try.f6.ntmps G_law03_PoolNobody (codeOf Try.f6) [] (postD Try.prog Try.f6.results.toList R) (entry [.agg #[.int .i64 o0, .int .i64 o1, .int .i64 o2]] 0) w := by kernel_rfl

theorem C_law03_PoolNobody.of {o0 : Int} {o1 : Int} {o2 : Int} {w : World} {R : Bool → World → Prop} (h : F_law03_PoolNobody o0 o1 o2 w R) : C_law03_PoolNobody o0 o1 o2 w R := by
  refine (calls_of_den (c := codeOf Try.f6) seat_ok seat_mixed Try.func6 (by kernel_rfl) loops_law03_PoolNobody (args := [.agg #[.int .i64 o0, .int .i64 o1, .int .i64 o2]]) rfl (R := fun v w1 => ∃ (r : Bool), v = (.bool r : Value) ∧ R r w1) ?_).mono ?_
  · rw [← den_law03_PoolNobody]
    have e : (fun r w1 => ∃ (r' : Bool), (.bool r : Value) = (.bool r' : Value) ∧ R r' w1) = R := by
      funext r w1
      exact propext ⟨fun ⟨r', he, h⟩ => by simp at he; simp_all, fun h => ⟨_, rfl, h⟩⟩
    simpa only [e] using h
  · rintro en w1 ⟨v, he, r, rfl, h⟩
    exact ⟨_, he, h⟩

def F_pool_New (limitx : Int) (w : World) (R : Option Addr → Int → World → Prop) : Prop :=
  If (decide (limitx < (0 : Int)))
  (R none (1 : Int) w)
  (If (decide (limitx > (1048576 : Int)))
  (R none (1 : Int) w)
  (BSl Try.prog 54 1 [(0, .agg #[.int .i64 0, .slice none 0 0])] w fun t11P t11N t11C w1 =>
  New w1 (.cells #[.slice t11P t11N t11C, .int .i64 0, .int .i64 limitx] 56) fun r w1_1 =>
  R (some ⟨r, 0, none⟩) (0 : Int) w1_1))

def G_pool_New : Gen where
  loop := lookL []
  plan := fun _ => none

theorem loops_pool_New : LoopOk Try.prog Try.f7.ntmps G_pool_New (codeOf Try.f7) := loopOk_none fun _ => rfl

theorem den_pool_New (limitx : Int) (w : World) (R : Value → World → Prop) :
    F_pool_New limitx w (fun r0 r1 w1 => R (.tuple #[.pointer r0, .int .i64 r1]) w1) = den Try.prog Try.f7.ntmps G_pool_New (codeOf Try.f7) [] (postD Try.prog Try.f7.results.toList R) (entry [.int .i64 limitx] 0) w := by kernel_rfl

theorem C_pool_New.of {limitx : Int} {w : World} {R : Option Addr → Int → World → Prop} (h : F_pool_New limitx w R) : C_pool_New limitx w R := by
  refine (calls_of_den (c := codeOf Try.f7) seat_ok seat_mixed Try.func7 (by kernel_rfl) loops_pool_New (args := [.int .i64 limitx]) rfl (R := fun v w1 => ∃ (r0 : Option Addr) (r1 : Int), v = (.tuple #[.pointer r0, .int .i64 r1] : Value) ∧ R r0 r1 w1) ?_).mono ?_
  · rw [← den_pool_New]
    have e : (fun r0 r1 w1 => ∃ (r0' : Option Addr) (r1' : Int), (.tuple #[.pointer r0, .int .i64 r1] : Value) = (.tuple #[.pointer r0', .int .i64 r1'] : Value) ∧ R r0' r1' w1) = R := by
      funext r0 r1 w1
      exact propext ⟨fun ⟨r0', r1', he, h⟩ => by simp at he; simp_all, fun h => ⟨_, _, rfl, h⟩⟩
    simpa only [e] using h
  · rintro en w1 ⟨v, he, r0, r1, rfl, h⟩
    exact ⟨_, _, he, h⟩

def F_law03_lives_k1 (R : Bool → World → Prop) (w1_19 : World) : Prop :=
  R false w1_19

def F_law03_lives (w : World) (R : Bool → World → Prop) : Prop :=
  C_pool_New (9 : Int) w fun t140 t141 w1 =>
  If (t141 != (0 : Int))
  (R false w1)
  (If t140.isNone
  (R false w1)
  (C_pool_Pool_Take t140 (3 : Int) w1 fun t250 t251 w1_1 =>
  C_pool_Pool_Give t140 (0 : Int) (3 : Int) w1_1 fun t29 w1_2 =>
  C_pool_Pool_Take t140 (2 : Int) w1_2 fun t320 t321 w1_3 =>
  C_pool_Pool_Take t140 (2 : Int) w1_3 fun t370 t371 w1_4 =>
  C_pool_Pool_Runs t140 (0 : Int) w1_4 fun t41P t41N t41C w1_5 =>
  C_pool_New (-1) w1_5 fun t430 t431 w1_6 =>
  If (t250 == (0 : Int))
  (If (t251 == (0 : Int))
  (If (t29 == (0 : Int))
  (If (t320 == (0 : Int))
  (If (t321 == (0 : Int))
  (If (t370 == (3 : Int))
  (If (t371 == (0 : Int))
  (If ((t41N : Int) == (1 : Int))
  (0 ≤ (0 : Int) ∧ (0 : Int) < (t41N : Int) ∧ NN t41P fun a =>
  ∃ t800 : Int, w1_6.cell? ((a.add ((0 : Int).toNat * 2)).add 0) = some (.int .i64 t800) ∧
  ∃ t801 : Int, w1_6.cell? ((a.add ((0 : Int).toNat * 2)).add 1) = some (.int .i64 t801) ∧
  AggEq Try.prog 58 (.agg #[.int .i64 t800, .int .i64 t801]) (.agg #[.int .i64 2, .int .i64 1]) fun bb =>
  If bb
  (C_pool_Pool_Free t140 (2 : Int) w1_6 fun t86 w1_7 =>
  If t86
  (C_pool_Pool_Free t140 (1 : Int) w1_7 fun t90 w1_8 =>
  If (!t90)
  (C_pool_Pool_Top t140 w1_8 fun t95 w1_9 =>
  If (t95 == (5 : Int))
  (C_pool_Pool_Limit t140 w1_9 fun t100 w1_10 =>
  If (t100 == (9 : Int))
  (C_pool_Pool_Left t140 w1_10 fun t105 w1_11 =>
  If (t105 == (5 : Int))
  (C_pool_Pool_Open t140 w1_11 fun t110 w1_12 =>
  If (t110 == (0 : Int))
  (C_pool_Pool_Segment t140 (4 : Int) w1_12 fun t115 w1_13 =>
  If (t115 == (0 : Int))
  (C_pool_Pool_Starts t140 w1_13 fun t120P t120N t120C w1_14 =>
  If ((t120N : Int) == (2 : Int))
  (C_pool_Pool_Close t140 w1_14 fun t126 w1_15 =>
  If (t126 == (0 : Int))
  (C_pool_Pool_Close t140 w1_15 fun t131 w1_16 =>
  If (t131 == (4 : Int))
  (C_pool_Pool_Back t140 w1_16 fun t136 w1_17 =>
  If (t136 == (0 : Int))
  (C_pool_Pool_Top t140 w1_17 fun t141_1 w1_18 =>
  If (t141_1 == (0 : Int))
  (R (t431 == (1 : Int)) w1_18)
  (F_law03_lives_k1 R w1_18))
  (F_law03_lives_k1 R w1_17))
  (F_law03_lives_k1 R w1_16))
  (F_law03_lives_k1 R w1_15))
  (F_law03_lives_k1 R w1_14))
  (F_law03_lives_k1 R w1_13))
  (F_law03_lives_k1 R w1_12))
  (F_law03_lives_k1 R w1_11))
  (F_law03_lives_k1 R w1_10))
  (F_law03_lives_k1 R w1_9))
  (F_law03_lives_k1 R w1_8))
  (F_law03_lives_k1 R w1_7))
  (F_law03_lives_k1 R w1_6))
  (F_law03_lives_k1 R w1_6))
  (F_law03_lives_k1 R w1_6))
  (F_law03_lives_k1 R w1_6))
  (F_law03_lives_k1 R w1_6))
  (F_law03_lives_k1 R w1_6))
  (F_law03_lives_k1 R w1_6))
  (F_law03_lives_k1 R w1_6))
  (F_law03_lives_k1 R w1_6)))

def G_law03_lives : Gen where
  loop := lookL []
  plan := fun _ => none

theorem loops_law03_lives : LoopOk Try.prog Try.f8.ntmps G_law03_lives (codeOf Try.f8) := loopOk_none fun _ => rfl

theorem den_law03_lives  (w : World) (R : Value → World → Prop) :
    F_law03_lives w (fun r w1 => R (.bool r) w1) = den Try.prog Try.f8.ntmps G_law03_lives (codeOf Try.f8) [] (postD Try.prog Try.f8.results.toList R) (entry [] 0) w := by kernel_rfl

theorem C_law03_lives.of {w : World} {R : Bool → World → Prop} (h : F_law03_lives w R) : C_law03_lives w R := by
  refine (calls_of_den (c := codeOf Try.f8) seat_ok seat_mixed Try.func8 (by kernel_rfl) loops_law03_lives (args := []) rfl (R := fun v w1 => ∃ (r : Bool), v = (.bool r : Value) ∧ R r w1) ?_).mono ?_
  · rw [← den_law03_lives]
    have e : (fun r w1 => ∃ (r' : Bool), (.bool r : Value) = (.bool r' : Value) ∧ R r' w1) = R := by
      funext r w1
      exact propext ⟨fun ⟨r', he, h⟩ => by simp at he; simp_all, fun h => ⟨_, rfl, h⟩⟩
    simpa only [e] using h
  · rintro en w1 ⟨v, he, r, rfl, h⟩
    exact ⟨_, he, h⟩

def F_pool_Pool_Take_k1 (R : Int → Int → World → Prop) (At : Int) (w1_8 : World) : Prop :=
  R At (0 : Int) w1_8

def F_pool_Pool_Take (p : Option Addr) (n : Int) (w : World) (R : Int → Int → World → Prop) : Prop :=
  New w (.cells #[.int .i64 n] 3) fun r w1 =>
  C_pool_Pool_made p w1 fun t12 w1_1 =>
  If (!t12)
  (R (0 : Int) (6 : Int) w1_1)
  (∃ t15 : Int, w1_1.cell? ⟨r, 0, none⟩ = some (.int .i64 t15) ∧
  If (decide (t15 < (1 : Int)))
  (R (0 : Int) (1 : Int) w1_1)
  (C_pool_Pool_last p w1_1 fun t18 w1_2 =>
  NN t18 fun a =>
  ∃ runsP : Option Addr, ∃ runsN : Nat, ∃ runsC : Nat, w1_2.cell? (a.add 1) = some (.slice runsP runsN runsC) ∧
  C_slices_IndexFunc runsP runsN runsC (.func (.func 31) #[] #[.pointer (some ⟨r, 0, none⟩)]) w1_2 fun t24 w1_3 =>
  If (decide (t24 ≥ (0 : Int)))
  (NN t18 fun a_1 =>
  ∃ runsP_1 : Option Addr, ∃ runsN_1 : Nat, ∃ runsC_1 : Nat, w1_3.cell? (a_1.add 1) = some (.slice runsP_1 runsN_1 runsC_1) ∧
  0 ≤ t24 ∧ t24 < (runsN_1 : Int) ∧ NN runsP_1 fun a_2 =>
  ∃ At : Int, w1_3.cell? ((a_2.add (t24.toNat * 2)).add 0) = some (.int .i64 At) ∧
  NN t18 fun a_3 =>
  ∃ runsP_2 : Option Addr, ∃ runsN_2 : Nat, ∃ runsC_2 : Nat, (drw w1_3).cell? (a_3.add 1) = some (.slice runsP_2 runsN_2 runsC_2) ∧
  0 ≤ t24 ∧ t24 < (runsN_2 : Int) ∧ NN runsP_2 fun a_4 =>
  ∃ At_1 : Int, (drw w1_3).cell? ((a_4.add (t24.toNat * 2)).add 0) = some (.int .i64 At_1) ∧
  ∃ t43 : Int, (drw w1_3).cell? ⟨r, 0, none⟩ = some (.int .i64 t43) ∧
  0 ≤ t24 ∧ t24 < (runsN_2 : Int) ∧ NN runsP_2 fun a_5 =>
  St (drw w1_3) (((a_5.add (t24.toNat * 2)).add 0).add 0) (.int .i64 (IntKind.i64.wrap (At_1 + t43))) fun w1_4 =>
  NN t18 fun a_6 =>
  ∃ runsP_3 : Option Addr, ∃ runsN_3 : Nat, ∃ runsC_3 : Nat, (drw w1_4).cell? (a_6.add 1) = some (.slice runsP_3 runsN_3 runsC_3) ∧
  0 ≤ t24 ∧ t24 < (runsN_3 : Int) ∧ NN runsP_3 fun a_7 =>
  ∃ Len : Int, (drw w1_4).cell? ((a_7.add (t24.toNat * 2)).add 1) = some (.int .i64 Len) ∧
  ∃ t55 : Int, (drw w1_4).cell? ⟨r, 0, none⟩ = some (.int .i64 t55) ∧
  0 ≤ t24 ∧ t24 < (runsN_3 : Int) ∧ NN runsP_3 fun a_8 =>
  St (drw w1_4) (((a_8.add (t24.toNat * 2)).add 1).add 0) (.int .i64 (IntKind.i64.wrap (Len - t55))) fun w1_5 =>
  NN t18 fun a_9 =>
  ∃ runsP_4 : Option Addr, ∃ runsN_4 : Nat, ∃ runsC_4 : Nat, w1_5.cell? (a_9.add 1) = some (.slice runsP_4 runsN_4 runsC_4) ∧
  0 ≤ t24 ∧ t24 < (runsN_4 : Int) ∧ NN runsP_4 fun a_10 =>
  ∃ Len_1 : Int, w1_5.cell? ((a_10.add (t24.toNat * 2)).add 1) = some (.int .i64 Len_1) ∧
  If (Len_1 == (0 : Int))
  (NN t18 fun a_11 =>
  ∃ runsP_5 : Option Addr, ∃ runsN_5 : Nat, ∃ runsC_5 : Nat, w1_5.cell? (a_11.add 1) = some (.slice runsP_5 runsN_5 runsC_5) ∧
  C_slices_Delete runsP_5 runsN_5 runsC_5 t24 (IntKind.i64.wrap (t24 + (1 : Int))) w1_5 fun t76P t76N t76C w1_6 =>
  NN t18 fun a_12 =>
  St w1_6 ((a_12.add 1).add 0) (.slice t76P t76N t76C) fun w1_7 =>
  F_pool_Pool_Take_k1 R At w1_7)
  (F_pool_Pool_Take_k1 R At w1_5))
  (∃ t80 : Int, (drw w1_3).cell? ⟨r, 0, none⟩ = some (.int .i64 t80) ∧
  NN p fun a_13 =>
  ∃ limitx : Int, (drw w1_3).cell? (a_13.add 2) = some (.int .i64 limitx) ∧
  NN p fun a_14 =>
  ∃ topx : Int, (drw w1_3).cell? (a_14.add 1) = some (.int .i64 topx) ∧
  If (decide (t80 > (IntKind.i64.wrap (limitx - topx))))
  (R (0 : Int) (2 : Int) (drw w1_3))
  (NN p fun a_15 =>
  ∃ topx_1 : Int, (drw w1_3).cell? (a_15.add 1) = some (.int .i64 topx_1) ∧
  NN p fun a_16 =>
  ∃ topx_2 : Int, (drw (drw w1_3)).cell? (a_16.add 1) = some (.int .i64 topx_2) ∧
  ∃ t99 : Int, (drw (drw w1_3)).cell? ⟨r, 0, none⟩ = some (.int .i64 t99) ∧
  NN p fun a_17 =>
  St (drw (drw w1_3)) ((a_17.add 1).add 0) (.int .i64 (IntKind.i64.wrap (topx_2 + t99))) fun w1_9 =>
  R topx_1 (0 : Int) w1_9))))

def G_pool_Pool_Take : Gen where
  loop := lookL []
  plan := fun id =>
    bif Nat.beq id 9 then some ([0, 1, 3, 7, 0, 31, 63, 127, 0, 511, 1023, 2047, 4095], .take 0 (.take 1 (.take 2 (.take 3 (.take 4 (.take 5 (.take 6 (.take 7 (.take 8 (.take 9 (.take 10 (.take 11 (.take 12 .done))))))))))))) else
    bif Nat.beq id 10 then some ([0, 1, 3, 7, 0, 31, 63, 127, 0, 511, 1023, 2047, 4095], .take 0 (.take 1 (.take 2 (.take 3 (.take 4 (.take 5 (.take 6 (.take 7 (.take 8 (.take 9 (.take 10 (.take 11 (.take 12 .done))))))))))))) else
    bif Nat.beq id 14 then some ([0, 0, 2, 6, 14, 0, 32, 96, 224, 510, 1023], .take 0 (.take 1 (.take 2 (.take 3 (.take 4 (.take 5 (.take 6 (.take 7 (.take 8 (.take 9 (.take 10 .done))))))))))) else
    bif Nat.beq id 17 then some ([0, 1, 3, 7, 0, 31, 63, 127, 255], .take 0 (.take 1 (.take 2 (.take 3 (.take 4 (.take 5 (.take 6 (.take 7 (.take 8 .done))))))))) else none

theorem loops_pool_Pool_Take : LoopOk Try.prog Try.f9.ntmps G_pool_Pool_Take (codeOf Try.f9) := loopOk_none fun _ => rfl

theorem den_pool_Pool_Take (p : Option Addr) (n : Int) (w : World) (R : Value → World → Prop) :
    F_pool_Pool_Take p n w (fun r0 r1 w1 => R (.tuple #[.int .i64 r0, .int .i64 r1]) w1) = den Try.prog Try.f9.ntmps G_pool_Pool_Take (codeOf Try.f9) [] (postD Try.prog Try.f9.results.toList R) (entry [.pointer p, .int .i64 n] 0) w := by kernel_rfl

theorem C_pool_Pool_Take.of {p : Option Addr} {n : Int} {w : World} {R : Int → Int → World → Prop} (h : F_pool_Pool_Take p n w R) : C_pool_Pool_Take p n w R := by
  refine (calls_of_den (c := codeOf Try.f9) seat_ok seat_mixed Try.func9 (by kernel_rfl) loops_pool_Pool_Take (args := [.pointer p, .int .i64 n]) rfl (R := fun v w1 => ∃ (r0 : Int) (r1 : Int), v = (.tuple #[.int .i64 r0, .int .i64 r1] : Value) ∧ R r0 r1 w1) ?_).mono ?_
  · rw [← den_pool_Pool_Take]
    have e : (fun r0 r1 w1 => ∃ (r0' : Int) (r1' : Int), (.tuple #[.int .i64 r0, .int .i64 r1] : Value) = (.tuple #[.int .i64 r0', .int .i64 r1'] : Value) ∧ R r0' r1' w1) = R := by
      funext r0 r1 w1
      exact propext ⟨fun ⟨r0', r1', he, h⟩ => by simp at he; simp_all, fun h => ⟨_, _, rfl, h⟩⟩
    simpa only [e] using h
  · rintro en w1 ⟨v, he, r0, r1, rfl, h⟩
    exact ⟨_, _, he, h⟩

structure S_pool_Pool_Starts_L1 where
  outP : Option Addr
  outN : Nat
  outC : Nat
  t14 : Int

/-- One round. -/
def B_pool_Pool_Starts_L1 (t12P : Option Addr) (t12N : Nat) (t12C : Nat) (t13 : Int) (s : S_pool_Pool_Starts_L1) (w : World) (Kn : S_pool_Pool_Starts_L1 → World → Prop) (Kx0 : Option Addr → Nat → Nat → World → Prop) : Prop :=
  If (decide ((s.t14 : Int) < t13))
  (0 ≤ (s.t14 : Int) ∧ (s.t14 : Int) < (t12N : Int) ∧ NN t12P fun a_1 =>
  ∃ t170 : Int, w.cell? ((a_1.add ((s.t14 : Int).toNat * 2)).add 0) = some (.int .i64 t170) ∧
  ∃ t171P : Option Addr, ∃ t171N : Nat, ∃ t171C : Nat, w.cell? ((a_1.add ((s.t14 : Int).toNat * 2)).add 1) = some (.slice t171P t171N t171C) ∧
  New w (.cells #[.int .i64 0, .slice none 0 0] 53) fun r w1_1 =>
  St w1_1 ((⟨r, 0, none⟩ : Addr).add 0) (.int .i64 t170) fun w1_2 =>
  St w1_2 ((⟨r, 0, none⟩ : Addr).add 1) (.slice t171P t171N t171C) fun w1_3 =>
  ∃ startx : Int, w1_3.cell? ((⟨r, 0, none⟩ : Addr).add 0) = some (.int .i64 startx) ∧
  BSl Try.prog 33 1 [(0, .int .i64 startx)] w1_3 fun t21P t21N t21C w1_4 =>
  App Try.prog #[33, 33] 33 #[.slice s.outP s.outN s.outC, .slice t21P t21N t21C] w1_4 fun t22P t22N t22C w1_5 =>
  Kn ⟨t22P, t22N, t22C, (IntKind.i64.wrap ((s.t14 : Int) + (1 : Int)))⟩ w1_5)
  (Kx0 s.outP s.outN s.outC w)

def F_pool_Pool_Starts_L1 (t12P : Option Addr) (t12N : Nat) (t12C : Nat) (t13 : Int) (s : S_pool_Pool_Starts_L1) (w : World) (Kx0 : Option Addr → Nat → Nat → World → Prop) : Prop :=
  LoopS (fun s w Kn => B_pool_Pool_Starts_L1 t12P t12N t12C t13 s w Kn Kx0) s w

def F_pool_Pool_Starts (p : Option Addr) (w : World) (R : Option Addr → Nat → Nat → World → Prop) : Prop :=
  C_pool_Pool_made p w fun t7 w1 =>
  If (!t7)
  (R none 0 0 w1)
  (NN p fun a =>
  ∃ lP : Option Addr, ∃ lN : Nat, ∃ lC : Nat, w1.cell? (a.add 0) = some (.slice lP lN lC) ∧
  F_pool_Pool_Starts_L1 lP lN lC (lN : Int) ⟨none, 0, 0, (0 : Int)⟩ w1
  (fun outP_2 outN_2 outC_2 w1_6 =>
  R outP_2 outN_2 outC_2 w1_6))

def lit_pool_Pool_Starts_L1 (f : (Option Addr) × Nat × Nat × Int) (s : S_pool_Pool_Starts_L1) : Env := [⟨12, .slice f.1 f.2.1 f.2.2.1, none⟩, ⟨13, .int .i64 f.2.2.2, none⟩, ⟨3, .slice s.outP s.outN s.outC, none⟩, ⟨14, .int .i64 s.t14, none⟩]

def dec_pool_Pool_Starts_L1 (e : Env) (K : ((Option Addr) × Nat × Nat × Int) → S_pool_Pool_Starts_L1 → Prop) : Prop :=
  onV (getV e 12) fun u1 =>
  asS u1 fun t12P t12N t12C =>
  onV (getV e 13) fun u2 =>
  asI .i64 u2 fun t13 =>
  onV (getV e 3) fun u3 =>
  asS u3 fun outP outN outC =>
  onV (getV e 14) fun u4 =>
  asI .i64 u4 fun t14 =>
    K (t12P, t12N, t12C, t13) ⟨outP, outN, outC, t14⟩

theorem dec_pool_Pool_Starts_L1_ok {N : Nat} (e : Env) (a : Act) (K : ((Option Addr) × Nat × Nat × Int) → S_pool_Pool_Starts_L1 → Prop) (hr : Rep N a e) (h0 : dec_pool_Pool_Starts_L1 e K) : ∃ f s, K f s ∧ Rep N a (lit_pool_Pool_Starts_L1 f s) := by
  unfold dec_pool_Pool_Starts_L1 at h0
  obtain ⟨u1, g12, h1⟩ := onV_elim h0
  obtain ⟨t12P, t12N, t12C, rfl, h2⟩ := asS_elim h1
  obtain ⟨u2, g13, h3⟩ := onV_elim h2
  obtain ⟨t13, rfl, h4⟩ := asI_elim h3
  obtain ⟨u3, g3, h5⟩ := onV_elim h4
  obtain ⟨outP, outN, outC, rfl, h6⟩ := asS_elim h5
  obtain ⟨u4, g14, h7⟩ := onV_elim h6
  obtain ⟨t14, rfl, h8⟩ := asI_elim h7
  exact ⟨_, _, h8, rep_less hr (by simp [lit_pool_Pool_Starts_L1, g12, g13, g3, g14])⟩

def spec_pool_Pool_Starts_L1 (Q : Post) (e : Env) (w : World) : Prop :=
  dec_pool_Pool_Starts_L1 e fun f s => F_pool_Pool_Starts_L1 f.1 f.2.1 f.2.2.1 f.2.2.2 s w (fun outP_1 outN_1 outC_1 w1 => Q (.exit 0) [⟨3, .slice outP_1 outN_1 outC_1, none⟩] w1)

def G_pool_Pool_Starts : Gen where
  loop := lookL [([false, true, false, true, true, true], spec_pool_Pool_Starts_L1)]
  plan := fun _ => none

def dx_pool_Pool_Starts_L1_0 (e : Env) (K : ((Option Addr) × Nat × Nat × Int) → Option Addr → Nat → Nat → Prop) : Prop :=
  onV (getV e 12) fun u1 =>
  asS u1 fun t12P t12N t12C =>
  onV (getV e 13) fun u2 =>
  asI .i64 u2 fun t13 =>
  onV (getV e 3) fun u3 =>
  asS u3 fun outP_1 outN_1 outC_1 =>
    K (t12P, t12N, t12C, t13) outP_1 outN_1 outC_1

theorem body_pool_Pool_Starts_L1 (f : (Option Addr) × Nat × Nat × Int) (s : S_pool_Pool_Starts_L1) (w : World) (Kn : ((Option Addr) × Nat × Nat × Int) → S_pool_Pool_Starts_L1 → World → Prop) (Kx0 : ((Option Addr) × Nat × Nat × Int) → Option Addr → Nat → Nat → World → Prop) :
    B_pool_Pool_Starts_L1 f.1 f.2.1 f.2.2.1 f.2.2.2 s w (fun s1 w1 => Kn f s1 w1) (fun outP_1 outN_1 outC_1 w1 => Kx0 f outP_1 outN_1 outC_1 w1) =
    den Try.prog Try.f10.ntmps G_pool_Pool_Starts (sub (codeOf Try.f10) [false, false, true, false, true, true, true]) [false, false, true, false, true, true, true] (roundQ (fun e w => dec_pool_Pool_Starts_L1 e fun f s => Kn f s w) (fun e w => False) (fun id e w => match Nat.beq id 0 with | true => dx_pool_Pool_Starts_L1_0 e fun f outP_1 outN_1 outC_1 => Kx0 f outP_1 outN_1 outC_1 w | false => False)) (lit_pool_Pool_Starts_L1 f s) w := by kernel_rfl

theorem ok_pool_Pool_Starts_L1 : OneOk Try.prog Try.f10.ntmps G_pool_Pool_Starts (codeOf Try.f10) [false, true, false, true, true, true] spec_pool_Pool_Starts_L1 := by
  intro c hc ih Q e w a hr h
  have hcc : sub (codeOf Try.f10) [false, false, true, false, true, true, true] = c := sub_of_codeAt hc
  obtain ⟨f, s, h, hrep⟩ := dec_pool_Pool_Starts_L1_ok e a _ hr h
  obtain ⟨J, μ, hj, hround⟩ := h
  refine loop_rule_deep seat_ok seat_mixed ih lit_pool_Pool_Starts_L1 dec_pool_Pool_Starts_L1 dec_pool_Pool_Starts_L1_ok hc f J μ (Kr := fun e w => False) (Kx := fun id e w => match Nat.beq id 0 with | true => (dx_pool_Pool_Starts_L1_0 e fun f1 outP_1 outN_1 outC_1 => f1 = f ∧ Q (.exit 0) [⟨3, .slice outP_1 outN_1 outC_1, none⟩] w) | false => False) ?_ ?_ ?_ s w a hj hrep
  · intro e a w hr h
    exact h.elim
  · intro id e a w hr h0
    (try dsimp only at h0)
    split at h0
    · rename_i hid
      obtain rfl := Nat.eq_of_beq_eq_true hid
      unfold dx_pool_Pool_Starts_L1_0 at h0
      obtain ⟨u1, g12, h1⟩ := onV_elim h0
      obtain ⟨t12P, t12N, t12C, rfl, h2⟩ := asS_elim h1
      obtain ⟨u2, g13, h3⟩ := onV_elim h2
      obtain ⟨t13, rfl, h4⟩ := asI_elim h3
      obtain ⟨u3, g3, h5⟩ := onV_elim h4
      obtain ⟨outP_1, outN_1, outC_1, rfl, h6⟩ := asS_elim h5
      obtain ⟨hf, hq⟩ := h6
      subst hf
      exact ⟨_, rep_less hr (by simp [g3]), hq⟩
    · exact h0.elim
  · intro s w hj
    have hb := hround s w hj
    rw [← hcc]
    have e1 := body_pool_Pool_Starts_L1 f s w (fun f1 s1 w1 => f1 = f ∧ J s1 w1 ∧ μ s1 w1 < μ s w) (fun f1 outP_1 outN_1 outC_1 w1 => f1 = f ∧ Q (.exit 0) [⟨3, .slice outP_1 outN_1 outC_1, none⟩] w1)
    simp only [true_and] at e1
    exact cast e1 hb

theorem loops_pool_Pool_Starts : LoopOk Try.prog Try.f10.ntmps G_pool_Pool_Starts (codeOf Try.f10) := loopOk_list rfl ⟨ok_pool_Pool_Starts_L1, trivial⟩

theorem den_pool_Pool_Starts (p : Option Addr) (w : World) (R : Value → World → Prop) :
    F_pool_Pool_Starts p w (fun rP rN rC w1 => R (.slice rP rN rC) w1) = den Try.prog Try.f10.ntmps G_pool_Pool_Starts (codeOf Try.f10) [] (postD Try.prog Try.f10.results.toList R) (entry [.pointer p] 0) w := by kernel_rfl

theorem C_pool_Pool_Starts.of {p : Option Addr} {w : World} {R : Option Addr → Nat → Nat → World → Prop} (h : F_pool_Pool_Starts p w R) : C_pool_Pool_Starts p w R := by
  refine (calls_of_den (c := codeOf Try.f10) seat_ok seat_mixed Try.func10 (by kernel_rfl) loops_pool_Pool_Starts (args := [.pointer p]) rfl (R := fun v w1 => ∃ (rP : Option Addr) (rN : Nat) (rC : Nat), v = (.slice rP rN rC : Value) ∧ R rP rN rC w1) ?_).mono ?_
  · rw [← den_pool_Pool_Starts]
    have e : (fun rP rN rC w1 => ∃ (rP' : Option Addr) (rN' : Nat) (rC' : Nat), (.slice rP rN rC : Value) = (.slice rP' rN' rC' : Value) ∧ R rP' rN' rC' w1) = R := by
      funext rP rN rC w1
      exact propext ⟨fun ⟨rP', rN', rC', he, h⟩ => by simp at he; simp_all, fun h => ⟨_, _, _, rfl, h⟩⟩
    simpa only [e] using h
  · rintro en w1 ⟨v, he, rP, rN, rC, rfl, h⟩
    exact ⟨_, _, _, he, h⟩

def F_pool_Pool_Give_k1 (R : Int → World → Prop) (w1_3 : World) : Prop :=
  R (1 : Int) w1_3

def F_pool_Pool_Give (p : Option Addr) (atx : Int) (n : Int) (w : World) (R : Int → World → Prop) : Prop :=
  C_pool_Pool_made p w fun t9 w1 =>
  If (!t9)
  (R (6 : Int) w1)
  (If (decide (n < (1 : Int)))
  (F_pool_Pool_Give_k1 R w1)
  (If (decide (atx < (0 : Int)))
  (F_pool_Pool_Give_k1 R w1)
  (NN p fun a =>
  ∃ topx : Int, w1.cell? (a.add 1) = some (.int .i64 topx) ∧
  If (decide (atx ≥ topx))
  (F_pool_Pool_Give_k1 R w1)
  (NN p fun a_1 =>
  ∃ topx_1 : Int, w1.cell? (a_1.add 1) = some (.int .i64 topx_1) ∧
  If (decide (n > (IntKind.i64.wrap (topx_1 - atx))))
  (F_pool_Pool_Give_k1 R w1)
  (C_pool_Pool_Segment p atx w1 fun t38 w1_1 =>
  C_pool_Pool_Segment p (IntKind.i64.wrap ((IntKind.i64.wrap (atx + n)) - (1 : Int))) w1_1 fun t44 w1_2 =>
  If (t38 != t44)
  (R (1 : Int) w1_2)
  (NN p fun a_2 =>
  ∃ lP : Option Addr, ∃ lN : Nat, ∃ lC : Nat, (drw w1_2).cell? (a_2.add 0) = some (.slice lP lN lC) ∧
  C_pool_Pool_Segment p atx (drw w1_2) fun t53 w1_4 =>
  w1_4.cell? (a_2.add 0) = (drw w1_2).cell? (a_2.add 0) ∧
  0 ≤ t53 ∧ t53 < (lN : Int) ∧ NN lP fun a_3 =>
  C_pool_segment_meets (some (a_3.add (t53.toNat * 2))) atx n w1_4 fun t58 w1_5 =>
  If t58
  (R (1 : Int) w1_5)
  (C_pool_segment_give (some (a_3.add (t53.toNat * 2))) atx n w1_5 fun w1_6 =>
  R (0 : Int) w1_6)))))))

def G_pool_Pool_Give : Gen where
  loop := lookL []
  plan := fun id =>
    bif Nat.beq id 5 then some ([0, 1, 3, 7, 0, 0, 48, 127, 255], .take 0 (.take 1 (.take 2 (.take 3 (.take 4 (.take 5 (.take 6 (.take 7 (.take 8 .done))))))))) else none

theorem loops_pool_Pool_Give : LoopOk Try.prog Try.f11.ntmps G_pool_Pool_Give (codeOf Try.f11) := loopOk_none fun _ => rfl

theorem den_pool_Pool_Give (p : Option Addr) (atx : Int) (n : Int) (w : World) (R : Value → World → Prop) :
    F_pool_Pool_Give p atx n w (fun r w1 => R (.int .i64 r) w1) = den Try.prog Try.f11.ntmps G_pool_Pool_Give (codeOf Try.f11) [] (postD Try.prog Try.f11.results.toList R) (entry [.pointer p, .int .i64 atx, .int .i64 n] 0) w := by kernel_rfl

theorem C_pool_Pool_Give.of {p : Option Addr} {atx : Int} {n : Int} {w : World} {R : Int → World → Prop} (h : F_pool_Pool_Give p atx n w R) : C_pool_Pool_Give p atx n w R := by
  refine (calls_of_den (c := codeOf Try.f11) seat_ok seat_mixed Try.func11 (by kernel_rfl) loops_pool_Pool_Give (args := [.pointer p, .int .i64 atx, .int .i64 n]) rfl (R := fun v w1 => ∃ (r : Int), v = (.int .i64 r : Value) ∧ R r w1) ?_).mono ?_
  · rw [← den_pool_Pool_Give]
    have e : (fun r w1 => ∃ (r' : Int), (.int .i64 r : Value) = (.int .i64 r' : Value) ∧ R r' w1) = R := by
      funext r w1
      exact propext ⟨fun ⟨r', he, h⟩ => by simp at he; simp_all, fun h => ⟨_, rfl, h⟩⟩
    simpa only [e] using h
  · rintro en w1 ⟨v, he, r, rfl, h⟩
    exact ⟨_, he, h⟩

def F_pool_Pool_Open (p : Option Addr) (w : World) (R : Int → World → Prop) : Prop :=
  C_pool_Pool_made p w fun t5 w1 =>
  If (!t5)
  (R (6 : Int) w1)
  (NN p fun a =>
  ∃ lP : Option Addr, ∃ lN : Nat, ∃ lC : Nat, w1.cell? (a.add 0) = some (.slice lP lN lC) ∧
  If (decide ((lN : Int) ≥ (4096 : Int)))
  (R (2 : Int) w1)
  (NN p fun a_1 =>
  ∃ lP_1 : Option Addr, ∃ lN_1 : Nat, ∃ lC_1 : Nat, (drw w1).cell? (a_1.add 0) = some (.slice lP_1 lN_1 lC_1) ∧
  NN p fun a_2 =>
  ∃ topx : Int, (drw w1).cell? (a_2.add 1) = some (.int .i64 topx) ∧
  BSl Try.prog 54 1 [(0, .agg #[.int .i64 topx, .slice none 0 0])] (drw w1) fun t24P t24N t24C w1_1 =>
  w1_1.cell? (a_1.add 0) = (drw w1).cell? (a_1.add 0) ∧
  App Try.prog #[54, 54] 54 #[.slice lP_1 lN_1 lC_1, .slice t24P t24N t24C] w1_1 fun t25P t25N t25C w1_2 =>
  NN p fun a_3 =>
  St w1_2 ((a_3.add 0).add 0) (.slice t25P t25N t25C) fun w1_3 =>
  R (0 : Int) w1_3))

def G_pool_Pool_Open : Gen where
  loop := lookL []
  plan := fun id =>
    bif Nat.beq id 5 then some ([0, 0, 2, 6, 14, 0, 32, 96, 224, 480, 992, 2046, 4095, 8191, 16383], .take 0 (.take 1 (.take 2 (.take 3 (.take 4 (.take 5 (.take 6 (.take 7 (.take 8 (.take 9 (.take 10 (.take 11 (.take 12 (.take 13 (.take 14 .done))))))))))))))) else none

theorem loops_pool_Pool_Open : LoopOk Try.prog Try.f12.ntmps G_pool_Pool_Open (codeOf Try.f12) := loopOk_none fun _ => rfl

theorem den_pool_Pool_Open (p : Option Addr) (w : World) (R : Value → World → Prop) :
    F_pool_Pool_Open p w (fun r w1 => R (.int .i64 r) w1) = den Try.prog Try.f12.ntmps G_pool_Pool_Open (codeOf Try.f12) [] (postD Try.prog Try.f12.results.toList R) (entry [.pointer p] 0) w := by kernel_rfl

theorem C_pool_Pool_Open.of {p : Option Addr} {w : World} {R : Int → World → Prop} (h : F_pool_Pool_Open p w R) : C_pool_Pool_Open p w R := by
  refine (calls_of_den (c := codeOf Try.f12) seat_ok seat_mixed Try.func12 (by kernel_rfl) loops_pool_Pool_Open (args := [.pointer p]) rfl (R := fun v w1 => ∃ (r : Int), v = (.int .i64 r : Value) ∧ R r w1) ?_).mono ?_
  · rw [← den_pool_Pool_Open]
    have e : (fun r w1 => ∃ (r' : Int), (.int .i64 r : Value) = (.int .i64 r' : Value) ∧ R r' w1) = R := by
      funext r w1
      exact propext ⟨fun ⟨r', he, h⟩ => by simp at he; simp_all, fun h => ⟨_, rfl, h⟩⟩
    simpa only [e] using h
  · rintro en w1 ⟨v, he, r, rfl, h⟩
    exact ⟨_, he, h⟩

def F_pool_Pool_Close_k1 (R : Int → World → Prop) (w1_7 : World) : Prop :=
  R (0 : Int) w1_7

def F_pool_Pool_Close (p : Option Addr) (w : World) (R : Int → World → Prop) : Prop :=
  C_pool_Pool_made p w fun t8 w1 =>
  If (!t8)
  (R (6 : Int) w1)
  (NN p fun a =>
  ∃ lP : Option Addr, ∃ lN : Nat, ∃ lC : Nat, w1.cell? (a.add 0) = some (.slice lP lN lC) ∧
  If ((lN : Int) == (1 : Int))
  (R (4 : Int) w1)
  (C_pool_Pool_last p w1 fun t18 w1_1 =>
  NN t18 fun a_1 =>
  ∃ runsP : Option Addr, ∃ runsN : Nat, ∃ runsC : Nat, w1_1.cell? (a_1.add 1) = some (.slice runsP runsN runsC) ∧
  NN p fun a_2 =>
  ∃ lP_1 : Option Addr, ∃ lN_1 : Nat, ∃ lC_1 : Nat, (drw w1_1).cell? (a_2.add 0) = some (.slice lP_1 lN_1 lC_1) ∧
  NN p fun a_3 =>
  ∃ lP_2 : Option Addr, ∃ lN_2 : Nat, ∃ lC_2 : Nat, (drw w1_1).cell? (a_3.add 0) = some (.slice lP_2 lN_2 lC_2) ∧
  0 ≤ (IntKind.i64.wrap ((lN_2 : Int) - (1 : Int))) ∧ (IntKind.i64.wrap ((lN_2 : Int) - (1 : Int))) ≤ (lC_1 : Int) ∧
  NN p fun a_4 =>
  St (drw w1_1) ((a_4.add 0).add 0) (.slice lP_1 ((IntKind.i64.wrap ((lN_2 : Int) - (1 : Int))).toNat) lC_1) fun w1_2 =>
  C_pool_Pool_last p w1_2 fun t37 w1_3 =>
  NN t37 fun a_5 =>
  ∃ runsP_1 : Option Addr, ∃ runsN_1 : Nat, ∃ runsC_1 : Nat, w1_3.cell? (a_5.add 1) = some (.slice runsP_1 runsN_1 runsC_1) ∧
  NN t37 fun a_6 =>
  ∃ runsP_2 : Option Addr, ∃ runsN_2 : Nat, ∃ runsC_2 : Nat, w1_3.cell? (a_6.add 1) = some (.slice runsP_2 runsN_2 runsC_2) ∧
  App Try.prog #[40, 40] 40 #[.slice runsP_2 runsN_2 runsC_2, .slice runsP runsN runsC] w1_3 fun t50P t50N t50C w1_4 =>
  NN t37 fun a_7 =>
  St w1_4 ((a_7.add 1).add 0) (.slice t50P t50N t50C) fun w1_5 =>
  If (decide ((IntKind.i64.wrap ((runsN_1 : Int) - (1 : Int))) ≥ (0 : Int)))
  (C_pool_segment_join t37 (IntKind.i64.wrap ((runsN_1 : Int) - (1 : Int))) w1_5 fun w1_6 =>
  F_pool_Pool_Close_k1 R w1_6)
  (F_pool_Pool_Close_k1 R w1_5)))

def G_pool_Pool_Close : Gen where
  loop := lookL []
  plan := fun id =>
    bif Nat.beq id 6 then some ([0, 0, 2, 6, 14, 0, 32, 96, 224, 480, 992, 2046, 4095, 8191, 16383], .take 0 (.take 1 (.take 2 (.take 3 (.take 4 (.take 5 (.take 6 (.take 7 (.take 8 (.take 9 (.take 10 (.take 11 (.take 12 (.take 13 (.take 14 .done))))))))))))))) else none

theorem loops_pool_Pool_Close : LoopOk Try.prog Try.f13.ntmps G_pool_Pool_Close (codeOf Try.f13) := loopOk_none fun _ => rfl

theorem den_pool_Pool_Close (p : Option Addr) (w : World) (R : Value → World → Prop) :
    F_pool_Pool_Close p w (fun r w1 => R (.int .i64 r) w1) = den Try.prog Try.f13.ntmps G_pool_Pool_Close (codeOf Try.f13) [] (postD Try.prog Try.f13.results.toList R) (entry [.pointer p] 0) w := by kernel_rfl

theorem C_pool_Pool_Close.of {p : Option Addr} {w : World} {R : Int → World → Prop} (h : F_pool_Pool_Close p w R) : C_pool_Pool_Close p w R := by
  refine (calls_of_den (c := codeOf Try.f13) seat_ok seat_mixed Try.func13 (by kernel_rfl) loops_pool_Pool_Close (args := [.pointer p]) rfl (R := fun v w1 => ∃ (r : Int), v = (.int .i64 r : Value) ∧ R r w1) ?_).mono ?_
  · rw [← den_pool_Pool_Close]
    have e : (fun r w1 => ∃ (r' : Int), (.int .i64 r : Value) = (.int .i64 r' : Value) ∧ R r' w1) = R := by
      funext r w1
      exact propext ⟨fun ⟨r', he, h⟩ => by simp at he; simp_all, fun h => ⟨_, rfl, h⟩⟩
    simpa only [e] using h
  · rintro en w1 ⟨v, he, r, rfl, h⟩
    exact ⟨_, he, h⟩

def F_pool_Pool_Back (p : Option Addr) (w : World) (R : Int → World → Prop) : Prop :=
  C_pool_Pool_made p w fun t4 w1 =>
  If (!t4)
  (R (6 : Int) w1)
  (C_pool_Pool_last p w1 fun t8 w1_1 =>
  NN t8 fun a =>
  ∃ startx : Int, w1_1.cell? (a.add 0) = some (.int .i64 startx) ∧
  NN p fun a_1 =>
  St w1_1 ((a_1.add 1).add 0) (.int .i64 startx) fun w1_2 =>
  C_pool_Pool_last p w1_2 fun t15 w1_3 =>
  NN t15 fun a_2 =>
  St w1_3 ((a_2.add 1).add 0) (.slice none 0 0) fun w1_4 =>
  R (0 : Int) w1_4)

def G_pool_Pool_Back : Gen where
  loop := lookL []
  plan := fun _ => none

theorem loops_pool_Pool_Back : LoopOk Try.prog Try.f14.ntmps G_pool_Pool_Back (codeOf Try.f14) := loopOk_none fun _ => rfl

theorem den_pool_Pool_Back (p : Option Addr) (w : World) (R : Value → World → Prop) :
    F_pool_Pool_Back p w (fun r w1 => R (.int .i64 r) w1) = den Try.prog Try.f14.ntmps G_pool_Pool_Back (codeOf Try.f14) [] (postD Try.prog Try.f14.results.toList R) (entry [.pointer p] 0) w := by kernel_rfl

theorem C_pool_Pool_Back.of {p : Option Addr} {w : World} {R : Int → World → Prop} (h : F_pool_Pool_Back p w R) : C_pool_Pool_Back p w R := by
  refine (calls_of_den (c := codeOf Try.f14) seat_ok seat_mixed Try.func14 (by kernel_rfl) loops_pool_Pool_Back (args := [.pointer p]) rfl (R := fun v w1 => ∃ (r : Int), v = (.int .i64 r : Value) ∧ R r w1) ?_).mono ?_
  · rw [← den_pool_Pool_Back]
    have e : (fun r w1 => ∃ (r' : Int), (.int .i64 r : Value) = (.int .i64 r' : Value) ∧ R r' w1) = R := by
      funext r w1
      exact propext ⟨fun ⟨r', he, h⟩ => by simp at he; simp_all, fun h => ⟨_, rfl, h⟩⟩
    simpa only [e] using h
  · rintro en w1 ⟨v, he, r, rfl, h⟩
    exact ⟨_, he, h⟩

def F_pool_Pool_Top (p : Option Addr) (w : World) (R : Int → World → Prop) : Prop :=
  C_pool_Pool_made p w fun t4 w1 =>
  If (!t4)
  (R (0 : Int) w1)
  (NN p fun a =>
  ∃ topx : Int, w1.cell? (a.add 1) = some (.int .i64 topx) ∧
  R topx w1)

def G_pool_Pool_Top : Gen where
  loop := lookL []
  plan := fun _ => none

theorem loops_pool_Pool_Top : LoopOk Try.prog Try.f15.ntmps G_pool_Pool_Top (codeOf Try.f15) := loopOk_none fun _ => rfl

theorem den_pool_Pool_Top (p : Option Addr) (w : World) (R : Value → World → Prop) :
    F_pool_Pool_Top p w (fun r w1 => R (.int .i64 r) w1) = den Try.prog Try.f15.ntmps G_pool_Pool_Top (codeOf Try.f15) [] (postD Try.prog Try.f15.results.toList R) (entry [.pointer p] 0) w := by kernel_rfl

theorem C_pool_Pool_Top.of {p : Option Addr} {w : World} {R : Int → World → Prop} (h : F_pool_Pool_Top p w R) : C_pool_Pool_Top p w R := by
  refine (calls_of_den (c := codeOf Try.f15) seat_ok seat_mixed Try.func15 (by kernel_rfl) loops_pool_Pool_Top (args := [.pointer p]) rfl (R := fun v w1 => ∃ (r : Int), v = (.int .i64 r : Value) ∧ R r w1) ?_).mono ?_
  · rw [← den_pool_Pool_Top]
    have e : (fun r w1 => ∃ (r' : Int), (.int .i64 r : Value) = (.int .i64 r' : Value) ∧ R r' w1) = R := by
      funext r w1
      exact propext ⟨fun ⟨r', he, h⟩ => by simp at he; simp_all, fun h => ⟨_, rfl, h⟩⟩
    simpa only [e] using h
  · rintro en w1 ⟨v, he, r, rfl, h⟩
    exact ⟨_, he, h⟩

def F_pool_Pool_Free (p : Option Addr) (atx : Int) (w : World) (R : Bool → World → Prop) : Prop :=
  C_pool_Pool_Segment p atx w fun t8 w1 =>
  If (decide (t8 ≥ (0 : Int)))
  (NN p fun a =>
  ∃ lP : Option Addr, ∃ lN : Nat, ∃ lC : Nat, w1.cell? (a.add 0) = some (.slice lP lN lC) ∧
  0 ≤ t8 ∧ t8 < (lN : Int) ∧ NN lP fun a_1 =>
  C_pool_segment_meets (some (a_1.add (t8.toNat * 2))) atx (1 : Int) w1 fun t19 w1_1 =>
  R t19 w1_1)
  (R false w1)

def G_pool_Pool_Free : Gen where
  loop := lookL []
  plan := fun _ => none

theorem loops_pool_Pool_Free : LoopOk Try.prog Try.f16.ntmps G_pool_Pool_Free (codeOf Try.f16) := loopOk_none fun _ => rfl

theorem den_pool_Pool_Free (p : Option Addr) (atx : Int) (w : World) (R : Value → World → Prop) :
    F_pool_Pool_Free p atx w (fun r w1 => R (.bool r) w1) = den Try.prog Try.f16.ntmps G_pool_Pool_Free (codeOf Try.f16) [] (postD Try.prog Try.f16.results.toList R) (entry [.pointer p, .int .i64 atx] 0) w := by kernel_rfl

theorem C_pool_Pool_Free.of {p : Option Addr} {atx : Int} {w : World} {R : Bool → World → Prop} (h : F_pool_Pool_Free p atx w R) : C_pool_Pool_Free p atx w R := by
  refine (calls_of_den (c := codeOf Try.f16) seat_ok seat_mixed Try.func16 (by kernel_rfl) loops_pool_Pool_Free (args := [.pointer p, .int .i64 atx]) rfl (R := fun v w1 => ∃ (r : Bool), v = (.bool r : Value) ∧ R r w1) ?_).mono ?_
  · rw [← den_pool_Pool_Free]
    have e : (fun r w1 => ∃ (r' : Bool), (.bool r : Value) = (.bool r' : Value) ∧ R r' w1) = R := by
      funext r w1
      exact propext ⟨fun ⟨r', he, h⟩ => by simp at he; simp_all, fun h => ⟨_, rfl, h⟩⟩
    simpa only [e] using h
  · rintro en w1 ⟨v, he, r, rfl, h⟩
    exact ⟨_, he, h⟩

structure S_pool_Pool_Left_L2 where
  n_2 : Int
  t32 : Int

structure S_pool_Pool_Left_L1 where
  n : Int
  t25 : Int

/-- One round. -/
def B_pool_Pool_Left_L2 (t23P_1 : Option Addr) (t23N_1 : Nat) (t23C_1 : Nat) (t24_1 : Int) (t25_1 : Int) (t30P : Option Addr) (t30N : Nat) (t30C : Nat) (t31 : Int) (s : S_pool_Pool_Left_L2) (w : World) (Kn : S_pool_Pool_Left_L2 → World → Prop) (Kx2 : Int → World → Prop) : Prop :=
  If (decide ((s.t32 : Int) < t31))
  (0 ≤ (s.t32 : Int) ∧ (s.t32 : Int) < (t30N : Int) ∧ NN t30P fun a_4 =>
  ∃ t350 : Int, w.cell? ((a_4.add ((s.t32 : Int).toNat * 2)).add 0) = some (.int .i64 t350) ∧
  ∃ t351 : Int, w.cell? ((a_4.add ((s.t32 : Int).toNat * 2)).add 1) = some (.int .i64 t351) ∧
  New w (.cells #[.int .i64 0, .int .i64 0] 58) fun r_1 w1_4 =>
  St w1_4 ((⟨r_1, 0, none⟩ : Addr).add 0) (.int .i64 t350) fun w1_5 =>
  St w1_5 ((⟨r_1, 0, none⟩ : Addr).add 1) (.int .i64 t351) fun w1_6 =>
  ∃ Len : Int, w1_6.cell? ((⟨r_1, 0, none⟩ : Addr).add 1) = some (.int .i64 Len) ∧
  Kn ⟨(IntKind.i64.wrap ((s.n_2 : Int) + Len)), (IntKind.i64.wrap ((s.t32 : Int) + (1 : Int)))⟩ w1_6)
  (Kx2 (s.n_2 : Int) w)

def F_pool_Pool_Left_L2 (t23P_1 : Option Addr) (t23N_1 : Nat) (t23C_1 : Nat) (t24_1 : Int) (t25_1 : Int) (t30P : Option Addr) (t30N : Nat) (t30C : Nat) (t31 : Int) (s : S_pool_Pool_Left_L2) (w : World) (Kx2 : Int → World → Prop) : Prop :=
  LoopS (fun s w Kn => B_pool_Pool_Left_L2 t23P_1 t23N_1 t23C_1 t24_1 t25_1 t30P t30N t30C t31 s w Kn Kx2) s w

/-- One round. -/
def B_pool_Pool_Left_L1 (t23P : Option Addr) (t23N : Nat) (t23C : Nat) (t24 : Int) (s : S_pool_Pool_Left_L1) (w : World) (Kn : S_pool_Pool_Left_L1 → World → Prop) (Kx0 : Int → World → Prop) : Prop :=
  If (decide ((s.t25 : Int) < t24))
  (0 ≤ (s.t25 : Int) ∧ (s.t25 : Int) < (t23N : Int) ∧ NN t23P fun a_3 =>
  ∃ t280 : Int, w.cell? ((a_3.add ((s.t25 : Int).toNat * 2)).add 0) = some (.int .i64 t280) ∧
  ∃ t281P : Option Addr, ∃ t281N : Nat, ∃ t281C : Nat, w.cell? ((a_3.add ((s.t25 : Int).toNat * 2)).add 1) = some (.slice t281P t281N t281C) ∧
  New w (.cells #[.int .i64 0, .slice none 0 0] 53) fun r w1_1 =>
  St w1_1 ((⟨r, 0, none⟩ : Addr).add 0) (.int .i64 t280) fun w1_2 =>
  St w1_2 ((⟨r, 0, none⟩ : Addr).add 1) (.slice t281P t281N t281C) fun w1_3 =>
  ∃ runsP : Option Addr, ∃ runsN : Nat, ∃ runsC : Nat, w1_3.cell? ((⟨r, 0, none⟩ : Addr).add 1) = some (.slice runsP runsN runsC) ∧
  F_pool_Pool_Left_L2 t23P t23N t23C t24 (s.t25 : Int) runsP runsN runsC (runsN : Int) ⟨(s.n : Int), (0 : Int)⟩ w1_3
  (fun n_4 w1_7 =>
  Kn ⟨n_4, (IntKind.i64.wrap ((s.t25 : Int) + (1 : Int)))⟩ w1_7))
  (Kx0 (s.n : Int) w)

def F_pool_Pool_Left_L1 (t23P : Option Addr) (t23N : Nat) (t23C : Nat) (t24 : Int) (s : S_pool_Pool_Left_L1) (w : World) (Kx0 : Int → World → Prop) : Prop :=
  LoopS (fun s w Kn => B_pool_Pool_Left_L1 t23P t23N t23C t24 s w Kn Kx0) s w

def F_pool_Pool_Left (p : Option Addr) (w : World) (R : Int → World → Prop) : Prop :=
  C_pool_Pool_made p w fun t9 w1 =>
  If (!t9)
  (R (0 : Int) w1)
  (NN p fun a =>
  ∃ limitx : Int, (drw w1).cell? (a.add 2) = some (.int .i64 limitx) ∧
  NN p fun a_1 =>
  ∃ topx : Int, (drw w1).cell? (a_1.add 1) = some (.int .i64 topx) ∧
  NN p fun a_2 =>
  ∃ lP : Option Addr, ∃ lN : Nat, ∃ lC : Nat, (drw w1).cell? (a_2.add 0) = some (.slice lP lN lC) ∧
  F_pool_Pool_Left_L1 lP lN lC (lN : Int) ⟨(IntKind.i64.wrap (limitx - topx)), (0 : Int)⟩ (drw w1)
  (fun n_5 w1_8 =>
  R n_5 w1_8))

def lit_pool_Pool_Left_L1 (f : (Option Addr) × Nat × Nat × Int) (s : S_pool_Pool_Left_L1) : Env := [⟨23, .slice f.1 f.2.1 f.2.2.1, none⟩, ⟨24, .int .i64 f.2.2.2, none⟩, ⟨3, .int .i64 s.n, none⟩, ⟨25, .int .i64 s.t25, none⟩]

def dec_pool_Pool_Left_L1 (e : Env) (K : ((Option Addr) × Nat × Nat × Int) → S_pool_Pool_Left_L1 → Prop) : Prop :=
  onV (getV e 23) fun u1 =>
  asS u1 fun t23P t23N t23C =>
  onV (getV e 24) fun u2 =>
  asI .i64 u2 fun t24 =>
  onV (getV e 3) fun u3 =>
  asI .i64 u3 fun n =>
  onV (getV e 25) fun u4 =>
  asI .i64 u4 fun t25 =>
    K (t23P, t23N, t23C, t24) ⟨n, t25⟩

theorem dec_pool_Pool_Left_L1_ok {N : Nat} (e : Env) (a : Act) (K : ((Option Addr) × Nat × Nat × Int) → S_pool_Pool_Left_L1 → Prop) (hr : Rep N a e) (h0 : dec_pool_Pool_Left_L1 e K) : ∃ f s, K f s ∧ Rep N a (lit_pool_Pool_Left_L1 f s) := by
  unfold dec_pool_Pool_Left_L1 at h0
  obtain ⟨u1, g23, h1⟩ := onV_elim h0
  obtain ⟨t23P, t23N, t23C, rfl, h2⟩ := asS_elim h1
  obtain ⟨u2, g24, h3⟩ := onV_elim h2
  obtain ⟨t24, rfl, h4⟩ := asI_elim h3
  obtain ⟨u3, g3, h5⟩ := onV_elim h4
  obtain ⟨n, rfl, h6⟩ := asI_elim h5
  obtain ⟨u4, g25, h7⟩ := onV_elim h6
  obtain ⟨t25, rfl, h8⟩ := asI_elim h7
  exact ⟨_, _, h8, rep_less hr (by simp [lit_pool_Pool_Left_L1, g23, g24, g3, g25])⟩

def spec_pool_Pool_Left_L1 (Q : Post) (e : Env) (w : World) : Prop :=
  dec_pool_Pool_Left_L1 e fun f s => F_pool_Pool_Left_L1 f.1 f.2.1 f.2.2.1 f.2.2.2 s w (fun n_1 w1 => Q (.exit 0) [⟨3, .int .i64 n_1, none⟩] w1)

def lit_pool_Pool_Left_L2 (f : (Option Addr) × Nat × Nat × Int × Int × (Option Addr) × Nat × Nat × Int) (s : S_pool_Pool_Left_L2) : Env := [⟨23, .slice f.1 f.2.1 f.2.2.1, none⟩, ⟨24, .int .i64 f.2.2.2.1, none⟩, ⟨25, .int .i64 f.2.2.2.2.1, none⟩, ⟨30, .slice f.2.2.2.2.2.1 f.2.2.2.2.2.2.1 f.2.2.2.2.2.2.2.1, none⟩, ⟨31, .int .i64 f.2.2.2.2.2.2.2.2, none⟩, ⟨3, .int .i64 s.n_2, none⟩, ⟨32, .int .i64 s.t32, none⟩]

def dec_pool_Pool_Left_L2 (e : Env) (K : ((Option Addr) × Nat × Nat × Int × Int × (Option Addr) × Nat × Nat × Int) → S_pool_Pool_Left_L2 → Prop) : Prop :=
  onV (getV e 23) fun u1 =>
  asS u1 fun t23P_1 t23N_1 t23C_1 =>
  onV (getV e 24) fun u2 =>
  asI .i64 u2 fun t24_1 =>
  onV (getV e 25) fun u3 =>
  asI .i64 u3 fun t25_1 =>
  onV (getV e 30) fun u4 =>
  asS u4 fun t30P t30N t30C =>
  onV (getV e 31) fun u5 =>
  asI .i64 u5 fun t31 =>
  onV (getV e 3) fun u6 =>
  asI .i64 u6 fun n_2 =>
  onV (getV e 32) fun u7 =>
  asI .i64 u7 fun t32 =>
    K (t23P_1, t23N_1, t23C_1, t24_1, t25_1, t30P, t30N, t30C, t31) ⟨n_2, t32⟩

theorem dec_pool_Pool_Left_L2_ok {N : Nat} (e : Env) (a : Act) (K : ((Option Addr) × Nat × Nat × Int × Int × (Option Addr) × Nat × Nat × Int) → S_pool_Pool_Left_L2 → Prop) (hr : Rep N a e) (h0 : dec_pool_Pool_Left_L2 e K) : ∃ f s, K f s ∧ Rep N a (lit_pool_Pool_Left_L2 f s) := by
  unfold dec_pool_Pool_Left_L2 at h0
  obtain ⟨u1, g23, h1⟩ := onV_elim h0
  obtain ⟨t23P_1, t23N_1, t23C_1, rfl, h2⟩ := asS_elim h1
  obtain ⟨u2, g24, h3⟩ := onV_elim h2
  obtain ⟨t24_1, rfl, h4⟩ := asI_elim h3
  obtain ⟨u3, g25, h5⟩ := onV_elim h4
  obtain ⟨t25_1, rfl, h6⟩ := asI_elim h5
  obtain ⟨u4, g30, h7⟩ := onV_elim h6
  obtain ⟨t30P, t30N, t30C, rfl, h8⟩ := asS_elim h7
  obtain ⟨u5, g31, h9⟩ := onV_elim h8
  obtain ⟨t31, rfl, h10⟩ := asI_elim h9
  obtain ⟨u6, g3, h11⟩ := onV_elim h10
  obtain ⟨n_2, rfl, h12⟩ := asI_elim h11
  obtain ⟨u7, g32, h13⟩ := onV_elim h12
  obtain ⟨t32, rfl, h14⟩ := asI_elim h13
  exact ⟨_, _, h14, rep_less hr (by simp [lit_pool_Pool_Left_L2, g23, g24, g25, g30, g31, g3, g32])⟩

def spec_pool_Pool_Left_L2 (Q : Post) (e : Env) (w : World) : Prop :=
  dec_pool_Pool_Left_L2 e fun f s => F_pool_Pool_Left_L2 f.1 f.2.1 f.2.2.1 f.2.2.2.1 f.2.2.2.2.1 f.2.2.2.2.2.1 f.2.2.2.2.2.2.1 f.2.2.2.2.2.2.2.1 f.2.2.2.2.2.2.2.2 s w (fun n_3 w1 => Q (.exit 2) [⟨23, .slice f.1 f.2.1 f.2.2.1, none⟩, ⟨24, .int .i64 f.2.2.2.1, none⟩, ⟨25, .int .i64 f.2.2.2.2.1, none⟩, ⟨3, .int .i64 n_3, none⟩] w1)

def G_pool_Pool_Left : Gen where
  loop := lookL [([false, true, false, true, true, true], spec_pool_Pool_Left_L1), ([false, true, true, false, false, true, true, false, false, true, false, true, true, true], spec_pool_Pool_Left_L2)]
  plan := fun id =>
    bif Nat.beq id 3 then some ([0, 1, 3, 7, 0, 16, 48, 112, 255, 511], .take 0 (.take 1 (.take 2 (.take 3 (.take 4 (.take 5 (.take 6 (.take 7 (.take 8 (.take 9 .done)))))))))) else none

def dx_pool_Pool_Left_L1_0 (e : Env) (K : ((Option Addr) × Nat × Nat × Int) → Int → Prop) : Prop :=
  onV (getV e 23) fun u1 =>
  asS u1 fun t23P t23N t23C =>
  onV (getV e 24) fun u2 =>
  asI .i64 u2 fun t24 =>
  onV (getV e 3) fun u3 =>
  asI .i64 u3 fun n_1 =>
    K (t23P, t23N, t23C, t24) n_1

theorem body_pool_Pool_Left_L1 (f : (Option Addr) × Nat × Nat × Int) (s : S_pool_Pool_Left_L1) (w : World) (Kn : ((Option Addr) × Nat × Nat × Int) → S_pool_Pool_Left_L1 → World → Prop) (Kx0 : ((Option Addr) × Nat × Nat × Int) → Int → World → Prop) :
    B_pool_Pool_Left_L1 f.1 f.2.1 f.2.2.1 f.2.2.2 s w (fun s1 w1 => Kn f s1 w1) (fun n_1 w1 => Kx0 f n_1 w1) =
    den Try.prog Try.f17.ntmps G_pool_Pool_Left (sub (codeOf Try.f17) [false, false, true, false, true, true, true]) [false, false, true, false, true, true, true] (roundQ (fun e w => dec_pool_Pool_Left_L1 e fun f s => Kn f s w) (fun e w => False) (fun id e w => match Nat.beq id 0 with | true => dx_pool_Pool_Left_L1_0 e fun f n_1 => Kx0 f n_1 w | false => False)) (lit_pool_Pool_Left_L1 f s) w := by kernel_rfl

def dx_pool_Pool_Left_L2_2 (e : Env) (K : ((Option Addr) × Nat × Nat × Int × Int × (Option Addr) × Nat × Nat × Int) → Int → Prop) : Prop :=
  onV (getV e 23) fun u1 =>
  asS u1 fun t23P_1 t23N_1 t23C_1 =>
  onV (getV e 24) fun u2 =>
  asI .i64 u2 fun t24_1 =>
  onV (getV e 25) fun u3 =>
  asI .i64 u3 fun t25_1 =>
  onV (getV e 30) fun u4 =>
  asS u4 fun t30P t30N t30C =>
  onV (getV e 31) fun u5 =>
  asI .i64 u5 fun t31 =>
  onV (getV e 3) fun u6 =>
  asI .i64 u6 fun n_3 =>
    K (t23P_1, t23N_1, t23C_1, t24_1, t25_1, t30P, t30N, t30C, t31) n_3

theorem body_pool_Pool_Left_L2 (f : (Option Addr) × Nat × Nat × Int × Int × (Option Addr) × Nat × Nat × Int) (s : S_pool_Pool_Left_L2) (w : World) (Kn : ((Option Addr) × Nat × Nat × Int × Int × (Option Addr) × Nat × Nat × Int) → S_pool_Pool_Left_L2 → World → Prop) (Kx2 : ((Option Addr) × Nat × Nat × Int × Int × (Option Addr) × Nat × Nat × Int) → Int → World → Prop) :
    B_pool_Pool_Left_L2 f.1 f.2.1 f.2.2.1 f.2.2.2.1 f.2.2.2.2.1 f.2.2.2.2.2.1 f.2.2.2.2.2.2.1 f.2.2.2.2.2.2.2.1 f.2.2.2.2.2.2.2.2 s w (fun s1 w1 => Kn f s1 w1) (fun n_3 w1 => Kx2 f n_3 w1) =
    den Try.prog Try.f17.ntmps G_pool_Pool_Left (sub (codeOf Try.f17) [false, false, true, true, false, false, true, true, false, false, true, false, true, true, true]) [false, false, true, true, false, false, true, true, false, false, true, false, true, true, true] (roundQ (fun e w => dec_pool_Pool_Left_L2 e fun f s => Kn f s w) (fun e w => False) (fun id e w => match Nat.beq id 2 with | true => dx_pool_Pool_Left_L2_2 e fun f n_3 => Kx2 f n_3 w | false => False)) (lit_pool_Pool_Left_L2 f s) w := by kernel_rfl

theorem ok_pool_Pool_Left_L1 : OneOk Try.prog Try.f17.ntmps G_pool_Pool_Left (codeOf Try.f17) [false, true, false, true, true, true] spec_pool_Pool_Left_L1 := by
  intro c hc ih Q e w a hr h
  have hcc : sub (codeOf Try.f17) [false, false, true, false, true, true, true] = c := sub_of_codeAt hc
  obtain ⟨f, s, h, hrep⟩ := dec_pool_Pool_Left_L1_ok e a _ hr h
  obtain ⟨J, μ, hj, hround⟩ := h
  refine loop_rule_deep seat_ok seat_mixed ih lit_pool_Pool_Left_L1 dec_pool_Pool_Left_L1 dec_pool_Pool_Left_L1_ok hc f J μ (Kr := fun e w => False) (Kx := fun id e w => match Nat.beq id 0 with | true => (dx_pool_Pool_Left_L1_0 e fun f1 n_1 => f1 = f ∧ Q (.exit 0) [⟨3, .int .i64 n_1, none⟩] w) | false => False) ?_ ?_ ?_ s w a hj hrep
  · intro e a w hr h
    exact h.elim
  · intro id e a w hr h0
    (try dsimp only at h0)
    split at h0
    · rename_i hid
      obtain rfl := Nat.eq_of_beq_eq_true hid
      unfold dx_pool_Pool_Left_L1_0 at h0
      obtain ⟨u1, g23, h1⟩ := onV_elim h0
      obtain ⟨t23P, t23N, t23C, rfl, h2⟩ := asS_elim h1
      obtain ⟨u2, g24, h3⟩ := onV_elim h2
      obtain ⟨t24, rfl, h4⟩ := asI_elim h3
      obtain ⟨u3, g3, h5⟩ := onV_elim h4
      obtain ⟨n_1, rfl, h6⟩ := asI_elim h5
      obtain ⟨hf, hq⟩ := h6
      subst hf
      exact ⟨_, rep_less hr (by simp [g3]), hq⟩
    · exact h0.elim
  · intro s w hj
    have hb := hround s w hj
    rw [← hcc]
    have e1 := body_pool_Pool_Left_L1 f s w (fun f1 s1 w1 => f1 = f ∧ J s1 w1 ∧ μ s1 w1 < μ s w) (fun f1 n_1 w1 => f1 = f ∧ Q (.exit 0) [⟨3, .int .i64 n_1, none⟩] w1)
    simp only [true_and] at e1
    exact cast e1 hb

theorem ok_pool_Pool_Left_L2 : OneOk Try.prog Try.f17.ntmps G_pool_Pool_Left (codeOf Try.f17) [false, true, true, false, false, true, true, false, false, true, false, true, true, true] spec_pool_Pool_Left_L2 := by
  intro c hc ih Q e w a hr h
  have hcc : sub (codeOf Try.f17) [false, false, true, true, false, false, true, true, false, false, true, false, true, true, true] = c := sub_of_codeAt hc
  obtain ⟨f, s, h, hrep⟩ := dec_pool_Pool_Left_L2_ok e a _ hr h
  obtain ⟨J, μ, hj, hround⟩ := h
  refine loop_rule_deep seat_ok seat_mixed ih lit_pool_Pool_Left_L2 dec_pool_Pool_Left_L2 dec_pool_Pool_Left_L2_ok hc f J μ (Kr := fun e w => False) (Kx := fun id e w => match Nat.beq id 2 with | true => (dx_pool_Pool_Left_L2_2 e fun f1 n_3 => f1 = f ∧ Q (.exit 2) [⟨23, .slice f.1 f.2.1 f.2.2.1, none⟩, ⟨24, .int .i64 f.2.2.2.1, none⟩, ⟨25, .int .i64 f.2.2.2.2.1, none⟩, ⟨3, .int .i64 n_3, none⟩] w) | false => False) ?_ ?_ ?_ s w a hj hrep
  · intro e a w hr h
    exact h.elim
  · intro id e a w hr h0
    (try dsimp only at h0)
    split at h0
    · rename_i hid
      obtain rfl := Nat.eq_of_beq_eq_true hid
      unfold dx_pool_Pool_Left_L2_2 at h0
      obtain ⟨u1, g23, h1⟩ := onV_elim h0
      obtain ⟨t23P_1, t23N_1, t23C_1, rfl, h2⟩ := asS_elim h1
      obtain ⟨u2, g24, h3⟩ := onV_elim h2
      obtain ⟨t24_1, rfl, h4⟩ := asI_elim h3
      obtain ⟨u3, g25, h5⟩ := onV_elim h4
      obtain ⟨t25_1, rfl, h6⟩ := asI_elim h5
      obtain ⟨u4, g30, h7⟩ := onV_elim h6
      obtain ⟨t30P, t30N, t30C, rfl, h8⟩ := asS_elim h7
      obtain ⟨u5, g31, h9⟩ := onV_elim h8
      obtain ⟨t31, rfl, h10⟩ := asI_elim h9
      obtain ⟨u6, g3, h11⟩ := onV_elim h10
      obtain ⟨n_3, rfl, h12⟩ := asI_elim h11
      obtain ⟨hf, hq⟩ := h12
      subst hf
      exact ⟨_, rep_less hr (by simp [g23, g24, g25, g3]), hq⟩
    · exact h0.elim
  · intro s w hj
    have hb := hround s w hj
    rw [← hcc]
    have e1 := body_pool_Pool_Left_L2 f s w (fun f1 s1 w1 => f1 = f ∧ J s1 w1 ∧ μ s1 w1 < μ s w) (fun f1 n_3 w1 => f1 = f ∧ Q (.exit 2) [⟨23, .slice f.1 f.2.1 f.2.2.1, none⟩, ⟨24, .int .i64 f.2.2.2.1, none⟩, ⟨25, .int .i64 f.2.2.2.2.1, none⟩, ⟨3, .int .i64 n_3, none⟩] w1)
    simp only [true_and] at e1
    exact cast e1 hb

theorem loops_pool_Pool_Left : LoopOk Try.prog Try.f17.ntmps G_pool_Pool_Left (codeOf Try.f17) := loopOk_list rfl ⟨ok_pool_Pool_Left_L1, ⟨ok_pool_Pool_Left_L2, trivial⟩⟩

theorem den_pool_Pool_Left (p : Option Addr) (w : World) (R : Value → World → Prop) :
    F_pool_Pool_Left p w (fun r w1 => R (.int .i64 r) w1) = den Try.prog Try.f17.ntmps G_pool_Pool_Left (codeOf Try.f17) [] (postD Try.prog Try.f17.results.toList R) (entry [.pointer p] 0) w := by kernel_rfl

theorem C_pool_Pool_Left.of {p : Option Addr} {w : World} {R : Int → World → Prop} (h : F_pool_Pool_Left p w R) : C_pool_Pool_Left p w R := by
  refine (calls_of_den (c := codeOf Try.f17) seat_ok seat_mixed Try.func17 (by kernel_rfl) loops_pool_Pool_Left (args := [.pointer p]) rfl (R := fun v w1 => ∃ (r : Int), v = (.int .i64 r : Value) ∧ R r w1) ?_).mono ?_
  · rw [← den_pool_Pool_Left]
    have e : (fun r w1 => ∃ (r' : Int), (.int .i64 r : Value) = (.int .i64 r' : Value) ∧ R r' w1) = R := by
      funext r w1
      exact propext ⟨fun ⟨r', he, h⟩ => by simp at he; simp_all, fun h => ⟨_, rfl, h⟩⟩
    simpa only [e] using h
  · rintro en w1 ⟨v, he, r, rfl, h⟩
    exact ⟨_, he, h⟩

end Go.Proofs.Ytcgnligpjfhjlaa
