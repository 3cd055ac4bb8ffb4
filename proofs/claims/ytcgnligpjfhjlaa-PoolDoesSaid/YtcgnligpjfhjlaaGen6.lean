/- The formulas of this seat's functions, held against the loaded program by the kernel. Printed by a program. -/
import Derived.Test.YtcgnligpjfhjlaaGenC
set_option maxRecDepth 100000
set_option linter.unusedVariables false
namespace Go.Proofs.Ytcgnligpjfhjlaa
open Go Go.D Go.Proofs

def F_pool_Pool_end (p : Option Addr) (i : Int) (w : World) (R : Int → World → Prop) : Prop :=
  NN p fun a =>
  ∃ lP : Option Addr, ∃ lN : Nat, ∃ lC : Nat, w.cell? (a.add 0) = some (.slice lP lN lC) ∧
  If (decide ((IntKind.i64.wrap (i + (1 : Int))) < (lN : Int)))
  (NN p fun a_1 =>
  ∃ lP_1 : Option Addr, ∃ lN_1 : Nat, ∃ lC_1 : Nat, w.cell? (a_1.add 0) = some (.slice lP_1 lN_1 lC_1) ∧
  0 ≤ (IntKind.i64.wrap (i + (1 : Int))) ∧ (IntKind.i64.wrap (i + (1 : Int))) < (lN_1 : Int) ∧ NN lP_1 fun a_2 =>
  ∃ startx : Int, w.cell? ((a_2.add ((IntKind.i64.wrap (i + (1 : Int))).toNat * 2)).add 0) = some (.int .i64 startx) ∧
  R startx w)
  (NN p fun a_3 =>
  ∃ topx : Int, w.cell? (a_3.add 1) = some (.int .i64 topx) ∧
  R topx w)

def G_pool_Pool_end : Gen where
  loop := lookL []
  plan := fun _ => none

theorem loops_pool_Pool_end : LoopOk Try.prog Try.f54.ntmps G_pool_Pool_end (codeOf Try.f54) := loopOk_none fun _ => rfl

theorem den_pool_Pool_end (p : Option Addr) (i : Int) (w : World) (R : Value → World → Prop) :
    F_pool_Pool_end p i w (fun r w1 => R (.int .i64 r) w1) = den Try.prog Try.f54.ntmps G_pool_Pool_end (codeOf Try.f54) [] (postD Try.prog Try.f54.results.toList R) (entry [.pointer p, .int .i64 i] 0) w := by kernel_rfl

theorem C_pool_Pool_end.of {p : Option Addr} {i : Int} {w : World} {R : Int → World → Prop} (h : F_pool_Pool_end p i w R) : C_pool_Pool_end p i w R := by
  refine (calls_of_den (c := codeOf Try.f54) seat_ok seat_mixed Try.func54 (by kernel_rfl) loops_pool_Pool_end (args := [.pointer p, .int .i64 i]) rfl (R := fun v w1 => ∃ (r : Int), v = (.int .i64 r : Value) ∧ R r w1) ?_).mono ?_
  · rw [← den_pool_Pool_end]
    have e : (fun r w1 => ∃ (r' : Int), (.int .i64 r : Value) = (.int .i64 r' : Value) ∧ R r' w1) = R := by
      funext r w1
      exact propext ⟨fun ⟨r', he, h⟩ => by simp at he; simp_all, fun h => ⟨_, rfl, h⟩⟩
    simpa only [e] using h
  · rintro en w1 ⟨v, he, r, rfl, h⟩
    exact ⟨_, he, h⟩

def F_pool_segment_add_k1 (sx : Option Addr) (atx : Int) (R : World → Prop) (w1_1 : World) : Prop :=
  NN sx fun a_8 =>
  ∃ runsP_4 : Option Addr, ∃ runsN_4 : Nat, ∃ runsC_4 : Nat, w1_1.cell? (a_8.add 1) = some (.slice runsP_4 runsN_4 runsC_4) ∧
  BSl Try.prog 40 1 [(0, .agg #[.int .i64 atx, .int .i64 1])] w1_1 fun t52P t52N t52C w1_2 =>
  App Try.prog #[40, 40] 40 #[.slice runsP_4 runsN_4 runsC_4, .slice t52P t52N t52C] w1_2 fun t53P t53N t53C w1_3 =>
  NN sx fun a_9 =>
  St w1_3 ((a_9.add 1).add 0) (.slice t53P t53N t53C) fun w1_4 =>
  R w1_4

def F_pool_segment_add (sx : Option Addr) (atx : Int) (w : World) (R : World → Prop) : Prop :=
  NN sx fun a =>
  ∃ runsP : Option Addr, ∃ runsN : Nat, ∃ runsC : Nat, w.cell? (a.add 1) = some (.slice runsP runsN runsC) ∧
  If (decide ((IntKind.i64.wrap ((runsN : Int) - (1 : Int))) ≥ (0 : Int)))
  (NN sx fun a_1 =>
  ∃ runsP_1 : Option Addr, ∃ runsN_1 : Nat, ∃ runsC_1 : Nat, (drw w).cell? (a_1.add 1) = some (.slice runsP_1 runsN_1 runsC_1) ∧
  0 ≤ (IntKind.i64.wrap ((runsN : Int) - (1 : Int))) ∧ (IntKind.i64.wrap ((runsN : Int) - (1 : Int))) < (runsN_1 : Int) ∧ NN runsP_1 fun a_2 =>
  ∃ At : Int, (drw w).cell? ((a_2.add ((IntKind.i64.wrap ((runsN : Int) - (1 : Int))).toNat * 2)).add 0) = some (.int .i64 At) ∧
  NN sx fun a_3 =>
  ∃ runsP_2 : Option Addr, ∃ runsN_2 : Nat, ∃ runsC_2 : Nat, (drw w).cell? (a_3.add 1) = some (.slice runsP_2 runsN_2 runsC_2) ∧
  0 ≤ (IntKind.i64.wrap ((runsN : Int) - (1 : Int))) ∧ (IntKind.i64.wrap ((runsN : Int) - (1 : Int))) < (runsN_2 : Int) ∧ NN runsP_2 fun a_4 =>
  ∃ Len : Int, (drw w).cell? ((a_4.add ((IntKind.i64.wrap ((runsN : Int) - (1 : Int))).toNat * 2)).add 1) = some (.int .i64 Len) ∧
  If ((IntKind.i64.wrap (At + Len)) == atx)
  (NN sx fun a_5 =>
  ∃ runsP_3 : Option Addr, ∃ runsN_3 : Nat, ∃ runsC_3 : Nat, (drw w).cell? (a_5.add 1) = some (.slice runsP_3 runsN_3 runsC_3) ∧
  0 ≤ (IntKind.i64.wrap ((runsN : Int) - (1 : Int))) ∧ (IntKind.i64.wrap ((runsN : Int) - (1 : Int))) < (runsN_3 : Int) ∧ NN runsP_3 fun a_6 =>
  ∃ Len_1 : Int, (drw w).cell? ((a_6.add ((IntKind.i64.wrap ((runsN : Int) - (1 : Int))).toNat * 2)).add 1) = some (.int .i64 Len_1) ∧
  0 ≤ (IntKind.i64.wrap ((runsN : Int) - (1 : Int))) ∧ (IntKind.i64.wrap ((runsN : Int) - (1 : Int))) < (runsN_3 : Int) ∧ NN runsP_3 fun a_7 =>
  St (drw w) (((a_7.add ((IntKind.i64.wrap ((runsN : Int) - (1 : Int))).toNat * 2)).add 1).add 0) (.int .i64 (IntKind.i64.wrap (Len_1 + (1 : Int)))) fun w1 =>
  R w1)
  (F_pool_segment_add_k1 sx atx R (drw w)))
  (F_pool_segment_add_k1 sx atx R (drw w))

def G_pool_segment_add : Gen where
  loop := lookL []
  plan := fun id =>
    bif Nat.beq id 1 then some ([0, 1, 3, 7, 15, 31, 63, 7, 255, 511, 1023, 7, 2055, 6151, 14343, 7, 63495, 129031, 260103, 524287, 7, 2097151, 4194303], .take 0 (.take 1 (.take 2 (.take 3 (.take 4 (.take 5 (.take 6 (.take 7 (.take 8 (.take 9 (.take 10 (.take 11 (.take 12 (.take 13 (.take 14 (.take 15 (.take 16 (.take 17 (.take 18 (.take 19 (.take 20 (.take 21 (.take 22 .done))))))))))))))))))))))) else none

theorem loops_pool_segment_add : LoopOk Try.prog Try.f55.ntmps G_pool_segment_add (codeOf Try.f55) := loopOk_none fun _ => rfl

theorem den_pool_segment_add (sx : Option Addr) (atx : Int) (w : World) (R : Value → World → Prop) :
    F_pool_segment_add sx atx w (fun w1 => R (.tuple #[]) w1) = den Try.prog Try.f55.ntmps G_pool_segment_add (codeOf Try.f55) [] (postD Try.prog Try.f55.results.toList R) (entry [.pointer sx, .int .i64 atx] 0) w := by kernel_rfl

theorem C_pool_segment_add.of {sx : Option Addr} {atx : Int} {w : World} {R : World → Prop} (h : F_pool_segment_add sx atx w R) : C_pool_segment_add sx atx w R := by
  refine (calls_of_den (c := codeOf Try.f55) seat_ok seat_mixed Try.func55 (by kernel_rfl) loops_pool_segment_add (args := [.pointer sx, .int .i64 atx]) rfl (R := fun v w1 => v = (.tuple #[] : Value) ∧ R w1) ?_).mono ?_
  · rw [← den_pool_segment_add]
    simpa using h
  · rintro en w1 ⟨v, he, rfl, h⟩
    exact ⟨he, h⟩

def F_cmp_isNaN (x : Int) (w : World) (R : Bool → World → Prop) : Prop :=
  R (x != x) w

def G_cmp_isNaN : Gen where
  loop := lookL []
  plan := fun _ => none

theorem loops_cmp_isNaN : LoopOk Try.prog Try.f56.ntmps G_cmp_isNaN (codeOf Try.f56) := loopOk_none fun _ => rfl

theorem den_cmp_isNaN (x : Int) (w : World) (R : Value → World → Prop) :
    F_cmp_isNaN x w (fun r w1 => R (.bool r) w1) = den Try.prog Try.f56.ntmps G_cmp_isNaN (codeOf Try.f56) [] (postD Try.prog Try.f56.results.toList R) (entry [.int .i64 x] 0) w := by kernel_rfl

theorem C_cmp_isNaN.of {x : Int} {w : World} {R : Bool → World → Prop} (h : F_cmp_isNaN x w R) : C_cmp_isNaN x w R := by
  refine (calls_of_den (c := codeOf Try.f56) seat_ok seat_mixed Try.func56 (by kernel_rfl) loops_cmp_isNaN (args := [.int .i64 x]) rfl (R := fun v w1 => ∃ (r : Bool), v = (.bool r : Value) ∧ R r w1) ?_).mono ?_
  · rw [← den_cmp_isNaN]
    have e : (fun r w1 => ∃ (r' : Bool), (.bool r : Value) = (.bool r' : Value) ∧ R r' w1) = R := by
      funext r w1
      exact propext ⟨fun ⟨r', he, h⟩ => by simp at he; simp_all, fun h => ⟨_, rfl, h⟩⟩
    simpa only [e] using h
  · rintro en w1 ⟨v, he, r, rfl, h⟩
    exact ⟨_, he, h⟩

structure S_slices_BinarySearchFunc__2_L1 where
  i : Int
  j : Int

/-- One round. -/
def B_slices_BinarySearchFunc__2_L1 (xP_1 : Option Addr) (xN_1 : Nat) (xC_1 : Nat) (target_1 : Int) (cmp_1 : Value) (n : Int) (s : S_slices_BinarySearchFunc__2_L1) (w : World) (Kn : S_slices_BinarySearchFunc__2_L1 → World → Prop) (Kx0 : Int → World → Prop) : Prop :=
  If (decide ((s.i : Int) < (s.j : Int)))
  (0 ≤ (1 : Int) ∧
  0 ≤ (IntKind.i64.wrap (shrI .u64 (IntKind.u64.wrap (IntKind.i64.wrap ((s.i : Int) + (s.j : Int)))) (1 : Int))) ∧ (IntKind.i64.wrap (shrI .u64 (IntKind.u64.wrap (IntKind.i64.wrap ((s.i : Int) + (s.j : Int)))) (1 : Int))) < (xN_1 : Int) ∧ NN xP_1 fun a =>
  ∃ t280 : Int, w.cell? ((a.add ((IntKind.i64.wrap (shrI .u64 (IntKind.u64.wrap (IntKind.i64.wrap ((s.i : Int) + (s.j : Int)))) (1 : Int))).toNat * 2)).add 0) = some (.int .i64 t280) ∧
  ∃ t281 : Int, w.cell? ((a.add ((IntKind.i64.wrap (shrI .u64 (IntKind.u64.wrap (IntKind.i64.wrap ((s.i : Int) + (s.j : Int)))) (1 : Int))).toNat * 2)).add 1) = some (.int .i64 t281) ∧
  CallV Try.prog cmp_1 [.agg #[.int .i64 t280, .int .i64 t281], .int .i64 target_1] w fun v w1 => ∃ t30 : Int, v = (.int .i64 t30) ∧
  If (decide (t30 < (0 : Int)))
  (Kn ⟨(IntKind.i64.wrap ((IntKind.i64.wrap (shrI .u64 (IntKind.u64.wrap (IntKind.i64.wrap ((s.i : Int) + (s.j : Int)))) (1 : Int))) + (1 : Int))), (s.j : Int)⟩ w1)
  (Kn ⟨(s.i : Int), (IntKind.i64.wrap (shrI .u64 (IntKind.u64.wrap (IntKind.i64.wrap ((s.i : Int) + (s.j : Int)))) (1 : Int)))⟩ w1))
  (Kx0 (s.i : Int) w)

def F_slices_BinarySearchFunc__2_L1 (xP_1 : Option Addr) (xN_1 : Nat) (xC_1 : Nat) (target_1 : Int) (cmp_1 : Value) (n : Int) (s : S_slices_BinarySearchFunc__2_L1) (w : World) (Kx0 : Int → World → Prop) : Prop :=
  LoopS (fun s w Kn => B_slices_BinarySearchFunc__2_L1 xP_1 xN_1 xC_1 target_1 cmp_1 n s w Kn Kx0) s w

def F_slices_BinarySearchFunc__2 (xP : Option Addr) (xN : Nat) (xC : Nat) (target : Int) (cmp : Value) (w : World) (R : Int → Bool → World → Prop) : Prop :=
  F_slices_BinarySearchFunc__2_L1 xP xN xC target cmp (xN : Int) ⟨(0 : Int), (xN : Int)⟩ w
  (fun i_2 w1_1 =>
  If (decide (i_2 < (xN : Int)))
  (0 ≤ i_2 ∧ i_2 < (xN : Int) ∧ NN xP fun a_1 =>
  ∃ t440 : Int, w1_1.cell? ((a_1.add (i_2.toNat * 2)).add 0) = some (.int .i64 t440) ∧
  ∃ t441 : Int, w1_1.cell? ((a_1.add (i_2.toNat * 2)).add 1) = some (.int .i64 t441) ∧
  CallV Try.prog cmp [.agg #[.int .i64 t440, .int .i64 t441], .int .i64 target] w1_1 fun v_1 w1_2 => ∃ t46 : Int, v_1 = (.int .i64 t46) ∧
  R i_2 (t46 == (0 : Int)) w1_2)
  (R i_2 false w1_1))

def lit_slices_BinarySearchFunc__2_L1 (f : (Option Addr) × Nat × Nat × Int × Value × Int) (s : S_slices_BinarySearchFunc__2_L1) : Env := [⟨0, .slice f.1 f.2.1 f.2.2.1, none⟩, ⟨1, .int .i64 f.2.2.2.1, none⟩, ⟨2, f.2.2.2.2.1, none⟩, ⟨8, .int .i64 f.2.2.2.2.2, none⟩, ⟨9, .int .i64 s.i, none⟩, ⟨10, .int .i64 s.j, none⟩]

def dec_slices_BinarySearchFunc__2_L1 (e : Env) (K : ((Option Addr) × Nat × Nat × Int × Value × Int) → S_slices_BinarySearchFunc__2_L1 → Prop) : Prop :=
  onV (getV e 0) fun u1 =>
  asS u1 fun xP_1 xN_1 xC_1 =>
  onV (getV e 1) fun u2 =>
  asI .i64 u2 fun target_1 =>
  onV (getV e 2) fun u3 =>
  asV u3 fun cmp_1 =>
  onV (getV e 8) fun u4 =>
  asI .i64 u4 fun n =>
  onV (getV e 9) fun u5 =>
  asI .i64 u5 fun i =>
  onV (getV e 10) fun u6 =>
  asI .i64 u6 fun j =>
    K (xP_1, xN_1, xC_1, target_1, cmp_1, n) ⟨i, j⟩

theorem dec_slices_BinarySearchFunc__2_L1_ok {N : Nat} (e : Env) (a : Act) (K : ((Option Addr) × Nat × Nat × Int × Value × Int) → S_slices_BinarySearchFunc__2_L1 → Prop) (hr : Rep N a e) (h0 : dec_slices_BinarySearchFunc__2_L1 e K) : ∃ f s, K f s ∧ Rep N a (lit_slices_BinarySearchFunc__2_L1 f s) := by
  unfold dec_slices_BinarySearchFunc__2_L1 at h0
  obtain ⟨u1, g0, h1⟩ := onV_elim h0
  obtain ⟨xP_1, xN_1, xC_1, rfl, h2⟩ := asS_elim h1
  obtain ⟨u2, g1, h3⟩ := onV_elim h2
  obtain ⟨target_1, rfl, h4⟩ := asI_elim h3
  obtain ⟨u3, g2, h5⟩ := onV_elim h4
  obtain ⟨cmp_1, rfl, h6⟩ := asV_elim h5
  obtain ⟨u4, g8, h7⟩ := onV_elim h6
  obtain ⟨n, rfl, h8⟩ := asI_elim h7
  obtain ⟨u5, g9, h9⟩ := onV_elim h8
  obtain ⟨i, rfl, h10⟩ := asI_elim h9
  obtain ⟨u6, g10, h11⟩ := onV_elim h10
  obtain ⟨j, rfl, h12⟩ := asI_elim h11
  exact ⟨_, _, h12, rep_less hr (by simp [lit_slices_BinarySearchFunc__2_L1, g0, g1, g2, g8, g9, g10])⟩

def spec_slices_BinarySearchFunc__2_L1 (Q : Post) (e : Env) (w : World) : Prop :=
  dec_slices_BinarySearchFunc__2_L1 e fun f s => F_slices_BinarySearchFunc__2_L1 f.1 f.2.1 f.2.2.1 f.2.2.2.1 f.2.2.2.2.1 f.2.2.2.2.2 s w (fun i_1 w1 => Q (.exit 0) [⟨0, .slice f.1 f.2.1 f.2.2.1, none⟩, ⟨1, .int .i64 f.2.2.2.1, none⟩, ⟨2, f.2.2.2.2.1, none⟩, ⟨8, .int .i64 f.2.2.2.2.2, none⟩, ⟨9, .int .i64 i_1, none⟩] w1)

def G_slices_BinarySearchFunc__2 : Gen where
  loop := lookL [([false, false, true, true, true], spec_slices_BinarySearchFunc__2_L1)]
  plan := fun _ => none

def dx_slices_BinarySearchFunc__2_L1_0 (e : Env) (K : ((Option Addr) × Nat × Nat × Int × Value × Int) → Int → Prop) : Prop :=
  onV (getV e 0) fun u1 =>
  asS u1 fun xP_1 xN_1 xC_1 =>
  onV (getV e 1) fun u2 =>
  asI .i64 u2 fun target_1 =>
  onV (getV e 2) fun u3 =>
  asV u3 fun cmp_1 =>
  onV (getV e 8) fun u4 =>
  asI .i64 u4 fun n =>
  onV (getV e 9) fun u5 =>
  asI .i64 u5 fun i_1 =>
    K (xP_1, xN_1, xC_1, target_1, cmp_1, n) i_1

theorem body_slices_BinarySearchFunc__2_L1 (f : (Option Addr) × Nat × Nat × Int × Value × Int) (s : S_slices_BinarySearchFunc__2_L1) (w : World) (Kn : ((Option Addr) × Nat × Nat × Int × Value × Int) → S_slices_BinarySearchFunc__2_L1 → World → Prop) (Kx0 : ((Option Addr) × Nat × Nat × Int × Value × Int) → Int → World → Prop) :
    B_slices_BinarySearchFunc__2_L1 f.1 f.2.1 f.2.2.1 f.2.2.2.1 f.2.2.2.2.1 f.2.2.2.2.2 s w (fun s1 w1 => Kn f s1 w1) (fun i_1 w1 => Kx0 f i_1 w1) =
    den Try.prog Try.f57.ntmps G_slices_BinarySearchFunc__2 (sub (codeOf Try.f57) [false, false, false, true, true, true]) [false, false, false, true, true, true] (roundQ (fun e w => dec_slices_BinarySearchFunc__2_L1 e fun f s => Kn f s w) (fun e w => False) (fun id e w => match Nat.beq id 0 with | true => dx_slices_BinarySearchFunc__2_L1_0 e fun f i_1 => Kx0 f i_1 w | false => False)) (lit_slices_BinarySearchFunc__2_L1 f s) w := by kernel_rfl

theorem ok_slices_BinarySearchFunc__2_L1 : OneOk Try.prog Try.f57.ntmps G_slices_BinarySearchFunc__2 (codeOf Try.f57) [false, false, true, true, true] spec_slices_BinarySearchFunc__2_L1 := by
  intro c hc ih Q e w a hr h
  have hcc : sub (codeOf Try.f57) [false, false, false, true, true, true] = c := sub_of_codeAt hc
  obtain ⟨f, s, h, hrep⟩ := dec_slices_BinarySearchFunc__2_L1_ok e a _ hr h
  obtain ⟨J, μ, hj, hround⟩ := h
  refine loop_rule_deep seat_ok seat_mixed ih lit_slices_BinarySearchFunc__2_L1 dec_slices_BinarySearchFunc__2_L1 dec_slices_BinarySearchFunc__2_L1_ok hc f J μ (Kr := fun e w => False) (Kx := fun id e w => match Nat.beq id 0 with | true => (dx_slices_BinarySearchFunc__2_L1_0 e fun f1 i_1 => f1 = f ∧ Q (.exit 0) [⟨0, .slice f.1 f.2.1 f.2.2.1, none⟩, ⟨1, .int .i64 f.2.2.2.1, none⟩, ⟨2, f.2.2.2.2.1, none⟩, ⟨8, .int .i64 f.2.2.2.2.2, none⟩, ⟨9, .int .i64 i_1, none⟩] w) | false => False) ?_ ?_ ?_ s w a hj hrep
  · intro e a w hr h
    exact h.elim
  · intro id e a w hr h0
    (try dsimp only at h0)
    split at h0
    · rename_i hid
      obtain rfl := Nat.eq_of_beq_eq_true hid
      unfold dx_slices_BinarySearchFunc__2_L1_0 at h0
      obtain ⟨u1, g0, h1⟩ := onV_elim h0
      obtain ⟨xP_1, xN_1, xC_1, rfl, h2⟩ := asS_elim h1
      obtain ⟨u2, g1, h3⟩ := onV_elim h2
      obtain ⟨target_1, rfl, h4⟩ := asI_elim h3
      obtain ⟨u3, g2, h5⟩ := onV_elim h4
      obtain ⟨cmp_1, rfl, h6⟩ := asV_elim h5
      obtain ⟨u4, g8, h7⟩ := onV_elim h6
      obtain ⟨n, rfl, h8⟩ := asI_elim h7
      obtain ⟨u5, g9, h9⟩ := onV_elim h8
      obtain ⟨i_1, rfl, h10⟩ := asI_elim h9
      obtain ⟨hf, hq⟩ := h10
      subst hf
      exact ⟨_, rep_less hr (by simp [g0, g1, g2, g8, g9]), hq⟩
    · exact h0.elim
  · intro s w hj
    have hb := hround s w hj
    rw [← hcc]
    have e1 := body_slices_BinarySearchFunc__2_L1 f s w (fun f1 s1 w1 => f1 = f ∧ J s1 w1 ∧ μ s1 w1 < μ s w) (fun f1 i_1 w1 => f1 = f ∧ Q (.exit 0) [⟨0, .slice f.1 f.2.1 f.2.2.1, none⟩, ⟨1, .int .i64 f.2.2.2.1, none⟩, ⟨2, f.2.2.2.2.1, none⟩, ⟨8, .int .i64 f.2.2.2.2.2, none⟩, ⟨9, .int .i64 i_1, none⟩] w1)
    simp only [true_and] at e1
    exact cast e1 hb

theorem loops_slices_BinarySearchFunc__2 : LoopOk Try.prog Try.f57.ntmps G_slices_BinarySearchFunc__2 (codeOf Try.f57) := loopOk_list rfl ⟨ok_slices_BinarySearchFunc__2_L1, trivial⟩

theorem den_slices_BinarySearchFunc__2 (xP : Option Addr) (xN : Nat) (xC : Nat) (target : Int) (cmp : Value) (w : World) (R : Value → World → Prop) :
    F_slices_BinarySearchFunc__2 xP xN xC target cmp w (fun r0 r1 w1 => R (.tuple #[.int .i64 r0, .bool r1]) w1) = den Try.prog Try.f57.ntmps G_slices_BinarySearchFunc__2 (codeOf Try.f57) [] (postD Try.prog Try.f57.results.toList R) (entry [.slice xP xN xC, .int .i64 target, cmp] 0) w := by kernel_rfl

theorem C_slices_BinarySearchFunc__2.of {xP : Option Addr} {xN : Nat} {xC : Nat} {target : Int} {cmp : Value} {w : World} {R : Int → Bool → World → Prop} (h : F_slices_BinarySearchFunc__2 xP xN xC target cmp w R) : C_slices_BinarySearchFunc__2 xP xN xC target cmp w R := by
  refine (calls_of_den (c := codeOf Try.f57) seat_ok seat_mixed Try.func57 (by kernel_rfl) loops_slices_BinarySearchFunc__2 (args := [.slice xP xN xC, .int .i64 target, cmp]) rfl (R := fun v w1 => ∃ (r0 : Int) (r1 : Bool), v = (.tuple #[.int .i64 r0, .bool r1] : Value) ∧ R r0 r1 w1) ?_).mono ?_
  · rw [← den_slices_BinarySearchFunc__2]
    have e : (fun r0 r1 w1 => ∃ (r0' : Int) (r1' : Bool), (.tuple #[.int .i64 r0, .bool r1] : Value) = (.tuple #[.int .i64 r0', .bool r1'] : Value) ∧ R r0' r1' w1) = R := by
      funext r0 r1 w1
      exact propext ⟨fun ⟨r0', r1', he, h⟩ => by simp at he; simp_all, fun h => ⟨_, _, rfl, h⟩⟩
    simpa only [e] using h
  · rintro en w1 ⟨v, he, r0, r1, rfl, h⟩
    exact ⟨_, _, he, h⟩

def F_pool_segment_place_1 (r0 : Int) (r1 : Int) (atx : Int) (w : World) (R : Int → World → Prop) : Prop :=
  New w (.cells #[.int .i64 r0, .int .i64 r1] 58) fun r w1 =>
  ∃ At : Int, w1.cell? ((⟨r, 0, none⟩ : Addr).add 0) = some (.int .i64 At) ∧
  ∃ Len : Int, w1.cell? ((⟨r, 0, none⟩ : Addr).add 1) = some (.int .i64 Len) ∧
  C_cmp_Compare (IntKind.i64.wrap ((IntKind.i64.wrap (At + Len)) - (1 : Int))) atx w1 fun t12 w1_1 =>
  R t12 w1_1

def G_pool_segment_place_1 : Gen where
  loop := lookL []
  plan := fun _ => none

theorem loops_pool_segment_place_1 : LoopOk Try.prog Try.f58.ntmps G_pool_segment_place_1 (codeOf Try.f58) := loopOk_none fun _ => rfl

theorem den_pool_segment_place_1 (r0 : Int) (r1 : Int) (atx : Int) (w : World) (R : Value → World → Prop) :
    F_pool_segment_place_1 r0 r1 atx w (fun r w1 => R (.int .i64 r) w1) = den Try.prog Try.f58.ntmps G_pool_segment_place_1 (codeOf Try.f58) [] (postD Try.prog Try.f58.results.toList R) (entry [.agg #[.int .i64 r0, .int .i64 r1], .int .i64 atx] 0) w := by kernel_rfl

theorem C_pool_segment_place_1.of {r0 : Int} {r1 : Int} {atx : Int} {w : World} {R : Int → World → Prop} (h : F_pool_segment_place_1 r0 r1 atx w R) : C_pool_segment_place_1 r0 r1 atx w R := by
  refine (calls_of_den (c := codeOf Try.f58) seat_ok seat_mixed Try.func58 (by kernel_rfl) loops_pool_segment_place_1 (args := [.agg #[.int .i64 r0, .int .i64 r1], .int .i64 atx]) rfl (R := fun v w1 => ∃ (r : Int), v = (.int .i64 r : Value) ∧ R r w1) ?_).mono ?_
  · rw [← den_pool_segment_place_1]
    have e : (fun r w1 => ∃ (r' : Int), (.int .i64 r : Value) = (.int .i64 r' : Value) ∧ R r' w1) = R := by
      funext r w1
      exact propext ⟨fun ⟨r', he, h⟩ => by simp at he; simp_all, fun h => ⟨_, rfl, h⟩⟩
    simpa only [e] using h
  · rintro en w1 ⟨v, he, r, rfl, h⟩
    exact ⟨_, he, h⟩

def F_slices_rotateRight (sP : Option Addr) (sN : Nat) (sC : Nat) (r : Int) (w : World) (R : World → Prop) : Prop :=
  C_slices_rotateLeft sP sN sC (IntKind.i64.wrap ((sN : Int) - r)) w fun w1 =>
  R w1

def G_slices_rotateRight : Gen where
  loop := lookL []
  plan := fun _ => none

theorem loops_slices_rotateRight : LoopOk Try.prog Try.f60.ntmps G_slices_rotateRight (codeOf Try.f60) := loopOk_none fun _ => rfl

theorem den_slices_rotateRight (sP : Option Addr) (sN : Nat) (sC : Nat) (r : Int) (w : World) (R : Value → World → Prop) :
    F_slices_rotateRight sP sN sC r w (fun w1 => R (.tuple #[]) w1) = den Try.prog Try.f60.ntmps G_slices_rotateRight (codeOf Try.f60) [] (postD Try.prog Try.f60.results.toList R) (entry [.slice sP sN sC, .int .i64 r] 0) w := by kernel_rfl

theorem C_slices_rotateRight.of {sP : Option Addr} {sN : Nat} {sC : Nat} {r : Int} {w : World} {R : World → Prop} (h : F_slices_rotateRight sP sN sC r w R) : C_slices_rotateRight sP sN sC r w R := by
  refine (calls_of_den (c := codeOf Try.f60) seat_ok seat_mixed Try.func60 (by kernel_rfl) loops_slices_rotateRight (args := [.slice sP sN sC, .int .i64 r]) rfl (R := fun v w1 => v = (.tuple #[] : Value) ∧ R w1) ?_).mono ?_
  · rw [← den_slices_rotateRight]
    simpa using h
  · rintro en w1 ⟨v, he, rfl, h⟩
    exact ⟨he, h⟩

def F_slices_rotateLeft (sP : Option Addr) (sN : Nat) (sC : Nat) (r : Int) (w : World) (R : World → Prop) : Prop :=
  0 ≤ r ∧ r ≤ (sC : Int) ∧
  C_slices_Reverse sP r.toNat sC w fun w1 =>
  0 ≤ r ∧ r ≤ (sN : Int) ∧
  C_slices_Reverse (adv sP sC r.toNat 2) (sN - r.toNat) (sC - r.toNat) w1 fun w1_1 =>
  C_slices_Reverse sP sN sC w1_1 fun w1_2 =>
  R w1_2

def G_slices_rotateLeft : Gen where
  loop := lookL []
  plan := fun _ => none

theorem loops_slices_rotateLeft : LoopOk Try.prog Try.f61.ntmps G_slices_rotateLeft (codeOf Try.f61) := loopOk_none fun _ => rfl

theorem den_slices_rotateLeft (sP : Option Addr) (sN : Nat) (sC : Nat) (r : Int) (w : World) (R : Value → World → Prop) :
    F_slices_rotateLeft sP sN sC r w (fun w1 => R (.tuple #[]) w1) = den Try.prog Try.f61.ntmps G_slices_rotateLeft (codeOf Try.f61) [] (postD Try.prog Try.f61.results.toList R) (entry [.slice sP sN sC, .int .i64 r] 0) w := by kernel_rfl

theorem C_slices_rotateLeft.of {sP : Option Addr} {sN : Nat} {sC : Nat} {r : Int} {w : World} {R : World → Prop} (h : F_slices_rotateLeft sP sN sC r w R) : C_slices_rotateLeft sP sN sC r w R := by
  refine (calls_of_den (c := codeOf Try.f61) seat_ok seat_mixed Try.func61 (by kernel_rfl) loops_slices_rotateLeft (args := [.slice sP sN sC, .int .i64 r]) rfl (R := fun v w1 => v = (.tuple #[] : Value) ∧ R w1) ?_).mono ?_
  · rw [← den_slices_rotateLeft]
    simpa using h
  · rintro en w1 ⟨v, he, rfl, h⟩
    exact ⟨he, h⟩

structure S_slices_Reverse_L1 where
  i : Int
  j : Int

/-- One round. -/
def B_slices_Reverse_L1 (sP_1 : Option Addr) (sN_1 : Nat) (sC_1 : Nat) (s : S_slices_Reverse_L1) (w : World) (Kn : S_slices_Reverse_L1 → World → Prop) (Kx0 : World → Prop) : Prop :=
  If (decide ((s.i : Int) < (s.j : Int)))
  (0 ≤ (s.j : Int) ∧ (s.j : Int) < (sN_1 : Int) ∧ NN sP_1 fun a =>
  ∃ t210 : Int, (drw w).cell? ((a.add ((s.j : Int).toNat * 2)).add 0) = some (.int .i64 t210) ∧
  ∃ t211 : Int, (drw w).cell? ((a.add ((s.j : Int).toNat * 2)).add 1) = some (.int .i64 t211) ∧
  0 ≤ (s.i : Int) ∧ (s.i : Int) < (sN_1 : Int) ∧ NN sP_1 fun a_1 =>
  ∃ t250 : Int, (drw w).cell? ((a_1.add ((s.i : Int).toNat * 2)).add 0) = some (.int .i64 t250) ∧
  ∃ t251 : Int, (drw w).cell? ((a_1.add ((s.i : Int).toNat * 2)).add 1) = some (.int .i64 t251) ∧
  0 ≤ (s.i : Int) ∧ (s.i : Int) < (sN_1 : Int) ∧ NN sP_1 fun a_2 =>
  St (drw w) ((a_2.add ((s.i : Int).toNat * 2)).add 0) (.int .i64 t210) fun w1 =>
  St w1 ((a_2.add ((s.i : Int).toNat * 2)).add 1) (.int .i64 t211) fun w1_1 =>
  0 ≤ (s.j : Int) ∧ (s.j : Int) < (sN_1 : Int) ∧ NN sP_1 fun a_3 =>
  St w1_1 ((a_3.add ((s.j : Int).toNat * 2)).add 0) (.int .i64 t250) fun w1_2 =>
  St w1_2 ((a_3.add ((s.j : Int).toNat * 2)).add 1) (.int .i64 t251) fun w1_3 =>
  Kn ⟨(IntKind.i64.wrap ((s.i : Int) + (1 : Int))), (IntKind.i64.wrap ((s.j : Int) - (1 : Int)))⟩ w1_3)
  (Kx0 w)

def F_slices_Reverse_L1 (sP_1 : Option Addr) (sN_1 : Nat) (sC_1 : Nat) (s : S_slices_Reverse_L1) (w : World) (Kx0 : World → Prop) : Prop :=
  LoopS (fun s w Kn => B_slices_Reverse_L1 sP_1 sN_1 sC_1 s w Kn Kx0) s w

def F_slices_Reverse (sP : Option Addr) (sN : Nat) (sC : Nat) (w : World) (R : World → Prop) : Prop :=
  F_slices_Reverse_L1 sP sN sC ⟨(0 : Int), (IntKind.i64.wrap ((sN : Int) - (1 : Int)))⟩ w
  (fun w1_4 =>
  R w1_4)

def lit_slices_Reverse_L1 (f : (Option Addr) × Nat × Nat) (s : S_slices_Reverse_L1) : Env := [⟨0, .slice f.1 f.2.1 f.2.2, none⟩, ⟨2, .int .i64 s.i, none⟩, ⟨3, .int .i64 s.j, none⟩]

def dec_slices_Reverse_L1 (e : Env) (K : ((Option Addr) × Nat × Nat) → S_slices_Reverse_L1 → Prop) : Prop :=
  onV (getV e 0) fun u1 =>
  asS u1 fun sP_1 sN_1 sC_1 =>
  onV (getV e 2) fun u2 =>
  asI .i64 u2 fun i =>
  onV (getV e 3) fun u3 =>
  asI .i64 u3 fun j =>
    K (sP_1, sN_1, sC_1) ⟨i, j⟩

theorem dec_slices_Reverse_L1_ok {N : Nat} (e : Env) (a : Act) (K : ((Option Addr) × Nat × Nat) → S_slices_Reverse_L1 → Prop) (hr : Rep N a e) (h0 : dec_slices_Reverse_L1 e K) : ∃ f s, K f s ∧ Rep N a (lit_slices_Reverse_L1 f s) := by
  unfold dec_slices_Reverse_L1 at h0
  obtain ⟨u1, g0, h1⟩ := onV_elim h0
  obtain ⟨sP_1, sN_1, sC_1, rfl, h2⟩ := asS_elim h1
  obtain ⟨u2, g2, h3⟩ := onV_elim h2
  obtain ⟨i, rfl, h4⟩ := asI_elim h3
  obtain ⟨u3, g3, h5⟩ := onV_elim h4
  obtain ⟨j, rfl, h6⟩ := asI_elim h5
  exact ⟨_, _, h6, rep_less hr (by simp [lit_slices_Reverse_L1, g0, g2, g3])⟩

def spec_slices_Reverse_L1 (Q : Post) (e : Env) (w : World) : Prop :=
  dec_slices_Reverse_L1 e fun f s => F_slices_Reverse_L1 f.1 f.2.1 f.2.2 s w (fun w1 => Q (.exit 0) [] w1)

def G_slices_Reverse : Gen where
  loop := lookL [([false, true], spec_slices_Reverse_L1)]
  plan := fun id =>
    bif Nat.beq id 3 then some ([0, 0, 0, 0, 0, 0, 48, 112, 0, 0, 768, 1792, 4083, 8179, 16383, 32767], .take 0 (.take 1 (.take 2 (.take 3 (.take 4 (.take 5 (.take 6 (.take 7 (.take 8 (.take 9 (.take 10 (.take 11 (.take 12 (.take 13 (.take 14 (.take 15 .done)))))))))))))))) else none

def dx_slices_Reverse_L1_0 (e : Env) (K : ((Option Addr) × Nat × Nat) → Prop) : Prop :=
  onV (getV e 0) fun u1 =>
  asS u1 fun sP_1 sN_1 sC_1 =>
    K (sP_1, sN_1, sC_1)

theorem body_slices_Reverse_L1 (f : (Option Addr) × Nat × Nat) (s : S_slices_Reverse_L1) (w : World) (Kn : ((Option Addr) × Nat × Nat) → S_slices_Reverse_L1 → World → Prop) (Kx0 : ((Option Addr) × Nat × Nat) → World → Prop) :
    B_slices_Reverse_L1 f.1 f.2.1 f.2.2 s w (fun s1 w1 => Kn f s1 w1) (fun w1 => Kx0 f w1) =
    den Try.prog Try.f62.ntmps G_slices_Reverse (sub (codeOf Try.f62) [false, false, true]) [false, false, true] (roundQ (fun e w => dec_slices_Reverse_L1 e fun f s => Kn f s w) (fun e w => False) (fun id e w => match Nat.beq id 0 with | true => dx_slices_Reverse_L1_0 e fun f => Kx0 f w | false => False)) (lit_slices_Reverse_L1 f s) w := by kernel_rfl

theorem ok_slices_Reverse_L1 : OneOk Try.prog Try.f62.ntmps G_slices_Reverse (codeOf Try.f62) [false, true] spec_slices_Reverse_L1 := by
  intro c hc ih Q e w a hr h
  have hcc : sub (codeOf Try.f62) [false, false, true] = c := sub_of_codeAt hc
  obtain ⟨f, s, h, hrep⟩ := dec_slices_Reverse_L1_ok e a _ hr h
  obtain ⟨J, μ, hj, hround⟩ := h
  refine loop_rule_deep seat_ok seat_mixed ih lit_slices_Reverse_L1 dec_slices_Reverse_L1 dec_slices_Reverse_L1_ok hc f J μ (Kr := fun e w => False) (Kx := fun id e w => match Nat.beq id 0 with | true => (dx_slices_Reverse_L1_0 e fun f1 => f1 = f ∧ Q (.exit 0) [] w) | false => False) ?_ ?_ ?_ s w a hj hrep
  · intro e a w hr h
    exact h.elim
  · intro id e a w hr h0
    (try dsimp only at h0)
    split at h0
    · rename_i hid
      obtain rfl := Nat.eq_of_beq_eq_true hid
      unfold dx_slices_Reverse_L1_0 at h0
      obtain ⟨u1, g0, h1⟩ := onV_elim h0
      obtain ⟨sP_1, sN_1, sC_1, rfl, h2⟩ := asS_elim h1
      obtain ⟨hf, hq⟩ := h2
      subst hf
      exact ⟨_, rep_less hr (by simp), hq⟩
    · exact h0.elim
  · intro s w hj
    have hb := hround s w hj
    rw [← hcc]
    have e1 := body_slices_Reverse_L1 f s w (fun f1 s1 w1 => f1 = f ∧ J s1 w1 ∧ μ s1 w1 < μ s w) (fun f1 w1 => f1 = f ∧ Q (.exit 0) [] w1)
    simp only [true_and] at e1
    exact cast e1 hb

theorem loops_slices_Reverse : LoopOk Try.prog Try.f62.ntmps G_slices_Reverse (codeOf Try.f62) := loopOk_list rfl ⟨ok_slices_Reverse_L1, trivial⟩

theorem den_slices_Reverse (sP : Option Addr) (sN : Nat) (sC : Nat) (w : World) (R : Value → World → Prop) :
    F_slices_Reverse sP sN sC w (fun w1 => R (.tuple #[]) w1) = den Try.prog Try.f62.ntmps G_slices_Reverse (codeOf Try.f62) [] (postD Try.prog Try.f62.results.toList R) (entry [.slice sP sN sC] 0) w := by kernel_rfl

theorem C_slices_Reverse.of {sP : Option Addr} {sN : Nat} {sC : Nat} {w : World} {R : World → Prop} (h : F_slices_Reverse sP sN sC w R) : C_slices_Reverse sP sN sC w R := by
  refine (calls_of_den (c := codeOf Try.f62) seat_ok seat_mixed Try.func62 (by kernel_rfl) loops_slices_Reverse (args := [.slice sP sN sC]) rfl (R := fun v w1 => v = (.tuple #[] : Value) ∧ R w1) ?_).mono ?_
  · rw [← den_slices_Reverse]
    simpa using h
  · rintro en w1 ⟨v, he, rfl, h⟩
    exact ⟨he, h⟩

end Go.Proofs.Ytcgnligpjfhjlaa
