/- The formulas of this seat's functions, held against the loaded program by the kernel. Printed by a program. -/
import Derived.Test.YtcgnligpjfhjlaaGenC
set_option maxRecDepth 100000
set_option linter.unusedVariables false
namespace Go.Proofs.Ytcgnligpjfhjlaa
open Go Go.D Go.Proofs

def F_gosem_cut_init (w : World) (R : World → Prop) : Prop :=
  CallX Try.prog 1 [] w fun v w1 => v = (.tuple #[]) ∧
  R w1

def G_gosem_cut_init : Gen where
  loop := lookL []
  plan := fun _ => none

theorem loops_gosem_cut_init : LoopOk Try.prog Try.f2.ntmps G_gosem_cut_init (codeOf Try.f2) := loopOk_none fun _ => rfl

theorem den_gosem_cut_init  (w : World) (R : Value → World → Prop) :
    F_gosem_cut_init w (fun w1 => R (.tuple #[]) w1) = den Try.prog Try.f2.ntmps G_gosem_cut_init (codeOf Try.f2) [] (postD Try.prog Try.f2.results.toList R) (entry [] 0) w := by kernel_rfl

theorem C_gosem_cut_init.of {w : World} {R : World → Prop} (h : F_gosem_cut_init w R) : C_gosem_cut_init w R := by
  refine (calls_of_den (c := codeOf Try.f2) seat_ok seat_mixed Try.func2 (by kernel_rfl) loops_gosem_cut_init (args := []) rfl (R := fun v w1 => v = (.tuple #[] : Value) ∧ R w1) ?_).mono ?_
  · rw [← den_gosem_cut_init]
    simpa using h
  · rintro en w1 ⟨v, he, rfl, h⟩
    exact ⟨he, h⟩

structure S_law03_PoolOnce_L2 where
  k : Int

structure S_law03_PoolOnce_L3 where
  k_1 : Int

structure S_law03_PoolOnce_L4 where
  k_2 : Int

structure S_law03_PoolOnce_L1 where
  i : Int

structure S_law03_PoolOnce_L5 where
  k_3 : Int

def F_law03_PoolOnce_k1 (R : Bool → World → Prop) (w1_2 : World) : Prop :=
  R false w1_2

def F_law03_PoolOnce_k2 (Kr : Bool → World → Prop) (w1_10 : World) : Prop :=
  Kr false w1_10

def F_law03_PoolOnce_k3 (Kx5 : World → Prop) (w1_15 : World) : Prop :=
  Kx5 w1_15

def F_law03_PoolOnce_k4 (s : S_law03_PoolOnce_L1) (Kn : S_law03_PoolOnce_L1 → World → Prop) (w1_24 : World) : Prop :=
  Kn ⟨(IntKind.i64.wrap ((s.i : Int) + (1 : Int)))⟩ w1_24

def F_law03_PoolOnce_k5 (s : S_law03_PoolOnce_L5) (Kn : S_law03_PoolOnce_L5 → World → Prop) (Kr : Bool → World → Prop) (t166 : Bool) (w1_29 : World) : Prop :=
  If t166
  (Kr false w1_29)
  (Kn ⟨(IntKind.i64.wrap ((s.k_3 : Int) + (1 : Int)))⟩ w1_29)

/-- One round. -/
def B_law03_PoolOnce_L2 (lP_2 : Option Addr) (lN_2 : Nat) (lC_2 : Nat) (p_1 : Option Addr) (heldx_1 : Addr) (i_1 : Int) (o : Addr) (atx : Int) (s : S_law03_PoolOnce_L2) (w : World) (Kn : S_law03_PoolOnce_L2 → World → Prop) (Kx3 : World → Prop) (Kr : Bool → World → Prop) : Prop :=
  ∃ N_2 : Int, w.cell? (o.add 2) = some (.int .i64 N_2) ∧
  If (decide ((s.k : Int) < (IntKind.i64.wrap (atx + N_2))))
  (0 ≤ (s.k : Int) ∧ (s.k : Int) < ((400 : Nat) : Int) ∧
  ∃ t93 : Bool, w.cell? (heldx_1.add ((s.k : Int).toNat * 1)) = some (.bool t93) ∧
  If t93
  (Kr false w)
  (0 ≤ (s.k : Int) ∧ (s.k : Int) < ((400 : Nat) : Int) ∧
  St w ((heldx_1.add ((s.k : Int).toNat * 1)).add 0) (.bool true) fun w1_11 =>
  Kn ⟨(IntKind.i64.wrap ((s.k : Int) + (1 : Int)))⟩ w1_11))
  (Kx3 w)

def F_law03_PoolOnce_L2 (lP_2 : Option Addr) (lN_2 : Nat) (lC_2 : Nat) (p_1 : Option Addr) (heldx_1 : Addr) (i_1 : Int) (o : Addr) (atx : Int) (s : S_law03_PoolOnce_L2) (w : World) (Kx3 : World → Prop) (Kr : Bool → World → Prop) : Prop :=
  LoopS (fun s w Kn => B_law03_PoolOnce_L2 lP_2 lN_2 lC_2 p_1 heldx_1 i_1 o atx s w Kn Kx3 Kr) s w

/-- One round. -/
def B_law03_PoolOnce_L3 (lP_3 : Option Addr) (lN_3 : Nat) (lC_3 : Nat) (p_2 : Option Addr) (heldx_2 : Addr) (i_2 : Int) (o_1 : Addr) (s : S_law03_PoolOnce_L3) (w : World) (Kn : S_law03_PoolOnce_L3 → World → Prop) (Kx5 : World → Prop) : Prop :=
  ∃ At_2 : Int, w.cell? (o_1.add 1) = some (.int .i64 At_2) ∧
  ∃ N_4 : Int, w.cell? (o_1.add 2) = some (.int .i64 N_4) ∧
  If (decide ((s.k_1 : Int) < (IntKind.i64.wrap (At_2 + N_4))))
  (If (decide ((s.k_1 : Int) ≥ (0 : Int)))
  (If (decide ((s.k_1 : Int) < (400 : Int)))
  (0 ≤ (s.k_1 : Int) ∧ (s.k_1 : Int) < ((400 : Nat) : Int) ∧
  St w ((heldx_2.add ((s.k_1 : Int).toNat * 1)).add 0) (.bool false) fun w1_16 =>
  Kn ⟨(IntKind.i64.wrap ((s.k_1 : Int) + (1 : Int)))⟩ w1_16)
  (Kx5 w))
  (F_law03_PoolOnce_k3 Kx5 w))
  (F_law03_PoolOnce_k3 Kx5 w)

def F_law03_PoolOnce_L3 (lP_3 : Option Addr) (lN_3 : Nat) (lC_3 : Nat) (p_2 : Option Addr) (heldx_2 : Addr) (i_2 : Int) (o_1 : Addr) (s : S_law03_PoolOnce_L3) (w : World) (Kx5 : World → Prop) : Prop :=
  LoopS (fun s w Kn => B_law03_PoolOnce_L3 lP_3 lN_3 lC_3 p_2 heldx_2 i_2 o_1 s w Kn Kx5) s w

/-- One round. -/
def B_law03_PoolOnce_L4 (lP_4 : Option Addr) (lN_4 : Nat) (lC_4 : Nat) (p_3 : Option Addr) (heldx_3 : Addr) (i_3 : Int) (s : S_law03_PoolOnce_L4) (w : World) (Kn : S_law03_PoolOnce_L4 → World → Prop) (Kx7 : World → Prop) : Prop :=
  If (decide ((s.k_2 : Int) < (400 : Int)))
  (If (decide ((s.k_2 : Int) ≥ (0 : Int)))
  (0 ≤ (s.k_2 : Int) ∧ (s.k_2 : Int) < ((400 : Nat) : Int) ∧
  St w ((heldx_3.add ((s.k_2 : Int).toNat * 1)).add 0) (.bool false) fun w1_22 =>
  Kn ⟨(IntKind.i64.wrap ((s.k_2 : Int) + (1 : Int)))⟩ w1_22)
  (Kx7 w))
  (Kx7 w)

def F_law03_PoolOnce_L4 (lP_4 : Option Addr) (lN_4 : Nat) (lC_4 : Nat) (p_3 : Option Addr) (heldx_3 : Addr) (i_3 : Int) (s : S_law03_PoolOnce_L4) (w : World) (Kx7 : World → Prop) : Prop :=
  LoopS (fun s w Kn => B_law03_PoolOnce_L4 lP_4 lN_4 lC_4 p_3 heldx_3 i_3 s w Kn Kx7) s w

/-- One round. -/
def B_law03_PoolOnce_L1 (lP_1 : Option Addr) (lN_1 : Nat) (lC_1 : Nat) (p : Option Addr) (heldx : Addr) (s : S_law03_PoolOnce_L1) (w : World) (Kn : S_law03_PoolOnce_L1 → World → Prop) (Kx0 : World → Prop) (Kr : Bool → World → Prop) : Prop :=
  If (decide ((s.i : Int) < (lN_1 : Int)))
  (If (decide ((s.i : Int) < (60 : Int)))
  (0 ≤ (s.i : Int) ∧ (s.i : Int) < (lN_1 : Int) ∧ NN lP_1 fun a =>
  ∃ t420 : Int, w.cell? ((a.add ((s.i : Int).toNat * 3)).add 0) = some (.int .i64 t420) ∧
  ∃ t421 : Int, w.cell? ((a.add ((s.i : Int).toNat * 3)).add 1) = some (.int .i64 t421) ∧
  ∃ t422 : Int, w.cell? ((a.add ((s.i : Int).toNat * 3)).add 2) = some (.int .i64 t422) ∧
  New w (.cells #[.int .i64 0, .int .i64 0, .int .i64 0] 30) fun r_1 w1_4 =>
  St w1_4 ((⟨r_1, 0, none⟩ : Addr).add 0) (.int .i64 t420) fun w1_5 =>
  St w1_5 ((⟨r_1, 0, none⟩ : Addr).add 1) (.int .i64 t421) fun w1_6 =>
  St w1_6 ((⟨r_1, 0, none⟩ : Addr).add 2) (.int .i64 t422) fun w1_7 =>
  ∃ Kind : Int, w1_7.cell? ((⟨r_1, 0, none⟩ : Addr).add 0) = some (.int .i64 Kind) ∧
  If (Kind == (1 : Int))
  (∃ N : Int, w1_7.cell? ((⟨r_1, 0, none⟩ : Addr).add 2) = some (.int .i64 N) ∧
  C_pool_Pool_Take p N w1_7 fun t510 t511 w1_8 =>
  If (t511 != (0 : Int))
  (F_law03_PoolOnce_k4 s Kn w1_8)
  (C_pool_Pool_Starts p w1_8 fun t57P t57N t57C w1_9 =>
  If (decide (t510 < (0 : Int)))
  (F_law03_PoolOnce_k2 Kr w1_9)
  (∃ N_1 : Int, w1_9.cell? ((⟨r_1, 0, none⟩ : Addr).add 2) = some (.int .i64 N_1) ∧
  If (decide (N_1 > (IntKind.i64.wrap ((400 : Int) - t510))))
  (F_law03_PoolOnce_k2 Kr w1_9)
  (If ((t57N : Int) == (0 : Int))
  (F_law03_PoolOnce_k2 Kr w1_9)
  (0 ≤ (IntKind.i64.wrap ((t57N : Int) - (1 : Int))) ∧ (IntKind.i64.wrap ((t57N : Int) - (1 : Int))) < (t57N : Int) ∧ NN t57P fun a_1 =>
  ∃ t79 : Int, w1_9.cell? (a_1.add ((IntKind.i64.wrap ((t57N : Int) - (1 : Int))).toNat * 1)) = some (.int .i64 t79) ∧
  If (decide (t510 < t79))
  (Kr false w1_9)
  (F_law03_PoolOnce_L2 lP_1 lN_1 lC_1 p heldx (s.i : Int) ⟨r_1, 0, none⟩ t510 ⟨t510⟩ w1_9
  (fun w1_12 =>
  F_law03_PoolOnce_k4 s Kn w1_12)
  (fun t2_2 w1_13 =>
  Kr t2_2 w1_13)))))))
  (If (Kind == (2 : Int))
  (∃ At : Int, w1_7.cell? ((⟨r_1, 0, none⟩ : Addr).add 1) = some (.int .i64 At) ∧
  ∃ N_3 : Int, w1_7.cell? ((⟨r_1, 0, none⟩ : Addr).add 2) = some (.int .i64 N_3) ∧
  C_pool_Pool_Give p At N_3 w1_7 fun t103 w1_14 =>
  If (t103 == (0 : Int))
  (∃ At_1 : Int, w1_14.cell? ((⟨r_1, 0, none⟩ : Addr).add 1) = some (.int .i64 At_1) ∧
  F_law03_PoolOnce_L3 lP_1 lN_1 lC_1 p heldx (s.i : Int) ⟨r_1, 0, none⟩ ⟨At_1⟩ w1_14
  (fun w1_17 =>
  F_law03_PoolOnce_k4 s Kn w1_17))
  (F_law03_PoolOnce_k4 s Kn w1_14))
  (If (Kind == (3 : Int))
  (C_pool_Pool_Open p w1_7 fun t129 w1_18 =>
  F_law03_PoolOnce_k4 s Kn w1_18)
  (If (Kind == (4 : Int))
  (C_pool_Pool_Close p w1_7 fun t133 w1_19 =>
  F_law03_PoolOnce_k4 s Kn w1_19)
  (If (Kind == (5 : Int))
  (C_pool_Pool_Back p w1_7 fun t137 w1_20 =>
  C_pool_Pool_Top p w1_20 fun t139 w1_21 =>
  F_law03_PoolOnce_L4 lP_1 lN_1 lC_1 p heldx (s.i : Int) ⟨t139⟩ w1_21
  (fun w1_23 =>
  F_law03_PoolOnce_k4 s Kn w1_23))
  (F_law03_PoolOnce_k4 s Kn w1_7))))))
  (Kx0 w))
  (Kx0 w)

def F_law03_PoolOnce_L1 (lP_1 : Option Addr) (lN_1 : Nat) (lC_1 : Nat) (p : Option Addr) (heldx : Addr) (s : S_law03_PoolOnce_L1) (w : World) (Kx0 : World → Prop) (Kr : Bool → World → Prop) : Prop :=
  LoopS (fun s w Kn => B_law03_PoolOnce_L1 lP_1 lN_1 lC_1 p heldx s w Kn Kx0 Kr) s w

/-- One round. -/
def B_law03_PoolOnce_L5 (p_4 : Option Addr) (heldx_4 : Addr) (s : S_law03_PoolOnce_L5) (w : World) (Kn : S_law03_PoolOnce_L5 → World → Prop) (Kx9 : World → Prop) (Kr : Bool → World → Prop) : Prop :=
  If (decide ((s.k_3 : Int) < (400 : Int)))
  (0 ≤ (s.k_3 : Int) ∧ (s.k_3 : Int) < ((400 : Nat) : Int) ∧
  ∃ t156 : Bool, (drw w).cell? (heldx_4.add ((s.k_3 : Int).toNat * 1)) = some (.bool t156) ∧
  C_pool_Pool_Top p_4 (drw w) fun t159 w1_27 =>
  w1_27.cell? (heldx_4.add ((s.k_3 : Int).toNat * 1)) = (drw w).cell? (heldx_4.add ((s.k_3 : Int).toNat * 1)) ∧
  If (decide ((s.k_3 : Int) ≥ t159))
  (F_law03_PoolOnce_k5 s Kn Kr (t156 == true) w1_27)
  (C_pool_Pool_Free p_4 (s.k_3 : Int) w1_27 fun t164 w1_28 =>
  w1_28.cell? (heldx_4.add ((s.k_3 : Int).toNat * 1)) = (drw w).cell? (heldx_4.add ((s.k_3 : Int).toNat * 1)) ∧
  F_law03_PoolOnce_k5 s Kn Kr (t156 == t164) w1_28))
  (Kx9 w)

def F_law03_PoolOnce_L5 (p_4 : Option Addr) (heldx_4 : Addr) (s : S_law03_PoolOnce_L5) (w : World) (Kx9 : World → Prop) (Kr : Bool → World → Prop) : Prop :=
  LoopS (fun s w Kn => B_law03_PoolOnce_L5 p_4 heldx_4 s w Kn Kx9 Kr) s w

def F_law03_PoolOnce (lP : Option Addr) (lN : Nat) (lC : Nat) (w : World) (R : Bool → World → Prop) : Prop :=
  C_pool_New (400 : Int) w fun t160 t161 w1 =>
  C_law03_lives  w1 fun t19 w1_1 =>
  If (!t19)
  (F_law03_PoolOnce_k1 R w1_1)
  (If (t161 != (0 : Int))
  (F_law03_PoolOnce_k1 R w1_1)
  (If t160.isNone
  (R false w1_1)
  (New w1_1 (.cells #[.bool false, .bool false, .bool false, .bool false, .bool false, .bool false, .bool false, .bool false, .bool false, .bool false, .bool false, .bool false, .bool false, .bool false, .bool false, .bool false, .bool false, .bool false, .bool false, .bool false, .bool false, .bool false, .bool false, .bool false, .bool false, .bool false, .bool false, .bool false, .bool false, .bool false, .bool false, .bool false, .bool false, .bool false, .bool false, .bool false, .bool false, .bool false, .bool false, .bool false, .bool false, .bool false, .bool false, .bool false, .bool false, .bool false, .bool false, .bool false, .bool false, .bool false, .bool false, .bool false, .bool false, .bool false, .bool false, .bool false, .bool false, .bool false, .bool false, .bool false, .bool false, .bool false, .bool false, .bool false, .bool false, .bool false, .bool false, .bool false, .bool false, .bool false, .bool false, .bool false, .bool false, .bool false, .bool false, .bool false, .bool false, .bool false, .bool false, .bool false, .bool false, .bool false, .bool false, .bool false, .bool false, .bool false, .bool false, .bool false, .bool false, .bool false, .bool false, .bool false, .bool false, .bool false, .bool false, .bool false, .bool false, .bool false, .bool false, .bool false, .bool false, .bool false, .bool false, .bool false, .bool false, .bool false, .bool false, .bool false, .bool false, .bool false, .bool false, .bool false, .bool false, .bool false, .bool false, .bool false, .bool false, .bool false, .bool false, .bool false, .bool false, .bool false, .bool false, .bool false, .bool false, .bool false, .bool false, .bool false, .bool false, .bool false, .bool false, .bool false, .bool false, .bool false, .bool false, .bool false, .bool false, .bool false, .bool false, .bool false, .bool false, .bool false, .bool false, .bool false, .bool false, .bool false, .bool false, .bool false, .bool false, .bool false, .bool false, .bool false, .bool false, .bool false, .bool false, .bool false, .bool false, .bool false, .bool false, .bool false, .bool false, .bool false, .bool false, .bool false, .bool false, .bool false, .bool false, .bool false, .bool false, .bool false, .bool false, .bool false, .bool false, .bool false, .bool false, .bool false, .bool false, .bool false, .bool false, .bool false, .bool false, .bool false, .bool false, .bool false, .bool false, .bool false, .bool false, .bool false, .bool false, .bool false, .bool false, .bool false, .bool false, .bool false, .bool false, .bool false, .bool false, .bool false, .bool false, .bool false, .bool false, .bool false, .bool false, .bool false, .bool false, .bool false, .bool false, .bool false, .bool false, .bool false, .bool false, .bool false, .bool false, .bool false, .bool false, .bool false, .bool false, .bool false, .bool false, .bool false, .bool false, .bool false, .bool false, .bool false, .bool false, .bool false, .bool false, .bool false, .bool false, .bool false, .bool false, .bool false, .bool false, .bool false, .bool false, .bool false, .bool false, .bool false, .bool false, .bool false, .bool false, .bool false, .bool false, .bool false, .bool false, .bool false, .bool false, .bool false, .bool false, .bool false, .bool false, .bool false, .bool false, .bool false, .bool false, .bool false, .bool false, .bool false, .bool false, .bool false, .bool false, .bool false, .bool false, .bool false, .bool false, .bool false, .bool false, .bool false, .bool false, .bool false, .bool false, .bool false, .bool false, .bool false, .bool false, .bool false, .bool false, .bool false, .bool false, .bool false, .bool false, .bool false, .bool false, .bool false, .bool false, .bool false, .bool false, .bool false, .bool false, .bool false, .bool false, .bool false, .bool false, .bool false, .bool false, .bool false, .bool false, .bool false, .bool false, .bool false, .bool false, .bool false, .bool false, .bool false, .bool false, .bool false, .bool false, .bool false, .bool false, .bool false, .bool false, .bool false, .bool false, .bool false, .bool false, .bool false, .bool false, .bool false, .bool false, .bool false, .bool false, .bool false, .bool false, .bool false, .bool false, .bool false, .bool false, .bool false, .bool false, .bool false, .bool false, .bool false, .bool false, .bool false, .bool false, .bool false, .bool false, .bool false, .bool false, .bool false, .bool false, .bool false, .bool false, .bool false, .bool false, .bool false, .bool false, .bool false, .bool false, .bool false, .bool false, .bool false, .bool false, .bool false, .bool false, .bool false, .bool false, .bool false, .bool false, .bool false, .bool false, .bool false, .bool false, .bool false, .bool false, .bool false, .bool false, .bool false, .bool false, .bool false, .bool false, .bool false, .bool false, .bool false, .bool false, .bool false, .bool false, .bool false, .bool false, .bool false, .bool false, .bool false, .bool false, .bool false, .bool false, .bool false, .bool false, .bool false, .bool false, .bool false, .bool false, .bool false, .bool false, .bool false, .bool false, .bool false, .bool false, .bool false, .bool false, .bool false] 28) fun r w1_3 =>
  F_law03_PoolOnce_L1 lP lN lC t160 ⟨r, 0, none⟩ ⟨(0 : Int)⟩ w1_3
  (fun w1_25 =>
  F_law03_PoolOnce_L5 t160 ⟨r, 0, none⟩ ⟨(0 : Int)⟩ w1_25
  (fun w1_30 =>
  R true w1_30)
  (fun t2_5 w1_31 =>
  R t2_5 w1_31))
  (fun t2_3 w1_26 =>
  R t2_3 w1_26))))

def lit_law03_PoolOnce_L1 (f : (Option Addr) × Nat × Nat × (Option Addr) × Addr) (s : S_law03_PoolOnce_L1) : Env := [⟨0, .slice f.1 f.2.1 f.2.2.1, none⟩, ⟨3, .pointer f.2.2.2.1, none⟩, ⟨5, .pointer (some f.2.2.2.2), none⟩, ⟨6, .int .i64 s.i, none⟩]

def dec_law03_PoolOnce_L1 (e : Env) (K : ((Option Addr) × Nat × Nat × (Option Addr) × Addr) → S_law03_PoolOnce_L1 → Prop) : Prop :=
  onV (getV e 0) fun u1 =>
  asS u1 fun lP_1 lN_1 lC_1 =>
  onV (getV e 3) fun u2 =>
  asP u2 fun p =>
  onV (getV e 5) fun u3 =>
  asA u3 fun heldx =>
  onV (getV e 6) fun u4 =>
  asI .i64 u4 fun i =>
    K (lP_1, lN_1, lC_1, p, heldx) ⟨i⟩

theorem dec_law03_PoolOnce_L1_ok {N : Nat} (e : Env) (a : Act) (K : ((Option Addr) × Nat × Nat × (Option Addr) × Addr) → S_law03_PoolOnce_L1 → Prop) (hr : Rep N a e) (h0 : dec_law03_PoolOnce_L1 e K) : ∃ f s, K f s ∧ Rep N a (lit_law03_PoolOnce_L1 f s) := by
  unfold dec_law03_PoolOnce_L1 at h0
  obtain ⟨u1, g0, h1⟩ := onV_elim h0
  obtain ⟨lP_1, lN_1, lC_1, rfl, h2⟩ := asS_elim h1
  obtain ⟨u2, g3, h3⟩ := onV_elim h2
  obtain ⟨p, rfl, h4⟩ := asP_elim h3
  obtain ⟨u3, g5, h5⟩ := onV_elim h4
  obtain ⟨heldx, rfl, h6⟩ := asA_elim h5
  obtain ⟨u4, g6, h7⟩ := onV_elim h6
  obtain ⟨i, rfl, h8⟩ := asI_elim h7
  exact ⟨_, _, h8, rep_less hr (by simp [lit_law03_PoolOnce_L1, g0, g3, g5, g6])⟩

def spec_law03_PoolOnce_L1 (Q : Post) (e : Env) (w : World) : Prop :=
  dec_law03_PoolOnce_L1 e fun f s => F_law03_PoolOnce_L1 f.1 f.2.1 f.2.2.1 f.2.2.2.1 f.2.2.2.2 s w (fun w1 => Q (.exit 0) [⟨3, .pointer f.2.2.2.1, none⟩, ⟨5, .pointer (some f.2.2.2.2), none⟩] w1) (fun t2 w1 => Q .ret [⟨2, .bool t2, none⟩] w1)

def lit_law03_PoolOnce_L2 (f : (Option Addr) × Nat × Nat × (Option Addr) × Addr × Int × Addr × Int) (s : S_law03_PoolOnce_L2) : Env := [⟨0, .slice f.1 f.2.1 f.2.2.1, none⟩, ⟨3, .pointer f.2.2.2.1, none⟩, ⟨5, .pointer (some f.2.2.2.2.1), none⟩, ⟨6, .int .i64 f.2.2.2.2.2.1, none⟩, ⟨7, .pointer (some f.2.2.2.2.2.2.1), none⟩, ⟨8, .int .i64 f.2.2.2.2.2.2.2, none⟩, ⟨11, .int .i64 s.k, none⟩]

def dec_law03_PoolOnce_L2 (e : Env) (K : ((Option Addr) × Nat × Nat × (Option Addr) × Addr × Int × Addr × Int) → S_law03_PoolOnce_L2 → Prop) : Prop :=
  onV (getV e 0) fun u1 =>
  asS u1 fun lP_2 lN_2 lC_2 =>
  onV (getV e 3) fun u2 =>
  asP u2 fun p_1 =>
  onV (getV e 5) fun u3 =>
  asA u3 fun heldx_1 =>
  onV (getV e 6) fun u4 =>
  asI .i64 u4 fun i_1 =>
  onV (getV e 7) fun u5 =>
  asA u5 fun o =>
  onV (getV e 8) fun u6 =>
  asI .i64 u6 fun atx =>
  onV (getV e 11) fun u7 =>
  asI .i64 u7 fun k =>
    K (lP_2, lN_2, lC_2, p_1, heldx_1, i_1, o, atx) ⟨k⟩

theorem dec_law03_PoolOnce_L2_ok {N : Nat} (e : Env) (a : Act) (K : ((Option Addr) × Nat × Nat × (Option Addr) × Addr × Int × Addr × Int) → S_law03_PoolOnce_L2 → Prop) (hr : Rep N a e) (h0 : dec_law03_PoolOnce_L2 e K) : ∃ f s, K f s ∧ Rep N a (lit_law03_PoolOnce_L2 f s) := by
  unfold dec_law03_PoolOnce_L2 at h0
  obtain ⟨u1, g0, h1⟩ := onV_elim h0
  obtain ⟨lP_2, lN_2, lC_2, rfl, h2⟩ := asS_elim h1
  obtain ⟨u2, g3, h3⟩ := onV_elim h2
  obtain ⟨p_1, rfl, h4⟩ := asP_elim h3
  obtain ⟨u3, g5, h5⟩ := onV_elim h4
  obtain ⟨heldx_1, rfl, h6⟩ := asA_elim h5
  obtain ⟨u4, g6, h7⟩ := onV_elim h6
  obtain ⟨i_1, rfl, h8⟩ := asI_elim h7
  obtain ⟨u5, g7, h9⟩ := onV_elim h8
  obtain ⟨o, rfl, h10⟩ := asA_elim h9
  obtain ⟨u6, g8, h11⟩ := onV_elim h10
  obtain ⟨atx, rfl, h12⟩ := asI_elim h11
  obtain ⟨u7, g11, h13⟩ := onV_elim h12
  obtain ⟨k, rfl, h14⟩ := asI_elim h13
  exact ⟨_, _, h14, rep_less hr (by simp [lit_law03_PoolOnce_L2, g0, g3, g5, g6, g7, g8, g11])⟩

def spec_law03_PoolOnce_L2 (Q : Post) (e : Env) (w : World) : Prop :=
  dec_law03_PoolOnce_L2 e fun f s => F_law03_PoolOnce_L2 f.1 f.2.1 f.2.2.1 f.2.2.2.1 f.2.2.2.2.1 f.2.2.2.2.2.1 f.2.2.2.2.2.2.1 f.2.2.2.2.2.2.2 s w (fun w1 => Q (.exit 3) [⟨0, .slice f.1 f.2.1 f.2.2.1, none⟩, ⟨3, .pointer f.2.2.2.1, none⟩, ⟨5, .pointer (some f.2.2.2.2.1), none⟩, ⟨6, .int .i64 f.2.2.2.2.2.1, none⟩] w1) (fun t2_1 w1 => Q .ret [⟨0, .slice f.1 f.2.1 f.2.2.1, none⟩, ⟨3, .pointer f.2.2.2.1, none⟩, ⟨5, .pointer (some f.2.2.2.2.1), none⟩, ⟨2, .bool t2_1, none⟩] w1)

def lit_law03_PoolOnce_L3 (f : (Option Addr) × Nat × Nat × (Option Addr) × Addr × Int × Addr) (s : S_law03_PoolOnce_L3) : Env := [⟨0, .slice f.1 f.2.1 f.2.2.1, none⟩, ⟨3, .pointer f.2.2.2.1, none⟩, ⟨5, .pointer (some f.2.2.2.2.1), none⟩, ⟨6, .int .i64 f.2.2.2.2.2.1, none⟩, ⟨7, .pointer (some f.2.2.2.2.2.2), none⟩, ⟨12, .int .i64 s.k_1, none⟩]

def dec_law03_PoolOnce_L3 (e : Env) (K : ((Option Addr) × Nat × Nat × (Option Addr) × Addr × Int × Addr) → S_law03_PoolOnce_L3 → Prop) : Prop :=
  onV (getV e 0) fun u1 =>
  asS u1 fun lP_3 lN_3 lC_3 =>
  onV (getV e 3) fun u2 =>
  asP u2 fun p_2 =>
  onV (getV e 5) fun u3 =>
  asA u3 fun heldx_2 =>
  onV (getV e 6) fun u4 =>
  asI .i64 u4 fun i_2 =>
  onV (getV e 7) fun u5 =>
  asA u5 fun o_1 =>
  onV (getV e 12) fun u6 =>
  asI .i64 u6 fun k_1 =>
    K (lP_3, lN_3, lC_3, p_2, heldx_2, i_2, o_1) ⟨k_1⟩

theorem dec_law03_PoolOnce_L3_ok {N : Nat} (e : Env) (a : Act) (K : ((Option Addr) × Nat × Nat × (Option Addr) × Addr × Int × Addr) → S_law03_PoolOnce_L3 → Prop) (hr : Rep N a e) (h0 : dec_law03_PoolOnce_L3 e K) : ∃ f s, K f s ∧ Rep N a (lit_law03_PoolOnce_L3 f s) := by
  unfold dec_law03_PoolOnce_L3 at h0
  obtain ⟨u1, g0, h1⟩ := onV_elim h0
  obtain ⟨lP_3, lN_3, lC_3, rfl, h2⟩ := asS_elim h1
  obtain ⟨u2, g3, h3⟩ := onV_elim h2
  obtain ⟨p_2, rfl, h4⟩ := asP_elim h3
  obtain ⟨u3, g5, h5⟩ := onV_elim h4
  obtain ⟨heldx_2, rfl, h6⟩ := asA_elim h5
  obtain ⟨u4, g6, h7⟩ := onV_elim h6
  obtain ⟨i_2, rfl, h8⟩ := asI_elim h7
  obtain ⟨u5, g7, h9⟩ := onV_elim h8
  obtain ⟨o_1, rfl, h10⟩ := asA_elim h9
  obtain ⟨u6, g12, h11⟩ := onV_elim h10
  obtain ⟨k_1, rfl, h12⟩ := asI_elim h11
  exact ⟨_, _, h12, rep_less hr (by simp [lit_law03_PoolOnce_L3, g0, g3, g5, g6, g7, g12])⟩

def spec_law03_PoolOnce_L3 (Q : Post) (e : Env) (w : World) : Prop :=
  dec_law03_PoolOnce_L3 e fun f s => F_law03_PoolOnce_L3 f.1 f.2.1 f.2.2.1 f.2.2.2.1 f.2.2.2.2.1 f.2.2.2.2.2.1 f.2.2.2.2.2.2 s w (fun w1 => Q (.exit 5) [⟨0, .slice f.1 f.2.1 f.2.2.1, none⟩, ⟨3, .pointer f.2.2.2.1, none⟩, ⟨5, .pointer (some f.2.2.2.2.1), none⟩, ⟨6, .int .i64 f.2.2.2.2.2.1, none⟩] w1)

def lit_law03_PoolOnce_L4 (f : (Option Addr) × Nat × Nat × (Option Addr) × Addr × Int) (s : S_law03_PoolOnce_L4) : Env := [⟨0, .slice f.1 f.2.1 f.2.2.1, none⟩, ⟨3, .pointer f.2.2.2.1, none⟩, ⟨5, .pointer (some f.2.2.2.2.1), none⟩, ⟨6, .int .i64 f.2.2.2.2.2, none⟩, ⟨13, .int .i64 s.k_2, none⟩]

def dec_law03_PoolOnce_L4 (e : Env) (K : ((Option Addr) × Nat × Nat × (Option Addr) × Addr × Int) → S_law03_PoolOnce_L4 → Prop) : Prop :=
  onV (getV e 0) fun u1 =>
  asS u1 fun lP_4 lN_4 lC_4 =>
  onV (getV e 3) fun u2 =>
  asP u2 fun p_3 =>
  onV (getV e 5) fun u3 =>
  asA u3 fun heldx_3 =>
  onV (getV e 6) fun u4 =>
  asI .i64 u4 fun i_3 =>
  onV (getV e 13) fun u5 =>
  asI .i64 u5 fun k_2 =>
    K (lP_4, lN_4, lC_4, p_3, heldx_3, i_3) ⟨k_2⟩

theorem dec_law03_PoolOnce_L4_ok {N : Nat} (e : Env) (a : Act) (K : ((Option Addr) × Nat × Nat × (Option Addr) × Addr × Int) → S_law03_PoolOnce_L4 → Prop) (hr : Rep N a e) (h0 : dec_law03_PoolOnce_L4 e K) : ∃ f s, K f s ∧ Rep N a (lit_law03_PoolOnce_L4 f s) := by
  unfold dec_law03_PoolOnce_L4 at h0
  obtain ⟨u1, g0, h1⟩ := onV_elim h0
  obtain ⟨lP_4, lN_4, lC_4, rfl, h2⟩ := asS_elim h1
  obtain ⟨u2, g3, h3⟩ := onV_elim h2
  obtain ⟨p_3, rfl, h4⟩ := asP_elim h3
  obtain ⟨u3, g5, h5⟩ := onV_elim h4
  obtain ⟨heldx_3, rfl, h6⟩ := asA_elim h5
  obtain ⟨u4, g6, h7⟩ := onV_elim h6
  obtain ⟨i_3, rfl, h8⟩ := asI_elim h7
  obtain ⟨u5, g13, h9⟩ := onV_elim h8
  obtain ⟨k_2, rfl, h10⟩ := asI_elim h9
  exact ⟨_, _, h10, rep_less hr (by simp [lit_law03_PoolOnce_L4, g0, g3, g5, g6, g13])⟩

def spec_law03_PoolOnce_L4 (Q : Post) (e : Env) (w : World) : Prop :=
  dec_law03_PoolOnce_L4 e fun f s => F_law03_PoolOnce_L4 f.1 f.2.1 f.2.2.1 f.2.2.2.1 f.2.2.2.2.1 f.2.2.2.2.2 s w (fun w1 => Q (.exit 7) [⟨0, .slice f.1 f.2.1 f.2.2.1, none⟩, ⟨3, .pointer f.2.2.2.1, none⟩, ⟨5, .pointer (some f.2.2.2.2.1), none⟩, ⟨6, .int .i64 f.2.2.2.2.2, none⟩] w1)

def lit_law03_PoolOnce_L5 (f : (Option Addr) × Addr) (s : S_law03_PoolOnce_L5) : Env := [⟨3, .pointer f.1, none⟩, ⟨5, .pointer (some f.2), none⟩, ⟨14, .int .i64 s.k_3, none⟩]

def dec_law03_PoolOnce_L5 (e : Env) (K : ((Option Addr) × Addr) → S_law03_PoolOnce_L5 → Prop) : Prop :=
  onV (getV e 3) fun u1 =>
  asP u1 fun p_4 =>
  onV (getV e 5) fun u2 =>
  asA u2 fun heldx_4 =>
  onV (getV e 14) fun u3 =>
  asI .i64 u3 fun k_3 =>
    K (p_4, heldx_4) ⟨k_3⟩

theorem dec_law03_PoolOnce_L5_ok {N : Nat} (e : Env) (a : Act) (K : ((Option Addr) × Addr) → S_law03_PoolOnce_L5 → Prop) (hr : Rep N a e) (h0 : dec_law03_PoolOnce_L5 e K) : ∃ f s, K f s ∧ Rep N a (lit_law03_PoolOnce_L5 f s) := by
  unfold dec_law03_PoolOnce_L5 at h0
  obtain ⟨u1, g3, h1⟩ := onV_elim h0
  obtain ⟨p_4, rfl, h2⟩ := asP_elim h1
  obtain ⟨u2, g5, h3⟩ := onV_elim h2
  obtain ⟨heldx_4, rfl, h4⟩ := asA_elim h3
  obtain ⟨u3, g14, h5⟩ := onV_elim h4
  obtain ⟨k_3, rfl, h6⟩ := asI_elim h5
  exact ⟨_, _, h6, rep_less hr (by simp [lit_law03_PoolOnce_L5, g3, g5, g14])⟩

def spec_law03_PoolOnce_L5 (Q : Post) (e : Env) (w : World) : Prop :=
  dec_law03_PoolOnce_L5 e fun f s => F_law03_PoolOnce_L5 f.1 f.2 s w (fun w1 => Q (.exit 9) [] w1) (fun t2_4 w1 => Q .ret [⟨2, .bool t2_4, none⟩] w1)

def G_law03_PoolOnce : Gen where
  loop := lookL [([false, true, false, true, true, true, true], spec_law03_PoolOnce_L1), ([false, true, true, true, true, true, false, true, false, true, true, false, false, true, false, false, true, false, true, true, true, true], spec_law03_PoolOnce_L2), ([false, true, false, true, false, true, true, true, false, true, true, false, false, true, false, false, true, false, true, true, true, true], spec_law03_PoolOnce_L3), ([false, true, true, false, true, true, true, true, true, true, true, true, true, false, true, true, false, false, true, false, false, true, false, true, true, true, true], spec_law03_PoolOnce_L4), ([false, true, false, true, true, true, true, true], spec_law03_PoolOnce_L5)]
  plan := fun id =>
    bif Nat.beq id 41 then some ([0, 1, 3, 0, 0, 16, 56, 120, 248, 248, 1016, 2040, 4095], .take 0 (.take 1 (.take 2 (.take 3 (.take 4 (.take 5 (.take 6 (.take 7 (.take 8 (.take 9 (.take 10 (.take 11 (.take 12 .done))))))))))))) else none

def dx_law03_PoolOnce_L1_0 (e : Env) (K : ((Option Addr) × Nat × Nat × (Option Addr) × Addr) → Prop) : Prop :=
  onV (getV e 0) fun u1 =>
  asS u1 fun lP_1 lN_1 lC_1 =>
  onV (getV e 3) fun u2 =>
  asP u2 fun p =>
  onV (getV e 5) fun u3 =>
  asA u3 fun heldx =>
    K (lP_1, lN_1, lC_1, p, heldx)

def dx_law03_PoolOnce_L1_ret (e : Env) (K : ((Option Addr) × Nat × Nat × (Option Addr) × Addr) → Bool → Prop) : Prop :=
  onV (getV e 0) fun u1 =>
  asS u1 fun lP_1 lN_1 lC_1 =>
  onV (getV e 3) fun u2 =>
  asP u2 fun p =>
  onV (getV e 5) fun u3 =>
  asA u3 fun heldx =>
  onV (getV e 2) fun u4 =>
  asB u4 fun t2 =>
    K (lP_1, lN_1, lC_1, p, heldx) t2

theorem body_law03_PoolOnce_L1 (f : (Option Addr) × Nat × Nat × (Option Addr) × Addr) (s : S_law03_PoolOnce_L1) (w : World) (Kn : ((Option Addr) × Nat × Nat × (Option Addr) × Addr) → S_law03_PoolOnce_L1 → World → Prop) (Kx0 : ((Option Addr) × Nat × Nat × (Option Addr) × Addr) → World → Prop) (Kr : ((Option Addr) × Nat × Nat × (Option Addr) × Addr) → Bool → World → Prop) :
    B_law03_PoolOnce_L1 f.1 f.2.1 f.2.2.1 f.2.2.2.1 f.2.2.2.2 s w (fun s1 w1 => Kn f s1 w1) (fun w1 => Kx0 f w1) (fun t2 w1 => Kr f t2 w1) =
    den Try.prog Try.f3.ntmps G_law03_PoolOnce (sub (codeOf Try.f3) [false, false, true, false, true, true, true, true]) [false, false, true, false, true, true, true, true] (roundQ (fun e w => dec_law03_PoolOnce_L1 e fun f s => Kn f s w) (fun e w => dx_law03_PoolOnce_L1_ret e fun f t2 => Kr f t2 w) (fun id e w => match Nat.beq id 0 with | true => dx_law03_PoolOnce_L1_0 e fun f => Kx0 f w | false => False)) (lit_law03_PoolOnce_L1 f s) w := by kernel_rfl

def dx_law03_PoolOnce_L2_3 (e : Env) (K : ((Option Addr) × Nat × Nat × (Option Addr) × Addr × Int × Addr × Int) → Prop) : Prop :=
  onV (getV e 0) fun u1 =>
  asS u1 fun lP_2 lN_2 lC_2 =>
  onV (getV e 3) fun u2 =>
  asP u2 fun p_1 =>
  onV (getV e 5) fun u3 =>
  asA u3 fun heldx_1 =>
  onV (getV e 6) fun u4 =>
  asI .i64 u4 fun i_1 =>
  onV (getV e 7) fun u5 =>
  asA u5 fun o =>
  onV (getV e 8) fun u6 =>
  asI .i64 u6 fun atx =>
    K (lP_2, lN_2, lC_2, p_1, heldx_1, i_1, o, atx)

def dx_law03_PoolOnce_L2_ret (e : Env) (K : ((Option Addr) × Nat × Nat × (Option Addr) × Addr × Int × Addr × Int) → Bool → Prop) : Prop :=
  onV (getV e 0) fun u1 =>
  asS u1 fun lP_2 lN_2 lC_2 =>
  onV (getV e 3) fun u2 =>
  asP u2 fun p_1 =>
  onV (getV e 5) fun u3 =>
  asA u3 fun heldx_1 =>
  onV (getV e 6) fun u4 =>
  asI .i64 u4 fun i_1 =>
  onV (getV e 7) fun u5 =>
  asA u5 fun o =>
  onV (getV e 8) fun u6 =>
  asI .i64 u6 fun atx =>
  onV (getV e 2) fun u7 =>
  asB u7 fun t2_1 =>
    K (lP_2, lN_2, lC_2, p_1, heldx_1, i_1, o, atx) t2_1

theorem body_law03_PoolOnce_L2 (f : (Option Addr) × Nat × Nat × (Option Addr) × Addr × Int × Addr × Int) (s : S_law03_PoolOnce_L2) (w : World) (Kn : ((Option Addr) × Nat × Nat × (Option Addr) × Addr × Int × Addr × Int) → S_law03_PoolOnce_L2 → World → Prop) (Kx3 : ((Option Addr) × Nat × Nat × (Option Addr) × Addr × Int × Addr × Int) → World → Prop) (Kr : ((Option Addr) × Nat × Nat × (Option Addr) × Addr × Int × Addr × Int) → Bool → World → Prop) :
    B_law03_PoolOnce_L2 f.1 f.2.1 f.2.2.1 f.2.2.2.1 f.2.2.2.2.1 f.2.2.2.2.2.1 f.2.2.2.2.2.2.1 f.2.2.2.2.2.2.2 s w (fun s1 w1 => Kn f s1 w1) (fun w1 => Kx3 f w1) (fun t2_1 w1 => Kr f t2_1 w1) =
    den Try.prog Try.f3.ntmps G_law03_PoolOnce (sub (codeOf Try.f3) [false, false, true, true, true, true, true, false, true, false, true, true, false, false, true, false, false, true, false, true, true, true, true]) [false, false, true, true, true, true, true, false, true, false, true, true, false, false, true, false, false, true, false, true, true, true, true] (roundQ (fun e w => dec_law03_PoolOnce_L2 e fun f s => Kn f s w) (fun e w => dx_law03_PoolOnce_L2_ret e fun f t2_1 => Kr f t2_1 w) (fun id e w => match Nat.beq id 3 with | true => dx_law03_PoolOnce_L2_3 e fun f => Kx3 f w | false => False)) (lit_law03_PoolOnce_L2 f s) w := by kernel_rfl

def dx_law03_PoolOnce_L3_5 (e : Env) (K : ((Option Addr) × Nat × Nat × (Option Addr) × Addr × Int × Addr) → Prop) : Prop :=
  onV (getV e 0) fun u1 =>
  asS u1 fun lP_3 lN_3 lC_3 =>
  onV (getV e 3) fun u2 =>
  asP u2 fun p_2 =>
  onV (getV e 5) fun u3 =>
  asA u3 fun heldx_2 =>
  onV (getV e 6) fun u4 =>
  asI .i64 u4 fun i_2 =>
  onV (getV e 7) fun u5 =>
  asA u5 fun o_1 =>
    K (lP_3, lN_3, lC_3, p_2, heldx_2, i_2, o_1)

theorem body_law03_PoolOnce_L3 (f : (Option Addr) × Nat × Nat × (Option Addr) × Addr × Int × Addr) (s : S_law03_PoolOnce_L3) (w : World) (Kn : ((Option Addr) × Nat × Nat × (Option Addr) × Addr × Int × Addr) → S_law03_PoolOnce_L3 → World → Prop) (Kx5 : ((Option Addr) × Nat × Nat × (Option Addr) × Addr × Int × Addr) → World → Prop) :
    B_law03_PoolOnce_L3 f.1 f.2.1 f.2.2.1 f.2.2.2.1 f.2.2.2.2.1 f.2.2.2.2.2.1 f.2.2.2.2.2.2 s w (fun s1 w1 => Kn f s1 w1) (fun w1 => Kx5 f w1) =
    den Try.prog Try.f3.ntmps G_law03_PoolOnce (sub (codeOf Try.f3) [false, false, true, false, true, false, true, true, true, false, true, true, false, false, true, false, false, true, false, true, true, true, true]) [false, false, true, false, true, false, true, true, true, false, true, true, false, false, true, false, false, true, false, true, true, true, true] (roundQ (fun e w => dec_law03_PoolOnce_L3 e fun f s => Kn f s w) (fun e w => False) (fun id e w => match Nat.beq id 5 with | true => dx_law03_PoolOnce_L3_5 e fun f => Kx5 f w | false => False)) (lit_law03_PoolOnce_L3 f s) w := by kernel_rfl

def dx_law03_PoolOnce_L4_7 (e : Env) (K : ((Option Addr) × Nat × Nat × (Option Addr) × Addr × Int) → Prop) : Prop :=
  onV (getV e 0) fun u1 =>
  asS u1 fun lP_4 lN_4 lC_4 =>
  onV (getV e 3) fun u2 =>
  asP u2 fun p_3 =>
  onV (getV e 5) fun u3 =>
  asA u3 fun heldx_3 =>
  onV (getV e 6) fun u4 =>
  asI .i64 u4 fun i_3 =>
    K (lP_4, lN_4, lC_4, p_3, heldx_3, i_3)

theorem body_law03_PoolOnce_L4 (f : (Option Addr) × Nat × Nat × (Option Addr) × Addr × Int) (s : S_law03_PoolOnce_L4) (w : World) (Kn : ((Option Addr) × Nat × Nat × (Option Addr) × Addr × Int) → S_law03_PoolOnce_L4 → World → Prop) (Kx7 : ((Option Addr) × Nat × Nat × (Option Addr) × Addr × Int) → World → Prop) :
    B_law03_PoolOnce_L4 f.1 f.2.1 f.2.2.1 f.2.2.2.1 f.2.2.2.2.1 f.2.2.2.2.2 s w (fun s1 w1 => Kn f s1 w1) (fun w1 => Kx7 f w1) =
    den Try.prog Try.f3.ntmps G_law03_PoolOnce (sub (codeOf Try.f3) [false, false, true, true, false, true, true, true, true, true, true, true, true, true, false, true, true, false, false, true, false, false, true, false, true, true, true, true]) [false, false, true, true, false, true, true, true, true, true, true, true, true, true, false, true, true, false, false, true, false, false, true, false, true, true, true, true] (roundQ (fun e w => dec_law03_PoolOnce_L4 e fun f s => Kn f s w) (fun e w => False) (fun id e w => match Nat.beq id 7 with | true => dx_law03_PoolOnce_L4_7 e fun f => Kx7 f w | false => False)) (lit_law03_PoolOnce_L4 f s) w := by kernel_rfl

def dx_law03_PoolOnce_L5_9 (e : Env) (K : ((Option Addr) × Addr) → Prop) : Prop :=
  onV (getV e 3) fun u1 =>
  asP u1 fun p_4 =>
  onV (getV e 5) fun u2 =>
  asA u2 fun heldx_4 =>
    K (p_4, heldx_4)

def dx_law03_PoolOnce_L5_ret (e : Env) (K : ((Option Addr) × Addr) → Bool → Prop) : Prop :=
  onV (getV e 3) fun u1 =>
  asP u1 fun p_4 =>
  onV (getV e 5) fun u2 =>
  asA u2 fun heldx_4 =>
  onV (getV e 2) fun u3 =>
  asB u3 fun t2_4 =>
    K (p_4, heldx_4) t2_4

theorem body_law03_PoolOnce_L5 (f : (Option Addr) × Addr) (s : S_law03_PoolOnce_L5) (w : World) (Kn : ((Option Addr) × Addr) → S_law03_PoolOnce_L5 → World → Prop) (Kx9 : ((Option Addr) × Addr) → World → Prop) (Kr : ((Option Addr) × Addr) → Bool → World → Prop) :
    B_law03_PoolOnce_L5 f.1 f.2 s w (fun s1 w1 => Kn f s1 w1) (fun w1 => Kx9 f w1) (fun t2_4 w1 => Kr f t2_4 w1) =
    den Try.prog Try.f3.ntmps G_law03_PoolOnce (sub (codeOf Try.f3) [false, false, true, false, true, true, true, true, true]) [false, false, true, false, true, true, true, true, true] (roundQ (fun e w => dec_law03_PoolOnce_L5 e fun f s => Kn f s w) (fun e w => dx_law03_PoolOnce_L5_ret e fun f t2_4 => Kr f t2_4 w) (fun id e w => match Nat.beq id 9 with | true => dx_law03_PoolOnce_L5_9 e fun f => Kx9 f w | false => False)) (lit_law03_PoolOnce_L5 f s) w := by kernel_rfl

theorem ok_law03_PoolOnce_L1 : OneOk Try.prog Try.f3.ntmps G_law03_PoolOnce (codeOf Try.f3) [false, true, false, true, true, true, true] spec_law03_PoolOnce_L1 := by
  intro c hc ih Q e w a hr h
  have hcc : sub (codeOf Try.f3) [false, false, true, false, true, true, true, true] = c := sub_of_codeAt hc
  obtain ⟨f, s, h, hrep⟩ := dec_law03_PoolOnce_L1_ok e a _ hr h
  obtain ⟨J, μ, hj, hround⟩ := h
  refine loop_rule_deep seat_ok seat_mixed ih lit_law03_PoolOnce_L1 dec_law03_PoolOnce_L1 dec_law03_PoolOnce_L1_ok hc f J μ (Kr := fun e w => dx_law03_PoolOnce_L1_ret e fun f1 t2 => f1 = f ∧ Q .ret [⟨2, .bool t2, none⟩] w) (Kx := fun id e w => match Nat.beq id 0 with | true => (dx_law03_PoolOnce_L1_0 e fun f1 => f1 = f ∧ Q (.exit 0) [⟨3, .pointer f.2.2.2.1, none⟩, ⟨5, .pointer (some f.2.2.2.2), none⟩] w) | false => False) ?_ ?_ ?_ s w a hj hrep
  · intro e a w hr h0
    unfold dx_law03_PoolOnce_L1_ret at h0
    obtain ⟨u1, g0, h1⟩ := onV_elim h0
    obtain ⟨lP_1, lN_1, lC_1, rfl, h2⟩ := asS_elim h1
    obtain ⟨u2, g3, h3⟩ := onV_elim h2
    obtain ⟨p, rfl, h4⟩ := asP_elim h3
    obtain ⟨u3, g5, h5⟩ := onV_elim h4
    obtain ⟨heldx, rfl, h6⟩ := asA_elim h5
    obtain ⟨u4, g2, h7⟩ := onV_elim h6
    obtain ⟨t2, rfl, h8⟩ := asB_elim h7
    obtain ⟨hf, hq⟩ := h8
    subst hf
    exact ⟨_, rep_less hr (by simp [g2]), hq⟩
  · intro id e a w hr h0
    (try dsimp only at h0)
    split at h0
    · rename_i hid
      obtain rfl := Nat.eq_of_beq_eq_true hid
      unfold dx_law03_PoolOnce_L1_0 at h0
      obtain ⟨u1, g0, h1⟩ := onV_elim h0
      obtain ⟨lP_1, lN_1, lC_1, rfl, h2⟩ := asS_elim h1
      obtain ⟨u2, g3, h3⟩ := onV_elim h2
      obtain ⟨p, rfl, h4⟩ := asP_elim h3
      obtain ⟨u3, g5, h5⟩ := onV_elim h4
      obtain ⟨heldx, rfl, h6⟩ := asA_elim h5
      obtain ⟨hf, hq⟩ := h6
      subst hf
      exact ⟨_, rep_less hr (by simp [g3, g5]), hq⟩
    · exact h0.elim
  · intro s w hj
    have hb := hround s w hj
    rw [← hcc]
    have e1 := body_law03_PoolOnce_L1 f s w (fun f1 s1 w1 => f1 = f ∧ J s1 w1 ∧ μ s1 w1 < μ s w) (fun f1 w1 => f1 = f ∧ Q (.exit 0) [⟨3, .pointer f.2.2.2.1, none⟩, ⟨5, .pointer (some f.2.2.2.2), none⟩] w1) (fun f1 t2 w1 => f1 = f ∧ Q .ret [⟨2, .bool t2, none⟩] w1)
    simp only [true_and] at e1
    exact cast e1 hb

theorem ok_law03_PoolOnce_L2 : OneOk Try.prog Try.f3.ntmps G_law03_PoolOnce (codeOf Try.f3) [false, true, true, true, true, true, false, true, false, true, true, false, false, true, false, false, true, false, true, true, true, true] spec_law03_PoolOnce_L2 := by
  intro c hc ih Q e w a hr h
  have hcc : sub (codeOf Try.f3) [false, false, true, true, true, true, true, false, true, false, true, true, false, false, true, false, false, true, false, true, true, true, true] = c := sub_of_codeAt hc
  obtain ⟨f, s, h, hrep⟩ := dec_law03_PoolOnce_L2_ok e a _ hr h
  obtain ⟨J, μ, hj, hround⟩ := h
  refine loop_rule_deep seat_ok seat_mixed ih lit_law03_PoolOnce_L2 dec_law03_PoolOnce_L2 dec_law03_PoolOnce_L2_ok hc f J μ (Kr := fun e w => dx_law03_PoolOnce_L2_ret e fun f1 t2_1 => f1 = f ∧ Q .ret [⟨0, .slice f.1 f.2.1 f.2.2.1, none⟩, ⟨3, .pointer f.2.2.2.1, none⟩, ⟨5, .pointer (some f.2.2.2.2.1), none⟩, ⟨2, .bool t2_1, none⟩] w) (Kx := fun id e w => match Nat.beq id 3 with | true => (dx_law03_PoolOnce_L2_3 e fun f1 => f1 = f ∧ Q (.exit 3) [⟨0, .slice f.1 f.2.1 f.2.2.1, none⟩, ⟨3, .pointer f.2.2.2.1, none⟩, ⟨5, .pointer (some f.2.2.2.2.1), none⟩, ⟨6, .int .i64 f.2.2.2.2.2.1, none⟩] w) | false => False) ?_ ?_ ?_ s w a hj hrep
  · intro e a w hr h0
    unfold dx_law03_PoolOnce_L2_ret at h0
    obtain ⟨u1, g0, h1⟩ := onV_elim h0
    obtain ⟨lP_2, lN_2, lC_2, rfl, h2⟩ := asS_elim h1
    obtain ⟨u2, g3, h3⟩ := onV_elim h2
    obtain ⟨p_1, rfl, h4⟩ := asP_elim h3
    obtain ⟨u3, g5, h5⟩ := onV_elim h4
    obtain ⟨heldx_1, rfl, h6⟩ := asA_elim h5
    obtain ⟨u4, g6, h7⟩ := onV_elim h6
    obtain ⟨i_1, rfl, h8⟩ := asI_elim h7
    obtain ⟨u5, g7, h9⟩ := onV_elim h8
    obtain ⟨o, rfl, h10⟩ := asA_elim h9
    obtain ⟨u6, g8, h11⟩ := onV_elim h10
    obtain ⟨atx, rfl, h12⟩ := asI_elim h11
    obtain ⟨u7, g2, h13⟩ := onV_elim h12
    obtain ⟨t2_1, rfl, h14⟩ := asB_elim h13
    obtain ⟨hf, hq⟩ := h14
    subst hf
    exact ⟨_, rep_less hr (by simp [g0, g3, g5, g2]), hq⟩
  · intro id e a w hr h0
    (try dsimp only at h0)
    split at h0
    · rename_i hid
      obtain rfl := Nat.eq_of_beq_eq_true hid
      unfold dx_law03_PoolOnce_L2_3 at h0
      obtain ⟨u1, g0, h1⟩ := onV_elim h0
      obtain ⟨lP_2, lN_2, lC_2, rfl, h2⟩ := asS_elim h1
      obtain ⟨u2, g3, h3⟩ := onV_elim h2
      obtain ⟨p_1, rfl, h4⟩ := asP_elim h3
      obtain ⟨u3, g5, h5⟩ := onV_elim h4
      obtain ⟨heldx_1, rfl, h6⟩ := asA_elim h5
      obtain ⟨u4, g6, h7⟩ := onV_elim h6
      obtain ⟨i_1, rfl, h8⟩ := asI_elim h7
      obtain ⟨u5, g7, h9⟩ := onV_elim h8
      obtain ⟨o, rfl, h10⟩ := asA_elim h9
      obtain ⟨u6, g8, h11⟩ := onV_elim h10
      obtain ⟨atx, rfl, h12⟩ := asI_elim h11
      obtain ⟨hf, hq⟩ := h12
      subst hf
      exact ⟨_, rep_less hr (by simp [g0, g3, g5, g6]), hq⟩
    · exact h0.elim
  · intro s w hj
    have hb := hround s w hj
    rw [← hcc]
    have e1 := body_law03_PoolOnce_L2 f s w (fun f1 s1 w1 => f1 = f ∧ J s1 w1 ∧ μ s1 w1 < μ s w) (fun f1 w1 => f1 = f ∧ Q (.exit 3) [⟨0, .slice f.1 f.2.1 f.2.2.1, none⟩, ⟨3, .pointer f.2.2.2.1, none⟩, ⟨5, .pointer (some f.2.2.2.2.1), none⟩, ⟨6, .int .i64 f.2.2.2.2.2.1, none⟩] w1) (fun f1 t2_1 w1 => f1 = f ∧ Q .ret [⟨0, .slice f.1 f.2.1 f.2.2.1, none⟩, ⟨3, .pointer f.2.2.2.1, none⟩, ⟨5, .pointer (some f.2.2.2.2.1), none⟩, ⟨2, .bool t2_1, none⟩] w1)
    simp only [true_and] at e1
    exact cast e1 hb

theorem ok_law03_PoolOnce_L3 : OneOk Try.prog Try.f3.ntmps G_law03_PoolOnce (codeOf Try.f3) [false, true, false, true, false, true, true, true, false, true, true, false, false, true, false, false, true, false, true, true, true, true] spec_law03_PoolOnce_L3 := by
  intro c hc ih Q e w a hr h
  have hcc : sub (codeOf Try.f3) [false, false, true, false, true, false, true, true, true, false, true, true, false, false, true, false, false, true, false, true, true, true, true] = c := sub_of_codeAt hc
  obtain ⟨f, s, h, hrep⟩ := dec_law03_PoolOnce_L3_ok e a _ hr h
  obtain ⟨J, μ, hj, hround⟩ := h
  refine loop_rule_deep seat_ok seat_mixed ih lit_law03_PoolOnce_L3 dec_law03_PoolOnce_L3 dec_law03_PoolOnce_L3_ok hc f J μ (Kr := fun e w => False) (Kx := fun id e w => match Nat.beq id 5 with | true => (dx_law03_PoolOnce_L3_5 e fun f1 => f1 = f ∧ Q (.exit 5) [⟨0, .slice f.1 f.2.1 f.2.2.1, none⟩, ⟨3, .pointer f.2.2.2.1, none⟩, ⟨5, .pointer (some f.2.2.2.2.1), none⟩, ⟨6, .int .i64 f.2.2.2.2.2.1, none⟩] w) | false => False) ?_ ?_ ?_ s w a hj hrep
  · intro e a w hr h
    exact h.elim
  · intro id e a w hr h0
    (try dsimp only at h0)
    split at h0
    · rename_i hid
      obtain rfl := Nat.eq_of_beq_eq_true hid
      unfold dx_law03_PoolOnce_L3_5 at h0
      obtain ⟨u1, g0, h1⟩ := onV_elim h0
      obtain ⟨lP_3, lN_3, lC_3, rfl, h2⟩ := asS_elim h1
      obtain ⟨u2, g3, h3⟩ := onV_elim h2
      obtain ⟨p_2, rfl, h4⟩ := asP_elim h3
      obtain ⟨u3, g5, h5⟩ := onV_elim h4
      obtain ⟨heldx_2, rfl, h6⟩ := asA_elim h5
      obtain ⟨u4, g6, h7⟩ := onV_elim h6
      obtain ⟨i_2, rfl, h8⟩ := asI_elim h7
      obtain ⟨u5, g7, h9⟩ := onV_elim h8
      obtain ⟨o_1, rfl, h10⟩ := asA_elim h9
      obtain ⟨hf, hq⟩ := h10
      subst hf
      exact ⟨_, rep_less hr (by simp [g0, g3, g5, g6]), hq⟩
    · exact h0.elim
  · intro s w hj
    have hb := hround s w hj
    rw [← hcc]
    have e1 := body_law03_PoolOnce_L3 f s w (fun f1 s1 w1 => f1 = f ∧ J s1 w1 ∧ μ s1 w1 < μ s w) (fun f1 w1 => f1 = f ∧ Q (.exit 5) [⟨0, .slice f.1 f.2.1 f.2.2.1, none⟩, ⟨3, .pointer f.2.2.2.1, none⟩, ⟨5, .pointer (some f.2.2.2.2.1), none⟩, ⟨6, .int .i64 f.2.2.2.2.2.1, none⟩] w1)
    simp only [true_and] at e1
    exact cast e1 hb

theorem ok_law03_PoolOnce_L4 : OneOk Try.prog Try.f3.ntmps G_law03_PoolOnce (codeOf Try.f3) [false, true, true, false, true, true, true, true, true, true, true, true, true, false, true, true, false, false, true, false, false, true, false, true, true, true, true] spec_law03_PoolOnce_L4 := by
  intro c hc ih Q e w a hr h
  have hcc : sub (codeOf Try.f3) [false, false, true, true, false, true, true, true, true, true, true, true, true, true, false, true, true, false, false, true, false, false, true, false, true, true, true, true] = c := sub_of_codeAt hc
  obtain ⟨f, s, h, hrep⟩ := dec_law03_PoolOnce_L4_ok e a _ hr h
  obtain ⟨J, μ, hj, hround⟩ := h
  refine loop_rule_deep seat_ok seat_mixed ih lit_law03_PoolOnce_L4 dec_law03_PoolOnce_L4 dec_law03_PoolOnce_L4_ok hc f J μ (Kr := fun e w => False) (Kx := fun id e w => match Nat.beq id 7 with | true => (dx_law03_PoolOnce_L4_7 e fun f1 => f1 = f ∧ Q (.exit 7) [⟨0, .slice f.1 f.2.1 f.2.2.1, none⟩, ⟨3, .pointer f.2.2.2.1, none⟩, ⟨5, .pointer (some f.2.2.2.2.1), none⟩, ⟨6, .int .i64 f.2.2.2.2.2, none⟩] w) | false => False) ?_ ?_ ?_ s w a hj hrep
  · intro e a w hr h
    exact h.elim
  · intro id e a w hr h0
    (try dsimp only at h0)
    split at h0
    · rename_i hid
      obtain rfl := Nat.eq_of_beq_eq_true hid
      unfold dx_law03_PoolOnce_L4_7 at h0
      obtain ⟨u1, g0, h1⟩ := onV_elim h0
      obtain ⟨lP_4, lN_4, lC_4, rfl, h2⟩ := asS_elim h1
      obtain ⟨u2, g3, h3⟩ := onV_elim h2
      obtain ⟨p_3, rfl, h4⟩ := asP_elim h3
      obtain ⟨u3, g5, h5⟩ := onV_elim h4
      obtain ⟨heldx_3, rfl, h6⟩ := asA_elim h5
      obtain ⟨u4, g6, h7⟩ := onV_elim h6
      obtain ⟨i_3, rfl, h8⟩ := asI_elim h7
      obtain ⟨hf, hq⟩ := h8
      subst hf
      exact ⟨_, rep_less hr (by simp [g0, g3, g5, g6]), hq⟩
    · exact h0.elim
  · intro s w hj
    have hb := hround s w hj
    rw [← hcc]
    have e1 := body_law03_PoolOnce_L4 f s w (fun f1 s1 w1 => f1 = f ∧ J s1 w1 ∧ μ s1 w1 < μ s w) (fun f1 w1 => f1 = f ∧ Q (.exit 7) [⟨0, .slice f.1 f.2.1 f.2.2.1, none⟩, ⟨3, .pointer f.2.2.2.1, none⟩, ⟨5, .pointer (some f.2.2.2.2.1), none⟩, ⟨6, .int .i64 f.2.2.2.2.2, none⟩] w1)
    simp only [true_and] at e1
    exact cast e1 hb

theorem ok_law03_PoolOnce_L5 : OneOk Try.prog Try.f3.ntmps G_law03_PoolOnce (codeOf Try.f3) [false, true, false, true, true, true, true, true] spec_law03_PoolOnce_L5 := by
  intro c hc ih Q e w a hr h
  have hcc : sub (codeOf Try.f3) [false, false, true, false, true, true, true, true, true] = c := sub_of_codeAt hc
  obtain ⟨f, s, h, hrep⟩ := dec_law03_PoolOnce_L5_ok e a _ hr h
  obtain ⟨J, μ, hj, hround⟩ := h
  refine loop_rule_deep seat_ok seat_mixed ih lit_law03_PoolOnce_L5 dec_law03_PoolOnce_L5 dec_law03_PoolOnce_L5_ok hc f J μ (Kr := fun e w => dx_law03_PoolOnce_L5_ret e fun f1 t2_4 => f1 = f ∧ Q .ret [⟨2, .bool t2_4, none⟩] w) (Kx := fun id e w => match Nat.beq id 9 with | true => (dx_law03_PoolOnce_L5_9 e fun f1 => f1 = f ∧ Q (.exit 9) [] w) | false => False) ?_ ?_ ?_ s w a hj hrep
  · intro e a w hr h0
    unfold dx_law03_PoolOnce_L5_ret at h0
    obtain ⟨u1, g3, h1⟩ := onV_elim h0
    obtain ⟨p_4, rfl, h2⟩ := asP_elim h1
    obtain ⟨u2, g5, h3⟩ := onV_elim h2
    obtain ⟨heldx_4, rfl, h4⟩ := asA_elim h3
    obtain ⟨u3, g2, h5⟩ := onV_elim h4
    obtain ⟨t2_4, rfl, h6⟩ := asB_elim h5
    obtain ⟨hf, hq⟩ := h6
    subst hf
    exact ⟨_, rep_less hr (by simp [g2]), hq⟩
  · intro id e a w hr h0
    (try dsimp only at h0)
    split at h0
    · rename_i hid
      obtain rfl := Nat.eq_of_beq_eq_true hid
      unfold dx_law03_PoolOnce_L5_9 at h0
      obtain ⟨u1, g3, h1⟩ := onV_elim h0
      obtain ⟨p_4, rfl, h2⟩ := asP_elim h1
      obtain ⟨u2, g5, h3⟩ := onV_elim h2
      obtain ⟨heldx_4, rfl, h4⟩ := asA_elim h3
      obtain ⟨hf, hq⟩ := h4
      subst hf
      exact ⟨_, rep_less hr (by simp), hq⟩
    · exact h0.elim
  · intro s w hj
    have hb := hround s w hj
    rw [← hcc]
    have e1 := body_law03_PoolOnce_L5 f s w (fun f1 s1 w1 => f1 = f ∧ J s1 w1 ∧ μ s1 w1 < μ s w) (fun f1 w1 => f1 = f ∧ Q (.exit 9) [] w1) (fun f1 t2_4 w1 => f1 = f ∧ Q .ret [⟨2, .bool t2_4, none⟩] w1)
    simp only [true_and] at e1
    exact cast e1 hb

theorem loops_law03_PoolOnce : LoopOk Try.prog Try.f3.ntmps G_law03_PoolOnce (codeOf Try.f3) := loopOk_list rfl ⟨ok_law03_PoolOnce_L1, ⟨ok_law03_PoolOnce_L2, ⟨ok_law03_PoolOnce_L3, ⟨ok_law03_PoolOnce_L4, ⟨ok_law03_PoolOnce_L5, trivial⟩⟩⟩⟩⟩

theorem den_law03_PoolOnce (lP : Option Addr) (lN : Nat) (lC : Nat) (w : World) (R : Value → World → Prop) :
    F_law03_PoolOnce lP lN lC w (fun r w1 => R (.bool r) w1) = den Try.prog Try.f3.ntmps G_law03_PoolOnce (codeOf Try.f3) [] (postD Try.prog Try.f3.results.toList R) (entry [.slice lP lN lC] 0) w := by kernel_rfl

theorem C_law03_PoolOnce.of {lP : Option Addr} {lN : Nat} {lC : Nat} {w : World} {R : Bool → World → Prop} (h : F_law03_PoolOnce lP lN lC w R) : C_law03_PoolOnce lP lN lC w R := by
  refine (calls_of_den (c := codeOf Try.f3) seat_ok seat_mixed Try.func3 (by kernel_rfl) loops_law03_PoolOnce (args := [.slice lP lN lC]) rfl (R := fun v w1 => ∃ (r : Bool), v = (.bool r : Value) ∧ R r w1) ?_).mono ?_
  · rw [← den_law03_PoolOnce]
    have e : (fun r w1 => ∃ (r' : Bool), (.bool r : Value) = (.bool r' : Value) ∧ R r' w1) = R := by
      funext r w1
      exact propext ⟨fun ⟨r', he, h⟩ => by simp at he; simp_all, fun h => ⟨_, rfl, h⟩⟩
    simpa only [e] using h
  · rintro en w1 ⟨v, he, r, rfl, h⟩
    exact ⟨_, he, h⟩

structure S_law03_PoolCounts_L1 where
  i : Int

def F_law03_PoolCounts_k1 (R : Bool → World → Prop) (w1_2 : World) : Prop :=
  R false w1_2

def F_law03_PoolCounts_k2 (Kr : Bool → World → Prop) (w1_15 : World) : Prop :=
  Kr false w1_15

def F_law03_PoolCounts_k3 (p : Option Addr) (s : S_law03_PoolCounts_L1) (Kn : S_law03_PoolCounts_L1 → World → Prop) (Kr : Bool → World → Prop) (leftx : Int) (w1_17 : World) : Prop :=
  C_pool_Pool_Left p w1_17 fun t127 w1_18 =>
  If (t127 != leftx)
  (Kr false w1_18)
  (Kn ⟨(IntKind.i64.wrap ((s.i : Int) + (1 : Int)))⟩ w1_18)

/-- One round. -/
def B_law03_PoolCounts_L1 (lP_1 : Option Addr) (lN_1 : Nat) (lC_1 : Nat) (p : Option Addr) (s : S_law03_PoolCounts_L1) (w : World) (Kn : S_law03_PoolCounts_L1 → World → Prop) (Kx0 : World → Prop) (Kr : Bool → World → Prop) : Prop :=
  If (decide ((s.i : Int) < (lN_1 : Int)))
  (If (decide ((s.i : Int) < (50 : Int)))
  (C_pool_Pool_Left p w fun t36 w1_3 =>
  0 ≤ (s.i : Int) ∧ (s.i : Int) < (lN_1 : Int) ∧ NN lP_1 fun a =>
  ∃ Kind : Int, w1_3.cell? ((a.add ((s.i : Int).toNat * 3)).add 0) = some (.int .i64 Kind) ∧
  If (Kind == (1 : Int))
  (0 ≤ (s.i : Int) ∧ (s.i : Int) < (lN_1 : Int) ∧ NN lP_1 fun a_1 =>
  ∃ N : Int, w1_3.cell? ((a_1.add ((s.i : Int).toNat * 3)).add 2) = some (.int .i64 N) ∧
  C_pool_Pool_Take p N w1_3 fun t920 t921 w1_4 =>
  If (t921 == (0 : Int))
  (0 ≤ (s.i : Int) ∧ (s.i : Int) < (lN_1 : Int) ∧ NN lP_1 fun a_2 =>
  ∃ N_1 : Int, w1_4.cell? ((a_2.add ((s.i : Int).toNat * 3)).add 2) = some (.int .i64 N_1) ∧
  F_law03_PoolCounts_k3 p s Kn Kr (IntKind.i64.wrap (t36 - N_1)) w1_4)
  (F_law03_PoolCounts_k3 p s Kn Kr t36 w1_4))
  (If (Kind == (2 : Int))
  (0 ≤ (s.i : Int) ∧ (s.i : Int) < (lN_1 : Int) ∧ NN lP_1 fun a_3 =>
  ∃ At : Int, (drw w1_3).cell? ((a_3.add ((s.i : Int).toNat * 3)).add 1) = some (.int .i64 At) ∧
  0 ≤ (s.i : Int) ∧ (s.i : Int) < (lN_1 : Int) ∧ NN lP_1 fun a_4 =>
  ∃ N_2 : Int, (drw w1_3).cell? ((a_4.add ((s.i : Int).toNat * 3)).add 2) = some (.int .i64 N_2) ∧
  C_pool_Pool_Give p At N_2 (drw w1_3) fun t117 w1_5 =>
  If (t117 == (0 : Int))
  (0 ≤ (s.i : Int) ∧ (s.i : Int) < (lN_1 : Int) ∧ NN lP_1 fun a_5 =>
  ∃ N_3 : Int, w1_5.cell? ((a_5.add ((s.i : Int).toNat * 3)).add 2) = some (.int .i64 N_3) ∧
  F_law03_PoolCounts_k3 p s Kn Kr (IntKind.i64.wrap (t36 + N_3)) w1_5)
  (F_law03_PoolCounts_k3 p s Kn Kr t36 w1_5))
  (C_pool_Pool_Starts p w1_3 fun t43P t43N t43C w1_6 =>
  C_pool_Pool_Starts p w1_6 fun t46P t46N t46C w1_7 =>
  C_pool_Pool_Runs p (IntKind.i64.wrap ((t46N : Int) - (1 : Int))) w1_7 fun t49P t49N t49C w1_8 =>
  C_pool_Pool_Open p w1_8 fun t51 w1_9 =>
  If (t51 != (0 : Int))
  (F_law03_PoolCounts_k2 Kr w1_9)
  (C_pool_Pool_Close p w1_9 fun t55 w1_10 =>
  If (t55 != (0 : Int))
  (F_law03_PoolCounts_k2 Kr w1_10)
  (C_pool_Pool_Starts p w1_10 fun t60P t60N t60C w1_11 =>
  C_ref03_SameInts t60P t60N t60C t43P t43N t43C w1_11 fun t62 w1_12 =>
  If (!t62)
  (F_law03_PoolCounts_k2 Kr w1_12)
  (C_pool_Pool_Runs p (IntKind.i64.wrap ((t43N : Int) - (1 : Int))) w1_12 fun t70P t70N t70C w1_13 =>
  C_ref03_SameRuns t70P t70N t70C t49P t49N t49C w1_13 fun t72 w1_14 =>
  If (!t72)
  (Kr false w1_14)
  (0 ≤ (s.i : Int) ∧ (s.i : Int) < (lN_1 : Int) ∧ NN lP_1 fun a_6 =>
  ∃ Kind_1 : Int, w1_14.cell? ((a_6.add ((s.i : Int).toNat * 3)).add 0) = some (.int .i64 Kind_1) ∧
  If (Kind_1 == (3 : Int))
  (C_pool_Pool_Open p w1_14 fun t82 w1_16 =>
  F_law03_PoolCounts_k3 p s Kn Kr t36 w1_16)
  (F_law03_PoolCounts_k3 p s Kn Kr t36 w1_14))))))))
  (Kx0 w))
  (Kx0 w)

def F_law03_PoolCounts_L1 (lP_1 : Option Addr) (lN_1 : Nat) (lC_1 : Nat) (p : Option Addr) (s : S_law03_PoolCounts_L1) (w : World) (Kx0 : World → Prop) (Kr : Bool → World → Prop) : Prop :=
  LoopS (fun s w Kn => B_law03_PoolCounts_L1 lP_1 lN_1 lC_1 p s w Kn Kx0 Kr) s w

def F_law03_PoolCounts (lP : Option Addr) (lN : Nat) (lC : Nat) (w : World) (R : Bool → World → Prop) : Prop :=
  C_pool_New (300 : Int) w fun t120 t121 w1 =>
  C_law03_lives  w1 fun t15 w1_1 =>
  If (!t15)
  (F_law03_PoolCounts_k1 R w1_1)
  (If (t121 != (0 : Int))
  (F_law03_PoolCounts_k1 R w1_1)
  (If t120.isNone
  (R false w1_1)
  (F_law03_PoolCounts_L1 lP lN lC t120 ⟨(0 : Int)⟩ w1_1
  (fun w1_19 =>
  R true w1_19)
  (fun t2_1 w1_20 =>
  R t2_1 w1_20))))

def lit_law03_PoolCounts_L1 (f : (Option Addr) × Nat × Nat × (Option Addr)) (s : S_law03_PoolCounts_L1) : Env := [⟨0, .slice f.1 f.2.1 f.2.2.1, none⟩, ⟨3, .pointer f.2.2.2, none⟩, ⟨5, .int .i64 s.i, none⟩]

def dec_law03_PoolCounts_L1 (e : Env) (K : ((Option Addr) × Nat × Nat × (Option Addr)) → S_law03_PoolCounts_L1 → Prop) : Prop :=
  onV (getV e 0) fun u1 =>
  asS u1 fun lP_1 lN_1 lC_1 =>
  onV (getV e 3) fun u2 =>
  asP u2 fun p =>
  onV (getV e 5) fun u3 =>
  asI .i64 u3 fun i =>
    K (lP_1, lN_1, lC_1, p) ⟨i⟩

theorem dec_law03_PoolCounts_L1_ok {N : Nat} (e : Env) (a : Act) (K : ((Option Addr) × Nat × Nat × (Option Addr)) → S_law03_PoolCounts_L1 → Prop) (hr : Rep N a e) (h0 : dec_law03_PoolCounts_L1 e K) : ∃ f s, K f s ∧ Rep N a (lit_law03_PoolCounts_L1 f s) := by
  unfold dec_law03_PoolCounts_L1 at h0
  obtain ⟨u1, g0, h1⟩ := onV_elim h0
  obtain ⟨lP_1, lN_1, lC_1, rfl, h2⟩ := asS_elim h1
  obtain ⟨u2, g3, h3⟩ := onV_elim h2
  obtain ⟨p, rfl, h4⟩ := asP_elim h3
  obtain ⟨u3, g5, h5⟩ := onV_elim h4
  obtain ⟨i, rfl, h6⟩ := asI_elim h5
  exact ⟨_, _, h6, rep_less hr (by simp [lit_law03_PoolCounts_L1, g0, g3, g5])⟩

def spec_law03_PoolCounts_L1 (Q : Post) (e : Env) (w : World) : Prop :=
  dec_law03_PoolCounts_L1 e fun f s => F_law03_PoolCounts_L1 f.1 f.2.1 f.2.2.1 f.2.2.2 s w (fun w1 => Q (.exit 0) [] w1) (fun t2 w1 => Q .ret [⟨2, .bool t2, none⟩] w1)

def G_law03_PoolCounts : Gen where
  loop := lookL [([false, true, false, true, true, true], spec_law03_PoolCounts_L1)]
  plan := fun id =>
    bif Nat.beq id 19 then some ([0, 0, 0, 6, 14, 30, 0, 0, 192, 448, 960, 2047, 4095], .take 0 (.take 1 (.take 2 (.take 3 (.take 4 (.take 5 (.take 6 (.take 7 (.take 8 (.take 9 (.take 10 (.take 11 (.take 12 .done))))))))))))) else none

def dx_law03_PoolCounts_L1_0 (e : Env) (K : ((Option Addr) × Nat × Nat × (Option Addr)) → Prop) : Prop :=
  onV (getV e 0) fun u1 =>
  asS u1 fun lP_1 lN_1 lC_1 =>
  onV (getV e 3) fun u2 =>
  asP u2 fun p =>
    K (lP_1, lN_1, lC_1, p)

def dx_law03_PoolCounts_L1_ret (e : Env) (K : ((Option Addr) × Nat × Nat × (Option Addr)) → Bool → Prop) : Prop :=
  onV (getV e 0) fun u1 =>
  asS u1 fun lP_1 lN_1 lC_1 =>
  onV (getV e 3) fun u2 =>
  asP u2 fun p =>
  onV (getV e 2) fun u3 =>
  asB u3 fun t2 =>
    K (lP_1, lN_1, lC_1, p) t2

theorem body_law03_PoolCounts_L1 (f : (Option Addr) × Nat × Nat × (Option Addr)) (s : S_law03_PoolCounts_L1) (w : World) (Kn : ((Option Addr) × Nat × Nat × (Option Addr)) → S_law03_PoolCounts_L1 → World → Prop) (Kx0 : ((Option Addr) × Nat × Nat × (Option Addr)) → World → Prop) (Kr : ((Option Addr) × Nat × Nat × (Option Addr)) → Bool → World → Prop) :
    B_law03_PoolCounts_L1 f.1 f.2.1 f.2.2.1 f.2.2.2 s w (fun s1 w1 => Kn f s1 w1) (fun w1 => Kx0 f w1) (fun t2 w1 => Kr f t2 w1) =
    den Try.prog Try.f4.ntmps G_law03_PoolCounts (sub (codeOf Try.f4) [false, false, true, false, true, true, true]) [false, false, true, false, true, true, true] (roundQ (fun e w => dec_law03_PoolCounts_L1 e fun f s => Kn f s w) (fun e w => dx_law03_PoolCounts_L1_ret e fun f t2 => Kr f t2 w) (fun id e w => match Nat.beq id 0 with | true => dx_law03_PoolCounts_L1_0 e fun f => Kx0 f w | false => False)) (lit_law03_PoolCounts_L1 f s) w := by kernel_rfl

theorem ok_law03_PoolCounts_L1 : OneOk Try.prog Try.f4.ntmps G_law03_PoolCounts (codeOf Try.f4) [false, true, false, true, true, true] spec_law03_PoolCounts_L1 := by
  intro c hc ih Q e w a hr h
  have hcc : sub (codeOf Try.f4) [false, false, true, false, true, true, true] = c := sub_of_codeAt hc
  obtain ⟨f, s, h, hrep⟩ := dec_law03_PoolCounts_L1_ok e a _ hr h
  obtain ⟨J, μ, hj, hround⟩ := h
  refine loop_rule_deep seat_ok seat_mixed ih lit_law03_PoolCounts_L1 dec_law03_PoolCounts_L1 dec_law03_PoolCounts_L1_ok hc f J μ (Kr := fun e w => dx_law03_PoolCounts_L1_ret e fun f1 t2 => f1 = f ∧ Q .ret [⟨2, .bool t2, none⟩] w) (Kx := fun id e w => match Nat.beq id 0 with | true => (dx_law03_PoolCounts_L1_0 e fun f1 => f1 = f ∧ Q (.exit 0) [] w) | false => False) ?_ ?_ ?_ s w a hj hrep
  · intro e a w hr h0
    unfold dx_law03_PoolCounts_L1_ret at h0
    obtain ⟨u1, g0, h1⟩ := onV_elim h0
    obtain ⟨lP_1, lN_1, lC_1, rfl, h2⟩ := asS_elim h1
    obtain ⟨u2, g3, h3⟩ := onV_elim h2
    obtain ⟨p, rfl, h4⟩ := asP_elim h3
    obtain ⟨u3, g2, h5⟩ := onV_elim h4
    obtain ⟨t2, rfl, h6⟩ := asB_elim h5
    obtain ⟨hf, hq⟩ := h6
    subst hf
    exact ⟨_, rep_less hr (by simp [g2]), hq⟩
  · intro id e a w hr h0
    (try dsimp only at h0)
    split at h0
    · rename_i hid
      obtain rfl := Nat.eq_of_beq_eq_true hid
      unfold dx_law03_PoolCounts_L1_0 at h0
      obtain ⟨u1, g0, h1⟩ := onV_elim h0
      obtain ⟨lP_1, lN_1, lC_1, rfl, h2⟩ := asS_elim h1
      obtain ⟨u2, g3, h3⟩ := onV_elim h2
      obtain ⟨p, rfl, h4⟩ := asP_elim h3
      obtain ⟨hf, hq⟩ := h4
      subst hf
      exact ⟨_, rep_less hr (by simp), hq⟩
    · exact h0.elim
  · intro s w hj
    have hb := hround s w hj
    rw [← hcc]
    have e1 := body_law03_PoolCounts_L1 f s w (fun f1 s1 w1 => f1 = f ∧ J s1 w1 ∧ μ s1 w1 < μ s w) (fun f1 w1 => f1 = f ∧ Q (.exit 0) [] w1) (fun f1 t2 w1 => f1 = f ∧ Q .ret [⟨2, .bool t2, none⟩] w1)
    simp only [true_and] at e1
    exact cast e1 hb

theorem loops_law03_PoolCounts : LoopOk Try.prog Try.f4.ntmps G_law03_PoolCounts (codeOf Try.f4) := loopOk_list rfl ⟨ok_law03_PoolCounts_L1, trivial⟩

theorem den_law03_PoolCounts (lP : Option Addr) (lN : Nat) (lC : Nat) (w : World) (R : Value → World → Prop) :
    F_law03_PoolCounts lP lN lC w (fun r w1 => R (.bool r) w1) = den Try.prog Try.f4.ntmps G_law03_PoolCounts (codeOf Try.f4) [] (postD Try.prog Try.f4.results.toList R) (entry [.slice lP lN lC] 0) w := by kernel_rfl

theorem C_law03_PoolCounts.of {lP : Option Addr} {lN : Nat} {lC : Nat} {w : World} {R : Bool → World → Prop} (h : F_law03_PoolCounts lP lN lC w R) : C_law03_PoolCounts lP lN lC w R := by
  refine (calls_of_den (c := codeOf Try.f4) seat_ok seat_mixed Try.func4 (by kernel_rfl) loops_law03_PoolCounts (args := [.slice lP lN lC]) rfl (R := fun v w1 => ∃ (r : Bool), v = (.bool r : Value) ∧ R r w1) ?_).mono ?_
  · rw [← den_law03_PoolCounts]
    have e : (fun r w1 => ∃ (r' : Bool), (.bool r : Value) = (.bool r' : Value) ∧ R r' w1) = R := by
      funext r w1
      exact propext ⟨fun ⟨r', he, h⟩ => by simp at he; simp_all, fun h => ⟨_, rfl, h⟩⟩
    simpa only [e] using h
  · rintro en w1 ⟨v, he, r, rfl, h⟩
    exact ⟨_, he, h⟩

end Go.Proofs.Ytcgnligpjfhjlaa
