/- The formulas of this seat's functions, held against the loaded program by the kernel. Printed by a program. -/
import Derived.Test.YtdmjbkpibgfeiaaGenC
set_option maxRecDepth 100000
set_option linter.unusedVariables false
namespace Go.Proofs.Ytdmjbkpibgfeiaa
open Go Go.D Go.Proofs

structure S_ref22_Stack_At_L1 where
  startsP : Option Addr
  startsN : Nat
  startsC : Nat
  i : Int

structure S_ref22_Stack_At_L3 where
  n : Int

structure S_ref22_Stack_At_L2 where
  i_1 : Int

/-- One round. -/
def B_ref22_Stack_At_L1 (sx_1 : Option Addr) (basex_1 : Int) (s : S_ref22_Stack_At_L1) (w : World) (Kn : S_ref22_Stack_At_L1 → World → Prop) (Kx0 : Option Addr → Nat → Nat → World → Prop) : Prop :=
  NN sx_1 fun a_1 =>
  ∃ CP : Option Addr, ∃ CN : Nat, ∃ CC : Nat, w.cell? (a_1.add 2) = some (.slice CP CN CC) ∧
  If (decide ((s.i : Int) < (CN : Int)))
  (NN sx_1 fun a_2 =>
  ∃ CP_1 : Option Addr, ∃ CN_1 : Nat, ∃ CC_1 : Nat, w.cell? (a_2.add 2) = some (.slice CP_1 CN_1 CC_1) ∧
  0 ≤ (s.i : Int) ∧ (s.i : Int) < (CN_1 : Int) ∧ NN CP_1 fun a_3 =>
  ∃ Env : Int, w.cell? ((a_3.add ((s.i : Int).toNat * 10)).add 9) = some (.int .i64 Env) ∧
  BSl Try.prog 44 1 [(0, .int .i64 Env)] w fun t32P t32N t32C w1_1 =>
  App Try.prog #[44, 44] 44 #[.slice s.startsP s.startsN s.startsC, .slice t32P t32N t32C] w1_1 fun t33P t33N t33C w1_2 =>
  Kn ⟨t33P, t33N, t33C, (IntKind.i64.wrap ((s.i : Int) + (1 : Int)))⟩ w1_2)
  (Kx0 s.startsP s.startsN s.startsC w)

def F_ref22_Stack_At_L1 (sx_1 : Option Addr) (basex_1 : Int) (s : S_ref22_Stack_At_L1) (w : World) (Kx0 : Option Addr → Nat → Nat → World → Prop) : Prop :=
  LoopS (fun s w Kn => B_ref22_Stack_At_L1 sx_1 basex_1 s w Kn Kx0) s w

/-- One round. -/
def B_ref22_Stack_At_L3 (sx_3 : Option Addr) (basex_3 : Int) (startsP_4 : Option Addr) (startsN_4 : Nat) (startsC_4 : Nat) (i_2 : Int) (s : S_ref22_Stack_At_L3) (w : World) (Kn : S_ref22_Stack_At_L3 → World → Prop) (Kx4 : World → Prop) (Kr : Int → World → Prop) : Prop :=
  If (decide ((s.n : Int) ≥ (0 : Int)))
  (NN sx_3 fun a_5 =>
  ∃ EP : Option Addr, ∃ EN : Nat, ∃ EC : Nat, w.cell? (a_5.add 0) = some (.slice EP EN EC) ∧
  0 ≤ (s.n : Int) ∧ (s.n : Int) < (EN : Int) ∧ NN EP fun a_6 =>
  ∃ Base : Int, w.cell? ((a_6.add ((s.n : Int).toNat * 5)).add 0) = some (.int .i64 Base) ∧
  If (Base == basex_3)
  (Kr (s.n : Int) w)
  (NN sx_3 fun a_7 =>
  ∃ EP_1 : Option Addr, ∃ EN_1 : Nat, ∃ EC_1 : Nat, w.cell? (a_7.add 0) = some (.slice EP_1 EN_1 EC_1) ∧
  0 ≤ (s.n : Int) ∧ (s.n : Int) < (EN_1 : Int) ∧ NN EP_1 fun a_8 =>
  ∃ Prev : Int, w.cell? ((a_8.add ((s.n : Int).toNat * 5)).add 1) = some (.int .i64 Prev) ∧
  Kn ⟨Prev⟩ w))
  (Kx4 w)

def F_ref22_Stack_At_L3 (sx_3 : Option Addr) (basex_3 : Int) (startsP_4 : Option Addr) (startsN_4 : Nat) (startsC_4 : Nat) (i_2 : Int) (s : S_ref22_Stack_At_L3) (w : World) (Kx4 : World → Prop) (Kr : Int → World → Prop) : Prop :=
  LoopS (fun s w Kn => B_ref22_Stack_At_L3 sx_3 basex_3 startsP_4 startsN_4 startsC_4 i_2 s w Kn Kx4 Kr) s w

/-- One round. -/
def B_ref22_Stack_At_L2 (sx_2 : Option Addr) (basex_2 : Int) (startsP_3 : Option Addr) (startsN_3 : Nat) (startsC_3 : Nat) (s : S_ref22_Stack_At_L2) (w : World) (Kn : S_ref22_Stack_At_L2 → World → Prop) (Kx2 : World → Prop) (Kr : Int → World → Prop) : Prop :=
  If (decide ((s.i_1 : Int) < (startsN_3 : Int)))
  (0 ≤ (s.i_1 : Int) ∧ (s.i_1 : Int) < (startsN_3 : Int) ∧ NN startsP_3 fun a_4 =>
  ∃ t43 : Int, w.cell? (a_4.add ((s.i_1 : Int).toNat * 1)) = some (.int .i64 t43) ∧
  F_ref22_Stack_At_L3 sx_2 basex_2 startsP_3 startsN_3 startsC_3 (s.i_1 : Int) ⟨t43⟩ w
  (fun w1_4 =>
  Kn ⟨(IntKind.i64.wrap ((s.i_1 : Int) + (1 : Int)))⟩ w1_4)
  (fun t4_2 w1_5 =>
  Kr t4_2 w1_5))
  (Kx2 w)

def F_ref22_Stack_At_L2 (sx_2 : Option Addr) (basex_2 : Int) (startsP_3 : Option Addr) (startsN_3 : Nat) (startsC_3 : Nat) (s : S_ref22_Stack_At_L2) (w : World) (Kx2 : World → Prop) (Kr : Int → World → Prop) : Prop :=
  LoopS (fun s w Kn => B_ref22_Stack_At_L2 sx_2 basex_2 startsP_3 startsN_3 startsC_3 s w Kn Kx2 Kr) s w

def F_ref22_Stack_At (sx : Option Addr) (basex : Int) (w : World) (R : Int → World → Prop) : Prop :=
  NN sx fun a =>
  ∃ Cur : Int, w.cell? (a.add 1) = some (.int .i64 Cur) ∧
  BSl Try.prog 44 1 [(0, .int .i64 Cur)] w fun t13P t13N t13C w1 =>
  F_ref22_Stack_At_L1 sx basex ⟨t13P, t13N, t13C, (0 : Int)⟩ w1
  (fun startsP_2 startsN_2 startsC_2 w1_3 =>
  F_ref22_Stack_At_L2 sx basex startsP_2 startsN_2 startsC_2 ⟨(0 : Int)⟩ w1_3
  (fun w1_6 =>
  R (-1) w1_6)
  (fun t4_3 w1_7 =>
  R t4_3 w1_7))

def lit_ref22_Stack_At_L1 (f : (Option Addr) × Int) (s : S_ref22_Stack_At_L1) : Env := [⟨0, .pointer f.1, none⟩, ⟨1, .int .i64 f.2, none⟩, ⟨5, .slice s.startsP s.startsN s.startsC, none⟩, ⟨6, .int .i64 s.i, none⟩]

def dec_ref22_Stack_At_L1 (e : Env) (K : ((Option Addr) × Int) → S_ref22_Stack_At_L1 → Prop) : Prop :=
  onV (getV e 0) fun u1 =>
  asP u1 fun sx_1 =>
  onV (getV e 1) fun u2 =>
  asI .i64 u2 fun basex_1 =>
  onV (getV e 5) fun u3 =>
  asS u3 fun startsP startsN startsC =>
  onV (getV e 6) fun u4 =>
  asI .i64 u4 fun i =>
    K (sx_1, basex_1) ⟨startsP, startsN, startsC, i⟩

theorem dec_ref22_Stack_At_L1_ok {N : Nat} (e : Env) (a : Act) (K : ((Option Addr) × Int) → S_ref22_Stack_At_L1 → Prop) (hr : Rep N a e) (h0 : dec_ref22_Stack_At_L1 e K) : ∃ f s, K f s ∧ Rep N a (lit_ref22_Stack_At_L1 f s) := by
  unfold dec_ref22_Stack_At_L1 at h0
  obtain ⟨u1, g0, h1⟩ := onV_elim h0
  obtain ⟨sx_1, rfl, h2⟩ := asP_elim h1
  obtain ⟨u2, g1, h3⟩ := onV_elim h2
  obtain ⟨basex_1, rfl, h4⟩ := asI_elim h3
  obtain ⟨u3, g5, h5⟩ := onV_elim h4
  obtain ⟨startsP, startsN, startsC, rfl, h6⟩ := asS_elim h5
  obtain ⟨u4, g6, h7⟩ := onV_elim h6
  obtain ⟨i, rfl, h8⟩ := asI_elim h7
  exact ⟨_, _, h8, rep_less hr (by simp [lit_ref22_Stack_At_L1, g0, g1, g5, g6])⟩

def spec_ref22_Stack_At_L1 (Q : Post) (e : Env) (w : World) : Prop :=
  dec_ref22_Stack_At_L1 e fun f s => F_ref22_Stack_At_L1 f.1 f.2 s w (fun startsP_1 startsN_1 startsC_1 w1 => Q (.exit 0) [⟨0, .pointer f.1, none⟩, ⟨1, .int .i64 f.2, none⟩, ⟨5, .slice startsP_1 startsN_1 startsC_1, none⟩] w1)

def lit_ref22_Stack_At_L2 (f : (Option Addr) × Int × (Option Addr) × Nat × Nat) (s : S_ref22_Stack_At_L2) : Env := [⟨0, .pointer f.1, none⟩, ⟨1, .int .i64 f.2.1, none⟩, ⟨5, .slice f.2.2.1 f.2.2.2.1 f.2.2.2.2, none⟩, ⟨7, .int .i64 s.i_1, none⟩]

def dec_ref22_Stack_At_L2 (e : Env) (K : ((Option Addr) × Int × (Option Addr) × Nat × Nat) → S_ref22_Stack_At_L2 → Prop) : Prop :=
  onV (getV e 0) fun u1 =>
  asP u1 fun sx_2 =>
  onV (getV e 1) fun u2 =>
  asI .i64 u2 fun basex_2 =>
  onV (getV e 5) fun u3 =>
  asS u3 fun startsP_3 startsN_3 startsC_3 =>
  onV (getV e 7) fun u4 =>
  asI .i64 u4 fun i_1 =>
    K (sx_2, basex_2, startsP_3, startsN_3, startsC_3) ⟨i_1⟩

theorem dec_ref22_Stack_At_L2_ok {N : Nat} (e : Env) (a : Act) (K : ((Option Addr) × Int × (Option Addr) × Nat × Nat) → S_ref22_Stack_At_L2 → Prop) (hr : Rep N a e) (h0 : dec_ref22_Stack_At_L2 e K) : ∃ f s, K f s ∧ Rep N a (lit_ref22_Stack_At_L2 f s) := by
  unfold dec_ref22_Stack_At_L2 at h0
  obtain ⟨u1, g0, h1⟩ := onV_elim h0
  obtain ⟨sx_2, rfl, h2⟩ := asP_elim h1
  obtain ⟨u2, g1, h3⟩ := onV_elim h2
  obtain ⟨basex_2, rfl, h4⟩ := asI_elim h3
  obtain ⟨u3, g5, h5⟩ := onV_elim h4
  obtain ⟨startsP_3, startsN_3, startsC_3, rfl, h6⟩ := asS_elim h5
  obtain ⟨u4, g7, h7⟩ := onV_elim h6
  obtain ⟨i_1, rfl, h8⟩ := asI_elim h7
  exact ⟨_, _, h8, rep_less hr (by simp [lit_ref22_Stack_At_L2, g0, g1, g5, g7])⟩

def spec_ref22_Stack_At_L2 (Q : Post) (e : Env) (w : World) : Prop :=
  dec_ref22_Stack_At_L2 e fun f s => F_ref22_Stack_At_L2 f.1 f.2.1 f.2.2.1 f.2.2.2.1 f.2.2.2.2 s w (fun w1 => Q (.exit 2) [] w1) (fun t4 w1 => Q .ret [⟨4, .int .i64 t4, none⟩] w1)

def lit_ref22_Stack_At_L3 (f : (Option Addr) × Int × (Option Addr) × Nat × Nat × Int) (s : S_ref22_Stack_At_L3) : Env := [⟨0, .pointer f.1, none⟩, ⟨1, .int .i64 f.2.1, none⟩, ⟨5, .slice f.2.2.1 f.2.2.2.1 f.2.2.2.2.1, none⟩, ⟨7, .int .i64 f.2.2.2.2.2, none⟩, ⟨8, .int .i64 s.n, none⟩]

def dec_ref22_Stack_At_L3 (e : Env) (K : ((Option Addr) × Int × (Option Addr) × Nat × Nat × Int) → S_ref22_Stack_At_L3 → Prop) : Prop :=
  onV (getV e 0) fun u1 =>
  asP u1 fun sx_3 =>
  onV (getV e 1) fun u2 =>
  asI .i64 u2 fun basex_3 =>
  onV (getV e 5) fun u3 =>
  asS u3 fun startsP_4 startsN_4 startsC_4 =>
  onV (getV e 7) fun u4 =>
  asI .i64 u4 fun i_2 =>
  onV (getV e 8) fun u5 =>
  asI .i64 u5 fun n =>
    K (sx_3, basex_3, startsP_4, startsN_4, startsC_4, i_2) ⟨n⟩

theorem dec_ref22_Stack_At_L3_ok {N : Nat} (e : Env) (a : Act) (K : ((Option Addr) × Int × (Option Addr) × Nat × Nat × Int) → S_ref22_Stack_At_L3 → Prop) (hr : Rep N a e) (h0 : dec_ref22_Stack_At_L3 e K) : ∃ f s, K f s ∧ Rep N a (lit_ref22_Stack_At_L3 f s) := by
  unfold dec_ref22_Stack_At_L3 at h0
  obtain ⟨u1, g0, h1⟩ := onV_elim h0
  obtain ⟨sx_3, rfl, h2⟩ := asP_elim h1
  obtain ⟨u2, g1, h3⟩ := onV_elim h2
  obtain ⟨basex_3, rfl, h4⟩ := asI_elim h3
  obtain ⟨u3, g5, h5⟩ := onV_elim h4
  obtain ⟨startsP_4, startsN_4, startsC_4, rfl, h6⟩ := asS_elim h5
  obtain ⟨u4, g7, h7⟩ := onV_elim h6
  obtain ⟨i_2, rfl, h8⟩ := asI_elim h7
  obtain ⟨u5, g8, h9⟩ := onV_elim h8
  obtain ⟨n, rfl, h10⟩ := asI_elim h9
  exact ⟨_, _, h10, rep_less hr (by simp [lit_ref22_Stack_At_L3, g0, g1, g5, g7, g8])⟩

def spec_ref22_Stack_At_L3 (Q : Post) (e : Env) (w : World) : Prop :=
  dec_ref22_Stack_At_L3 e fun f s => F_ref22_Stack_At_L3 f.1 f.2.1 f.2.2.1 f.2.2.2.1 f.2.2.2.2.1 f.2.2.2.2.2 s w (fun w1 => Q (.exit 4) [⟨0, .pointer f.1, none⟩, ⟨1, .int .i64 f.2.1, none⟩, ⟨5, .slice f.2.2.1 f.2.2.2.1 f.2.2.2.2.1, none⟩, ⟨7, .int .i64 f.2.2.2.2.2, none⟩] w1) (fun t4_1 w1 => Q .ret [⟨0, .pointer f.1, none⟩, ⟨1, .int .i64 f.2.1, none⟩, ⟨5, .slice f.2.2.1 f.2.2.2.1 f.2.2.2.2.1, none⟩, ⟨4, .int .i64 t4_1, none⟩] w1)

def G_ref22_Stack_At : Gen where
  loop := lookL [([false, true, false, true, true], spec_ref22_Stack_At_L1), ([false, true, false, true, true, true], spec_ref22_Stack_At_L2), ([false, true, false, false, true, false, false, true, false, true, true, true], spec_ref22_Stack_At_L3)]
  plan := fun _ => none

def dx_ref22_Stack_At_L1_0 (e : Env) (K : ((Option Addr) × Int) → Option Addr → Nat → Nat → Prop) : Prop :=
  onV (getV e 0) fun u1 =>
  asP u1 fun sx_1 =>
  onV (getV e 1) fun u2 =>
  asI .i64 u2 fun basex_1 =>
  onV (getV e 5) fun u3 =>
  asS u3 fun startsP_1 startsN_1 startsC_1 =>
    K (sx_1, basex_1) startsP_1 startsN_1 startsC_1

theorem body_ref22_Stack_At_L1 (f : (Option Addr) × Int) (s : S_ref22_Stack_At_L1) (w : World) (Kn : ((Option Addr) × Int) → S_ref22_Stack_At_L1 → World → Prop) (Kx0 : ((Option Addr) × Int) → Option Addr → Nat → Nat → World → Prop) :
    B_ref22_Stack_At_L1 f.1 f.2 s w (fun s1 w1 => Kn f s1 w1) (fun startsP_1 startsN_1 startsC_1 w1 => Kx0 f startsP_1 startsN_1 startsC_1 w1) =
    den Try.prog Try.f61.ntmps G_ref22_Stack_At (sub (codeOf Try.f61) [false, false, true, false, true, true]) [false, false, true, false, true, true] (roundQ (fun e w => dec_ref22_Stack_At_L1 e fun f s => Kn f s w) (fun e w => False) (fun id e w => match Nat.beq id 0 with | true => dx_ref22_Stack_At_L1_0 e fun f startsP_1 startsN_1 startsC_1 => Kx0 f startsP_1 startsN_1 startsC_1 w | false => False)) (lit_ref22_Stack_At_L1 f s) w := by kernel_rfl

def dx_ref22_Stack_At_L2_2 (e : Env) (K : ((Option Addr) × Int × (Option Addr) × Nat × Nat) → Prop) : Prop :=
  onV (getV e 0) fun u1 =>
  asP u1 fun sx_2 =>
  onV (getV e 1) fun u2 =>
  asI .i64 u2 fun basex_2 =>
  onV (getV e 5) fun u3 =>
  asS u3 fun startsP_3 startsN_3 startsC_3 =>
    K (sx_2, basex_2, startsP_3, startsN_3, startsC_3)

def dx_ref22_Stack_At_L2_ret (e : Env) (K : ((Option Addr) × Int × (Option Addr) × Nat × Nat) → Int → Prop) : Prop :=
  onV (getV e 0) fun u1 =>
  asP u1 fun sx_2 =>
  onV (getV e 1) fun u2 =>
  asI .i64 u2 fun basex_2 =>
  onV (getV e 5) fun u3 =>
  asS u3 fun startsP_3 startsN_3 startsC_3 =>
  onV (getV e 4) fun u4 =>
  asI .i64 u4 fun t4 =>
    K (sx_2, basex_2, startsP_3, startsN_3, startsC_3) t4

theorem body_ref22_Stack_At_L2 (f : (Option Addr) × Int × (Option Addr) × Nat × Nat) (s : S_ref22_Stack_At_L2) (w : World) (Kn : ((Option Addr) × Int × (Option Addr) × Nat × Nat) → S_ref22_Stack_At_L2 → World → Prop) (Kx2 : ((Option Addr) × Int × (Option Addr) × Nat × Nat) → World → Prop) (Kr : ((Option Addr) × Int × (Option Addr) × Nat × Nat) → Int → World → Prop) :
    B_ref22_Stack_At_L2 f.1 f.2.1 f.2.2.1 f.2.2.2.1 f.2.2.2.2 s w (fun s1 w1 => Kn f s1 w1) (fun w1 => Kx2 f w1) (fun t4 w1 => Kr f t4 w1) =
    den Try.prog Try.f61.ntmps G_ref22_Stack_At (sub (codeOf Try.f61) [false, false, true, false, true, true, true]) [false, false, true, false, true, true, true] (roundQ (fun e w => dec_ref22_Stack_At_L2 e fun f s => Kn f s w) (fun e w => dx_ref22_Stack_At_L2_ret e fun f t4 => Kr f t4 w) (fun id e w => match Nat.beq id 2 with | true => dx_ref22_Stack_At_L2_2 e fun f => Kx2 f w | false => False)) (lit_ref22_Stack_At_L2 f s) w := by kernel_rfl

def dx_ref22_Stack_At_L3_4 (e : Env) (K : ((Option Addr) × Int × (Option Addr) × Nat × Nat × Int) → Prop) : Prop :=
  onV (getV e 0) fun u1 =>
  asP u1 fun sx_3 =>
  onV (getV e 1) fun u2 =>
  asI .i64 u2 fun basex_3 =>
  onV (getV e 5) fun u3 =>
  asS u3 fun startsP_4 startsN_4 startsC_4 =>
  onV (getV e 7) fun u4 =>
  asI .i64 u4 fun i_2 =>
    K (sx_3, basex_3, startsP_4, startsN_4, startsC_4, i_2)

def dx_ref22_Stack_At_L3_ret (e : Env) (K : ((Option Addr) × Int × (Option Addr) × Nat × Nat × Int) → Int → Prop) : Prop :=
  onV (getV e 0) fun u1 =>
  asP u1 fun sx_3 =>
  onV (getV e 1) fun u2 =>
  asI .i64 u2 fun basex_3 =>
  onV (getV e 5) fun u3 =>
  asS u3 fun startsP_4 startsN_4 startsC_4 =>
  onV (getV e 7) fun u4 =>
  asI .i64 u4 fun i_2 =>
  onV (getV e 4) fun u5 =>
  asI .i64 u5 fun t4_1 =>
    K (sx_3, basex_3, startsP_4, startsN_4, startsC_4, i_2) t4_1

theorem body_ref22_Stack_At_L3 (f : (Option Addr) × Int × (Option Addr) × Nat × Nat × Int) (s : S_ref22_Stack_At_L3) (w : World) (Kn : ((Option Addr) × Int × (Option Addr) × Nat × Nat × Int) → S_ref22_Stack_At_L3 → World → Prop) (Kx4 : ((Option Addr) × Int × (Option Addr) × Nat × Nat × Int) → World → Prop) (Kr : ((Option Addr) × Int × (Option Addr) × Nat × Nat × Int) → Int → World → Prop) :
    B_ref22_Stack_At_L3 f.1 f.2.1 f.2.2.1 f.2.2.2.1 f.2.2.2.2.1 f.2.2.2.2.2 s w (fun s1 w1 => Kn f s1 w1) (fun w1 => Kx4 f w1) (fun t4_1 w1 => Kr f t4_1 w1) =
    den Try.prog Try.f61.ntmps G_ref22_Stack_At (sub (codeOf Try.f61) [false, false, true, false, false, true, false, false, true, false, true, true, true]) [false, false, true, false, false, true, false, false, true, false, true, true, true] (roundQ (fun e w => dec_ref22_Stack_At_L3 e fun f s => Kn f s w) (fun e w => dx_ref22_Stack_At_L3_ret e fun f t4_1 => Kr f t4_1 w) (fun id e w => match Nat.beq id 4 with | true => dx_ref22_Stack_At_L3_4 e fun f => Kx4 f w | false => False)) (lit_ref22_Stack_At_L3 f s) w := by kernel_rfl

theorem ok_ref22_Stack_At_L1 : OneOk Try.prog Try.f61.ntmps G_ref22_Stack_At (codeOf Try.f61) [false, true, false, true, true] spec_ref22_Stack_At_L1 := by
  intro c hc ih Q e w a hr h
  have hcc : sub (codeOf Try.f61) [false, false, true, false, true, true] = c := sub_of_codeAt hc
  obtain ⟨f, s, h, hrep⟩ := dec_ref22_Stack_At_L1_ok e a _ hr h
  obtain ⟨J, μ, hj, hround⟩ := h
  refine loop_rule_deep seat_ok seat_mixed ih lit_ref22_Stack_At_L1 dec_ref22_Stack_At_L1 dec_ref22_Stack_At_L1_ok hc f J μ (Kr := fun e w => False) (Kx := fun id e w => match Nat.beq id 0 with | true => (dx_ref22_Stack_At_L1_0 e fun f1 startsP_1 startsN_1 startsC_1 => f1 = f ∧ Q (.exit 0) [⟨0, .pointer f.1, none⟩, ⟨1, .int .i64 f.2, none⟩, ⟨5, .slice startsP_1 startsN_1 startsC_1, none⟩] w) | false => False) ?_ ?_ ?_ s w a hj hrep
  · intro e a w hr h
    exact h.elim
  · intro id e a w hr h0
    (try dsimp only at h0)
    split at h0
    · rename_i hid
      obtain rfl := Nat.eq_of_beq_eq_true hid
      unfold dx_ref22_Stack_At_L1_0 at h0
      obtain ⟨u1, g0, h1⟩ := onV_elim h0
      obtain ⟨sx_1, rfl, h2⟩ := asP_elim h1
      obtain ⟨u2, g1, h3⟩ := onV_elim h2
      obtain ⟨basex_1, rfl, h4⟩ := asI_elim h3
      obtain ⟨u3, g5, h5⟩ := onV_elim h4
      obtain ⟨startsP_1, startsN_1, startsC_1, rfl, h6⟩ := asS_elim h5
      obtain ⟨hf, hq⟩ := h6
      subst hf
      exact ⟨_, rep_less hr (by simp [g0, g1, g5]), hq⟩
    · exact h0.elim
  · intro s w hj
    have hb := hround s w hj
    rw [← hcc]
    have e1 := body_ref22_Stack_At_L1 f s w (fun f1 s1 w1 => f1 = f ∧ J s1 w1 ∧ μ s1 w1 < μ s w) (fun f1 startsP_1 startsN_1 startsC_1 w1 => f1 = f ∧ Q (.exit 0) [⟨0, .pointer f.1, none⟩, ⟨1, .int .i64 f.2, none⟩, ⟨5, .slice startsP_1 startsN_1 startsC_1, none⟩] w1)
    simp only [true_and] at e1
    exact cast e1 hb

theorem ok_ref22_Stack_At_L2 : OneOk Try.prog Try.f61.ntmps G_ref22_Stack_At (codeOf Try.f61) [false, true, false, true, true, true] spec_ref22_Stack_At_L2 := by
  intro c hc ih Q e w a hr h
  have hcc : sub (codeOf Try.f61) [false, false, true, false, true, true, true] = c := sub_of_codeAt hc
  obtain ⟨f, s, h, hrep⟩ := dec_ref22_Stack_At_L2_ok e a _ hr h
  obtain ⟨J, μ, hj, hround⟩ := h
  refine loop_rule_deep seat_ok seat_mixed ih lit_ref22_Stack_At_L2 dec_ref22_Stack_At_L2 dec_ref22_Stack_At_L2_ok hc f J μ (Kr := fun e w => dx_ref22_Stack_At_L2_ret e fun f1 t4 => f1 = f ∧ Q .ret [⟨4, .int .i64 t4, none⟩] w) (Kx := fun id e w => match Nat.beq id 2 with | true => (dx_ref22_Stack_At_L2_2 e fun f1 => f1 = f ∧ Q (.exit 2) [] w) | false => False) ?_ ?_ ?_ s w a hj hrep
  · intro e a w hr h0
    unfold dx_ref22_Stack_At_L2_ret at h0
    obtain ⟨u1, g0, h1⟩ := onV_elim h0
    obtain ⟨sx_2, rfl, h2⟩ := asP_elim h1
    obtain ⟨u2, g1, h3⟩ := onV_elim h2
    obtain ⟨basex_2, rfl, h4⟩ := asI_elim h3
    obtain ⟨u3, g5, h5⟩ := onV_elim h4
    obtain ⟨startsP_3, startsN_3, startsC_3, rfl, h6⟩ := asS_elim h5
    obtain ⟨u4, g4, h7⟩ := onV_elim h6
    obtain ⟨t4, rfl, h8⟩ := asI_elim h7
    obtain ⟨hf, hq⟩ := h8
    subst hf
    exact ⟨_, rep_less hr (by simp [g4]), hq⟩
  · intro id e a w hr h0
    (try dsimp only at h0)
    split at h0
    · rename_i hid
      obtain rfl := Nat.eq_of_beq_eq_true hid
      unfold dx_ref22_Stack_At_L2_2 at h0
      obtain ⟨u1, g0, h1⟩ := onV_elim h0
      obtain ⟨sx_2, rfl, h2⟩ := asP_elim h1
      obtain ⟨u2, g1, h3⟩ := onV_elim h2
      obtain ⟨basex_2, rfl, h4⟩ := asI_elim h3
      obtain ⟨u3, g5, h5⟩ := onV_elim h4
      obtain ⟨startsP_3, startsN_3, startsC_3, rfl, h6⟩ := asS_elim h5
      obtain ⟨hf, hq⟩ := h6
      subst hf
      exact ⟨_, rep_less hr (by simp), hq⟩
    · exact h0.elim
  · intro s w hj
    have hb := hround s w hj
    rw [← hcc]
    have e1 := body_ref22_Stack_At_L2 f s w (fun f1 s1 w1 => f1 = f ∧ J s1 w1 ∧ μ s1 w1 < μ s w) (fun f1 w1 => f1 = f ∧ Q (.exit 2) [] w1) (fun f1 t4 w1 => f1 = f ∧ Q .ret [⟨4, .int .i64 t4, none⟩] w1)
    simp only [true_and] at e1
    exact cast e1 hb

theorem ok_ref22_Stack_At_L3 : OneOk Try.prog Try.f61.ntmps G_ref22_Stack_At (codeOf Try.f61) [false, true, false, false, true, false, false, true, false, true, true, true] spec_ref22_Stack_At_L3 := by
  intro c hc ih Q e w a hr h
  have hcc : sub (codeOf Try.f61) [false, false, true, false, false, true, false, false, true, false, true, true, true] = c := sub_of_codeAt hc
  obtain ⟨f, s, h, hrep⟩ := dec_ref22_Stack_At_L3_ok e a _ hr h
  obtain ⟨J, μ, hj, hround⟩ := h
  refine loop_rule_deep seat_ok seat_mixed ih lit_ref22_Stack_At_L3 dec_ref22_Stack_At_L3 dec_ref22_Stack_At_L3_ok hc f J μ (Kr := fun e w => dx_ref22_Stack_At_L3_ret e fun f1 t4_1 => f1 = f ∧ Q .ret [⟨0, .pointer f.1, none⟩, ⟨1, .int .i64 f.2.1, none⟩, ⟨5, .slice f.2.2.1 f.2.2.2.1 f.2.2.2.2.1, none⟩, ⟨4, .int .i64 t4_1, none⟩] w) (Kx := fun id e w => match Nat.beq id 4 with | true => (dx_ref22_Stack_At_L3_4 e fun f1 => f1 = f ∧ Q (.exit 4) [⟨0, .pointer f.1, none⟩, ⟨1, .int .i64 f.2.1, none⟩, ⟨5, .slice f.2.2.1 f.2.2.2.1 f.2.2.2.2.1, none⟩, ⟨7, .int .i64 f.2.2.2.2.2, none⟩] w) | false => False) ?_ ?_ ?_ s w a hj hrep
  · intro e a w hr h0
    unfold dx_ref22_Stack_At_L3_ret at h0
    obtain ⟨u1, g0, h1⟩ := onV_elim h0
    obtain ⟨sx_3, rfl, h2⟩ := asP_elim h1
    obtain ⟨u2, g1, h3⟩ := onV_elim h2
    obtain ⟨basex_3, rfl, h4⟩ := asI_elim h3
    obtain ⟨u3, g5, h5⟩ := onV_elim h4
    obtain ⟨startsP_4, startsN_4, startsC_4, rfl, h6⟩ := asS_elim h5
    obtain ⟨u4, g7, h7⟩ := onV_elim h6
    obtain ⟨i_2, rfl, h8⟩ := asI_elim h7
    obtain ⟨u5, g4, h9⟩ := onV_elim h8
    obtain ⟨t4_1, rfl, h10⟩ := asI_elim h9
    obtain ⟨hf, hq⟩ := h10
    subst hf
    exact ⟨_, rep_less hr (by simp [g0, g1, g5, g4]), hq⟩
  · intro id e a w hr h0
    (try dsimp only at h0)
    split at h0
    · rename_i hid
      obtain rfl := Nat.eq_of_beq_eq_true hid
      unfold dx_ref22_Stack_At_L3_4 at h0
      obtain ⟨u1, g0, h1⟩ := onV_elim h0
      obtain ⟨sx_3, rfl, h2⟩ := asP_elim h1
      obtain ⟨u2, g1, h3⟩ := onV_elim h2
      obtain ⟨basex_3, rfl, h4⟩ := asI_elim h3
      obtain ⟨u3, g5, h5⟩ := onV_elim h4
      obtain ⟨startsP_4, startsN_4, startsC_4, rfl, h6⟩ := asS_elim h5
      obtain ⟨u4, g7, h7⟩ := onV_elim h6
      obtain ⟨i_2, rfl, h8⟩ := asI_elim h7
      obtain ⟨hf, hq⟩ := h8
      subst hf
      exact ⟨_, rep_less hr (by simp [g0, g1, g5, g7]), hq⟩
    · exact h0.elim
  · intro s w hj
    have hb := hround s w hj
    rw [← hcc]
    have e1 := body_ref22_Stack_At_L3 f s w (fun f1 s1 w1 => f1 = f ∧ J s1 w1 ∧ μ s1 w1 < μ s w) (fun f1 w1 => f1 = f ∧ Q (.exit 4) [⟨0, .pointer f.1, none⟩, ⟨1, .int .i64 f.2.1, none⟩, ⟨5, .slice f.2.2.1 f.2.2.2.1 f.2.2.2.2.1, none⟩, ⟨7, .int .i64 f.2.2.2.2.2, none⟩] w1) (fun f1 t4_1 w1 => f1 = f ∧ Q .ret [⟨0, .pointer f.1, none⟩, ⟨1, .int .i64 f.2.1, none⟩, ⟨5, .slice f.2.2.1 f.2.2.2.1 f.2.2.2.2.1, none⟩, ⟨4, .int .i64 t4_1, none⟩] w1)
    simp only [true_and] at e1
    exact cast e1 hb

theorem loops_ref22_Stack_At : LoopOk Try.prog Try.f61.ntmps G_ref22_Stack_At (codeOf Try.f61) := loopOk_list rfl ⟨ok_ref22_Stack_At_L1, ⟨ok_ref22_Stack_At_L2, ⟨ok_ref22_Stack_At_L3, trivial⟩⟩⟩

theorem den_ref22_Stack_At (sx : Option Addr) (basex : Int) (w : World) (R : Value → World → Prop) :
    F_ref22_Stack_At sx basex w (fun r w1 => R (.int .i64 r) w1) = den Try.prog Try.f61.ntmps G_ref22_Stack_At (codeOf Try.f61) [] (postD Try.prog Try.f61.results.toList R) (entry [.pointer sx, .int .i64 basex] 0) w := by kernel_rfl

theorem C_ref22_Stack_At.of {sx : Option Addr} {basex : Int} {w : World} {R : Int → World → Prop} (h : F_ref22_Stack_At sx basex w R) : C_ref22_Stack_At sx basex w R := by
  refine (calls_of_den (c := codeOf Try.f61) seat_ok seat_mixed Try.func61 (by kernel_rfl) loops_ref22_Stack_At (args := [.pointer sx, .int .i64 basex]) rfl (R := fun v w1 => ∃ (r : Int), v = (.int .i64 r : Value) ∧ R r w1) ?_).mono ?_
  · rw [← den_ref22_Stack_At]
    have e : (fun r w1 => ∃ (r' : Int), (.int .i64 r : Value) = (.int .i64 r' : Value) ∧ R r' w1) = R := by
      funext r w1
      exact propext ⟨fun ⟨r', he, h⟩ => by first | (simp at he; simp_all) | (cases he; exact h), fun h => ⟨_, rfl, h⟩⟩
    simpa only [e] using h
  · rintro en w1 ⟨v, he, r, rfl, h⟩
    exact ⟨_, he, h⟩

structure S_frame_Stack_Change_1_L1 where
  t11 : Int

/-- One round. -/
def B_frame_Stack_Change_1_L1 (basex_1 : Int) (t1 : Addr) (t2 : Addr) (t9P_1 : Option Addr) (t9N_1 : Nat) (t9C_1 : Nat) (t10 : Int) (s : S_frame_Stack_Change_1_L1) (w : World) (Kn : S_frame_Stack_Change_1_L1 → World → Prop) (Kx0 : World → Prop) : Prop :=
  If (decide ((s.t11 : Int) < t10))
  (0 ≤ (s.t11 : Int) ∧ (s.t11 : Int) < (t9N_1 : Int) ∧ NN t9P_1 fun a =>
  ∃ t15 : Int, w.cell? (a.add ((s.t11 : Int).toNat * 1)) = some (.int .u64 t15) ∧
  ∃ t16 : Option Addr, (drw w).cell? t1 = some (.pointer t16) ∧
  NN t16 fun a_1 =>
  ∃ words : Option Addr, (drw w).cell? (a_1.add 0) = some (.pointer words) ∧
  ∃ t24 : Value, (drw w).cell? t2 = some (t24) ∧
  CallV Try.prog t24 [.int .u64 t15] (drw w) fun v w1_1 => ∃ t26 : Int, v = (.int .u64 t26) ∧
  w1_1.cell? (a_1.add 0) = (drw w).cell? (a_1.add 0) ∧
  w1_1.cell? t1 = (drw w).cell? t1 ∧
  C_room_Room_Set words (IntKind.i64.wrap ((IntKind.i64.wrap (basex_1 + (4 : Int))) + (s.t11 : Int))) t26 w1_1 fun t27 w1_2 =>
  Kn ⟨(IntKind.i64.wrap ((s.t11 : Int) + (1 : Int)))⟩ w1_2)
  (Kx0 w)

def F_frame_Stack_Change_1_L1 (basex_1 : Int) (t1 : Addr) (t2 : Addr) (t9P_1 : Option Addr) (t9N_1 : Nat) (t9C_1 : Nat) (t10 : Int) (s : S_frame_Stack_Change_1_L1) (w : World) (Kx0 : World → Prop) : Prop :=
  LoopS (fun s w Kn => B_frame_Stack_Change_1_L1 basex_1 t1 t2 t9P_1 t9N_1 t9C_1 t10 s w Kn Kx0) s w

def F_frame_Stack_Change_1 (basex : Int) (c0 : Addr) (c1 : Addr) (w : World) (R : Bool → World → Prop) : Prop :=
  ∃ t7 : Option Addr, w.cell? c0 = some (.pointer t7) ∧
  C_frame_Stack_row t7 basex w fun t9P t9N t9C w1 =>
  F_frame_Stack_Change_1_L1 basex c0 c1 t9P t9N t9C (t9N : Int) ⟨(0 : Int)⟩ w1
  (fun w1_3 =>
  R true w1_3)

def lit_frame_Stack_Change_1_L1 (f : Int × Addr × Addr × (Option Addr) × Nat × Nat × Int) (s : S_frame_Stack_Change_1_L1) : Env := [⟨0, .int .i64 f.1, none⟩, ⟨1, .pointer (some f.2.1), none⟩, ⟨2, .pointer (some f.2.2.1), none⟩, ⟨9, .slice f.2.2.2.1 f.2.2.2.2.1 f.2.2.2.2.2.1, none⟩, ⟨10, .int .i64 f.2.2.2.2.2.2, none⟩, ⟨11, .int .i64 s.t11, none⟩]

def dec_frame_Stack_Change_1_L1 (e : Env) (K : (Int × Addr × Addr × (Option Addr) × Nat × Nat × Int) → S_frame_Stack_Change_1_L1 → Prop) : Prop :=
  onV (getV e 0) fun u1 =>
  asI .i64 u1 fun basex_1 =>
  onV (getV e 1) fun u2 =>
  asA u2 fun t1 =>
  onV (getV e 2) fun u3 =>
  asA u3 fun t2 =>
  onV (getV e 9) fun u4 =>
  asS u4 fun t9P_1 t9N_1 t9C_1 =>
  onV (getV e 10) fun u5 =>
  asI .i64 u5 fun t10 =>
  onV (getV e 11) fun u6 =>
  asI .i64 u6 fun t11 =>
    K (basex_1, t1, t2, t9P_1, t9N_1, t9C_1, t10) ⟨t11⟩

theorem dec_frame_Stack_Change_1_L1_ok {N : Nat} (e : Env) (a : Act) (K : (Int × Addr × Addr × (Option Addr) × Nat × Nat × Int) → S_frame_Stack_Change_1_L1 → Prop) (hr : Rep N a e) (h0 : dec_frame_Stack_Change_1_L1 e K) : ∃ f s, K f s ∧ Rep N a (lit_frame_Stack_Change_1_L1 f s) := by
  unfold dec_frame_Stack_Change_1_L1 at h0
  obtain ⟨u1, g0, h1⟩ := onV_elim h0
  obtain ⟨basex_1, rfl, h2⟩ := asI_elim h1
  obtain ⟨u2, g1, h3⟩ := onV_elim h2
  obtain ⟨t1, rfl, h4⟩ := asA_elim h3
  obtain ⟨u3, g2, h5⟩ := onV_elim h4
  obtain ⟨t2, rfl, h6⟩ := asA_elim h5
  obtain ⟨u4, g9, h7⟩ := onV_elim h6
  obtain ⟨t9P_1, t9N_1, t9C_1, rfl, h8⟩ := asS_elim h7
  obtain ⟨u5, g10, h9⟩ := onV_elim h8
  obtain ⟨t10, rfl, h10⟩ := asI_elim h9
  obtain ⟨u6, g11, h11⟩ := onV_elim h10
  obtain ⟨t11, rfl, h12⟩ := asI_elim h11
  exact ⟨_, _, h12, rep_less hr (by simp [lit_frame_Stack_Change_1_L1, g0, g1, g2, g9, g10, g11])⟩

def spec_frame_Stack_Change_1_L1 (Q : Post) (e : Env) (w : World) : Prop :=
  dec_frame_Stack_Change_1_L1 e fun f s => F_frame_Stack_Change_1_L1 f.1 f.2.1 f.2.2.1 f.2.2.2.1 f.2.2.2.2.1 f.2.2.2.2.2.1 f.2.2.2.2.2.2 s w (fun w1 => Q (.exit 0) [] w1)

def G_frame_Stack_Change_1 : Gen where
  loop := lookL [([false, true, false, true], spec_frame_Stack_Change_1_L1)]
  plan := fun id =>
    bif Nat.beq id 4 then some ([0, 1, 3, 7, 0, 16, 0, 112, 0, 0, 768, 2047], .take 0 (.take 1 (.take 2 (.take 3 (.take 4 (.take 5 (.take 6 (.take 7 (.take 8 (.take 9 (.take 10 (.take 11 .done)))))))))))) else none

def dx_frame_Stack_Change_1_L1_0 (e : Env) (K : (Int × Addr × Addr × (Option Addr) × Nat × Nat × Int) → Prop) : Prop :=
  onV (getV e 0) fun u1 =>
  asI .i64 u1 fun basex_1 =>
  onV (getV e 1) fun u2 =>
  asA u2 fun t1 =>
  onV (getV e 2) fun u3 =>
  asA u3 fun t2 =>
  onV (getV e 9) fun u4 =>
  asS u4 fun t9P_1 t9N_1 t9C_1 =>
  onV (getV e 10) fun u5 =>
  asI .i64 u5 fun t10 =>
    K (basex_1, t1, t2, t9P_1, t9N_1, t9C_1, t10)

theorem body_frame_Stack_Change_1_L1 (f : Int × Addr × Addr × (Option Addr) × Nat × Nat × Int) (s : S_frame_Stack_Change_1_L1) (w : World) (Kn : (Int × Addr × Addr × (Option Addr) × Nat × Nat × Int) → S_frame_Stack_Change_1_L1 → World → Prop) (Kx0 : (Int × Addr × Addr × (Option Addr) × Nat × Nat × Int) → World → Prop) :
    B_frame_Stack_Change_1_L1 f.1 f.2.1 f.2.2.1 f.2.2.2.1 f.2.2.2.2.1 f.2.2.2.2.2.1 f.2.2.2.2.2.2 s w (fun s1 w1 => Kn f s1 w1) (fun w1 => Kx0 f w1) =
    den Try.prog Try.f62.ntmps G_frame_Stack_Change_1 (sub (codeOf Try.f62) [false, false, true, false, true]) [false, false, true, false, true] (roundQ (fun e w => dec_frame_Stack_Change_1_L1 e fun f s => Kn f s w) (fun e w => False) (fun id e w => match Nat.beq id 0 with | true => dx_frame_Stack_Change_1_L1_0 e fun f => Kx0 f w | false => False)) (lit_frame_Stack_Change_1_L1 f s) w := by kernel_rfl

theorem ok_frame_Stack_Change_1_L1 : OneOk Try.prog Try.f62.ntmps G_frame_Stack_Change_1 (codeOf Try.f62) [false, true, false, true] spec_frame_Stack_Change_1_L1 := by
  intro c hc ih Q e w a hr h
  have hcc : sub (codeOf Try.f62) [false, false, true, false, true] = c := sub_of_codeAt hc
  obtain ⟨f, s, h, hrep⟩ := dec_frame_Stack_Change_1_L1_ok e a _ hr h
  obtain ⟨J, μ, hj, hround⟩ := h
  refine loop_rule_deep seat_ok seat_mixed ih lit_frame_Stack_Change_1_L1 dec_frame_Stack_Change_1_L1 dec_frame_Stack_Change_1_L1_ok hc f J μ (Kr := fun e w => False) (Kx := fun id e w => match Nat.beq id 0 with | true => (dx_frame_Stack_Change_1_L1_0 e fun f1 => f1 = f ∧ Q (.exit 0) [] w) | false => False) ?_ ?_ ?_ s w a hj hrep
  · intro e a w hr h
    exact h.elim
  · intro id e a w hr h0
    (try dsimp only at h0)
    split at h0
    · rename_i hid
      obtain rfl := Nat.eq_of_beq_eq_true hid
      unfold dx_frame_Stack_Change_1_L1_0 at h0
      obtain ⟨u1, g0, h1⟩ := onV_elim h0
      obtain ⟨basex_1, rfl, h2⟩ := asI_elim h1
      obtain ⟨u2, g1, h3⟩ := onV_elim h2
      obtain ⟨t1, rfl, h4⟩ := asA_elim h3
      obtain ⟨u3, g2, h5⟩ := onV_elim h4
      obtain ⟨t2, rfl, h6⟩ := asA_elim h5
      obtain ⟨u4, g9, h7⟩ := onV_elim h6
      obtain ⟨t9P_1, t9N_1, t9C_1, rfl, h8⟩ := asS_elim h7
      obtain ⟨u5, g10, h9⟩ := onV_elim h8
      obtain ⟨t10, rfl, h10⟩ := asI_elim h9
      obtain ⟨hf, hq⟩ := h10
      subst hf
      exact ⟨_, rep_less hr (by simp), hq⟩
    · exact h0.elim
  · intro s w hj
    have hb := hround s w hj
    rw [← hcc]
    have e1 := body_frame_Stack_Change_1_L1 f s w (fun f1 s1 w1 => f1 = f ∧ J s1 w1 ∧ μ s1 w1 < μ s w) (fun f1 w1 => f1 = f ∧ Q (.exit 0) [] w1)
    simp only [true_and] at e1
    exact cast e1 hb

theorem loops_frame_Stack_Change_1 : LoopOk Try.prog Try.f62.ntmps G_frame_Stack_Change_1 (codeOf Try.f62) := loopOk_list rfl ⟨ok_frame_Stack_Change_1_L1, trivial⟩

theorem den_frame_Stack_Change_1 (basex : Int) (c0 : Addr) (c1 : Addr) (w : World) (R : Value → World → Prop) :
    F_frame_Stack_Change_1 basex c0 c1 w (fun r w1 => R (.bool r) w1) = den Try.prog Try.f62.ntmps G_frame_Stack_Change_1 (codeOf Try.f62) [] (postD Try.prog Try.f62.results.toList R) (entry [.int .i64 basex, .pointer (some c0), .pointer (some c1)] 0) w := by kernel_rfl

theorem C_frame_Stack_Change_1.of {basex : Int} {c0 : Addr} {c1 : Addr} {w : World} {R : Bool → World → Prop} (h : F_frame_Stack_Change_1 basex c0 c1 w R) : C_frame_Stack_Change_1 basex c0 c1 w R := by
  refine (calls_of_den (c := codeOf Try.f62) seat_ok seat_mixed Try.func62 (by kernel_rfl) loops_frame_Stack_Change_1 (args := [.int .i64 basex, .pointer (some c0), .pointer (some c1)]) rfl (R := fun v w1 => ∃ (r : Bool), v = (.bool r : Value) ∧ R r w1) ?_).mono ?_
  · rw [← den_frame_Stack_Change_1]
    have e : (fun r w1 => ∃ (r' : Bool), (.bool r : Value) = (.bool r' : Value) ∧ R r' w1) = R := by
      funext r w1
      exact propext ⟨fun ⟨r', he, h⟩ => by first | (simp at he; simp_all) | (cases he; exact h), fun h => ⟨_, rfl, h⟩⟩
    simpa only [e] using h
  · rintro en w1 ⟨v, he, r, rfl, h⟩
    exact ⟨_, he, h⟩

def F_frame_Stack_kept2 (sx : Option Addr) (w : World) (R : Int → World → Prop) : Prop :=
  C_frame_Stack_made sx w fun t4 w1 =>
  If (!t4)
  (R (0 : Int) w1)
  (C_frame_Stack_kept sx w1 fun t7 w1_1 =>
  R t7 w1_1)

def G_frame_Stack_kept2 : Gen where
  loop := lookL []
  plan := fun _ => none

theorem loops_frame_Stack_kept2 : LoopOk Try.prog Try.f63.ntmps G_frame_Stack_kept2 (codeOf Try.f63) := loopOk_none fun _ => rfl

theorem den_frame_Stack_kept2 (sx : Option Addr) (w : World) (R : Value → World → Prop) :
    F_frame_Stack_kept2 sx w (fun r w1 => R (.int .i64 r) w1) = den Try.prog Try.f63.ntmps G_frame_Stack_kept2 (codeOf Try.f63) [] (postD Try.prog Try.f63.results.toList R) (entry [.pointer sx] 0) w := by kernel_rfl

theorem C_frame_Stack_kept2.of {sx : Option Addr} {w : World} {R : Int → World → Prop} (h : F_frame_Stack_kept2 sx w R) : C_frame_Stack_kept2 sx w R := by
  refine (calls_of_den (c := codeOf Try.f63) seat_ok seat_mixed Try.func63 (by kernel_rfl) loops_frame_Stack_kept2 (args := [.pointer sx]) rfl (R := fun v w1 => ∃ (r : Int), v = (.int .i64 r : Value) ∧ R r w1) ?_).mono ?_
  · rw [← den_frame_Stack_kept2]
    have e : (fun r w1 => ∃ (r' : Int), (.int .i64 r : Value) = (.int .i64 r' : Value) ∧ R r' w1) = R := by
      funext r w1
      exact propext ⟨fun ⟨r', he, h⟩ => by first | (simp at he; simp_all) | (cases he; exact h), fun h => ⟨_, rfl, h⟩⟩
    simpa only [e] using h
  · rintro en w1 ⟨v, he, r, rfl, h⟩
    exact ⟨_, he, h⟩

def F_frame_Stack_kept (sx : Option Addr) (w : World) (R : Int → World → Prop) : Prop :=
  NN sx fun a =>
  ∃ lP : Option Addr, ∃ lN : Nat, ∃ lC : Nat, w.cell? (a.add 2) = some (.slice lP lN lC) ∧
  If ((lN : Int) == (0 : Int))
  (R (0 : Int) w)
  (NN sx fun a_1 =>
  ∃ lP_1 : Option Addr, ∃ lN_1 : Nat, ∃ lC_1 : Nat, (drw w).cell? (a_1.add 2) = some (.slice lP_1 lN_1 lC_1) ∧
  NN sx fun a_2 =>
  ∃ lP_2 : Option Addr, ∃ lN_2 : Nat, ∃ lC_2 : Nat, (drw w).cell? (a_2.add 2) = some (.slice lP_2 lN_2 lC_2) ∧
  0 ≤ (IntKind.i64.wrap ((lN_2 : Int) - (1 : Int))) ∧ (IntKind.i64.wrap ((lN_2 : Int) - (1 : Int))) < (lN_1 : Int) ∧ NN lP_1 fun a_3 =>
  ∃ Top : Int, (drw w).cell? ((a_3.add ((IntKind.i64.wrap ((lN_2 : Int) - (1 : Int))).toNat * 9)).add 8) = some (.int .i64 Top) ∧
  R Top (drw w))

def G_frame_Stack_kept : Gen where
  loop := lookL []
  plan := fun id =>
    bif Nat.beq id 3 then some ([0, 1, 3, 7, 0, 16, 48, 112, 240, 496, 1023, 2047, 4095, 8191], .take 0 (.take 1 (.take 2 (.take 3 (.take 4 (.take 5 (.take 6 (.take 7 (.take 8 (.take 9 (.take 10 (.take 11 (.take 12 (.take 13 .done)))))))))))))) else none

theorem loops_frame_Stack_kept : LoopOk Try.prog Try.f64.ntmps G_frame_Stack_kept (codeOf Try.f64) := loopOk_none fun _ => rfl

theorem den_frame_Stack_kept (sx : Option Addr) (w : World) (R : Value → World → Prop) :
    F_frame_Stack_kept sx w (fun r w1 => R (.int .i64 r) w1) = den Try.prog Try.f64.ntmps G_frame_Stack_kept (codeOf Try.f64) [] (postD Try.prog Try.f64.results.toList R) (entry [.pointer sx] 0) w := by kernel_rfl

theorem C_frame_Stack_kept.of {sx : Option Addr} {w : World} {R : Int → World → Prop} (h : F_frame_Stack_kept sx w R) : C_frame_Stack_kept sx w R := by
  refine (calls_of_den (c := codeOf Try.f64) seat_ok seat_mixed Try.func64 (by kernel_rfl) loops_frame_Stack_kept (args := [.pointer sx]) rfl (R := fun v w1 => ∃ (r : Int), v = (.int .i64 r : Value) ∧ R r w1) ?_).mono ?_
  · rw [← den_frame_Stack_kept]
    have e : (fun r w1 => ∃ (r' : Int), (.int .i64 r : Value) = (.int .i64 r' : Value) ∧ R r' w1) = R := by
      funext r w1
      exact propext ⟨fun ⟨r', he, h⟩ => by first | (simp at he; simp_all) | (cases he; exact h), fun h => ⟨_, rfl, h⟩⟩
    simpa only [e] using h
  · rintro en w1 ⟨v, he, r, rfl, h⟩
    exact ⟨_, he, h⟩

def F_frame_Stack_word (sx : Option Addr) (i : Int) (w : World) (R : Int → World → Prop) : Prop :=
  NN sx fun a =>
  ∃ words : Option Addr, w.cell? (a.add 0) = some (.pointer words) ∧
  C_room_Room_Get words i w fun t130 t131 w1 =>
  R (IntKind.i64.wrap t130) w1

def G_frame_Stack_word : Gen where
  loop := lookL []
  plan := fun _ => none

theorem loops_frame_Stack_word : LoopOk Try.prog Try.f65.ntmps G_frame_Stack_word (codeOf Try.f65) := loopOk_none fun _ => rfl

theorem den_frame_Stack_word (sx : Option Addr) (i : Int) (w : World) (R : Value → World → Prop) :
    F_frame_Stack_word sx i w (fun r w1 => R (.int .i64 r) w1) = den Try.prog Try.f65.ntmps G_frame_Stack_word (codeOf Try.f65) [] (postD Try.prog Try.f65.results.toList R) (entry [.pointer sx, .int .i64 i] 0) w := by kernel_rfl

theorem C_frame_Stack_word.of {sx : Option Addr} {i : Int} {w : World} {R : Int → World → Prop} (h : F_frame_Stack_word sx i w R) : C_frame_Stack_word sx i w R := by
  refine (calls_of_den (c := codeOf Try.f65) seat_ok seat_mixed Try.func65 (by kernel_rfl) loops_frame_Stack_word (args := [.pointer sx, .int .i64 i]) rfl (R := fun v w1 => ∃ (r : Int), v = (.int .i64 r : Value) ∧ R r w1) ?_).mono ?_
  · rw [← den_frame_Stack_word]
    have e : (fun r w1 => ∃ (r' : Int), (.int .i64 r : Value) = (.int .i64 r' : Value) ∧ R r' w1) = R := by
      funext r w1
      exact propext ⟨fun ⟨r', he, h⟩ => by first | (simp at he; simp_all) | (cases he; exact h), fun h => ⟨_, rfl, h⟩⟩
    simpa only [e] using h
  · rintro en w1 ⟨v, he, r, rfl, h⟩
    exact ⟨_, he, h⟩

def F_room_Room_note (m : Option Addr) (w : World) (R : World → Prop) : Prop :=
  NN m fun a =>
  ∃ mostx : Int, (drw w).cell? (a.add 2) = some (.int .i64 mostx) ∧
  NN m fun a_1 =>
  ∃ lP : Option Addr, ∃ lN : Nat, ∃ lC : Nat, (drw w).cell? (a_1.add 0) = some (.slice lP lN lC) ∧
  NN m fun a_2 =>
  St (drw w) ((a_2.add 2).add 0) (.int .i64 (maxI mostx (lN : Int))) fun w1 =>
  R w1

def G_room_Room_note : Gen where
  loop := lookL []
  plan := fun id =>
    bif Nat.beq id 0 then some ([0, 0, 2, 6, 14, 0, 32, 96, 224, 480, 1022, 2047, 4095, 8191], .take 0 (.take 1 (.take 2 (.take 3 (.take 4 (.take 5 (.take 6 (.take 7 (.take 8 (.take 9 (.take 10 (.take 11 (.take 12 (.take 13 .done)))))))))))))) else none

theorem loops_room_Room_note : LoopOk Try.prog Try.f66.ntmps G_room_Room_note (codeOf Try.f66) := loopOk_none fun _ => rfl

theorem den_room_Room_note (m : Option Addr) (w : World) (R : Value → World → Prop) :
    F_room_Room_note m w (fun w1 => R (.tuple #[]) w1) = den Try.prog Try.f66.ntmps G_room_Room_note (codeOf Try.f66) [] (postD Try.prog Try.f66.results.toList R) (entry [.pointer m] 0) w := by kernel_rfl

theorem C_room_Room_note.of {m : Option Addr} {w : World} {R : World → Prop} (h : F_room_Room_note m w R) : C_room_Room_note m w R := by
  refine (calls_of_den (c := codeOf Try.f66) seat_ok seat_mixed Try.func66 (by kernel_rfl) loops_room_Room_note (args := [.pointer m]) rfl (R := fun v w1 => v = (.tuple #[] : Value) ∧ R w1) ?_).mono ?_
  · rw [← den_room_Room_note]
    simpa using h
  · rintro en w1 ⟨v, he, rfl, h⟩
    exact ⟨he, h⟩

def F_room_Room_has (m : Option Addr) (i : Int) (w : World) (R : Int → World → Prop) : Prop :=
  If m.isNone
  (R (6 : Int) w)
  (If (decide (i < (0 : Int)))
  (R (4 : Int) w)
  (NN m fun a =>
  ∃ lP : Option Addr, ∃ lN : Nat, ∃ lC : Nat, w.cell? (a.add 0) = some (.slice lP lN lC) ∧
  If (decide (i ≥ (lN : Int)))
  (R (4 : Int) w)
  (R (0 : Int) w)))

def G_room_Room_has : Gen where
  loop := lookL []
  plan := fun _ => none

theorem loops_room_Room_has : LoopOk Try.prog Try.f67.ntmps G_room_Room_has (codeOf Try.f67) := loopOk_none fun _ => rfl

theorem den_room_Room_has (m : Option Addr) (i : Int) (w : World) (R : Value → World → Prop) :
    F_room_Room_has m i w (fun r w1 => R (.int .i64 r) w1) = den Try.prog Try.f67.ntmps G_room_Room_has (codeOf Try.f67) [] (postD Try.prog Try.f67.results.toList R) (entry [.pointer m, .int .i64 i] 0) w := by kernel_rfl

theorem C_room_Room_has.of {m : Option Addr} {i : Int} {w : World} {R : Int → World → Prop} (h : F_room_Room_has m i w R) : C_room_Room_has m i w R := by
  refine (calls_of_den (c := codeOf Try.f67) seat_ok seat_mixed Try.func67 (by kernel_rfl) loops_room_Room_has (args := [.pointer m, .int .i64 i]) rfl (R := fun v w1 => ∃ (r : Int), v = (.int .i64 r : Value) ∧ R r w1) ?_).mono ?_
  · rw [← den_room_Room_has]
    have e : (fun r w1 => ∃ (r' : Int), (.int .i64 r : Value) = (.int .i64 r' : Value) ∧ R r' w1) = R := by
      funext r w1
      exact propext ⟨fun ⟨r', he, h⟩ => by first | (simp at he; simp_all) | (cases he; exact h), fun h => ⟨_, rfl, h⟩⟩
    simpa only [e] using h
  · rintro en w1 ⟨v, he, r, rfl, h⟩
    exact ⟨_, he, h⟩

def F_ref22_Stack_Top_k1 (sx : Option Addr) (R : Int → World → Prop) (n : Int) (w1 : World) : Prop :=
  C_ref22_Stack_kept sx w1 fun t36 w1_1 =>
  If (decide (t36 > n))
  (R t36 w1_1)
  (R n w1_1)

def F_ref22_Stack_Top (sx : Option Addr) (w : World) (R : Int → World → Prop) : Prop :=
  NN sx fun a =>
  ∃ Cur : Int, w.cell? (a.add 1) = some (.int .i64 Cur) ∧
  If (decide (Cur ≥ (0 : Int)))
  (NN sx fun a_1 =>
  ∃ EP : Option Addr, ∃ EN : Nat, ∃ EC : Nat, (drw w).cell? (a_1.add 0) = some (.slice EP EN EC) ∧
  NN sx fun a_2 =>
  ∃ Cur_1 : Int, (drw w).cell? (a_2.add 1) = some (.int .i64 Cur_1) ∧
  0 ≤ Cur_1 ∧ Cur_1 < (EN : Int) ∧ NN EP fun a_3 =>
  ∃ Base : Int, (drw w).cell? ((a_3.add (Cur_1.toNat * 5)).add 0) = some (.int .i64 Base) ∧
  NN sx fun a_4 =>
  ∃ EP_1 : Option Addr, ∃ EN_1 : Nat, ∃ EC_1 : Nat, (drw w).cell? (a_4.add 0) = some (.slice EP_1 EN_1 EC_1) ∧
  NN sx fun a_5 =>
  ∃ Cur_2 : Int, (drw w).cell? (a_5.add 1) = some (.int .i64 Cur_2) ∧
  0 ≤ Cur_2 ∧ Cur_2 < (EN_1 : Int) ∧ NN EP_1 fun a_6 =>
  ∃ YP : Option Addr, ∃ YN : Nat, ∃ YC : Nat, (drw w).cell? ((a_6.add (Cur_2.toNat * 5)).add 2) = some (.slice YP YN YC) ∧
  F_ref22_Stack_Top_k1 sx R (IntKind.i64.wrap ((IntKind.i64.wrap (Base + (4 : Int))) + (YN : Int))) (drw w))
  (F_ref22_Stack_Top_k1 sx R (0 : Int) w)

def G_ref22_Stack_Top : Gen where
  loop := lookL []
  plan := fun id =>
    bif Nat.beq id 3 then some ([0, 1, 3, 7, 0, 16, 48, 112, 255, 511, 1023, 2047, 0, 4096, 12288, 28672, 0, 65536, 196608, 458752, 1044480, 2093056, 4190208, 8384512, 16777215, 33554431], .take 0 (.take 1 (.take 2 (.take 3 (.take 4 (.take 5 (.take 6 (.take 7 (.take 8 (.take 9 (.take 10 (.take 11 (.take 12 (.take 13 (.take 14 (.take 15 (.take 16 (.take 17 (.take 18 (.take 19 (.take 20 (.take 21 (.take 22 (.take 23 (.take 24 (.take 25 .done)))))))))))))))))))))))))) else none

theorem loops_ref22_Stack_Top : LoopOk Try.prog Try.f68.ntmps G_ref22_Stack_Top (codeOf Try.f68) := loopOk_none fun _ => rfl

theorem den_ref22_Stack_Top (sx : Option Addr) (w : World) (R : Value → World → Prop) :
    F_ref22_Stack_Top sx w (fun r w1 => R (.int .i64 r) w1) = den Try.prog Try.f68.ntmps G_ref22_Stack_Top (codeOf Try.f68) [] (postD Try.prog Try.f68.results.toList R) (entry [.pointer sx] 0) w := by kernel_rfl

theorem C_ref22_Stack_Top.of {sx : Option Addr} {w : World} {R : Int → World → Prop} (h : F_ref22_Stack_Top sx w R) : C_ref22_Stack_Top sx w R := by
  refine (calls_of_den (c := codeOf Try.f68) seat_ok seat_mixed Try.func68 (by kernel_rfl) loops_ref22_Stack_Top (args := [.pointer sx]) rfl (R := fun v w1 => ∃ (r : Int), v = (.int .i64 r : Value) ∧ R r w1) ?_).mono ?_
  · rw [← den_ref22_Stack_Top]
    have e : (fun r w1 => ∃ (r' : Int), (.int .i64 r : Value) = (.int .i64 r' : Value) ∧ R r' w1) = R := by
      funext r w1
      exact propext ⟨fun ⟨r', he, h⟩ => by first | (simp at he; simp_all) | (cases he; exact h), fun h => ⟨_, rfl, h⟩⟩
    simpa only [e] using h
  · rintro en w1 ⟨v, he, r, rfl, h⟩
    exact ⟨_, he, h⟩

def F_ref22_Stack_kept (sx : Option Addr) (w : World) (R : Int → World → Prop) : Prop :=
  NN sx fun a =>
  ∃ CP : Option Addr, ∃ CN : Nat, ∃ CC : Nat, w.cell? (a.add 2) = some (.slice CP CN CC) ∧
  If ((CN : Int) == (0 : Int))
  (R (0 : Int) w)
  (NN sx fun a_1 =>
  ∃ CP_1 : Option Addr, ∃ CN_1 : Nat, ∃ CC_1 : Nat, (drw w).cell? (a_1.add 2) = some (.slice CP_1 CN_1 CC_1) ∧
  NN sx fun a_2 =>
  ∃ CP_2 : Option Addr, ∃ CN_2 : Nat, ∃ CC_2 : Nat, (drw w).cell? (a_2.add 2) = some (.slice CP_2 CN_2 CC_2) ∧
  0 ≤ (IntKind.i64.wrap ((CN_2 : Int) - (1 : Int))) ∧ (IntKind.i64.wrap ((CN_2 : Int) - (1 : Int))) < (CN_1 : Int) ∧ NN CP_1 fun a_3 =>
  ∃ Top : Int, (drw w).cell? (((a_3.add ((IntKind.i64.wrap ((CN_2 : Int) - (1 : Int))).toNat * 10)).add 0).add 8) = some (.int .i64 Top) ∧
  R Top (drw w))

def G_ref22_Stack_kept : Gen where
  loop := lookL []
  plan := fun id =>
    bif Nat.beq id 3 then some ([0, 1, 3, 7, 0, 16, 48, 112, 240, 496, 1023, 2047, 4095, 8191, 16383], .take 0 (.take 1 (.take 2 (.take 3 (.take 4 (.take 5 (.take 6 (.take 7 (.take 8 (.take 9 (.take 10 (.take 11 (.take 12 (.take 13 (.take 14 .done))))))))))))))) else none

theorem loops_ref22_Stack_kept : LoopOk Try.prog Try.f69.ntmps G_ref22_Stack_kept (codeOf Try.f69) := loopOk_none fun _ => rfl

theorem den_ref22_Stack_kept (sx : Option Addr) (w : World) (R : Value → World → Prop) :
    F_ref22_Stack_kept sx w (fun r w1 => R (.int .i64 r) w1) = den Try.prog Try.f69.ntmps G_ref22_Stack_kept (codeOf Try.f69) [] (postD Try.prog Try.f69.results.toList R) (entry [.pointer sx] 0) w := by kernel_rfl

theorem C_ref22_Stack_kept.of {sx : Option Addr} {w : World} {R : Int → World → Prop} (h : F_ref22_Stack_kept sx w R) : C_ref22_Stack_kept sx w R := by
  refine (calls_of_den (c := codeOf Try.f69) seat_ok seat_mixed Try.func69 (by kernel_rfl) loops_ref22_Stack_kept (args := [.pointer sx]) rfl (R := fun v w1 => ∃ (r : Int), v = (.int .i64 r : Value) ∧ R r w1) ?_).mono ?_
  · rw [← den_ref22_Stack_kept]
    have e : (fun r w1 => ∃ (r' : Int), (.int .i64 r : Value) = (.int .i64 r' : Value) ∧ R r' w1) = R := by
      funext r w1
      exact propext ⟨fun ⟨r', he, h⟩ => by first | (simp at he; simp_all) | (cases he; exact h), fun h => ⟨_, rfl, h⟩⟩
    simpa only [e] using h
  · rintro en w1 ⟨v, he, r, rfl, h⟩
    exact ⟨_, he, h⟩

def F_ref22_Stack_base (sx : Option Addr) (n : Int) (w : World) (R : Int → World → Prop) : Prop :=
  If (decide (n < (0 : Int)))
  (R (-1) w)
  (NN sx fun a =>
  ∃ EP : Option Addr, ∃ EN : Nat, ∃ EC : Nat, w.cell? (a.add 0) = some (.slice EP EN EC) ∧
  0 ≤ n ∧ n < (EN : Int) ∧ NN EP fun a_1 =>
  ∃ Base : Int, w.cell? ((a_1.add (n.toNat * 5)).add 0) = some (.int .i64 Base) ∧
  R Base w)

def G_ref22_Stack_base : Gen where
  loop := lookL []
  plan := fun _ => none

theorem loops_ref22_Stack_base : LoopOk Try.prog Try.f70.ntmps G_ref22_Stack_base (codeOf Try.f70) := loopOk_none fun _ => rfl

theorem den_ref22_Stack_base (sx : Option Addr) (n : Int) (w : World) (R : Value → World → Prop) :
    F_ref22_Stack_base sx n w (fun r w1 => R (.int .i64 r) w1) = den Try.prog Try.f70.ntmps G_ref22_Stack_base (codeOf Try.f70) [] (postD Try.prog Try.f70.results.toList R) (entry [.pointer sx, .int .i64 n] 0) w := by kernel_rfl

theorem C_ref22_Stack_base.of {sx : Option Addr} {n : Int} {w : World} {R : Int → World → Prop} (h : F_ref22_Stack_base sx n w R) : C_ref22_Stack_base sx n w R := by
  refine (calls_of_den (c := codeOf Try.f70) seat_ok seat_mixed Try.func70 (by kernel_rfl) loops_ref22_Stack_base (args := [.pointer sx, .int .i64 n]) rfl (R := fun v w1 => ∃ (r : Int), v = (.int .i64 r : Value) ∧ R r w1) ?_).mono ?_
  · rw [← den_ref22_Stack_base]
    have e : (fun r w1 => ∃ (r' : Int), (.int .i64 r : Value) = (.int .i64 r' : Value) ∧ R r' w1) = R := by
      funext r w1
      exact propext ⟨fun ⟨r', he, h⟩ => by first | (simp at he; simp_all) | (cases he; exact h), fun h => ⟨_, rfl, h⟩⟩
    simpa only [e] using h
  · rintro en w1 ⟨v, he, r, rfl, h⟩
    exact ⟨_, he, h⟩

end Go.Proofs.Ytdmjbkpibgfeiaa
