/- The formulas of this seat's functions, held against the loaded program by the kernel. Printed by a program. -/
import Derived.Test.YtdmjbkpibgfeiaaGenC
set_option maxRecDepth 100000
set_option linter.unusedVariables false
namespace Go.Proofs.Ytdmjbkpibgfeiaa
open Go Go.D Go.Proofs

def F_gosem_cut_init (w : World) (R : World → Prop) : Prop :=
  CallX Try.prog 1 [] w fun v w1 => v = (.tuple #[]) ∧
  R w1

def G_gosem_cut_init : Gen where
  loop := lookL []
  plan := fun _ => none

theorem loops_gosem_cut_init : LoopOk Try.prog Try.f2.ntmps G_gosem_cut_init (codeOf Try.f2) := loopOk_none fun _ => rfl

theorem den_gosem_cut_init  (w : World) (R : Value → World → Prop) :
    F_gosem_cut_init w (fun w1 => R (.tuple #[]) w1) = den Try.prog Try.f2.ntmps G_gosem_cut_init (codeOf Try.f2) [] (postD Try.prog Try.f2.results.toList R) (entry [] 0) w := by kernel_rfl

theorem C_gosem_cut_init.of {w : World} {R : World → Prop} (h : F_gosem_cut_init w R) : C_gosem_cut_init w R := by
  refine (calls_of_den (c := codeOf Try.f2) seat_ok seat_mixed Try.func2 (by kernel_rfl) loops_gosem_cut_init (args := []) rfl (R := fun v w1 => v = (.tuple #[] : Value) ∧ R w1) ?_).mono ?_
  · rw [← den_gosem_cut_init]
    simpa using h
  · rintro en w1 ⟨v, he, rfl, h⟩
    exact ⟨he, h⟩

structure S_law22_FrameKeeps_L1 where
  i : Int

structure S_law22_FrameKeeps_L2 where
  i_1 : Int

structure S_law22_FrameKeeps_L3 where
  i_2 : Int

def F_law22_FrameKeeps_k1 (R : Bool → World → Prop) (w1_2 : World) : Prop :=
  R false w1_2

def F_law22_FrameKeeps_k3 (s : S_law22_FrameKeeps_L2) (Kn : S_law22_FrameKeeps_L2 → World → Prop) (w1_14 : World) : Prop :=
  Kn ⟨(IntKind.i64.wrap ((s.i_1 : Int) + (1 : Int)))⟩ w1_14

def F_law22_FrameKeeps_k2 (s : S_law22_FrameKeeps_L2) (Kn : S_law22_FrameKeeps_L2 → World → Prop) (moreP_2 : Option Addr) (moreN_2 : Nat) (sx_1 : Option Addr) (w1_12 : World) : Prop :=
  0 ≤ (s.i_1 : Int) ∧ (s.i_1 : Int) < (moreN_2 : Int) ∧ NN moreP_2 fun a_3 =>
  ∃ t900 : Int, w1_12.cell? ((a_3.add ((s.i_1 : Int).toNat * 14)).add 0) = some (.int .i64 t900) ∧
  ∃ t901 : Int, w1_12.cell? ((a_3.add ((s.i_1 : Int).toNat * 14)).add 1) = some (.int .i64 t901) ∧
  ∃ t902 : Int, w1_12.cell? ((a_3.add ((s.i_1 : Int).toNat * 14)).add 2) = some (.int .u64 t902) ∧
  ∃ t903 : Int, w1_12.cell? ((a_3.add ((s.i_1 : Int).toNat * 14)).add 3) = some (.int .i64 t903) ∧
  ∃ t904 : Int, w1_12.cell? ((a_3.add ((s.i_1 : Int).toNat * 14)).add 4) = some (.int .i64 t904) ∧
  ∃ t905 : Int, w1_12.cell? ((a_3.add ((s.i_1 : Int).toNat * 14)).add 5) = some (.int .i64 t905) ∧
  ∃ t906P : Option Addr, ∃ t906N : Nat, ∃ t906C : Nat, w1_12.cell? ((a_3.add ((s.i_1 : Int).toNat * 14)).add 6) = some (.slice t906P t906N t906C) ∧
  ∃ t907 : Int, w1_12.cell? ((a_3.add ((s.i_1 : Int).toNat * 14)).add 7) = some (.int .i64 t907) ∧
  ∃ t908 : Int, w1_12.cell? ((a_3.add ((s.i_1 : Int).toNat * 14)).add 8) = some (.int .i64 t908) ∧
  ∃ t909 : Int, w1_12.cell? ((a_3.add ((s.i_1 : Int).toNat * 14)).add 9) = some (.int .i64 t909) ∧
  ∃ t9010 : Int, w1_12.cell? ((a_3.add ((s.i_1 : Int).toNat * 14)).add 10) = some (.int .i64 t9010) ∧
  ∃ t9011 : Int, w1_12.cell? ((a_3.add ((s.i_1 : Int).toNat * 14)).add 11) = some (.int .i64 t9011) ∧
  ∃ t9012 : Int, w1_12.cell? ((a_3.add ((s.i_1 : Int).toNat * 14)).add 12) = some (.int .i64 t9012) ∧
  ∃ t9013 : Int, w1_12.cell? ((a_3.add ((s.i_1 : Int).toNat * 14)).add 13) = some (.int .i64 t9013) ∧
  C_law22_step sx_1 t900 t901 t902 t903 t904 t905 t906P t906N t906C t907 t908 t909 t9010 t9011 t9012 t9013 w1_12 fun w1_13 =>
  F_law22_FrameKeeps_k3 s Kn w1_13

def F_law22_FrameKeeps_k4 (R : Bool → World → Prop) (w1_23 : World) : Prop :=
  R false w1_23

/-- One round. -/
def B_law22_FrameKeeps_L1 (lP_1 : Option Addr) (lN_1 : Nat) (lC_1 : Nat) (moreP_1 : Option Addr) (moreN_1 : Nat) (moreC_1 : Nat) (sx : Option Addr) (s : S_law22_FrameKeeps_L1) (w : World) (Kn : S_law22_FrameKeeps_L1 → World → Prop) (Kx0 : World → Prop) : Prop :=
  If (decide ((s.i : Int) < (lN_1 : Int)))
  (If (decide ((s.i : Int) < (30 : Int)))
  (0 ≤ (s.i : Int) ∧ (s.i : Int) < (lN_1 : Int) ∧ NN lP_1 fun a =>
  ∃ t410 : Int, w.cell? ((a.add ((s.i : Int).toNat * 14)).add 0) = some (.int .i64 t410) ∧
  ∃ t411 : Int, w.cell? ((a.add ((s.i : Int).toNat * 14)).add 1) = some (.int .i64 t411) ∧
  ∃ t412 : Int, w.cell? ((a.add ((s.i : Int).toNat * 14)).add 2) = some (.int .u64 t412) ∧
  ∃ t413 : Int, w.cell? ((a.add ((s.i : Int).toNat * 14)).add 3) = some (.int .i64 t413) ∧
  ∃ t414 : Int, w.cell? ((a.add ((s.i : Int).toNat * 14)).add 4) = some (.int .i64 t414) ∧
  ∃ t415 : Int, w.cell? ((a.add ((s.i : Int).toNat * 14)).add 5) = some (.int .i64 t415) ∧
  ∃ t416P : Option Addr, ∃ t416N : Nat, ∃ t416C : Nat, w.cell? ((a.add ((s.i : Int).toNat * 14)).add 6) = some (.slice t416P t416N t416C) ∧
  ∃ t417 : Int, w.cell? ((a.add ((s.i : Int).toNat * 14)).add 7) = some (.int .i64 t417) ∧
  ∃ t418 : Int, w.cell? ((a.add ((s.i : Int).toNat * 14)).add 8) = some (.int .i64 t418) ∧
  ∃ t419 : Int, w.cell? ((a.add ((s.i : Int).toNat * 14)).add 9) = some (.int .i64 t419) ∧
  ∃ t4110 : Int, w.cell? ((a.add ((s.i : Int).toNat * 14)).add 10) = some (.int .i64 t4110) ∧
  ∃ t4111 : Int, w.cell? ((a.add ((s.i : Int).toNat * 14)).add 11) = some (.int .i64 t4111) ∧
  ∃ t4112 : Int, w.cell? ((a.add ((s.i : Int).toNat * 14)).add 12) = some (.int .i64 t4112) ∧
  ∃ t4113 : Int, w.cell? ((a.add ((s.i : Int).toNat * 14)).add 13) = some (.int .i64 t4113) ∧
  C_law22_step sx t410 t411 t412 t413 t414 t415 t416P t416N t416C t417 t418 t419 t4110 t4111 t4112 t4113 w fun w1_3 =>
  Kn ⟨(IntKind.i64.wrap ((s.i : Int) + (1 : Int)))⟩ w1_3)
  (Kx0 w))
  (Kx0 w)

def F_law22_FrameKeeps_L1 (lP_1 : Option Addr) (lN_1 : Nat) (lC_1 : Nat) (moreP_1 : Option Addr) (moreN_1 : Nat) (moreC_1 : Nat) (sx : Option Addr) (s : S_law22_FrameKeeps_L1) (w : World) (Kx0 : World → Prop) : Prop :=
  LoopS (fun s w Kn => B_law22_FrameKeeps_L1 lP_1 lN_1 lC_1 moreP_1 moreN_1 moreC_1 sx s w Kn Kx0) s w

/-- One round. -/
def B_law22_FrameKeeps_L2 (moreP_2 : Option Addr) (moreN_2 : Nat) (moreC_2 : Nat) (sx_1 : Option Addr) (wasP : Option Addr) (wasN : Nat) (wasC : Nat) (basex : Int) (depth : Int) (s : S_law22_FrameKeeps_L2) (w : World) (Kn : S_law22_FrameKeeps_L2 → World → Prop) (Kx2 : World → Prop) : Prop :=
  If (decide ((s.i_1 : Int) < (moreN_2 : Int)))
  (If (decide ((s.i_1 : Int) < (30 : Int)))
  (0 ≤ (s.i_1 : Int) ∧ (s.i_1 : Int) < (moreN_2 : Int) ∧ NN moreP_2 fun a_1 =>
  ∃ Kind : Int, w.cell? ((a_1.add ((s.i_1 : Int).toNat * 14)).add 0) = some (.int .i64 Kind) ∧
  If (Kind == (4 : Int))
  (F_law22_FrameKeeps_k3 s Kn w)
  (0 ≤ (s.i_1 : Int) ∧ (s.i_1 : Int) < (moreN_2 : Int) ∧ NN moreP_2 fun a_2 =>
  ∃ Kind_1 : Int, w.cell? ((a_2.add ((s.i_1 : Int).toNat * 14)).add 0) = some (.int .i64 Kind_1) ∧
  If (Kind_1 == (8 : Int))
  (C_frame_Stack_Depth sx_1 w fun t81 w1_11 =>
  If (decide (t81 ≤ depth))
  (F_law22_FrameKeeps_k3 s Kn w1_11)
  (F_law22_FrameKeeps_k2 s Kn moreP_2 moreN_2 sx_1 w1_11))
  (F_law22_FrameKeeps_k2 s Kn moreP_2 moreN_2 sx_1 w)))
  (Kx2 w))
  (Kx2 w)

def F_law22_FrameKeeps_L2 (moreP_2 : Option Addr) (moreN_2 : Nat) (moreC_2 : Nat) (sx_1 : Option Addr) (wasP : Option Addr) (wasN : Nat) (wasC : Nat) (basex : Int) (depth : Int) (s : S_law22_FrameKeeps_L2) (w : World) (Kx2 : World → Prop) : Prop :=
  LoopS (fun s w Kn => B_law22_FrameKeeps_L2 moreP_2 moreN_2 moreC_2 sx_1 wasP wasN wasC basex depth s w Kn Kx2) s w

/-- One round. -/
def B_law22_FrameKeeps_L3 (sx_2 : Option Addr) (wasP_1 : Option Addr) (wasN_1 : Nat) (wasC_1 : Nat) (basex_1 : Int) (depth_1 : Int) (s : S_law22_FrameKeeps_L3) (w : World) (Kn : S_law22_FrameKeeps_L3 → World → Prop) (Kx4 : World → Prop) : Prop :=
  If (decide ((s.i_2 : Int) < (100 : Int)))
  (C_frame_Stack_Depth sx_2 w fun t96 w1_16 =>
  If (decide (t96 > depth_1))
  (C_frame_Stack_Drop sx_2 w1_16 fun t103 w1_17 =>
  Kn ⟨(IntKind.i64.wrap ((s.i_2 : Int) + (1 : Int)))⟩ w1_17)
  (Kx4 w1_16))
  (Kx4 w)

def F_law22_FrameKeeps_L3 (sx_2 : Option Addr) (wasP_1 : Option Addr) (wasN_1 : Nat) (wasC_1 : Nat) (basex_1 : Int) (depth_1 : Int) (s : S_law22_FrameKeeps_L3) (w : World) (Kx4 : World → Prop) : Prop :=
  LoopS (fun s w Kn => B_law22_FrameKeeps_L3 sx_2 wasP_1 wasN_1 wasC_1 basex_1 depth_1 s w Kn Kx4) s w

def F_law22_FrameKeeps (lP : Option Addr) (lN : Nat) (lC : Nat) (moreP : Option Addr) (moreN : Nat) (moreC : Nat) (w : World) (R : Bool → World → Prop) : Prop :=
  C_frame_New (5000 : Int) (100 : Int) w fun t140 t141 w1 =>
  C_law22_lives  w1 fun t17 w1_1 =>
  If (!t17)
  (F_law22_FrameKeeps_k1 R w1_1)
  (If (t141 != (0 : Int))
  (F_law22_FrameKeeps_k1 R w1_1)
  (If t140.isNone
  (R false w1_1)
  (F_law22_FrameKeeps_L1 lP lN lC moreP moreN moreC t140 ⟨(0 : Int)⟩ w1_1
  (fun w1_4 =>
  BSl Try.prog 32 2 [(0, .int .u64 1), (1, .int .u64 2)] w1_4 fun t44P t44N t44C w1_5 =>
  C_frame_Stack_Push t140 (2 : Int) t44P t44N t44C (0 : Int) (0 : Int) (0 : Int) (7 : Int) (0 : Int) (0 : Int) (0 : Int) w1_5 fun t46 w1_6 =>
  If (t46 != (0 : Int))
  (R false w1_6)
  (C_frame_Stack_Env t140 w1_6 fun t50 w1_7 =>
  C_frame_Stack_Chain t140 t50 w1_7 fun t51P t51N t51C w1_8 =>
  C_frame_Stack_Env t140 w1_8 fun t53 w1_9 =>
  C_frame_Stack_Depth t140 w1_9 fun t55 w1_10 =>
  F_law22_FrameKeeps_L2 moreP moreN moreC t140 t51P t51N t51C t53 t55 ⟨(0 : Int)⟩ w1_10
  (fun w1_15 =>
  F_law22_FrameKeeps_L3 t140 t51P t51N t51C t53 t55 ⟨(0 : Int)⟩ w1_15
  (fun w1_18 =>
  C_frame_Stack_Restore t140 w1_18 fun t105 w1_19 =>
  If (t105 == (0 : Int))
  (C_frame_Stack_Env t140 w1_19 fun t109 w1_20 =>
  If (t109 == t53)
  (C_frame_Stack_Chain t140 t53 w1_20 fun t116P t116N t116C w1_21 =>
  C_ref22_SameFrames t116P t116N t116C t51P t51N t51C w1_21 fun t118 w1_22 =>
  R t118 w1_22)
  (F_law22_FrameKeeps_k4 R w1_20))
  (F_law22_FrameKeeps_k4 R w1_19))))))))

def lit_law22_FrameKeeps_L1 (f : (Option Addr) × Nat × Nat × (Option Addr) × Nat × Nat × (Option Addr)) (s : S_law22_FrameKeeps_L1) : Env := [⟨0, .slice f.1 f.2.1 f.2.2.1, none⟩, ⟨1, .slice f.2.2.2.1 f.2.2.2.2.1 f.2.2.2.2.2.1, none⟩, ⟨5, .pointer f.2.2.2.2.2.2, none⟩, ⟨7, .int .i64 s.i, none⟩]

def dec_law22_FrameKeeps_L1 (e : Env) (K : ((Option Addr) × Nat × Nat × (Option Addr) × Nat × Nat × (Option Addr)) → S_law22_FrameKeeps_L1 → Prop) : Prop :=
  onV (getV e 0) fun u1 =>
  asS u1 fun lP_1 lN_1 lC_1 =>
  onV (getV e 1) fun u2 =>
  asS u2 fun moreP_1 moreN_1 moreC_1 =>
  onV (getV e 5) fun u3 =>
  asP u3 fun sx =>
  onV (getV e 7) fun u4 =>
  asI .i64 u4 fun i =>
    K (lP_1, lN_1, lC_1, moreP_1, moreN_1, moreC_1, sx) ⟨i⟩

theorem dec_law22_FrameKeeps_L1_ok {N : Nat} (e : Env) (a : Act) (K : ((Option Addr) × Nat × Nat × (Option Addr) × Nat × Nat × (Option Addr)) → S_law22_FrameKeeps_L1 → Prop) (hr : Rep N a e) (h0 : dec_law22_FrameKeeps_L1 e K) : ∃ f s, K f s ∧ Rep N a (lit_law22_FrameKeeps_L1 f s) := by
  unfold dec_law22_FrameKeeps_L1 at h0
  obtain ⟨u1, g0, h1⟩ := onV_elim h0
  obtain ⟨lP_1, lN_1, lC_1, rfl, h2⟩ := asS_elim h1
  obtain ⟨u2, g1, h3⟩ := onV_elim h2
  obtain ⟨moreP_1, moreN_1, moreC_1, rfl, h4⟩ := asS_elim h3
  obtain ⟨u3, g5, h5⟩ := onV_elim h4
  obtain ⟨sx, rfl, h6⟩ := asP_elim h5
  obtain ⟨u4, g7, h7⟩ := onV_elim h6
  obtain ⟨i, rfl, h8⟩ := asI_elim h7
  exact ⟨_, _, h8, rep_less hr (by simp [lit_law22_FrameKeeps_L1, g0, g1, g5, g7])⟩

def spec_law22_FrameKeeps_L1 (Q : Post) (e : Env) (w : World) : Prop :=
  dec_law22_FrameKeeps_L1 e fun f s => F_law22_FrameKeeps_L1 f.1 f.2.1 f.2.2.1 f.2.2.2.1 f.2.2.2.2.1 f.2.2.2.2.2.1 f.2.2.2.2.2.2 s w (fun w1 => Q (.exit 0) [⟨1, .slice f.2.2.2.1 f.2.2.2.2.1 f.2.2.2.2.2.1, none⟩, ⟨5, .pointer f.2.2.2.2.2.2, none⟩] w1)

def lit_law22_FrameKeeps_L2 (f : (Option Addr) × Nat × Nat × (Option Addr) × (Option Addr) × Nat × Nat × Int × Int) (s : S_law22_FrameKeeps_L2) : Env := [⟨1, .slice f.1 f.2.1 f.2.2.1, none⟩, ⟨5, .pointer f.2.2.2.1, none⟩, ⟨8, .slice f.2.2.2.2.1 f.2.2.2.2.2.1 f.2.2.2.2.2.2.1, none⟩, ⟨9, .int .i64 f.2.2.2.2.2.2.2.1, none⟩, ⟨10, .int .i64 f.2.2.2.2.2.2.2.2, none⟩, ⟨11, .int .i64 s.i_1, none⟩]

def dec_law22_FrameKeeps_L2 (e : Env) (K : ((Option Addr) × Nat × Nat × (Option Addr) × (Option Addr) × Nat × Nat × Int × Int) → S_law22_FrameKeeps_L2 → Prop) : Prop :=
  onV (getV e 1) fun u1 =>
  asS u1 fun moreP_2 moreN_2 moreC_2 =>
  onV (getV e 5) fun u2 =>
  asP u2 fun sx_1 =>
  onV (getV e 8) fun u3 =>
  asS u3 fun wasP wasN wasC =>
  onV (getV e 9) fun u4 =>
  asI .i64 u4 fun basex =>
  onV (getV e 10) fun u5 =>
  asI .i64 u5 fun depth =>
  onV (getV e 11) fun u6 =>
  asI .i64 u6 fun i_1 =>
    K (moreP_2, moreN_2, moreC_2, sx_1, wasP, wasN, wasC, basex, depth) ⟨i_1⟩

theorem dec_law22_FrameKeeps_L2_ok {N : Nat} (e : Env) (a : Act) (K : ((Option Addr) × Nat × Nat × (Option Addr) × (Option Addr) × Nat × Nat × Int × Int) → S_law22_FrameKeeps_L2 → Prop) (hr : Rep N a e) (h0 : dec_law22_FrameKeeps_L2 e K) : ∃ f s, K f s ∧ Rep N a (lit_law22_FrameKeeps_L2 f s) := by
  unfold dec_law22_FrameKeeps_L2 at h0
  obtain ⟨u1, g1, h1⟩ := onV_elim h0
  obtain ⟨moreP_2, moreN_2, moreC_2, rfl, h2⟩ := asS_elim h1
  obtain ⟨u2, g5, h3⟩ := onV_elim h2
  obtain ⟨sx_1, rfl, h4⟩ := asP_elim h3
  obtain ⟨u3, g8, h5⟩ := onV_elim h4
  obtain ⟨wasP, wasN, wasC, rfl, h6⟩ := asS_elim h5
  obtain ⟨u4, g9, h7⟩ := onV_elim h6
  obtain ⟨basex, rfl, h8⟩ := asI_elim h7
  obtain ⟨u5, g10, h9⟩ := onV_elim h8
  obtain ⟨depth, rfl, h10⟩ := asI_elim h9
  obtain ⟨u6, g11, h11⟩ := onV_elim h10
  obtain ⟨i_1, rfl, h12⟩ := asI_elim h11
  exact ⟨_, _, h12, rep_less hr (by simp [lit_law22_FrameKeeps_L2, g1, g5, g8, g9, g10, g11])⟩

def spec_law22_FrameKeeps_L2 (Q : Post) (e : Env) (w : World) : Prop :=
  dec_law22_FrameKeeps_L2 e fun f s => F_law22_FrameKeeps_L2 f.1 f.2.1 f.2.2.1 f.2.2.2.1 f.2.2.2.2.1 f.2.2.2.2.2.1 f.2.2.2.2.2.2.1 f.2.2.2.2.2.2.2.1 f.2.2.2.2.2.2.2.2 s w (fun w1 => Q (.exit 2) [⟨5, .pointer f.2.2.2.1, none⟩, ⟨8, .slice f.2.2.2.2.1 f.2.2.2.2.2.1 f.2.2.2.2.2.2.1, none⟩, ⟨9, .int .i64 f.2.2.2.2.2.2.2.1, none⟩, ⟨10, .int .i64 f.2.2.2.2.2.2.2.2, none⟩] w1)

def lit_law22_FrameKeeps_L3 (f : (Option Addr) × (Option Addr) × Nat × Nat × Int × Int) (s : S_law22_FrameKeeps_L3) : Env := [⟨5, .pointer f.1, none⟩, ⟨8, .slice f.2.1 f.2.2.1 f.2.2.2.1, none⟩, ⟨9, .int .i64 f.2.2.2.2.1, none⟩, ⟨10, .int .i64 f.2.2.2.2.2, none⟩, ⟨12, .int .i64 s.i_2, none⟩]

def dec_law22_FrameKeeps_L3 (e : Env) (K : ((Option Addr) × (Option Addr) × Nat × Nat × Int × Int) → S_law22_FrameKeeps_L3 → Prop) : Prop :=
  onV (getV e 5) fun u1 =>
  asP u1 fun sx_2 =>
  onV (getV e 8) fun u2 =>
  asS u2 fun wasP_1 wasN_1 wasC_1 =>
  onV (getV e 9) fun u3 =>
  asI .i64 u3 fun basex_1 =>
  onV (getV e 10) fun u4 =>
  asI .i64 u4 fun depth_1 =>
  onV (getV e 12) fun u5 =>
  asI .i64 u5 fun i_2 =>
    K (sx_2, wasP_1, wasN_1, wasC_1, basex_1, depth_1) ⟨i_2⟩

theorem dec_law22_FrameKeeps_L3_ok {N : Nat} (e : Env) (a : Act) (K : ((Option Addr) × (Option Addr) × Nat × Nat × Int × Int) → S_law22_FrameKeeps_L3 → Prop) (hr : Rep N a e) (h0 : dec_law22_FrameKeeps_L3 e K) : ∃ f s, K f s ∧ Rep N a (lit_law22_FrameKeeps_L3 f s) := by
  unfold dec_law22_FrameKeeps_L3 at h0
  obtain ⟨u1, g5, h1⟩ := onV_elim h0
  obtain ⟨sx_2, rfl, h2⟩ := asP_elim h1
  obtain ⟨u2, g8, h3⟩ := onV_elim h2
  obtain ⟨wasP_1, wasN_1, wasC_1, rfl, h4⟩ := asS_elim h3
  obtain ⟨u3, g9, h5⟩ := onV_elim h4
  obtain ⟨basex_1, rfl, h6⟩ := asI_elim h5
  obtain ⟨u4, g10, h7⟩ := onV_elim h6
  obtain ⟨depth_1, rfl, h8⟩ := asI_elim h7
  obtain ⟨u5, g12, h9⟩ := onV_elim h8
  obtain ⟨i_2, rfl, h10⟩ := asI_elim h9
  exact ⟨_, _, h10, rep_less hr (by simp [lit_law22_FrameKeeps_L3, g5, g8, g9, g10, g12])⟩

def spec_law22_FrameKeeps_L3 (Q : Post) (e : Env) (w : World) : Prop :=
  dec_law22_FrameKeeps_L3 e fun f s => F_law22_FrameKeeps_L3 f.1 f.2.1 f.2.2.1 f.2.2.2.1 f.2.2.2.2.1 f.2.2.2.2.2 s w (fun w1 => Q (.exit 4) [⟨5, .pointer f.1, none⟩, ⟨8, .slice f.2.1 f.2.2.1 f.2.2.2.1, none⟩, ⟨9, .int .i64 f.2.2.2.2.1, none⟩] w1)

def G_law22_FrameKeeps : Gen where
  loop := lookL [([false, true, false, true, true, true], spec_law22_FrameKeeps_L1), ([false, true, false, true, true, true, true, true, true, true, true], spec_law22_FrameKeeps_L2), ([false, true, false, true, true, true, true, true, true, true, true, true], spec_law22_FrameKeeps_L3)]
  plan := fun _ => none

def dx_law22_FrameKeeps_L1_0 (e : Env) (K : ((Option Addr) × Nat × Nat × (Option Addr) × Nat × Nat × (Option Addr)) → Prop) : Prop :=
  onV (getV e 0) fun u1 =>
  asS u1 fun lP_1 lN_1 lC_1 =>
  onV (getV e 1) fun u2 =>
  asS u2 fun moreP_1 moreN_1 moreC_1 =>
  onV (getV e 5) fun u3 =>
  asP u3 fun sx =>
    K (lP_1, lN_1, lC_1, moreP_1, moreN_1, moreC_1, sx)

theorem body_law22_FrameKeeps_L1 (f : (Option Addr) × Nat × Nat × (Option Addr) × Nat × Nat × (Option Addr)) (s : S_law22_FrameKeeps_L1) (w : World) (Kn : ((Option Addr) × Nat × Nat × (Option Addr) × Nat × Nat × (Option Addr)) → S_law22_FrameKeeps_L1 → World → Prop) (Kx0 : ((Option Addr) × Nat × Nat × (Option Addr) × Nat × Nat × (Option Addr)) → World → Prop) :
    B_law22_FrameKeeps_L1 f.1 f.2.1 f.2.2.1 f.2.2.2.1 f.2.2.2.2.1 f.2.2.2.2.2.1 f.2.2.2.2.2.2 s w (fun s1 w1 => Kn f s1 w1) (fun w1 => Kx0 f w1) =
    den Try.prog Try.f3.ntmps G_law22_FrameKeeps (sub (codeOf Try.f3) [false, false, true, false, true, true, true]) [false, false, true, false, true, true, true] (roundQ (fun e w => dec_law22_FrameKeeps_L1 e fun f s => Kn f s w) (fun e w => False) (fun id e w => match Nat.beq id 0 with | true => dx_law22_FrameKeeps_L1_0 e fun f => Kx0 f w | false => False)) (lit_law22_FrameKeeps_L1 f s) w := by kernel_rfl

def dx_law22_FrameKeeps_L2_2 (e : Env) (K : ((Option Addr) × Nat × Nat × (Option Addr) × (Option Addr) × Nat × Nat × Int × Int) → Prop) : Prop :=
  onV (getV e 1) fun u1 =>
  asS u1 fun moreP_2 moreN_2 moreC_2 =>
  onV (getV e 5) fun u2 =>
  asP u2 fun sx_1 =>
  onV (getV e 8) fun u3 =>
  asS u3 fun wasP wasN wasC =>
  onV (getV e 9) fun u4 =>
  asI .i64 u4 fun basex =>
  onV (getV e 10) fun u5 =>
  asI .i64 u5 fun depth =>
    K (moreP_2, moreN_2, moreC_2, sx_1, wasP, wasN, wasC, basex, depth)

theorem body_law22_FrameKeeps_L2 (f : (Option Addr) × Nat × Nat × (Option Addr) × (Option Addr) × Nat × Nat × Int × Int) (s : S_law22_FrameKeeps_L2) (w : World) (Kn : ((Option Addr) × Nat × Nat × (Option Addr) × (Option Addr) × Nat × Nat × Int × Int) → S_law22_FrameKeeps_L2 → World → Prop) (Kx2 : ((Option Addr) × Nat × Nat × (Option Addr) × (Option Addr) × Nat × Nat × Int × Int) → World → Prop) :
    B_law22_FrameKeeps_L2 f.1 f.2.1 f.2.2.1 f.2.2.2.1 f.2.2.2.2.1 f.2.2.2.2.2.1 f.2.2.2.2.2.2.1 f.2.2.2.2.2.2.2.1 f.2.2.2.2.2.2.2.2 s w (fun s1 w1 => Kn f s1 w1) (fun w1 => Kx2 f w1) =
    den Try.prog Try.f3.ntmps G_law22_FrameKeeps (sub (codeOf Try.f3) [false, false, true, false, true, true, true, true, true, true, true, true]) [false, false, true, false, true, true, true, true, true, true, true, true] (roundQ (fun e w => dec_law22_FrameKeeps_L2 e fun f s => Kn f s w) (fun e w => False) (fun id e w => match Nat.beq id 2 with | true => dx_law22_FrameKeeps_L2_2 e fun f => Kx2 f w | false => False)) (lit_law22_FrameKeeps_L2 f s) w := by kernel_rfl

def dx_law22_FrameKeeps_L3_4 (e : Env) (K : ((Option Addr) × (Option Addr) × Nat × Nat × Int × Int) → Prop) : Prop :=
  onV (getV e 5) fun u1 =>
  asP u1 fun sx_2 =>
  onV (getV e 8) fun u2 =>
  asS u2 fun wasP_1 wasN_1 wasC_1 =>
  onV (getV e 9) fun u3 =>
  asI .i64 u3 fun basex_1 =>
  onV (getV e 10) fun u4 =>
  asI .i64 u4 fun depth_1 =>
    K (sx_2, wasP_1, wasN_1, wasC_1, basex_1, depth_1)

theorem body_law22_FrameKeeps_L3 (f : (Option Addr) × (Option Addr) × Nat × Nat × Int × Int) (s : S_law22_FrameKeeps_L3) (w : World) (Kn : ((Option Addr) × (Option Addr) × Nat × Nat × Int × Int) → S_law22_FrameKeeps_L3 → World → Prop) (Kx4 : ((Option Addr) × (Option Addr) × Nat × Nat × Int × Int) → World → Prop) :
    B_law22_FrameKeeps_L3 f.1 f.2.1 f.2.2.1 f.2.2.2.1 f.2.2.2.2.1 f.2.2.2.2.2 s w (fun s1 w1 => Kn f s1 w1) (fun w1 => Kx4 f w1) =
    den Try.prog Try.f3.ntmps G_law22_FrameKeeps (sub (codeOf Try.f3) [false, false, true, false, true, true, true, true, true, true, true, true, true]) [false, false, true, false, true, true, true, true, true, true, true, true, true] (roundQ (fun e w => dec_law22_FrameKeeps_L3 e fun f s => Kn f s w) (fun e w => False) (fun id e w => match Nat.beq id 4 with | true => dx_law22_FrameKeeps_L3_4 e fun f => Kx4 f w | false => False)) (lit_law22_FrameKeeps_L3 f s) w := by kernel_rfl

theorem ok_law22_FrameKeeps_L1 : OneOk Try.prog Try.f3.ntmps G_law22_FrameKeeps (codeOf Try.f3) [false, true, false, true, true, true] spec_law22_FrameKeeps_L1 := by
  intro c hc ih Q e w a hr h
  have hcc : sub (codeOf Try.f3) [false, false, true, false, true, true, true] = c := sub_of_codeAt hc
  obtain ⟨f, s, h, hrep⟩ := dec_law22_FrameKeeps_L1_ok e a _ hr h
  obtain ⟨J, μ, hj, hround⟩ := h
  refine loop_rule_deep seat_ok seat_mixed ih lit_law22_FrameKeeps_L1 dec_law22_FrameKeeps_L1 dec_law22_FrameKeeps_L1_ok hc f J μ (Kr := fun e w => False) (Kx := fun id e w => match Nat.beq id 0 with | true => (dx_law22_FrameKeeps_L1_0 e fun f1 => f1 = f ∧ Q (.exit 0) [⟨1, .slice f.2.2.2.1 f.2.2.2.2.1 f.2.2.2.2.2.1, none⟩, ⟨5, .pointer f.2.2.2.2.2.2, none⟩] w) | false => False) ?_ ?_ ?_ s w a hj hrep
  · intro e a w hr h
    exact h.elim
  · intro id e a w hr h0
    (try dsimp only at h0)
    split at h0
    · rename_i hid
      obtain rfl := Nat.eq_of_beq_eq_true hid
      unfold dx_law22_FrameKeeps_L1_0 at h0
      obtain ⟨u1, g0, h1⟩ := onV_elim h0
      obtain ⟨lP_1, lN_1, lC_1, rfl, h2⟩ := asS_elim h1
      obtain ⟨u2, g1, h3⟩ := onV_elim h2
      obtain ⟨moreP_1, moreN_1, moreC_1, rfl, h4⟩ := asS_elim h3
      obtain ⟨u3, g5, h5⟩ := onV_elim h4
      obtain ⟨sx, rfl, h6⟩ := asP_elim h5
      obtain ⟨hf, hq⟩ := h6
      subst hf
      exact ⟨_, rep_less hr (by simp [g1, g5]), hq⟩
    · exact h0.elim
  · intro s w hj
    have hb := hround s w hj
    rw [← hcc]
    have e1 := body_law22_FrameKeeps_L1 f s w (fun f1 s1 w1 => f1 = f ∧ J s1 w1 ∧ μ s1 w1 < μ s w) (fun f1 w1 => f1 = f ∧ Q (.exit 0) [⟨1, .slice f.2.2.2.1 f.2.2.2.2.1 f.2.2.2.2.2.1, none⟩, ⟨5, .pointer f.2.2.2.2.2.2, none⟩] w1)
    simp only [true_and] at e1
    exact cast e1 hb

theorem ok_law22_FrameKeeps_L2 : OneOk Try.prog Try.f3.ntmps G_law22_FrameKeeps (codeOf Try.f3) [false, true, false, true, true, true, true, true, true, true, true] spec_law22_FrameKeeps_L2 := by
  intro c hc ih Q e w a hr h
  have hcc : sub (codeOf Try.f3) [false, false, true, false, true, true, true, true, true, true, true, true] = c := sub_of_codeAt hc
  obtain ⟨f, s, h, hrep⟩ := dec_law22_FrameKeeps_L2_ok e a _ hr h
  obtain ⟨J, μ, hj, hround⟩ := h
  refine loop_rule_deep seat_ok seat_mixed ih lit_law22_FrameKeeps_L2 dec_law22_FrameKeeps_L2 dec_law22_FrameKeeps_L2_ok hc f J μ (Kr := fun e w => False) (Kx := fun id e w => match Nat.beq id 2 with | true => (dx_law22_FrameKeeps_L2_2 e fun f1 => f1 = f ∧ Q (.exit 2) [⟨5, .pointer f.2.2.2.1, none⟩, ⟨8, .slice f.2.2.2.2.1 f.2.2.2.2.2.1 f.2.2.2.2.2.2.1, none⟩, ⟨9, .int .i64 f.2.2.2.2.2.2.2.1, none⟩, ⟨10, .int .i64 f.2.2.2.2.2.2.2.2, none⟩] w) | false => False) ?_ ?_ ?_ s w a hj hrep
  · intro e a w hr h
    exact h.elim
  · intro id e a w hr h0
    (try dsimp only at h0)
    split at h0
    · rename_i hid
      obtain rfl := Nat.eq_of_beq_eq_true hid
      unfold dx_law22_FrameKeeps_L2_2 at h0
      obtain ⟨u1, g1, h1⟩ := onV_elim h0
      obtain ⟨moreP_2, moreN_2, moreC_2, rfl, h2⟩ := asS_elim h1
      obtain ⟨u2, g5, h3⟩ := onV_elim h2
      obtain ⟨sx_1, rfl, h4⟩ := asP_elim h3
      obtain ⟨u3, g8, h5⟩ := onV_elim h4
      obtain ⟨wasP, wasN, wasC, rfl, h6⟩ := asS_elim h5
      obtain ⟨u4, g9, h7⟩ := onV_elim h6
      obtain ⟨basex, rfl, h8⟩ := asI_elim h7
      obtain ⟨u5, g10, h9⟩ := onV_elim h8
      obtain ⟨depth, rfl, h10⟩ := asI_elim h9
      obtain ⟨hf, hq⟩ := h10
      subst hf
      exact ⟨_, rep_less hr (by simp [g5, g8, g9, g10]), hq⟩
    · exact h0.elim
  · intro s w hj
    have hb := hround s w hj
    rw [← hcc]
    have e1 := body_law22_FrameKeeps_L2 f s w (fun f1 s1 w1 => f1 = f ∧ J s1 w1 ∧ μ s1 w1 < μ s w) (fun f1 w1 => f1 = f ∧ Q (.exit 2) [⟨5, .pointer f.2.2.2.1, none⟩, ⟨8, .slice f.2.2.2.2.1 f.2.2.2.2.2.1 f.2.2.2.2.2.2.1, none⟩, ⟨9, .int .i64 f.2.2.2.2.2.2.2.1, none⟩, ⟨10, .int .i64 f.2.2.2.2.2.2.2.2, none⟩] w1)
    simp only [true_and] at e1
    exact cast e1 hb

theorem ok_law22_FrameKeeps_L3 : OneOk Try.prog Try.f3.ntmps G_law22_FrameKeeps (codeOf Try.f3) [false, true, false, true, true, true, true, true, true, true, true, true] spec_law22_FrameKeeps_L3 := by
  intro c hc ih Q e w a hr h
  have hcc : sub (codeOf Try.f3) [false, false, true, false, true, true, true, true, true, true, true, true, true] = c := sub_of_codeAt hc
  obtain ⟨f, s, h, hrep⟩ := dec_law22_FrameKeeps_L3_ok e a _ hr h
  obtain ⟨J, μ, hj, hround⟩ := h
  refine loop_rule_deep seat_ok seat_mixed ih lit_law22_FrameKeeps_L3 dec_law22_FrameKeeps_L3 dec_law22_FrameKeeps_L3_ok hc f J μ (Kr := fun e w => False) (Kx := fun id e w => match Nat.beq id 4 with | true => (dx_law22_FrameKeeps_L3_4 e fun f1 => f1 = f ∧ Q (.exit 4) [⟨5, .pointer f.1, none⟩, ⟨8, .slice f.2.1 f.2.2.1 f.2.2.2.1, none⟩, ⟨9, .int .i64 f.2.2.2.2.1, none⟩] w) | false => False) ?_ ?_ ?_ s w a hj hrep
  · intro e a w hr h
    exact h.elim
  · intro id e a w hr h0
    (try dsimp only at h0)
    split at h0
    · rename_i hid
      obtain rfl := Nat.eq_of_beq_eq_true hid
      unfold dx_law22_FrameKeeps_L3_4 at h0
      obtain ⟨u1, g5, h1⟩ := onV_elim h0
      obtain ⟨sx_2, rfl, h2⟩ := asP_elim h1
      obtain ⟨u2, g8, h3⟩ := onV_elim h2
      obtain ⟨wasP_1, wasN_1, wasC_1, rfl, h4⟩ := asS_elim h3
      obtain ⟨u3, g9, h5⟩ := onV_elim h4
      obtain ⟨basex_1, rfl, h6⟩ := asI_elim h5
      obtain ⟨u4, g10, h7⟩ := onV_elim h6
      obtain ⟨depth_1, rfl, h8⟩ := asI_elim h7
      obtain ⟨hf, hq⟩ := h8
      subst hf
      exact ⟨_, rep_less hr (by simp [g5, g8, g9]), hq⟩
    · exact h0.elim
  · intro s w hj
    have hb := hround s w hj
    rw [← hcc]
    have e1 := body_law22_FrameKeeps_L3 f s w (fun f1 s1 w1 => f1 = f ∧ J s1 w1 ∧ μ s1 w1 < μ s w) (fun f1 w1 => f1 = f ∧ Q (.exit 4) [⟨5, .pointer f.1, none⟩, ⟨8, .slice f.2.1 f.2.2.1 f.2.2.2.1, none⟩, ⟨9, .int .i64 f.2.2.2.2.1, none⟩] w1)
    simp only [true_and] at e1
    exact cast e1 hb

theorem loops_law22_FrameKeeps : LoopOk Try.prog Try.f3.ntmps G_law22_FrameKeeps (codeOf Try.f3) := loopOk_list rfl ⟨ok_law22_FrameKeeps_L1, ⟨ok_law22_FrameKeeps_L2, ⟨ok_law22_FrameKeeps_L3, trivial⟩⟩⟩

theorem den_law22_FrameKeeps (lP : Option Addr) (lN : Nat) (lC : Nat) (moreP : Option Addr) (moreN : Nat) (moreC : Nat) (w : World) (R : Value → World → Prop) :
    F_law22_FrameKeeps lP lN lC moreP moreN moreC w (fun r w1 => R (.bool r) w1) = den Try.prog Try.f3.ntmps G_law22_FrameKeeps (codeOf Try.f3) [] (postD Try.prog Try.f3.results.toList R) (entry [.slice lP lN lC, .slice moreP moreN moreC] 0) w := by kernel_rfl

theorem C_law22_FrameKeeps.of {lP : Option Addr} {lN : Nat} {lC : Nat} {moreP : Option Addr} {moreN : Nat} {moreC : Nat} {w : World} {R : Bool → World → Prop} (h : F_law22_FrameKeeps lP lN lC moreP moreN moreC w R) : C_law22_FrameKeeps lP lN lC moreP moreN moreC w R := by
  refine (calls_of_den (c := codeOf Try.f3) seat_ok seat_mixed Try.func3 (by kernel_rfl) loops_law22_FrameKeeps (args := [.slice lP lN lC, .slice moreP moreN moreC]) rfl (R := fun v w1 => ∃ (r : Bool), v = (.bool r : Value) ∧ R r w1) ?_).mono ?_
  · rw [← den_law22_FrameKeeps]
    have e : (fun r w1 => ∃ (r' : Bool), (.bool r : Value) = (.bool r' : Value) ∧ R r' w1) = R := by
      funext r w1
      exact propext ⟨fun ⟨r', he, h⟩ => by first | (simp at he; simp_all) | (cases he; exact h), fun h => ⟨_, rfl, h⟩⟩
    simpa only [e] using h
  · rintro en w1 ⟨v, he, r, rfl, h⟩
    exact ⟨_, he, h⟩

structure S_law22_FrameNests_L2 where
  k : Int

structure S_law22_FrameNests_L1 where
  i : Int

structure S_law22_FrameNests_L4 where
  k_1 : Int

structure S_law22_FrameNests_L3 where
  i_2 : Int

def F_law22_FrameNests_k1 (R : Bool → World → Prop) (w1_2 : World) : Prop :=
  C_law22_lives  w1_2 fun t34 w1_3 =>
  R t34 w1_3

/-- One round. -/
def B_law22_FrameNests_L2 (lP_2 : Option Addr) (lN_2 : Nat) (lC_2 : Nat) (sx_1 : Option Addr) (i_1 : Int) (n : Int) (s : S_law22_FrameNests_L2) (w : World) (Kn : S_law22_FrameNests_L2 → World → Prop) (Kx2 : World → Prop) : Prop :=
  If (decide ((s.k : Int) ≤ n))
  (C_frame_Stack_Set sx_1 (s.k : Int) (IntKind.u64.wrap (IntKind.i64.wrap ((IntKind.i64.wrap ((100 : Int) * i_1)) + (s.k : Int)))) w fun t76 w1_7 =>
  Kn ⟨(IntKind.i64.wrap ((s.k : Int) + (1 : Int)))⟩ w1_7)
  (Kx2 w)

def F_law22_FrameNests_L2 (lP_2 : Option Addr) (lN_2 : Nat) (lC_2 : Nat) (sx_1 : Option Addr) (i_1 : Int) (n : Int) (s : S_law22_FrameNests_L2) (w : World) (Kx2 : World → Prop) : Prop :=
  LoopS (fun s w Kn => B_law22_FrameNests_L2 lP_2 lN_2 lC_2 sx_1 i_1 n s w Kn Kx2) s w

/-- One round. -/
def B_law22_FrameNests_L1 (lP_1 : Option Addr) (lN_1 : Nat) (lC_1 : Nat) (sx : Option Addr) (s : S_law22_FrameNests_L1) (w : World) (Kn : S_law22_FrameNests_L1 → World → Prop) (Kx0 : World → Prop) (Kr : Bool → World → Prop) : Prop :=
  If (decide ((s.i : Int) < (lN_1 : Int)))
  (0 ≤ (s.i : Int) ∧ (s.i : Int) < (lN_1 : Int) ∧ NN lP_1 fun a =>
  ∃ t44 : Int, w.cell? (a.add ((s.i : Int).toNat * 1)) = some (.int .i64 t44) ∧
  (20 : Int) ≠ 0 ∧
  (20 : Int) ≠ 0 ∧
  0 ≤ (s.i : Int) ∧ (s.i : Int) < (lN_1 : Int) ∧ NN lP_1 fun a_1 =>
  ∃ t54 : Int, w.cell? (a_1.add ((s.i : Int).toNat * 1)) = some (.int .i64 t54) ∧
  C_frame_Stack_Alloc sx ((IntKind.i64.wrap ((t44.tmod (20 : Int)) + (20 : Int))).tmod (20 : Int)) (s.i : Int) t54 w fun t56 w1_5 =>
  If (t56 != (0 : Int))
  (Kr false w1_5)
  (C_frame_Stack_Slots sx w1_5 fun t60 w1_6 =>
  If (t60 != ((IntKind.i64.wrap ((t44.tmod (20 : Int)) + (20 : Int))).tmod (20 : Int)))
  (Kr false w1_6)
  (F_law22_FrameNests_L2 lP_1 lN_1 lC_1 sx (s.i : Int) ((IntKind.i64.wrap ((t44.tmod (20 : Int)) + (20 : Int))).tmod (20 : Int)) ⟨(1 : Int)⟩ w1_6
  (fun w1_8 =>
  Kn ⟨(IntKind.i64.wrap ((s.i : Int) + (1 : Int)))⟩ w1_8))))
  (Kx0 w)

def F_law22_FrameNests_L1 (lP_1 : Option Addr) (lN_1 : Nat) (lC_1 : Nat) (sx : Option Addr) (s : S_law22_FrameNests_L1) (w : World) (Kx0 : World → Prop) (Kr : Bool → World → Prop) : Prop :=
  LoopS (fun s w Kn => B_law22_FrameNests_L1 lP_1 lN_1 lC_1 sx s w Kn Kx0 Kr) s w

/-- One round. -/
def B_law22_FrameNests_L4 (lP_4 : Option Addr) (lN_4 : Nat) (lC_4 : Nat) (sx_3 : Option Addr) (i_3 : Int) (n_1 : Int) (s : S_law22_FrameNests_L4) (w : World) (Kn : S_law22_FrameNests_L4 → World → Prop) (Kx6 : World → Prop) (Kr : Bool → World → Prop) : Prop :=
  If (decide ((s.k_1 : Int) ≤ n_1))
  (C_frame_Stack_Get sx_3 (s.k_1 : Int) w fun t990 t991 w1_11 =>
  If (t991 != (0 : Int))
  (Kr false w1_11)
  (If (t990 != (IntKind.u64.wrap (IntKind.i64.wrap ((IntKind.i64.wrap ((100 : Int) * i_3)) + (s.k_1 : Int)))))
  (Kr false w1_11)
  (Kn ⟨(IntKind.i64.wrap ((s.k_1 : Int) + (1 : Int)))⟩ w1_11)))
  (Kx6 w)

def F_law22_FrameNests_L4 (lP_4 : Option Addr) (lN_4 : Nat) (lC_4 : Nat) (sx_3 : Option Addr) (i_3 : Int) (n_1 : Int) (s : S_law22_FrameNests_L4) (w : World) (Kx6 : World → Prop) (Kr : Bool → World → Prop) : Prop :=
  LoopS (fun s w Kn => B_law22_FrameNests_L4 lP_4 lN_4 lC_4 sx_3 i_3 n_1 s w Kn Kx6 Kr) s w

/-- One round. -/
def B_law22_FrameNests_L3 (lP_3 : Option Addr) (lN_3 : Nat) (lC_3 : Nat) (sx_2 : Option Addr) (s : S_law22_FrameNests_L3) (w : World) (Kn : S_law22_FrameNests_L3 → World → Prop) (Kx4 : World → Prop) (Kr : Bool → World → Prop) : Prop :=
  If (decide ((s.i_2 : Int) ≥ (0 : Int)))
  (0 ≤ (s.i_2 : Int) ∧ (s.i_2 : Int) < (lN_3 : Int) ∧ NN lP_3 fun a_2 =>
  ∃ t87 : Int, w.cell? (a_2.add ((s.i_2 : Int).toNat * 1)) = some (.int .i64 t87) ∧
  (20 : Int) ≠ 0 ∧
  (20 : Int) ≠ 0 ∧
  F_law22_FrameNests_L4 lP_3 lN_3 lC_3 sx_2 (s.i_2 : Int) ((IntKind.i64.wrap ((t87.tmod (20 : Int)) + (20 : Int))).tmod (20 : Int)) ⟨(1 : Int)⟩ w
  (fun w1_12 =>
  C_frame_Stack_Dealloc sx_2 w1_12 fun t11500 t11501 t1151 w1_14 =>
  New w1_14 (.cells #[.int .i64 0, .int .i64 0] 31) fun r w1_15 =>
  St w1_15 ((⟨r, 0, none⟩ : Addr).add 0) (.int .i64 t11500) fun w1_16 =>
  St w1_16 ((⟨r, 0, none⟩ : Addr).add 1) (.int .i64 t11501) fun w1_17 =>
  If (t1151 != (0 : Int))
  (Kr false (drw w1_17))
  (∃ t1210 : Int, (drw w1_17).cell? ((⟨r, 0, none⟩ : Addr).add 0) = some (.int .i64 t1210) ∧
  ∃ t1211 : Int, (drw w1_17).cell? ((⟨r, 0, none⟩ : Addr).add 1) = some (.int .i64 t1211) ∧
  0 ≤ (s.i_2 : Int) ∧ (s.i_2 : Int) < (lN_3 : Int) ∧ NN lP_3 fun a_3 =>
  ∃ t126 : Int, (drw w1_17).cell? (a_3.add ((s.i_2 : Int).toNat * 1)) = some (.int .i64 t126) ∧
  AggEq Try.prog 31 (.agg #[.int .i64 t1210, .int .i64 t1211]) (.agg #[.int .i64 s.i_2, .int .i64 t126]) fun bb =>
  If (!bb)
  (Kr false (drw w1_17))
  (Kn ⟨(IntKind.i64.wrap ((s.i_2 : Int) - (1 : Int)))⟩ (drw w1_17))))
  (fun t2_4 w1_13 =>
  Kr t2_4 w1_13))
  (Kx4 w)

def F_law22_FrameNests_L3 (lP_3 : Option Addr) (lN_3 : Nat) (lC_3 : Nat) (sx_2 : Option Addr) (s : S_law22_FrameNests_L3) (w : World) (Kx4 : World → Prop) (Kr : Bool → World → Prop) : Prop :=
  LoopS (fun s w Kn => B_law22_FrameNests_L3 lP_3 lN_3 lC_3 sx_2 s w Kn Kx4 Kr) s w

def F_law22_FrameNests (lP : Option Addr) (lN : Nat) (lC : Nat) (w : World) (R : Bool → World → Prop) : Prop :=
  C_frame_New (65536 : Int) (10 : Int) w fun t160 t161 w1 =>
  C_law22_lives  w1 fun t19 w1_1 =>
  If (!t19)
  (F_law22_FrameNests_k1 R w1_1)
  (If (t161 != (0 : Int))
  (F_law22_FrameNests_k1 R w1_1)
  (If t160.isNone
  (F_law22_FrameNests_k1 R w1_1)
  (If (decide ((lN : Int) > (100 : Int)))
  (C_law22_lives  w1_1 fun t34_1 w1_4 =>
  R t34_1 w1_4)
  (F_law22_FrameNests_L1 lP lN lC t160 ⟨(0 : Int)⟩ w1_1
  (fun w1_9 =>
  F_law22_FrameNests_L3 lP lN lC t160 ⟨(IntKind.i64.wrap ((lN : Int) - (1 : Int)))⟩ w1_9
  (fun w1_18 =>
  C_frame_Stack_Env t160 w1_18 fun t131 w1_20 =>
  R (t131 == (-1)) w1_20)
  (fun t2_5 w1_19 =>
  R t2_5 w1_19))
  (fun t2_1 w1_10 =>
  R t2_1 w1_10)))))

def lit_law22_FrameNests_L1 (f : (Option Addr) × Nat × Nat × (Option Addr)) (s : S_law22_FrameNests_L1) : Env := [⟨0, .slice f.1 f.2.1 f.2.2.1, none⟩, ⟨3, .pointer f.2.2.2, none⟩, ⟨5, .int .i64 s.i, none⟩]

def dec_law22_FrameNests_L1 (e : Env) (K : ((Option Addr) × Nat × Nat × (Option Addr)) → S_law22_FrameNests_L1 → Prop) : Prop :=
  onV (getV e 0) fun u1 =>
  asS u1 fun lP_1 lN_1 lC_1 =>
  onV (getV e 3) fun u2 =>
  asP u2 fun sx =>
  onV (getV e 5) fun u3 =>
  asI .i64 u3 fun i =>
    K (lP_1, lN_1, lC_1, sx) ⟨i⟩

theorem dec_law22_FrameNests_L1_ok {N : Nat} (e : Env) (a : Act) (K : ((Option Addr) × Nat × Nat × (Option Addr)) → S_law22_FrameNests_L1 → Prop) (hr : Rep N a e) (h0 : dec_law22_FrameNests_L1 e K) : ∃ f s, K f s ∧ Rep N a (lit_law22_FrameNests_L1 f s) := by
  unfold dec_law22_FrameNests_L1 at h0
  obtain ⟨u1, g0, h1⟩ := onV_elim h0
  obtain ⟨lP_1, lN_1, lC_1, rfl, h2⟩ := asS_elim h1
  obtain ⟨u2, g3, h3⟩ := onV_elim h2
  obtain ⟨sx, rfl, h4⟩ := asP_elim h3
  obtain ⟨u3, g5, h5⟩ := onV_elim h4
  obtain ⟨i, rfl, h6⟩ := asI_elim h5
  exact ⟨_, _, h6, rep_less hr (by simp [lit_law22_FrameNests_L1, g0, g3, g5])⟩

def spec_law22_FrameNests_L1 (Q : Post) (e : Env) (w : World) : Prop :=
  dec_law22_FrameNests_L1 e fun f s => F_law22_FrameNests_L1 f.1 f.2.1 f.2.2.1 f.2.2.2 s w (fun w1 => Q (.exit 0) [⟨0, .slice f.1 f.2.1 f.2.2.1, none⟩, ⟨3, .pointer f.2.2.2, none⟩] w1) (fun t2 w1 => Q .ret [⟨2, .bool t2, none⟩] w1)

def lit_law22_FrameNests_L2 (f : (Option Addr) × Nat × Nat × (Option Addr) × Int × Int) (s : S_law22_FrameNests_L2) : Env := [⟨0, .slice f.1 f.2.1 f.2.2.1, none⟩, ⟨3, .pointer f.2.2.2.1, none⟩, ⟨5, .int .i64 f.2.2.2.2.1, none⟩, ⟨6, .int .i64 f.2.2.2.2.2, none⟩, ⟨7, .int .i64 s.k, none⟩]

def dec_law22_FrameNests_L2 (e : Env) (K : ((Option Addr) × Nat × Nat × (Option Addr) × Int × Int) → S_law22_FrameNests_L2 → Prop) : Prop :=
  onV (getV e 0) fun u1 =>
  asS u1 fun lP_2 lN_2 lC_2 =>
  onV (getV e 3) fun u2 =>
  asP u2 fun sx_1 =>
  onV (getV e 5) fun u3 =>
  asI .i64 u3 fun i_1 =>
  onV (getV e 6) fun u4 =>
  asI .i64 u4 fun n =>
  onV (getV e 7) fun u5 =>
  asI .i64 u5 fun k =>
    K (lP_2, lN_2, lC_2, sx_1, i_1, n) ⟨k⟩

theorem dec_law22_FrameNests_L2_ok {N : Nat} (e : Env) (a : Act) (K : ((Option Addr) × Nat × Nat × (Option Addr) × Int × Int) → S_law22_FrameNests_L2 → Prop) (hr : Rep N a e) (h0 : dec_law22_FrameNests_L2 e K) : ∃ f s, K f s ∧ Rep N a (lit_law22_FrameNests_L2 f s) := by
  unfold dec_law22_FrameNests_L2 at h0
  obtain ⟨u1, g0, h1⟩ := onV_elim h0
  obtain ⟨lP_2, lN_2, lC_2, rfl, h2⟩ := asS_elim h1
  obtain ⟨u2, g3, h3⟩ := onV_elim h2
  obtain ⟨sx_1, rfl, h4⟩ := asP_elim h3
  obtain ⟨u3, g5, h5⟩ := onV_elim h4
  obtain ⟨i_1, rfl, h6⟩ := asI_elim h5
  obtain ⟨u4, g6, h7⟩ := onV_elim h6
  obtain ⟨n, rfl, h8⟩ := asI_elim h7
  obtain ⟨u5, g7, h9⟩ := onV_elim h8
  obtain ⟨k, rfl, h10⟩ := asI_elim h9
  exact ⟨_, _, h10, rep_less hr (by simp [lit_law22_FrameNests_L2, g0, g3, g5, g6, g7])⟩

def spec_law22_FrameNests_L2 (Q : Post) (e : Env) (w : World) : Prop :=
  dec_law22_FrameNests_L2 e fun f s => F_law22_FrameNests_L2 f.1 f.2.1 f.2.2.1 f.2.2.2.1 f.2.2.2.2.1 f.2.2.2.2.2 s w (fun w1 => Q (.exit 2) [⟨0, .slice f.1 f.2.1 f.2.2.1, none⟩, ⟨3, .pointer f.2.2.2.1, none⟩, ⟨5, .int .i64 f.2.2.2.2.1, none⟩] w1)

def lit_law22_FrameNests_L3 (f : (Option Addr) × Nat × Nat × (Option Addr)) (s : S_law22_FrameNests_L3) : Env := [⟨0, .slice f.1 f.2.1 f.2.2.1, none⟩, ⟨3, .pointer f.2.2.2, none⟩, ⟨8, .int .i64 s.i_2, none⟩]

def dec_law22_FrameNests_L3 (e : Env) (K : ((Option Addr) × Nat × Nat × (Option Addr)) → S_law22_FrameNests_L3 → Prop) : Prop :=
  onV (getV e 0) fun u1 =>
  asS u1 fun lP_3 lN_3 lC_3 =>
  onV (getV e 3) fun u2 =>
  asP u2 fun sx_2 =>
  onV (getV e 8) fun u3 =>
  asI .i64 u3 fun i_2 =>
    K (lP_3, lN_3, lC_3, sx_2) ⟨i_2⟩

theorem dec_law22_FrameNests_L3_ok {N : Nat} (e : Env) (a : Act) (K : ((Option Addr) × Nat × Nat × (Option Addr)) → S_law22_FrameNests_L3 → Prop) (hr : Rep N a e) (h0 : dec_law22_FrameNests_L3 e K) : ∃ f s, K f s ∧ Rep N a (lit_law22_FrameNests_L3 f s) := by
  unfold dec_law22_FrameNests_L3 at h0
  obtain ⟨u1, g0, h1⟩ := onV_elim h0
  obtain ⟨lP_3, lN_3, lC_3, rfl, h2⟩ := asS_elim h1
  obtain ⟨u2, g3, h3⟩ := onV_elim h2
  obtain ⟨sx_2, rfl, h4⟩ := asP_elim h3
  obtain ⟨u3, g8, h5⟩ := onV_elim h4
  obtain ⟨i_2, rfl, h6⟩ := asI_elim h5
  exact ⟨_, _, h6, rep_less hr (by simp [lit_law22_FrameNests_L3, g0, g3, g8])⟩

def spec_law22_FrameNests_L3 (Q : Post) (e : Env) (w : World) : Prop :=
  dec_law22_FrameNests_L3 e fun f s => F_law22_FrameNests_L3 f.1 f.2.1 f.2.2.1 f.2.2.2 s w (fun w1 => Q (.exit 4) [⟨3, .pointer f.2.2.2, none⟩] w1) (fun t2_2 w1 => Q .ret [⟨2, .bool t2_2, none⟩] w1)

def lit_law22_FrameNests_L4 (f : (Option Addr) × Nat × Nat × (Option Addr) × Int × Int) (s : S_law22_FrameNests_L4) : Env := [⟨0, .slice f.1 f.2.1 f.2.2.1, none⟩, ⟨3, .pointer f.2.2.2.1, none⟩, ⟨8, .int .i64 f.2.2.2.2.1, none⟩, ⟨9, .int .i64 f.2.2.2.2.2, none⟩, ⟨10, .int .i64 s.k_1, none⟩]

def dec_law22_FrameNests_L4 (e : Env) (K : ((Option Addr) × Nat × Nat × (Option Addr) × Int × Int) → S_law22_FrameNests_L4 → Prop) : Prop :=
  onV (getV e 0) fun u1 =>
  asS u1 fun lP_4 lN_4 lC_4 =>
  onV (getV e 3) fun u2 =>
  asP u2 fun sx_3 =>
  onV (getV e 8) fun u3 =>
  asI .i64 u3 fun i_3 =>
  onV (getV e 9) fun u4 =>
  asI .i64 u4 fun n_1 =>
  onV (getV e 10) fun u5 =>
  asI .i64 u5 fun k_1 =>
    K (lP_4, lN_4, lC_4, sx_3, i_3, n_1) ⟨k_1⟩

theorem dec_law22_FrameNests_L4_ok {N : Nat} (e : Env) (a : Act) (K : ((Option Addr) × Nat × Nat × (Option Addr) × Int × Int) → S_law22_FrameNests_L4 → Prop) (hr : Rep N a e) (h0 : dec_law22_FrameNests_L4 e K) : ∃ f s, K f s ∧ Rep N a (lit_law22_FrameNests_L4 f s) := by
  unfold dec_law22_FrameNests_L4 at h0
  obtain ⟨u1, g0, h1⟩ := onV_elim h0
  obtain ⟨lP_4, lN_4, lC_4, rfl, h2⟩ := asS_elim h1
  obtain ⟨u2, g3, h3⟩ := onV_elim h2
  obtain ⟨sx_3, rfl, h4⟩ := asP_elim h3
  obtain ⟨u3, g8, h5⟩ := onV_elim h4
  obtain ⟨i_3, rfl, h6⟩ := asI_elim h5
  obtain ⟨u4, g9, h7⟩ := onV_elim h6
  obtain ⟨n_1, rfl, h8⟩ := asI_elim h7
  obtain ⟨u5, g10, h9⟩ := onV_elim h8
  obtain ⟨k_1, rfl, h10⟩ := asI_elim h9
  exact ⟨_, _, h10, rep_less hr (by simp [lit_law22_FrameNests_L4, g0, g3, g8, g9, g10])⟩

def spec_law22_FrameNests_L4 (Q : Post) (e : Env) (w : World) : Prop :=
  dec_law22_FrameNests_L4 e fun f s => F_law22_FrameNests_L4 f.1 f.2.1 f.2.2.1 f.2.2.2.1 f.2.2.2.2.1 f.2.2.2.2.2 s w (fun w1 => Q (.exit 6) [⟨0, .slice f.1 f.2.1 f.2.2.1, none⟩, ⟨3, .pointer f.2.2.2.1, none⟩, ⟨8, .int .i64 f.2.2.2.2.1, none⟩] w1) (fun t2_3 w1 => Q .ret [⟨0, .slice f.1 f.2.1 f.2.2.1, none⟩, ⟨3, .pointer f.2.2.2.1, none⟩, ⟨2, .bool t2_3, none⟩] w1)

def G_law22_FrameNests : Gen where
  loop := lookL [([false, true, false, true, true, true], spec_law22_FrameNests_L1), ([false, true, true, true, false, false, true, false, false, true, false, true, true, true], spec_law22_FrameNests_L2), ([false, true, false, true, true, true, true], spec_law22_FrameNests_L3), ([false, true, false, true, false, false, true, false, false, true, false, true, true, true, true], spec_law22_FrameNests_L4)]
  plan := fun id =>
    bif Nat.beq id 25 then some ([0, 1, 3, 7, 7, 7, 7, 103, 231, 503, 1023, 2047], .take 0 (.take 1 (.take 2 (.take 3 (.take 4 (.take 5 (.take 6 (.take 7 (.take 8 (.take 9 (.take 10 (.take 11 .done)))))))))))) else none

def dx_law22_FrameNests_L1_0 (e : Env) (K : ((Option Addr) × Nat × Nat × (Option Addr)) → Prop) : Prop :=
  onV (getV e 0) fun u1 =>
  asS u1 fun lP_1 lN_1 lC_1 =>
  onV (getV e 3) fun u2 =>
  asP u2 fun sx =>
    K (lP_1, lN_1, lC_1, sx)

def dx_law22_FrameNests_L1_ret (e : Env) (K : ((Option Addr) × Nat × Nat × (Option Addr)) → Bool → Prop) : Prop :=
  onV (getV e 0) fun u1 =>
  asS u1 fun lP_1 lN_1 lC_1 =>
  onV (getV e 3) fun u2 =>
  asP u2 fun sx =>
  onV (getV e 2) fun u3 =>
  asB u3 fun t2 =>
    K (lP_1, lN_1, lC_1, sx) t2

theorem body_law22_FrameNests_L1 (f : (Option Addr) × Nat × Nat × (Option Addr)) (s : S_law22_FrameNests_L1) (w : World) (Kn : ((Option Addr) × Nat × Nat × (Option Addr)) → S_law22_FrameNests_L1 → World → Prop) (Kx0 : ((Option Addr) × Nat × Nat × (Option Addr)) → World → Prop) (Kr : ((Option Addr) × Nat × Nat × (Option Addr)) → Bool → World → Prop) :
    B_law22_FrameNests_L1 f.1 f.2.1 f.2.2.1 f.2.2.2 s w (fun s1 w1 => Kn f s1 w1) (fun w1 => Kx0 f w1) (fun t2 w1 => Kr f t2 w1) =
    den Try.prog Try.f4.ntmps G_law22_FrameNests (sub (codeOf Try.f4) [false, false, true, false, true, true, true]) [false, false, true, false, true, true, true] (roundQ (fun e w => dec_law22_FrameNests_L1 e fun f s => Kn f s w) (fun e w => dx_law22_FrameNests_L1_ret e fun f t2 => Kr f t2 w) (fun id e w => match Nat.beq id 0 with | true => dx_law22_FrameNests_L1_0 e fun f => Kx0 f w | false => False)) (lit_law22_FrameNests_L1 f s) w := by kernel_rfl

def dx_law22_FrameNests_L2_2 (e : Env) (K : ((Option Addr) × Nat × Nat × (Option Addr) × Int × Int) → Prop) : Prop :=
  onV (getV e 0) fun u1 =>
  asS u1 fun lP_2 lN_2 lC_2 =>
  onV (getV e 3) fun u2 =>
  asP u2 fun sx_1 =>
  onV (getV e 5) fun u3 =>
  asI .i64 u3 fun i_1 =>
  onV (getV e 6) fun u4 =>
  asI .i64 u4 fun n =>
    K (lP_2, lN_2, lC_2, sx_1, i_1, n)

theorem body_law22_FrameNests_L2 (f : (Option Addr) × Nat × Nat × (Option Addr) × Int × Int) (s : S_law22_FrameNests_L2) (w : World) (Kn : ((Option Addr) × Nat × Nat × (Option Addr) × Int × Int) → S_law22_FrameNests_L2 → World → Prop) (Kx2 : ((Option Addr) × Nat × Nat × (Option Addr) × Int × Int) → World → Prop) :
    B_law22_FrameNests_L2 f.1 f.2.1 f.2.2.1 f.2.2.2.1 f.2.2.2.2.1 f.2.2.2.2.2 s w (fun s1 w1 => Kn f s1 w1) (fun w1 => Kx2 f w1) =
    den Try.prog Try.f4.ntmps G_law22_FrameNests (sub (codeOf Try.f4) [false, false, true, true, true, false, false, true, false, false, true, false, true, true, true]) [false, false, true, true, true, false, false, true, false, false, true, false, true, true, true] (roundQ (fun e w => dec_law22_FrameNests_L2 e fun f s => Kn f s w) (fun e w => False) (fun id e w => match Nat.beq id 2 with | true => dx_law22_FrameNests_L2_2 e fun f => Kx2 f w | false => False)) (lit_law22_FrameNests_L2 f s) w := by kernel_rfl

def dx_law22_FrameNests_L3_4 (e : Env) (K : ((Option Addr) × Nat × Nat × (Option Addr)) → Prop) : Prop :=
  onV (getV e 0) fun u1 =>
  asS u1 fun lP_3 lN_3 lC_3 =>
  onV (getV e 3) fun u2 =>
  asP u2 fun sx_2 =>
    K (lP_3, lN_3, lC_3, sx_2)

def dx_law22_FrameNests_L3_ret (e : Env) (K : ((Option Addr) × Nat × Nat × (Option Addr)) → Bool → Prop) : Prop :=
  onV (getV e 0) fun u1 =>
  asS u1 fun lP_3 lN_3 lC_3 =>
  onV (getV e 3) fun u2 =>
  asP u2 fun sx_2 =>
  onV (getV e 2) fun u3 =>
  asB u3 fun t2_2 =>
    K (lP_3, lN_3, lC_3, sx_2) t2_2

theorem body_law22_FrameNests_L3 (f : (Option Addr) × Nat × Nat × (Option Addr)) (s : S_law22_FrameNests_L3) (w : World) (Kn : ((Option Addr) × Nat × Nat × (Option Addr)) → S_law22_FrameNests_L3 → World → Prop) (Kx4 : ((Option Addr) × Nat × Nat × (Option Addr)) → World → Prop) (Kr : ((Option Addr) × Nat × Nat × (Option Addr)) → Bool → World → Prop) :
    B_law22_FrameNests_L3 f.1 f.2.1 f.2.2.1 f.2.2.2 s w (fun s1 w1 => Kn f s1 w1) (fun w1 => Kx4 f w1) (fun t2_2 w1 => Kr f t2_2 w1) =
    den Try.prog Try.f4.ntmps G_law22_FrameNests (sub (codeOf Try.f4) [false, false, true, false, true, true, true, true]) [false, false, true, false, true, true, true, true] (roundQ (fun e w => dec_law22_FrameNests_L3 e fun f s => Kn f s w) (fun e w => dx_law22_FrameNests_L3_ret e fun f t2_2 => Kr f t2_2 w) (fun id e w => match Nat.beq id 4 with | true => dx_law22_FrameNests_L3_4 e fun f => Kx4 f w | false => False)) (lit_law22_FrameNests_L3 f s) w := by kernel_rfl

def dx_law22_FrameNests_L4_6 (e : Env) (K : ((Option Addr) × Nat × Nat × (Option Addr) × Int × Int) → Prop) : Prop :=
  onV (getV e 0) fun u1 =>
  asS u1 fun lP_4 lN_4 lC_4 =>
  onV (getV e 3) fun u2 =>
  asP u2 fun sx_3 =>
  onV (getV e 8) fun u3 =>
  asI .i64 u3 fun i_3 =>
  onV (getV e 9) fun u4 =>
  asI .i64 u4 fun n_1 =>
    K (lP_4, lN_4, lC_4, sx_3, i_3, n_1)

def dx_law22_FrameNests_L4_ret (e : Env) (K : ((Option Addr) × Nat × Nat × (Option Addr) × Int × Int) → Bool → Prop) : Prop :=
  onV (getV e 0) fun u1 =>
  asS u1 fun lP_4 lN_4 lC_4 =>
  onV (getV e 3) fun u2 =>
  asP u2 fun sx_3 =>
  onV (getV e 8) fun u3 =>
  asI .i64 u3 fun i_3 =>
  onV (getV e 9) fun u4 =>
  asI .i64 u4 fun n_1 =>
  onV (getV e 2) fun u5 =>
  asB u5 fun t2_3 =>
    K (lP_4, lN_4, lC_4, sx_3, i_3, n_1) t2_3

theorem body_law22_FrameNests_L4 (f : (Option Addr) × Nat × Nat × (Option Addr) × Int × Int) (s : S_law22_FrameNests_L4) (w : World) (Kn : ((Option Addr) × Nat × Nat × (Option Addr) × Int × Int) → S_law22_FrameNests_L4 → World → Prop) (Kx6 : ((Option Addr) × Nat × Nat × (Option Addr) × Int × Int) → World → Prop) (Kr : ((Option Addr) × Nat × Nat × (Option Addr) × Int × Int) → Bool → World → Prop) :
    B_law22_FrameNests_L4 f.1 f.2.1 f.2.2.1 f.2.2.2.1 f.2.2.2.2.1 f.2.2.2.2.2 s w (fun s1 w1 => Kn f s1 w1) (fun w1 => Kx6 f w1) (fun t2_3 w1 => Kr f t2_3 w1) =
    den Try.prog Try.f4.ntmps G_law22_FrameNests (sub (codeOf Try.f4) [false, false, true, false, true, false, false, true, false, false, true, false, true, true, true, true]) [false, false, true, false, true, false, false, true, false, false, true, false, true, true, true, true] (roundQ (fun e w => dec_law22_FrameNests_L4 e fun f s => Kn f s w) (fun e w => dx_law22_FrameNests_L4_ret e fun f t2_3 => Kr f t2_3 w) (fun id e w => match Nat.beq id 6 with | true => dx_law22_FrameNests_L4_6 e fun f => Kx6 f w | false => False)) (lit_law22_FrameNests_L4 f s) w := by kernel_rfl

theorem ok_law22_FrameNests_L1 : OneOk Try.prog Try.f4.ntmps G_law22_FrameNests (codeOf Try.f4) [false, true, false, true, true, true] spec_law22_FrameNests_L1 := by
  intro c hc ih Q e w a hr h
  have hcc : sub (codeOf Try.f4) [false, false, true, false, true, true, true] = c := sub_of_codeAt hc
  obtain ⟨f, s, h, hrep⟩ := dec_law22_FrameNests_L1_ok e a _ hr h
  obtain ⟨J, μ, hj, hround⟩ := h
  refine loop_rule_deep seat_ok seat_mixed ih lit_law22_FrameNests_L1 dec_law22_FrameNests_L1 dec_law22_FrameNests_L1_ok hc f J μ (Kr := fun e w => dx_law22_FrameNests_L1_ret e fun f1 t2 => f1 = f ∧ Q .ret [⟨2, .bool t2, none⟩] w) (Kx := fun id e w => match Nat.beq id 0 with | true => (dx_law22_FrameNests_L1_0 e fun f1 => f1 = f ∧ Q (.exit 0) [⟨0, .slice f.1 f.2.1 f.2.2.1, none⟩, ⟨3, .pointer f.2.2.2, none⟩] w) | false => False) ?_ ?_ ?_ s w a hj hrep
  · intro e a w hr h0
    unfold dx_law22_FrameNests_L1_ret at h0
    obtain ⟨u1, g0, h1⟩ := onV_elim h0
    obtain ⟨lP_1, lN_1, lC_1, rfl, h2⟩ := asS_elim h1
    obtain ⟨u2, g3, h3⟩ := onV_elim h2
    obtain ⟨sx, rfl, h4⟩ := asP_elim h3
    obtain ⟨u3, g2, h5⟩ := onV_elim h4
    obtain ⟨t2, rfl, h6⟩ := asB_elim h5
    obtain ⟨hf, hq⟩ := h6
    subst hf
    exact ⟨_, rep_less hr (by simp [g2]), hq⟩
  · intro id e a w hr h0
    (try dsimp only at h0)
    split at h0
    · rename_i hid
      obtain rfl := Nat.eq_of_beq_eq_true hid
      unfold dx_law22_FrameNests_L1_0 at h0
      obtain ⟨u1, g0, h1⟩ := onV_elim h0
      obtain ⟨lP_1, lN_1, lC_1, rfl, h2⟩ := asS_elim h1
      obtain ⟨u2, g3, h3⟩ := onV_elim h2
      obtain ⟨sx, rfl, h4⟩ := asP_elim h3
      obtain ⟨hf, hq⟩ := h4
      subst hf
      exact ⟨_, rep_less hr (by simp [g0, g3]), hq⟩
    · exact h0.elim
  · intro s w hj
    have hb := hround s w hj
    rw [← hcc]
    have e1 := body_law22_FrameNests_L1 f s w (fun f1 s1 w1 => f1 = f ∧ J s1 w1 ∧ μ s1 w1 < μ s w) (fun f1 w1 => f1 = f ∧ Q (.exit 0) [⟨0, .slice f.1 f.2.1 f.2.2.1, none⟩, ⟨3, .pointer f.2.2.2, none⟩] w1) (fun f1 t2 w1 => f1 = f ∧ Q .ret [⟨2, .bool t2, none⟩] w1)
    simp only [true_and] at e1
    exact cast e1 hb

theorem ok_law22_FrameNests_L2 : OneOk Try.prog Try.f4.ntmps G_law22_FrameNests (codeOf Try.f4) [false, true, true, true, false, false, true, false, false, true, false, true, true, true] spec_law22_FrameNests_L2 := by
  intro c hc ih Q e w a hr h
  have hcc : sub (codeOf Try.f4) [false, false, true, true, true, false, false, true, false, false, true, false, true, true, true] = c := sub_of_codeAt hc
  obtain ⟨f, s, h, hrep⟩ := dec_law22_FrameNests_L2_ok e a _ hr h
  obtain ⟨J, μ, hj, hround⟩ := h
  refine loop_rule_deep seat_ok seat_mixed ih lit_law22_FrameNests_L2 dec_law22_FrameNests_L2 dec_law22_FrameNests_L2_ok hc f J μ (Kr := fun e w => False) (Kx := fun id e w => match Nat.beq id 2 with | true => (dx_law22_FrameNests_L2_2 e fun f1 => f1 = f ∧ Q (.exit 2) [⟨0, .slice f.1 f.2.1 f.2.2.1, none⟩, ⟨3, .pointer f.2.2.2.1, none⟩, ⟨5, .int .i64 f.2.2.2.2.1, none⟩] w) | false => False) ?_ ?_ ?_ s w a hj hrep
  · intro e a w hr h
    exact h.elim
  · intro id e a w hr h0
    (try dsimp only at h0)
    split at h0
    · rename_i hid
      obtain rfl := Nat.eq_of_beq_eq_true hid
      unfold dx_law22_FrameNests_L2_2 at h0
      obtain ⟨u1, g0, h1⟩ := onV_elim h0
      obtain ⟨lP_2, lN_2, lC_2, rfl, h2⟩ := asS_elim h1
      obtain ⟨u2, g3, h3⟩ := onV_elim h2
      obtain ⟨sx_1, rfl, h4⟩ := asP_elim h3
      obtain ⟨u3, g5, h5⟩ := onV_elim h4
      obtain ⟨i_1, rfl, h6⟩ := asI_elim h5
      obtain ⟨u4, g6, h7⟩ := onV_elim h6
      obtain ⟨n, rfl, h8⟩ := asI_elim h7
      obtain ⟨hf, hq⟩ := h8
      subst hf
      exact ⟨_, rep_less hr (by simp [g0, g3, g5]), hq⟩
    · exact h0.elim
  · intro s w hj
    have hb := hround s w hj
    rw [← hcc]
    have e1 := body_law22_FrameNests_L2 f s w (fun f1 s1 w1 => f1 = f ∧ J s1 w1 ∧ μ s1 w1 < μ s w) (fun f1 w1 => f1 = f ∧ Q (.exit 2) [⟨0, .slice f.1 f.2.1 f.2.2.1, none⟩, ⟨3, .pointer f.2.2.2.1, none⟩, ⟨5, .int .i64 f.2.2.2.2.1, none⟩] w1)
    simp only [true_and] at e1
    exact cast e1 hb

theorem ok_law22_FrameNests_L3 : OneOk Try.prog Try.f4.ntmps G_law22_FrameNests (codeOf Try.f4) [false, true, false, true, true, true, true] spec_law22_FrameNests_L3 := by
  intro c hc ih Q e w a hr h
  have hcc : sub (codeOf Try.f4) [false, false, true, false, true, true, true, true] = c := sub_of_codeAt hc
  obtain ⟨f, s, h, hrep⟩ := dec_law22_FrameNests_L3_ok e a _ hr h
  obtain ⟨J, μ, hj, hround⟩ := h
  refine loop_rule_deep seat_ok seat_mixed ih lit_law22_FrameNests_L3 dec_law22_FrameNests_L3 dec_law22_FrameNests_L3_ok hc f J μ (Kr := fun e w => dx_law22_FrameNests_L3_ret e fun f1 t2_2 => f1 = f ∧ Q .ret [⟨2, .bool t2_2, none⟩] w) (Kx := fun id e w => match Nat.beq id 4 with | true => (dx_law22_FrameNests_L3_4 e fun f1 => f1 = f ∧ Q (.exit 4) [⟨3, .pointer f.2.2.2, none⟩] w) | false => False) ?_ ?_ ?_ s w a hj hrep
  · intro e a w hr h0
    unfold dx_law22_FrameNests_L3_ret at h0
    obtain ⟨u1, g0, h1⟩ := onV_elim h0
    obtain ⟨lP_3, lN_3, lC_3, rfl, h2⟩ := asS_elim h1
    obtain ⟨u2, g3, h3⟩ := onV_elim h2
    obtain ⟨sx_2, rfl, h4⟩ := asP_elim h3
    obtain ⟨u3, g2, h5⟩ := onV_elim h4
    obtain ⟨t2_2, rfl, h6⟩ := asB_elim h5
    obtain ⟨hf, hq⟩ := h6
    subst hf
    exact ⟨_, rep_less hr (by simp [g2]), hq⟩
  · intro id e a w hr h0
    (try dsimp only at h0)
    split at h0
    · rename_i hid
      obtain rfl := Nat.eq_of_beq_eq_true hid
      unfold dx_law22_FrameNests_L3_4 at h0
      obtain ⟨u1, g0, h1⟩ := onV_elim h0
      obtain ⟨lP_3, lN_3, lC_3, rfl, h2⟩ := asS_elim h1
      obtain ⟨u2, g3, h3⟩ := onV_elim h2
      obtain ⟨sx_2, rfl, h4⟩ := asP_elim h3
      obtain ⟨hf, hq⟩ := h4
      subst hf
      exact ⟨_, rep_less hr (by simp [g3]), hq⟩
    · exact h0.elim
  · intro s w hj
    have hb := hround s w hj
    rw [← hcc]
    have e1 := body_law22_FrameNests_L3 f s w (fun f1 s1 w1 => f1 = f ∧ J s1 w1 ∧ μ s1 w1 < μ s w) (fun f1 w1 => f1 = f ∧ Q (.exit 4) [⟨3, .pointer f.2.2.2, none⟩] w1) (fun f1 t2_2 w1 => f1 = f ∧ Q .ret [⟨2, .bool t2_2, none⟩] w1)
    simp only [true_and] at e1
    exact cast e1 hb

theorem ok_law22_FrameNests_L4 : OneOk Try.prog Try.f4.ntmps G_law22_FrameNests (codeOf Try.f4) [false, true, false, true, false, false, true, false, false, true, false, true, true, true, true] spec_law22_FrameNests_L4 := by
  intro c hc ih Q e w a hr h
  have hcc : sub (codeOf Try.f4) [false, false, true, false, true, false, false, true, false, false, true, false, true, true, true, true] = c := sub_of_codeAt hc
  obtain ⟨f, s, h, hrep⟩ := dec_law22_FrameNests_L4_ok e a _ hr h
  obtain ⟨J, μ, hj, hround⟩ := h
  refine loop_rule_deep seat_ok seat_mixed ih lit_law22_FrameNests_L4 dec_law22_FrameNests_L4 dec_law22_FrameNests_L4_ok hc f J μ (Kr := fun e w => dx_law22_FrameNests_L4_ret e fun f1 t2_3 => f1 = f ∧ Q .ret [⟨0, .slice f.1 f.2.1 f.2.2.1, none⟩, ⟨3, .pointer f.2.2.2.1, none⟩, ⟨2, .bool t2_3, none⟩] w) (Kx := fun id e w => match Nat.beq id 6 with | true => (dx_law22_FrameNests_L4_6 e fun f1 => f1 = f ∧ Q (.exit 6) [⟨0, .slice f.1 f.2.1 f.2.2.1, none⟩, ⟨3, .pointer f.2.2.2.1, none⟩, ⟨8, .int .i64 f.2.2.2.2.1, none⟩] w) | false => False) ?_ ?_ ?_ s w a hj hrep
  · intro e a w hr h0
    unfold dx_law22_FrameNests_L4_ret at h0
    obtain ⟨u1, g0, h1⟩ := onV_elim h0
    obtain ⟨lP_4, lN_4, lC_4, rfl, h2⟩ := asS_elim h1
    obtain ⟨u2, g3, h3⟩ := onV_elim h2
    obtain ⟨sx_3, rfl, h4⟩ := asP_elim h3
    obtain ⟨u3, g8, h5⟩ := onV_elim h4
    obtain ⟨i_3, rfl, h6⟩ := asI_elim h5
    obtain ⟨u4, g9, h7⟩ := onV_elim h6
    obtain ⟨n_1, rfl, h8⟩ := asI_elim h7
    obtain ⟨u5, g2, h9⟩ := onV_elim h8
    obtain ⟨t2_3, rfl, h10⟩ := asB_elim h9
    obtain ⟨hf, hq⟩ := h10
    subst hf
    exact ⟨_, rep_less hr (by simp [g0, g3, g2]), hq⟩
  · intro id e a w hr h0
    (try dsimp only at h0)
    split at h0
    · rename_i hid
      obtain rfl := Nat.eq_of_beq_eq_true hid
      unfold dx_law22_FrameNests_L4_6 at h0
      obtain ⟨u1, g0, h1⟩ := onV_elim h0
      obtain ⟨lP_4, lN_4, lC_4, rfl, h2⟩ := asS_elim h1
      obtain ⟨u2, g3, h3⟩ := onV_elim h2
      obtain ⟨sx_3, rfl, h4⟩ := asP_elim h3
      obtain ⟨u3, g8, h5⟩ := onV_elim h4
      obtain ⟨i_3, rfl, h6⟩ := asI_elim h5
      obtain ⟨u4, g9, h7⟩ := onV_elim h6
      obtain ⟨n_1, rfl, h8⟩ := asI_elim h7
      obtain ⟨hf, hq⟩ := h8
      subst hf
      exact ⟨_, rep_less hr (by simp [g0, g3, g8]), hq⟩
    · exact h0.elim
  · intro s w hj
    have hb := hround s w hj
    rw [← hcc]
    have e1 := body_law22_FrameNests_L4 f s w (fun f1 s1 w1 => f1 = f ∧ J s1 w1 ∧ μ s1 w1 < μ s w) (fun f1 w1 => f1 = f ∧ Q (.exit 6) [⟨0, .slice f.1 f.2.1 f.2.2.1, none⟩, ⟨3, .pointer f.2.2.2.1, none⟩, ⟨8, .int .i64 f.2.2.2.2.1, none⟩] w1) (fun f1 t2_3 w1 => f1 = f ∧ Q .ret [⟨0, .slice f.1 f.2.1 f.2.2.1, none⟩, ⟨3, .pointer f.2.2.2.1, none⟩, ⟨2, .bool t2_3, none⟩] w1)
    simp only [true_and] at e1
    exact cast e1 hb

theorem loops_law22_FrameNests : LoopOk Try.prog Try.f4.ntmps G_law22_FrameNests (codeOf Try.f4) := loopOk_list rfl ⟨ok_law22_FrameNests_L1, ⟨ok_law22_FrameNests_L2, ⟨ok_law22_FrameNests_L3, ⟨ok_law22_FrameNests_L4, trivial⟩⟩⟩⟩

theorem den_law22_FrameNests (lP : Option Addr) (lN : Nat) (lC : Nat) (w : World) (R : Value → World → Prop) :
    F_law22_FrameNests lP lN lC w (fun r w1 => R (.bool r) w1) = den Try.prog Try.f4.ntmps G_law22_FrameNests (codeOf Try.f4) [] (postD Try.prog Try.f4.results.toList R) (entry [.slice lP lN lC] 0) w := by kernel_rfl

theorem C_law22_FrameNests.of {lP : Option Addr} {lN : Nat} {lC : Nat} {w : World} {R : Bool → World → Prop} (h : F_law22_FrameNests lP lN lC w R) : C_law22_FrameNests lP lN lC w R := by
  refine (calls_of_den (c := codeOf Try.f4) seat_ok seat_mixed Try.func4 (by kernel_rfl) loops_law22_FrameNests (args := [.slice lP lN lC]) rfl (R := fun v w1 => ∃ (r : Bool), v = (.bool r : Value) ∧ R r w1) ?_).mono ?_
  · rw [← den_law22_FrameNests]
    have e : (fun r w1 => ∃ (r' : Bool), (.bool r : Value) = (.bool r' : Value) ∧ R r' w1) = R := by
      funext r w1
      exact propext ⟨fun ⟨r', he, h⟩ => by first | (simp at he; simp_all) | (cases he; exact h), fun h => ⟨_, rfl, h⟩⟩
    simpa only [e] using h
  · rintro en w1 ⟨v, he, r, rfl, h⟩
    exact ⟨_, he, h⟩

structure S_law22_FrameDoes_L1 where
  i : Int

def F_law22_FrameDoes_k1 (R : Bool → World → Prop) (w1_3 : World) : Prop :=
  R false w1_3

def F_law22_FrameDoes_k2 (Kx0 : World → Prop) (w1_5 : World) : Prop :=
  Kx0 w1_5

def F_law22_FrameDoes_k3 (s : S_law22_FrameDoes_L1) (Kn : S_law22_FrameDoes_L1 → World → Prop) (w1_8 : World) : Prop :=
  Kn ⟨(IntKind.i64.wrap ((s.i : Int) + (1 : Int)))⟩ w1_8

/-- One round. -/
def B_law22_FrameDoes_L1 (lP_1 : Option Addr) (lN_1 : Nat) (lC_1 : Nat) (sx : Option Addr) (x : Option Addr) (s : S_law22_FrameDoes_L1) (w : World) (Kn : S_law22_FrameDoes_L1 → World → Prop) (Kx0 : World → Prop) (Kr : Bool → World → Prop) : Prop :=
  If (decide ((s.i : Int) < (lN_1 : Int)))
  (If (decide ((s.i : Int) < (50 : Int)))
  (If (!x.isNone)
  (0 ≤ (s.i : Int) ∧ (s.i : Int) < (lN_1 : Int) ∧ NN lP_1 fun a =>
  ∃ ArgsP : Option Addr, ∃ ArgsN : Nat, ∃ ArgsC : Nat, w.cell? (((a.add ((s.i : Int).toNat * 14)).add 5).add 1) = some (.slice ArgsP ArgsN ArgsC) ∧
  If (decide ((ArgsN : Int) > (100 : Int)))
  (F_law22_FrameDoes_k3 s Kn w)
  (0 ≤ (s.i : Int) ∧ (s.i : Int) < (lN_1 : Int) ∧ NN lP_1 fun a_1 =>
  ∃ t710 : Int, w.cell? ((a_1.add ((s.i : Int).toNat * 14)).add 0) = some (.int .i64 t710) ∧
  ∃ t711 : Int, w.cell? ((a_1.add ((s.i : Int).toNat * 14)).add 1) = some (.int .i64 t711) ∧
  ∃ t712 : Int, w.cell? ((a_1.add ((s.i : Int).toNat * 14)).add 2) = some (.int .u64 t712) ∧
  ∃ t713 : Int, w.cell? ((a_1.add ((s.i : Int).toNat * 14)).add 3) = some (.int .i64 t713) ∧
  ∃ t714 : Int, w.cell? ((a_1.add ((s.i : Int).toNat * 14)).add 4) = some (.int .i64 t714) ∧
  ∃ t715 : Int, w.cell? ((a_1.add ((s.i : Int).toNat * 14)).add 5) = some (.int .i64 t715) ∧
  ∃ t716P : Option Addr, ∃ t716N : Nat, ∃ t716C : Nat, w.cell? ((a_1.add ((s.i : Int).toNat * 14)).add 6) = some (.slice t716P t716N t716C) ∧
  ∃ t717 : Int, w.cell? ((a_1.add ((s.i : Int).toNat * 14)).add 7) = some (.int .i64 t717) ∧
  ∃ t718 : Int, w.cell? ((a_1.add ((s.i : Int).toNat * 14)).add 8) = some (.int .i64 t718) ∧
  ∃ t719 : Int, w.cell? ((a_1.add ((s.i : Int).toNat * 14)).add 9) = some (.int .i64 t719) ∧
  ∃ t7110 : Int, w.cell? ((a_1.add ((s.i : Int).toNat * 14)).add 10) = some (.int .i64 t7110) ∧
  ∃ t7111 : Int, w.cell? ((a_1.add ((s.i : Int).toNat * 14)).add 11) = some (.int .i64 t7111) ∧
  ∃ t7112 : Int, w.cell? ((a_1.add ((s.i : Int).toNat * 14)).add 12) = some (.int .i64 t7112) ∧
  ∃ t7113 : Int, w.cell? ((a_1.add ((s.i : Int).toNat * 14)).add 13) = some (.int .i64 t7113) ∧
  C_law22_do sx x t710 t711 t712 t713 t714 t715 t716P t716N t716C t717 t718 t719 t7110 t7111 t7112 t7113 w fun t72 w1_6 =>
  If (!t72)
  (Kr false w1_6)
  (0 ≤ (s.i : Int) ∧ (s.i : Int) < (lN_1 : Int) ∧ NN lP_1 fun a_2 =>
  ∃ N : Int, w1_6.cell? ((a_2.add ((s.i : Int).toNat * 14)).add 1) = some (.int .i64 N) ∧
  C_law22_alike sx x N w1_6 fun t82 w1_7 =>
  If (!t82)
  (Kr false w1_7)
  (F_law22_FrameDoes_k3 s Kn w1_7))))
  (Kx0 w))
  (F_law22_FrameDoes_k2 Kx0 w))
  (F_law22_FrameDoes_k2 Kx0 w)

def F_law22_FrameDoes_L1 (lP_1 : Option Addr) (lN_1 : Nat) (lC_1 : Nat) (sx : Option Addr) (x : Option Addr) (s : S_law22_FrameDoes_L1) (w : World) (Kx0 : World → Prop) (Kr : Bool → World → Prop) : Prop :=
  LoopS (fun s w Kn => B_law22_FrameDoes_L1 lP_1 lN_1 lC_1 sx x s w Kn Kx0 Kr) s w

def F_law22_FrameDoes_k4 (lP : Option Addr) (lN : Nat) (lC : Nat) (R : Bool → World → Prop) (t140 : Option Addr) (t19 : Option Addr) (w1_4 : World) : Prop :=
  F_law22_FrameDoes_L1 lP lN lC t140 t19 ⟨(0 : Int)⟩ w1_4
  (fun w1_9 =>
  R true w1_9)
  (fun t6_1 w1_10 =>
  R t6_1 w1_10)

def F_law22_FrameDoes (words : Int) (limitx : Int) (lP : Option Addr) (lN : Nat) (lC : Nat) (w : World) (R : Bool → World → Prop) : Prop :=
  C_frame_New words limitx w fun t140 t141 w1 =>
  C_ref22_New words limitx w1 fun t19 w1_1 =>
  C_law22_lives  w1_1 fun t20 w1_2 =>
  If (!t20)
  (F_law22_FrameDoes_k1 R w1_2)
  (If (!((!t140.isNone) == (!t19.isNone)))
  (F_law22_FrameDoes_k1 R w1_2)
  (If (!((t141 == (0 : Int)) == (!t19.isNone)))
  (F_law22_FrameDoes_k1 R w1_2)
  (If t19.isNone
  (If (t141 != (1 : Int))
  (R false w1_2)
  (F_law22_FrameDoes_k4 lP lN lC R t140 t19 w1_2))
  (F_law22_FrameDoes_k4 lP lN lC R t140 t19 w1_2))))

def lit_law22_FrameDoes_L1 (f : (Option Addr) × Nat × Nat × (Option Addr) × (Option Addr)) (s : S_law22_FrameDoes_L1) : Env := [⟨2, .slice f.1 f.2.1 f.2.2.1, none⟩, ⟨7, .pointer f.2.2.2.1, none⟩, ⟨9, .pointer f.2.2.2.2, none⟩, ⟨10, .int .i64 s.i, none⟩]

def dec_law22_FrameDoes_L1 (e : Env) (K : ((Option Addr) × Nat × Nat × (Option Addr) × (Option Addr)) → S_law22_FrameDoes_L1 → Prop) : Prop :=
  onV (getV e 2) fun u1 =>
  asS u1 fun lP_1 lN_1 lC_1 =>
  onV (getV e 7) fun u2 =>
  asP u2 fun sx =>
  onV (getV e 9) fun u3 =>
  asP u3 fun x =>
  onV (getV e 10) fun u4 =>
  asI .i64 u4 fun i =>
    K (lP_1, lN_1, lC_1, sx, x) ⟨i⟩

theorem dec_law22_FrameDoes_L1_ok {N : Nat} (e : Env) (a : Act) (K : ((Option Addr) × Nat × Nat × (Option Addr) × (Option Addr)) → S_law22_FrameDoes_L1 → Prop) (hr : Rep N a e) (h0 : dec_law22_FrameDoes_L1 e K) : ∃ f s, K f s ∧ Rep N a (lit_law22_FrameDoes_L1 f s) := by
  unfold dec_law22_FrameDoes_L1 at h0
  obtain ⟨u1, g2, h1⟩ := onV_elim h0
  obtain ⟨lP_1, lN_1, lC_1, rfl, h2⟩ := asS_elim h1
  obtain ⟨u2, g7, h3⟩ := onV_elim h2
  obtain ⟨sx, rfl, h4⟩ := asP_elim h3
  obtain ⟨u3, g9, h5⟩ := onV_elim h4
  obtain ⟨x, rfl, h6⟩ := asP_elim h5
  obtain ⟨u4, g10, h7⟩ := onV_elim h6
  obtain ⟨i, rfl, h8⟩ := asI_elim h7
  exact ⟨_, _, h8, rep_less hr (by simp [lit_law22_FrameDoes_L1, g2, g7, g9, g10])⟩

def spec_law22_FrameDoes_L1 (Q : Post) (e : Env) (w : World) : Prop :=
  dec_law22_FrameDoes_L1 e fun f s => F_law22_FrameDoes_L1 f.1 f.2.1 f.2.2.1 f.2.2.2.1 f.2.2.2.2 s w (fun w1 => Q (.exit 0) [] w1) (fun t6 w1 => Q .ret [⟨6, .bool t6, none⟩] w1)

def G_law22_FrameDoes : Gen where
  loop := lookL [([false, true, false, true, true, true, true], spec_law22_FrameDoes_L1)]
  plan := fun _ => none

def dx_law22_FrameDoes_L1_0 (e : Env) (K : ((Option Addr) × Nat × Nat × (Option Addr) × (Option Addr)) → Prop) : Prop :=
  onV (getV e 2) fun u1 =>
  asS u1 fun lP_1 lN_1 lC_1 =>
  onV (getV e 7) fun u2 =>
  asP u2 fun sx =>
  onV (getV e 9) fun u3 =>
  asP u3 fun x =>
    K (lP_1, lN_1, lC_1, sx, x)

def dx_law22_FrameDoes_L1_ret (e : Env) (K : ((Option Addr) × Nat × Nat × (Option Addr) × (Option Addr)) → Bool → Prop) : Prop :=
  onV (getV e 2) fun u1 =>
  asS u1 fun lP_1 lN_1 lC_1 =>
  onV (getV e 7) fun u2 =>
  asP u2 fun sx =>
  onV (getV e 9) fun u3 =>
  asP u3 fun x =>
  onV (getV e 6) fun u4 =>
  asB u4 fun t6 =>
    K (lP_1, lN_1, lC_1, sx, x) t6

theorem body_law22_FrameDoes_L1 (f : (Option Addr) × Nat × Nat × (Option Addr) × (Option Addr)) (s : S_law22_FrameDoes_L1) (w : World) (Kn : ((Option Addr) × Nat × Nat × (Option Addr) × (Option Addr)) → S_law22_FrameDoes_L1 → World → Prop) (Kx0 : ((Option Addr) × Nat × Nat × (Option Addr) × (Option Addr)) → World → Prop) (Kr : ((Option Addr) × Nat × Nat × (Option Addr) × (Option Addr)) → Bool → World → Prop) :
    B_law22_FrameDoes_L1 f.1 f.2.1 f.2.2.1 f.2.2.2.1 f.2.2.2.2 s w (fun s1 w1 => Kn f s1 w1) (fun w1 => Kx0 f w1) (fun t6 w1 => Kr f t6 w1) =
    den Try.prog Try.f5.ntmps G_law22_FrameDoes (sub (codeOf Try.f5) [false, false, true, false, true, true, true, true]) [false, false, true, false, true, true, true, true] (roundQ (fun e w => dec_law22_FrameDoes_L1 e fun f s => Kn f s w) (fun e w => dx_law22_FrameDoes_L1_ret e fun f t6 => Kr f t6 w) (fun id e w => match Nat.beq id 0 with | true => dx_law22_FrameDoes_L1_0 e fun f => Kx0 f w | false => False)) (lit_law22_FrameDoes_L1 f s) w := by kernel_rfl

theorem ok_law22_FrameDoes_L1 : OneOk Try.prog Try.f5.ntmps G_law22_FrameDoes (codeOf Try.f5) [false, true, false, true, true, true, true] spec_law22_FrameDoes_L1 := by
  intro c hc ih Q e w a hr h
  have hcc : sub (codeOf Try.f5) [false, false, true, false, true, true, true, true] = c := sub_of_codeAt hc
  obtain ⟨f, s, h, hrep⟩ := dec_law22_FrameDoes_L1_ok e a _ hr h
  obtain ⟨J, μ, hj, hround⟩ := h
  refine loop_rule_deep seat_ok seat_mixed ih lit_law22_FrameDoes_L1 dec_law22_FrameDoes_L1 dec_law22_FrameDoes_L1_ok hc f J μ (Kr := fun e w => dx_law22_FrameDoes_L1_ret e fun f1 t6 => f1 = f ∧ Q .ret [⟨6, .bool t6, none⟩] w) (Kx := fun id e w => match Nat.beq id 0 with | true => (dx_law22_FrameDoes_L1_0 e fun f1 => f1 = f ∧ Q (.exit 0) [] w) | false => False) ?_ ?_ ?_ s w a hj hrep
  · intro e a w hr h0
    unfold dx_law22_FrameDoes_L1_ret at h0
    obtain ⟨u1, g2, h1⟩ := onV_elim h0
    obtain ⟨lP_1, lN_1, lC_1, rfl, h2⟩ := asS_elim h1
    obtain ⟨u2, g7, h3⟩ := onV_elim h2
    obtain ⟨sx, rfl, h4⟩ := asP_elim h3
    obtain ⟨u3, g9, h5⟩ := onV_elim h4
    obtain ⟨x, rfl, h6⟩ := asP_elim h5
    obtain ⟨u4, g6, h7⟩ := onV_elim h6
    obtain ⟨t6, rfl, h8⟩ := asB_elim h7
    obtain ⟨hf, hq⟩ := h8
    subst hf
    exact ⟨_, rep_less hr (by simp [g6]), hq⟩
  · intro id e a w hr h0
    (try dsimp only at h0)
    split at h0
    · rename_i hid
      obtain rfl := Nat.eq_of_beq_eq_true hid
      unfold dx_law22_FrameDoes_L1_0 at h0
      obtain ⟨u1, g2, h1⟩ := onV_elim h0
      obtain ⟨lP_1, lN_1, lC_1, rfl, h2⟩ := asS_elim h1
      obtain ⟨u2, g7, h3⟩ := onV_elim h2
      obtain ⟨sx, rfl, h4⟩ := asP_elim h3
      obtain ⟨u3, g9, h5⟩ := onV_elim h4
      obtain ⟨x, rfl, h6⟩ := asP_elim h5
      obtain ⟨hf, hq⟩ := h6
      subst hf
      exact ⟨_, rep_less hr (by simp), hq⟩
    · exact h0.elim
  · intro s w hj
    have hb := hround s w hj
    rw [← hcc]
    have e1 := body_law22_FrameDoes_L1 f s w (fun f1 s1 w1 => f1 = f ∧ J s1 w1 ∧ μ s1 w1 < μ s w) (fun f1 w1 => f1 = f ∧ Q (.exit 0) [] w1) (fun f1 t6 w1 => f1 = f ∧ Q .ret [⟨6, .bool t6, none⟩] w1)
    simp only [true_and] at e1
    exact cast e1 hb

theorem loops_law22_FrameDoes : LoopOk Try.prog Try.f5.ntmps G_law22_FrameDoes (codeOf Try.f5) := loopOk_list rfl ⟨ok_law22_FrameDoes_L1, trivial⟩

theorem den_law22_FrameDoes (words : Int) (limitx : Int) (lP : Option Addr) (lN : Nat) (lC : Nat) (w : World) (R : Value → World → Prop) :
    F_law22_FrameDoes words limitx lP lN lC w (fun r w1 => R (.bool r) w1) = den Try.prog Try.f5.ntmps G_law22_FrameDoes (codeOf Try.f5) [] (postD Try.prog Try.f5.results.toList R) (entry [.int .i64 words, .int .i64 limitx, .slice lP lN lC] 0) w := by kernel_rfl

theorem C_law22_FrameDoes.of {words : Int} {limitx : Int} {lP : Option Addr} {lN : Nat} {lC : Nat} {w : World} {R : Bool → World → Prop} (h : F_law22_FrameDoes words limitx lP lN lC w R) : C_law22_FrameDoes words limitx lP lN lC w R := by
  refine (calls_of_den (c := codeOf Try.f5) seat_ok seat_mixed Try.func5 (by kernel_rfl) loops_law22_FrameDoes (args := [.int .i64 words, .int .i64 limitx, .slice lP lN lC]) rfl (R := fun v w1 => ∃ (r : Bool), v = (.bool r : Value) ∧ R r w1) ?_).mono ?_
  · rw [← den_law22_FrameDoes]
    have e : (fun r w1 => ∃ (r' : Bool), (.bool r : Value) = (.bool r' : Value) ∧ R r' w1) = R := by
      funext r w1
      exact propext ⟨fun ⟨r', he, h⟩ => by first | (simp at he; simp_all) | (cases he; exact h), fun h => ⟨_, rfl, h⟩⟩
    simpa only [e] using h
  · rintro en w1 ⟨v, he, r, rfl, h⟩
    exact ⟨_, he, h⟩

end Go.Proofs.Ytdmjbkpibgfeiaa
