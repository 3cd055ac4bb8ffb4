import Derived.Test.YtlndgaijekihiaaGenC
set_option maxRecDepth 100000
set_option linter.unusedVariables false
namespace Go.Proofs.Ytlndgaijekihiaa
open Go Go.D Go.Proofs
structure S_law19_BaseStays_L1 where
 i : Int
structure S_law19_BaseStays_L2 where
 wasP : Option Addr
 wasN : Nat
 wasC : Nat
 i_1 : Int
structure S_law19_BaseStays_L3 where
 i_2 : Int
structure S_law19_BaseStays_L4 where
 i_3 : Int
def F_law19_BaseStays_k1 (R : Bool → World → Prop) (w1_6 : World) : Prop :=
 R false w1_6
def F_law19_BaseStays_k2 (s : S_law19_BaseStays_L1) (Kn : S_law19_BaseStays_L1 → World → Prop) (w1_9 : World) : Prop :=
 Kn ⟨(IntKind.i64.wrap (s.i + (1 : Int)))⟩ w1_9
def F_law19_BaseStays_k3 (s : S_law19_BaseStays_L3) (Kn : S_law19_BaseStays_L3 → World → Prop) (w1_20 : World) : Prop :=
 Kn ⟨(IntKind.i64.wrap (s.i_2 + (1 : Int)))⟩ w1_20
def B_law19_BaseStays_L1 (lP_1 : Option Addr) (lN_1 : Nat) (lC_1 : Nat) (moreP_1 : Option Addr) (moreN_1 : Nat) (moreC_1 : Nat) (b : Option Addr) (s : S_law19_BaseStays_L1) (w : World) (Kn : S_law19_BaseStays_L1 → World → Prop) (Kx0 : World → Prop) : Prop :=
 If (decide (s.i < (lN_1 : Int)))
 (If (decide (s.i < (40 : Int)))
 (0 ≤ s.i ∧ s.i < (lN_1 : Int) ∧ NN lP_1 fun a =>
 ∃ Kind, w.cell? ((a.add (s.i.toNat * 14)).add 0) = some (.int .i64 Kind) ∧
 If (Kind == (1 : Int))
 (0 ≤ s.i ∧ s.i < (lN_1 : Int) ∧ NN lP_1 fun a_1 =>
 ∃ C0, (drw w).cell? (((a_1.add (s.i.toNat * 14)).add 1).add 0) = some (.int .i64 C0) ∧
 ∃ C1, (drw w).cell? (((a_1.add (s.i.toNat * 14)).add 1).add 1) = some (.int .i64 C1) ∧
 ∃ C2, (drw w).cell? (((a_1.add (s.i.toNat * 14)).add 1).add 2) = some (.string C2) ∧
 ∃ C3P C3N C3C, (drw w).cell? (((a_1.add (s.i.toNat * 14)).add 1).add 3) = some (.slice C3P C3N C3C) ∧
 ∃ C4P C4N C4C, (drw w).cell? (((a_1.add (s.i.toNat * 14)).add 1).add 4) = some (.slice C4P C4N C4C) ∧
 ∃ C5, (drw w).cell? (((a_1.add (s.i.toNat * 14)).add 1).add 5) = some (.int .i64 C5) ∧
 0 ≤ s.i ∧ s.i < (lN_1 : Int) ∧ NN lP_1 fun a_2 =>
 ∃ CodeP CodeN CodeC, (drw w).cell? ((a_2.add (s.i.toNat * 14)).add 7) = some (.slice CodeP CodeN CodeC) ∧
 0 ≤ s.i ∧ s.i < (lN_1 : Int) ∧ NN lP_1 fun a_3 =>
 ∃ Flag, (drw w).cell? ((a_3.add (s.i.toNat * 14)).add 8) = some (.bool Flag) ∧
 C_base_Base_Add b C0 C1 C2 C3P C3N C3C C4P C4N C4C C5 CodeP CodeN CodeC Flag (drw w) fun t670 t671 w1_7 =>
 F_law19_BaseStays_k2 s Kn w1_7)
 (0 ≤ s.i ∧ s.i < (lN_1 : Int) ∧ NN lP_1 fun a_4 =>
 ∃ N, w.cell? ((a_4.add (s.i.toNat * 14)).add 9) = some (.int .i64 N) ∧
 C_base_Base_Kill b N w fun t74 w1_8 =>
 F_law19_BaseStays_k2 s Kn w1_8))
 (Kx0 w))
 (Kx0 w)
def F_law19_BaseStays_L1 (lP_1 : Option Addr) (lN_1 : Nat) (lC_1 : Nat) (moreP_1 : Option Addr) (moreN_1 : Nat) (moreC_1 : Nat) (b : Option Addr) (s : S_law19_BaseStays_L1) (w : World) (Kx0 : World → Prop) : Prop :=
 LoopS (fun s w Kn => B_law19_BaseStays_L1 lP_1 lN_1 lC_1 moreP_1 moreN_1 moreC_1 b s w Kn Kx0) s w
def B_law19_BaseStays_L2 (moreP_2 : Option Addr) (moreN_2 : Nat) (moreC_2 : Nat) (b_1 : Option Addr) (gen : Int) (pP : Option Addr) (pN : Nat) (pC : Nat) (s : S_law19_BaseStays_L2) (w : World) (Kn : S_law19_BaseStays_L2 → World → Prop) (Kx2 : Option Addr → Nat → Nat → World → Prop) (Kr : Bool → World → Prop) : Prop :=
 If (decide (s.i_1 < (pN : Int)))
 (0 ≤ s.i_1 ∧ s.i_1 < (pN : Int) ∧ NN pP fun a_5 =>
 ∃ Name, (drw w).cell? ((a_5.add (s.i_1.toNat * 3)).add 0) = some (.string Name) ∧
 0 ≤ s.i_1 ∧ s.i_1 < (pN : Int) ∧ NN pP fun a_6 =>
 ∃ Arity, (drw w).cell? ((a_6.add (s.i_1.toNat * 3)).add 1) = some (.int .i64 Arity) ∧
 C_law19_all b_1 Name Arity gen (drw w) fun t98P t98N t98C w1_13 =>
 BSl Try.prog 46 1 [(0, .slice t98P t98N t98C)] w1_13 fun t99P t99N t99C w1_14 =>
 App Try.prog #[46, 46] 46 #[.slice s.wasP s.wasN s.wasC, .slice t99P t99N t99C] w1_14 fun t100P t100N t100C w1_15 =>
 0 ≤ s.i_1 ∧ s.i_1 < (t100N : Int) ∧ NN t100P fun a_7 =>
 ∃ t104P t104N t104C, (drw w1_15).cell? (a_7.add (s.i_1.toNat * 1)) = some (.slice t104P t104N t104C) ∧
 0 ≤ s.i_1 ∧ s.i_1 < (pN : Int) ∧ NN pP fun a_8 =>
 ∃ Clauses, (drw w1_15).cell? ((a_8.add (s.i_1.toNat * 3)).add 2) = some (.int .i64 Clauses) ∧
 If ((t104N : Int) != Clauses)
 (Kr false (drw w1_15))
 (Kn ⟨t100P, t100N, t100C, (IntKind.i64.wrap (s.i_1 + (1 : Int)))⟩ (drw w1_15)))
 (Kx2 s.wasP s.wasN s.wasC w)
def F_law19_BaseStays_L2 (moreP_2 : Option Addr) (moreN_2 : Nat) (moreC_2 : Nat) (b_1 : Option Addr) (gen : Int) (pP : Option Addr) (pN : Nat) (pC : Nat) (s : S_law19_BaseStays_L2) (w : World) (Kx2 : Option Addr → Nat → Nat → World → Prop) (Kr : Bool → World → Prop) : Prop :=
 LoopS (fun s w Kn => B_law19_BaseStays_L2 moreP_2 moreN_2 moreC_2 b_1 gen pP pN pC s w Kn Kx2 Kr) s w
def B_law19_BaseStays_L3 (moreP_3 : Option Addr) (moreN_3 : Nat) (moreC_3 : Nat) (b_2 : Option Addr) (gen_1 : Int) (pP_1 : Option Addr) (pN_1 : Nat) (pC_1 : Nat) (wasP_3 : Option Addr) (wasN_3 : Nat) (wasC_3 : Nat) (s : S_law19_BaseStays_L3) (w : World) (Kn : S_law19_BaseStays_L3 → World → Prop) (Kx4 : World → Prop) : Prop :=
 If (decide (s.i_2 < (moreN_3 : Int)))
 (If (decide (s.i_2 < (40 : Int)))
 (0 ≤ s.i_2 ∧ s.i_2 < (moreN_3 : Int) ∧ NN moreP_3 fun a_9 =>
 ∃ Kind_1, w.cell? ((a_9.add (s.i_2.toNat * 14)).add 0) = some (.int .i64 Kind_1) ∧
 If (Kind_1 == (1 : Int))
 (0 ≤ s.i_2 ∧ s.i_2 < (moreN_3 : Int) ∧ NN moreP_3 fun a_10 =>
 ∃ C0_1, (drw w).cell? (((a_10.add (s.i_2.toNat * 14)).add 1).add 0) = some (.int .i64 C0_1) ∧
 ∃ C1_1, (drw w).cell? (((a_10.add (s.i_2.toNat * 14)).add 1).add 1) = some (.int .i64 C1_1) ∧
 ∃ C2_1, (drw w).cell? (((a_10.add (s.i_2.toNat * 14)).add 1).add 2) = some (.string C2_1) ∧
 ∃ C3P_1 C3N_1 C3C_1, (drw w).cell? (((a_10.add (s.i_2.toNat * 14)).add 1).add 3) = some (.slice C3P_1 C3N_1 C3C_1) ∧
 ∃ C4P_1 C4N_1 C4C_1, (drw w).cell? (((a_10.add (s.i_2.toNat * 14)).add 1).add 4) = some (.slice C4P_1 C4N_1 C4C_1) ∧
 ∃ C5_1, (drw w).cell? (((a_10.add (s.i_2.toNat * 14)).add 1).add 5) = some (.int .i64 C5_1) ∧
 0 ≤ s.i_2 ∧ s.i_2 < (moreN_3 : Int) ∧ NN moreP_3 fun a_11 =>
 ∃ CodeP_1 CodeN_1 CodeC_1, (drw w).cell? ((a_11.add (s.i_2.toNat * 14)).add 7) = some (.slice CodeP_1 CodeN_1 CodeC_1) ∧
 0 ≤ s.i_2 ∧ s.i_2 < (moreN_3 : Int) ∧ NN moreP_3 fun a_12 =>
 ∃ Flag_1, (drw w).cell? ((a_12.add (s.i_2.toNat * 14)).add 8) = some (.bool Flag_1) ∧
 C_base_Base_Add b_2 C0_1 C1_1 C2_1 C3P_1 C3N_1 C3C_1 C4P_1 C4N_1 C4C_1 C5_1 CodeP_1 CodeN_1 CodeC_1 Flag_1 (drw w) fun t1440 t1441 w1_18 =>
 F_law19_BaseStays_k3 s Kn w1_18)
 (0 ≤ s.i_2 ∧ s.i_2 < (moreN_3 : Int) ∧ NN moreP_3 fun a_13 =>
 ∃ N_1, w.cell? ((a_13.add (s.i_2.toNat * 14)).add 9) = some (.int .i64 N_1) ∧
 C_base_Base_Kill b_2 N_1 w fun t151 w1_19 =>
 F_law19_BaseStays_k3 s Kn w1_19))
 (Kx4 w))
 (Kx4 w)
def F_law19_BaseStays_L3 (moreP_3 : Option Addr) (moreN_3 : Nat) (moreC_3 : Nat) (b_2 : Option Addr) (gen_1 : Int) (pP_1 : Option Addr) (pN_1 : Nat) (pC_1 : Nat) (wasP_3 : Option Addr) (wasN_3 : Nat) (wasC_3 : Nat) (s : S_law19_BaseStays_L3) (w : World) (Kx4 : World → Prop) : Prop :=
 LoopS (fun s w Kn => B_law19_BaseStays_L3 moreP_3 moreN_3 moreC_3 b_2 gen_1 pP_1 pN_1 pC_1 wasP_3 wasN_3 wasC_3 s w Kn Kx4) s w
def B_law19_BaseStays_L4 (b_3 : Option Addr) (gen_2 : Int) (pP_2 : Option Addr) (pN_2 : Nat) (pC_2 : Nat) (wasP_4 : Option Addr) (wasN_4 : Nat) (wasC_4 : Nat) (s : S_law19_BaseStays_L4) (w : World) (Kn : S_law19_BaseStays_L4 → World → Prop) (Kx6 : World → Prop) (Kr : Bool → World → Prop) : Prop :=
 If (decide (s.i_3 < (pN_2 : Int)))
 (0 ≤ s.i_3 ∧ s.i_3 < (pN_2 : Int) ∧ NN pP_2 fun a_14 =>
 ∃ Name_1, (drw w).cell? ((a_14.add (s.i_3.toNat * 3)).add 0) = some (.string Name_1) ∧
 0 ≤ s.i_3 ∧ s.i_3 < (pN_2 : Int) ∧ NN pP_2 fun a_15 =>
 ∃ Arity_1, (drw w).cell? ((a_15.add (s.i_3.toNat * 3)).add 1) = some (.int .i64 Arity_1) ∧
 0 ≤ s.i_3 ∧ s.i_3 < (wasN_4 : Int) ∧ NN wasP_4 fun a_16 =>
 ∃ t174P t174N t174C, (drw w).cell? (a_16.add (s.i_3.toNat * 1)) = some (.slice t174P t174N t174C) ∧
 C_law19_all b_3 Name_1 Arity_1 gen_2 (drw w) fun t170P t170N t170C w1_22 =>
 w1_22.cell? (a_16.add (s.i_3.toNat * 1)) = (drw w).cell? (a_16.add (s.i_3.toNat * 1)) ∧
 C_ref15_SameInts t170P t170N t170C t174P t174N t174C w1_22 fun t175 w1_23 =>
 If (!t175)
 (Kr false w1_23)
 (Kn ⟨(IntKind.i64.wrap (s.i_3 + (1 : Int)))⟩ w1_23))
 (Kx6 w)
def F_law19_BaseStays_L4 (b_3 : Option Addr) (gen_2 : Int) (pP_2 : Option Addr) (pN_2 : Nat) (pC_2 : Nat) (wasP_4 : Option Addr) (wasN_4 : Nat) (wasC_4 : Nat) (s : S_law19_BaseStays_L4) (w : World) (Kx6 : World → Prop) (Kr : Bool → World → Prop) : Prop :=
 LoopS (fun s w Kn => B_law19_BaseStays_L4 b_3 gen_2 pP_2 pN_2 pC_2 wasP_4 wasN_4 wasC_4 s w Kn Kx6 Kr) s w
def F_law19_BaseStays (lP : Option Addr) (lN : Nat) (lC : Nat) (moreP : Option Addr) (moreN : Nat) (moreC : Nat) (w : World) (R : Bool → World → Prop) : Prop :=
 C_law19_large lP lN lC w fun t15 w1 =>
 If t15
 (C_law19_lives  w1 fun t20 w1_2 =>
 R t20 w1_2)
 (C_law19_large moreP moreN moreC w1 fun t18 w1_1 =>
 If t18
 (C_law19_lives  w1_1 fun t20_1 w1_3 =>
 R t20_1 w1_3)
 (C_base_New (16384 : Int) w1_1 fun t220 t221 w1_4 =>
 C_law19_lives  w1_4 fun t25 w1_5 =>
 If (!t25)
 (F_law19_BaseStays_k1 R w1_5)
 (If (t221 != (0 : Int))
 (F_law19_BaseStays_k1 R w1_5)
 (If t220.isNone
 (R false w1_5)
 (F_law19_BaseStays_L1 lP lN lC moreP moreN moreC t220 ⟨(0 : Int)⟩ w1_5
 (fun w1_10 =>
 C_base_Base_Generation t220 w1_10 fun t76 w1_11 =>
 C_base_Base_Preds t220 w1_11 fun t78P t78N t78C w1_12 =>
 F_law19_BaseStays_L2 moreP moreN moreC t220 t76 t78P t78N t78C ⟨none, 0, 0, (0 : Int)⟩ w1_12
 (fun wasP_2 wasN_2 wasC_2 w1_16 =>
 F_law19_BaseStays_L3 moreP moreN moreC t220 t76 t78P t78N t78C wasP_2 wasN_2 wasC_2 ⟨(0 : Int)⟩ w1_16
 (fun w1_21 =>
 F_law19_BaseStays_L4 t220 t76 t78P t78N t78C wasP_2 wasN_2 wasC_2 ⟨(0 : Int)⟩ w1_21
 (fun w1_24 =>
 R true w1_24)
 (fun t4_3 w1_25 =>
 R t4_3 w1_25)))
 (fun t4_1 w1_17 =>
 R t4_1 w1_17)))))))
def lit_law19_BaseStays_L1 (f : (Option Addr) × Nat × Nat × (Option Addr) × Nat × Nat × (Option Addr)) (s : S_law19_BaseStays_L1) : Env := [⟨0, .slice f.1 f.2.1 f.2.2.1, none⟩, ⟨1, .slice f.2.2.2.1 f.2.2.2.2.1 f.2.2.2.2.2.1, none⟩, ⟨5, .pointer f.2.2.2.2.2.2, none⟩, ⟨7, .int .i64 s.i, none⟩]
def dec_law19_BaseStays_L1 (e : Env) (K : ((Option Addr) × Nat × Nat × (Option Addr) × Nat × Nat × (Option Addr)) → S_law19_BaseStays_L1 → Prop) : Prop :=
 oS e 0 fun lP_1 lN_1 lC_1 =>
 oS e 1 fun moreP_1 moreN_1 moreC_1 =>
 oP e 5 fun b =>
 oI e 7 .i64 fun i =>
  K (lP_1, lN_1, lC_1, moreP_1, moreN_1, moreC_1, b) ⟨i⟩
theorem dec_law19_BaseStays_L1_ok {N : Nat} (e : Env) (a : Act) (K : ((Option Addr) × Nat × Nat × (Option Addr) × Nat × Nat × (Option Addr)) → S_law19_BaseStays_L1 → Prop) (hr : Rep N a e) (h0 : dec_law19_BaseStays_L1 e K) : ∃ f s, K f s ∧ Rep N a (lit_law19_BaseStays_L1 f s) := by
 unfold dec_law19_BaseStays_L1 at h0
 obtain ⟨lP_1, lN_1, lC_1, g0, h1⟩ := oS_elim h0
 obtain ⟨moreP_1, moreN_1, moreC_1, g1, h2⟩ := oS_elim h1
 obtain ⟨b, g5, h3⟩ := oP_elim h2
 obtain ⟨i, g7, h4⟩ := oI_elim h3
 exact ⟨_, _, h4, rep_less hr (by simp [lit_law19_BaseStays_L1, g0, g1, g5, g7])⟩
def spec_law19_BaseStays_L1 (Q : Post) (e : Env) (w : World) : Prop :=
 dec_law19_BaseStays_L1 e fun f s => F_law19_BaseStays_L1 f.1 f.2.1 f.2.2.1 f.2.2.2.1 f.2.2.2.2.1 f.2.2.2.2.2.1 f.2.2.2.2.2.2 s w (fun w1 => Q (.exit 0) [⟨1, .slice f.2.2.2.1 f.2.2.2.2.1 f.2.2.2.2.2.1, none⟩, ⟨5, .pointer f.2.2.2.2.2.2, none⟩] w1)
def lit_law19_BaseStays_L2 (f : (Option Addr) × Nat × Nat × (Option Addr) × Int × (Option Addr) × Nat × Nat) (s : S_law19_BaseStays_L2) : Env := [⟨1, .slice f.1 f.2.1 f.2.2.1, none⟩, ⟨5, .pointer f.2.2.2.1, none⟩, ⟨8, .int .i64 f.2.2.2.2.1, none⟩, ⟨9, .slice f.2.2.2.2.2.1 f.2.2.2.2.2.2.1 f.2.2.2.2.2.2.2, none⟩, ⟨10, .slice s.wasP s.wasN s.wasC, none⟩, ⟨11, .int .i64 s.i_1, none⟩]
def dec_law19_BaseStays_L2 (e : Env) (K : ((Option Addr) × Nat × Nat × (Option Addr) × Int × (Option Addr) × Nat × Nat) → S_law19_BaseStays_L2 → Prop) : Prop :=
 oS e 1 fun moreP_2 moreN_2 moreC_2 =>
 oP e 5 fun b_1 =>
 oI e 8 .i64 fun gen =>
 oS e 9 fun pP pN pC =>
 oS e 10 fun wasP wasN wasC =>
 oI e 11 .i64 fun i_1 =>
  K (moreP_2, moreN_2, moreC_2, b_1, gen, pP, pN, pC) ⟨wasP, wasN, wasC, i_1⟩
theorem dec_law19_BaseStays_L2_ok {N : Nat} (e : Env) (a : Act) (K : ((Option Addr) × Nat × Nat × (Option Addr) × Int × (Option Addr) × Nat × Nat) → S_law19_BaseStays_L2 → Prop) (hr : Rep N a e) (h0 : dec_law19_BaseStays_L2 e K) : ∃ f s, K f s ∧ Rep N a (lit_law19_BaseStays_L2 f s) := by
 unfold dec_law19_BaseStays_L2 at h0
 obtain ⟨moreP_2, moreN_2, moreC_2, g1, h1⟩ := oS_elim h0
 obtain ⟨b_1, g5, h2⟩ := oP_elim h1
 obtain ⟨gen, g8, h3⟩ := oI_elim h2
 obtain ⟨pP, pN, pC, g9, h4⟩ := oS_elim h3
 obtain ⟨wasP, wasN, wasC, g10, h5⟩ := oS_elim h4
 obtain ⟨i_1, g11, h6⟩ := oI_elim h5
 exact ⟨_, _, h6, rep_less hr (by simp [lit_law19_BaseStays_L2, g1, g5, g8, g9, g10, g11])⟩
def spec_law19_BaseStays_L2 (Q : Post) (e : Env) (w : World) : Prop :=
 dec_law19_BaseStays_L2 e fun f s => F_law19_BaseStays_L2 f.1 f.2.1 f.2.2.1 f.2.2.2.1 f.2.2.2.2.1 f.2.2.2.2.2.1 f.2.2.2.2.2.2.1 f.2.2.2.2.2.2.2 s w (fun wasP_1 wasN_1 wasC_1 w1 => Q (.exit 2) [⟨1, .slice f.1 f.2.1 f.2.2.1, none⟩, ⟨5, .pointer f.2.2.2.1, none⟩, ⟨8, .int .i64 f.2.2.2.2.1, none⟩, ⟨9, .slice f.2.2.2.2.2.1 f.2.2.2.2.2.2.1 f.2.2.2.2.2.2.2, none⟩, ⟨10, .slice wasP_1 wasN_1 wasC_1, none⟩] w1) (fun t4 w1 => Q .ret [⟨4, .bool t4, none⟩] w1)
def lit_law19_BaseStays_L3 (f : (Option Addr) × Nat × Nat × (Option Addr) × Int × (Option Addr) × Nat × Nat × (Option Addr) × Nat × Nat) (s : S_law19_BaseStays_L3) : Env := [⟨1, .slice f.1 f.2.1 f.2.2.1, none⟩, ⟨5, .pointer f.2.2.2.1, none⟩, ⟨8, .int .i64 f.2.2.2.2.1, none⟩, ⟨9, .slice f.2.2.2.2.2.1 f.2.2.2.2.2.2.1 f.2.2.2.2.2.2.2.1, none⟩, ⟨10, .slice f.2.2.2.2.2.2.2.2.1 f.2.2.2.2.2.2.2.2.2.1 f.2.2.2.2.2.2.2.2.2.2, none⟩, ⟨12, .int .i64 s.i_2, none⟩]
def dec_law19_BaseStays_L3 (e : Env) (K : ((Option Addr) × Nat × Nat × (Option Addr) × Int × (Option Addr) × Nat × Nat × (Option Addr) × Nat × Nat) → S_law19_BaseStays_L3 → Prop) : Prop :=
 oS e 1 fun moreP_3 moreN_3 moreC_3 =>
 oP e 5 fun b_2 =>
 oI e 8 .i64 fun gen_1 =>
 oS e 9 fun pP_1 pN_1 pC_1 =>
 oS e 10 fun wasP_3 wasN_3 wasC_3 =>
 oI e 12 .i64 fun i_2 =>
  K (moreP_3, moreN_3, moreC_3, b_2, gen_1, pP_1, pN_1, pC_1, wasP_3, wasN_3, wasC_3) ⟨i_2⟩
theorem dec_law19_BaseStays_L3_ok {N : Nat} (e : Env) (a : Act) (K : ((Option Addr) × Nat × Nat × (Option Addr) × Int × (Option Addr) × Nat × Nat × (Option Addr) × Nat × Nat) → S_law19_BaseStays_L3 → Prop) (hr : Rep N a e) (h0 : dec_law19_BaseStays_L3 e K) : ∃ f s, K f s ∧ Rep N a (lit_law19_BaseStays_L3 f s) := by
 unfold dec_law19_BaseStays_L3 at h0
 obtain ⟨moreP_3, moreN_3, moreC_3, g1, h1⟩ := oS_elim h0
 obtain ⟨b_2, g5, h2⟩ := oP_elim h1
 obtain ⟨gen_1, g8, h3⟩ := oI_elim h2
 obtain ⟨pP_1, pN_1, pC_1, g9, h4⟩ := oS_elim h3
 obtain ⟨wasP_3, wasN_3, wasC_3, g10, h5⟩ := oS_elim h4
 obtain ⟨i_2, g12, h6⟩ := oI_elim h5
 exact ⟨_, _, h6, rep_less hr (by simp [lit_law19_BaseStays_L3, g1, g5, g8, g9, g10, g12])⟩
def spec_law19_BaseStays_L3 (Q : Post) (e : Env) (w : World) : Prop :=
 dec_law19_BaseStays_L3 e fun f s => F_law19_BaseStays_L3 f.1 f.2.1 f.2.2.1 f.2.2.2.1 f.2.2.2.2.1 f.2.2.2.2.2.1 f.2.2.2.2.2.2.1 f.2.2.2.2.2.2.2.1 f.2.2.2.2.2.2.2.2.1 f.2.2.2.2.2.2.2.2.2.1 f.2.2.2.2.2.2.2.2.2.2 s w (fun w1 => Q (.exit 4) [⟨5, .pointer f.2.2.2.1, none⟩, ⟨8, .int .i64 f.2.2.2.2.1, none⟩, ⟨9, .slice f.2.2.2.2.2.1 f.2.2.2.2.2.2.1 f.2.2.2.2.2.2.2.1, none⟩, ⟨10, .slice f.2.2.2.2.2.2.2.2.1 f.2.2.2.2.2.2.2.2.2.1 f.2.2.2.2.2.2.2.2.2.2, none⟩] w1)
def lit_law19_BaseStays_L4 (f : (Option Addr) × Int × (Option Addr) × Nat × Nat × (Option Addr) × Nat × Nat) (s : S_law19_BaseStays_L4) : Env := [⟨5, .pointer f.1, none⟩, ⟨8, .int .i64 f.2.1, none⟩, ⟨9, .slice f.2.2.1 f.2.2.2.1 f.2.2.2.2.1, none⟩, ⟨10, .slice f.2.2.2.2.2.1 f.2.2.2.2.2.2.1 f.2.2.2.2.2.2.2, none⟩, ⟨13, .int .i64 s.i_3, none⟩]
def dec_law19_BaseStays_L4 (e : Env) (K : ((Option Addr) × Int × (Option Addr) × Nat × Nat × (Option Addr) × Nat × Nat) → S_law19_BaseStays_L4 → Prop) : Prop :=
 oP e 5 fun b_3 =>
 oI e 8 .i64 fun gen_2 =>
 oS e 9 fun pP_2 pN_2 pC_2 =>
 oS e 10 fun wasP_4 wasN_4 wasC_4 =>
 oI e 13 .i64 fun i_3 =>
  K (b_3, gen_2, pP_2, pN_2, pC_2, wasP_4, wasN_4, wasC_4) ⟨i_3⟩
theorem dec_law19_BaseStays_L4_ok {N : Nat} (e : Env) (a : Act) (K : ((Option Addr) × Int × (Option Addr) × Nat × Nat × (Option Addr) × Nat × Nat) → S_law19_BaseStays_L4 → Prop) (hr : Rep N a e) (h0 : dec_law19_BaseStays_L4 e K) : ∃ f s, K f s ∧ Rep N a (lit_law19_BaseStays_L4 f s) := by
 unfold dec_law19_BaseStays_L4 at h0
 obtain ⟨b_3, g5, h1⟩ := oP_elim h0
 obtain ⟨gen_2, g8, h2⟩ := oI_elim h1
 obtain ⟨pP_2, pN_2, pC_2, g9, h3⟩ := oS_elim h2
 obtain ⟨wasP_4, wasN_4, wasC_4, g10, h4⟩ := oS_elim h3
 obtain ⟨i_3, g13, h5⟩ := oI_elim h4
 exact ⟨_, _, h5, rep_less hr (by simp [lit_law19_BaseStays_L4, g5, g8, g9, g10, g13])⟩
def spec_law19_BaseStays_L4 (Q : Post) (e : Env) (w : World) : Prop :=
 dec_law19_BaseStays_L4 e fun f s => F_law19_BaseStays_L4 f.1 f.2.1 f.2.2.1 f.2.2.2.1 f.2.2.2.2.1 f.2.2.2.2.2.1 f.2.2.2.2.2.2.1 f.2.2.2.2.2.2.2 s w (fun w1 => Q (.exit 6) [] w1) (fun t4_2 w1 => Q .ret [⟨4, .bool t4_2, none⟩] w1)
def G_law19_BaseStays : Gen where
 loop := lookL [([false, true, false, true, true, true, true], spec_law19_BaseStays_L1), ([false, true, false, true, true, true, true, true, true, true, true], spec_law19_BaseStays_L2), ([false, true, false, true, true, true, true, true, true, true, true, true], spec_law19_BaseStays_L3), ([false, true, false, true, true, true, true, true, true, true, true, true, true], spec_law19_BaseStays_L4)]
 plan := fun id =>
  bif Nat.beq id 10 then some ([0, 0, 0, 6, 14, 30, 0, 0, 192, 448, 960, 0, 0, 6144, 14336, 30720, 65535], .take 0 (.take 1 (.take 2 (.take 3 (.take 4 (.take 5 (.take 6 (.take 7 (.take 8 (.take 9 (.take 10 (.take 11 (.take 12 (.take 13 (.take 14 (.take 15 (.take 16 .done))))))))))))))))) else
  bif Nat.beq id 18 then some ([0, 0, 0, 0, 12, 28, 60, 0, 0, 384, 896, 1920, 0, 8190, 16382, 32767, 65535], .take 0 (.take 1 (.take 2 (.take 3 (.take 4 (.take 5 (.take 6 (.take 7 (.take 8 (.take 9 (.take 10 (.take 11 (.take 12 (.take 13 (.take 14 (.take 15 (.take 16 .done))))))))))))))))) else
  bif Nat.beq id 19 then some ([0, 0, 3, 7, 15, 0, 0, 96, 224, 480, 1023], .take 0 (.take 1 (.take 2 (.take 3 (.take 4 (.take 5 (.take 6 (.take 7 (.take 8 (.take 9 (.take 10 .done))))))))))) else
  bif Nat.beq id 25 then some ([0, 0, 0, 6, 14, 30, 0, 0, 192, 448, 960, 0, 0, 6144, 14336, 30720, 65535], .take 0 (.take 1 (.take 2 (.take 3 (.take 4 (.take 5 (.take 6 (.take 7 (.take 8 (.take 9 (.take 10 (.take 11 (.take 12 (.take 13 (.take 14 (.take 15 (.take 16 .done))))))))))))))))) else
  bif Nat.beq id 30 then some ([0, 0, 0, 6, 14, 30, 0, 0, 192, 448, 960, 0, 4095, 0, 0, 24576, 57344, 131071, 262143], .take 0 (.take 1 (.take 2 (.take 3 (.take 4 (.take 5 (.take 6 (.take 7 (.take 8 (.take 9 (.take 10 (.take 11 (.take 13 (.take 14 (.take 15 (.take 16 (.take 12 (.take 17 (.take 18 .done))))))))))))))))))) else none
def dx_law19_BaseStays_L1_0 (e : Env) (K : ((Option Addr) × Nat × Nat × (Option Addr) × Nat × Nat × (Option Addr)) → Prop) : Prop :=
 oS e 0 fun lP_1 lN_1 lC_1 =>
 oS e 1 fun moreP_1 moreN_1 moreC_1 =>
 oP e 5 fun b =>
  K (lP_1, lN_1, lC_1, moreP_1, moreN_1, moreC_1, b)
theorem body_law19_BaseStays_L1 (f : (Option Addr) × Nat × Nat × (Option Addr) × Nat × Nat × (Option Addr)) (s : S_law19_BaseStays_L1) (w : World) (Kn : ((Option Addr) × Nat × Nat × (Option Addr) × Nat × Nat × (Option Addr)) → S_law19_BaseStays_L1 → World → Prop) (Kx0 : ((Option Addr) × Nat × Nat × (Option Addr) × Nat × Nat × (Option Addr)) → World → Prop) :
  B_law19_BaseStays_L1 f.1 f.2.1 f.2.2.1 f.2.2.2.1 f.2.2.2.2.1 f.2.2.2.2.2.1 f.2.2.2.2.2.2 s w (fun s1 w1 => Kn f s1 w1) (fun w1 => Kx0 f w1) =
  den Try.prog Try.f3.ntmps G_law19_BaseStays (sub (codeOf Try.f3) [false, false, true, false, true, true, true, true]) [false, false, true, false, true, true, true, true] (roundQ (fun e w => dec_law19_BaseStays_L1 e fun f s => Kn f s w) (fun e w => False) (fun id e w => match Nat.beq id 0 with | true => dx_law19_BaseStays_L1_0 e fun f => Kx0 f w | false => False)) (lit_law19_BaseStays_L1 f s) w := by kernel_rfl
def dx_law19_BaseStays_L2_2 (e : Env) (K : ((Option Addr) × Nat × Nat × (Option Addr) × Int × (Option Addr) × Nat × Nat) → Option Addr → Nat → Nat → Prop) : Prop :=
 oS e 1 fun moreP_2 moreN_2 moreC_2 =>
 oP e 5 fun b_1 =>
 oI e 8 .i64 fun gen =>
 oS e 9 fun pP pN pC =>
 oS e 10 fun wasP_1 wasN_1 wasC_1 =>
  K (moreP_2, moreN_2, moreC_2, b_1, gen, pP, pN, pC) wasP_1 wasN_1 wasC_1
def dx_law19_BaseStays_L2_ret (e : Env) (K : ((Option Addr) × Nat × Nat × (Option Addr) × Int × (Option Addr) × Nat × Nat) → Bool → Prop) : Prop :=
 oS e 1 fun moreP_2 moreN_2 moreC_2 =>
 oP e 5 fun b_1 =>
 oI e 8 .i64 fun gen =>
 oS e 9 fun pP pN pC =>
 oB e 4 fun t4 =>
  K (moreP_2, moreN_2, moreC_2, b_1, gen, pP, pN, pC) t4
theorem body_law19_BaseStays_L2 (f : (Option Addr) × Nat × Nat × (Option Addr) × Int × (Option Addr) × Nat × Nat) (s : S_law19_BaseStays_L2) (w : World) (Kn : ((Option Addr) × Nat × Nat × (Option Addr) × Int × (Option Addr) × Nat × Nat) → S_law19_BaseStays_L2 → World → Prop) (Kx2 : ((Option Addr) × Nat × Nat × (Option Addr) × Int × (Option Addr) × Nat × Nat) → Option Addr → Nat → Nat → World → Prop) (Kr : ((Option Addr) × Nat × Nat × (Option Addr) × Int × (Option Addr) × Nat × Nat) → Bool → World → Prop) :
  B_law19_BaseStays_L2 f.1 f.2.1 f.2.2.1 f.2.2.2.1 f.2.2.2.2.1 f.2.2.2.2.2.1 f.2.2.2.2.2.2.1 f.2.2.2.2.2.2.2 s w (fun s1 w1 => Kn f s1 w1) (fun wasP_1 wasN_1 wasC_1 w1 => Kx2 f wasP_1 wasN_1 wasC_1 w1) (fun t4 w1 => Kr f t4 w1) =
  den Try.prog Try.f3.ntmps G_law19_BaseStays (sub (codeOf Try.f3) [false, false, true, false, true, true, true, true, true, true, true, true]) [false, false, true, false, true, true, true, true, true, true, true, true] (roundQ (fun e w => dec_law19_BaseStays_L2 e fun f s => Kn f s w) (fun e w => dx_law19_BaseStays_L2_ret e fun f t4 => Kr f t4 w) (fun id e w => match Nat.beq id 2 with | true => dx_law19_BaseStays_L2_2 e fun f wasP_1 wasN_1 wasC_1 => Kx2 f wasP_1 wasN_1 wasC_1 w | false => False)) (lit_law19_BaseStays_L2 f s) w := by kernel_rfl
def dx_law19_BaseStays_L3_4 (e : Env) (K : ((Option Addr) × Nat × Nat × (Option Addr) × Int × (Option Addr) × Nat × Nat × (Option Addr) × Nat × Nat) → Prop) : Prop :=
 oS e 1 fun moreP_3 moreN_3 moreC_3 =>
 oP e 5 fun b_2 =>
 oI e 8 .i64 fun gen_1 =>
 oS e 9 fun pP_1 pN_1 pC_1 =>
 oS e 10 fun wasP_3 wasN_3 wasC_3 =>
  K (moreP_3, moreN_3, moreC_3, b_2, gen_1, pP_1, pN_1, pC_1, wasP_3, wasN_3, wasC_3)
theorem body_law19_BaseStays_L3 (f : (Option Addr) × Nat × Nat × (Option Addr) × Int × (Option Addr) × Nat × Nat × (Option Addr) × Nat × Nat) (s : S_law19_BaseStays_L3) (w : World) (Kn : ((Option Addr) × Nat × Nat × (Option Addr) × Int × (Option Addr) × Nat × Nat × (Option Addr) × Nat × Nat) → S_law19_BaseStays_L3 → World → Prop) (Kx4 : ((Option Addr) × Nat × Nat × (Option Addr) × Int × (Option Addr) × Nat × Nat × (Option Addr) × Nat × Nat) → World → Prop) :
  B_law19_BaseStays_L3 f.1 f.2.1 f.2.2.1 f.2.2.2.1 f.2.2.2.2.1 f.2.2.2.2.2.1 f.2.2.2.2.2.2.1 f.2.2.2.2.2.2.2.1 f.2.2.2.2.2.2.2.2.1 f.2.2.2.2.2.2.2.2.2.1 f.2.2.2.2.2.2.2.2.2.2 s w (fun s1 w1 => Kn f s1 w1) (fun w1 => Kx4 f w1) =
  den Try.prog Try.f3.ntmps G_law19_BaseStays (sub (codeOf Try.f3) [false, false, true, false, true, true, true, true, true, true, true, true, true]) [false, false, true, false, true, true, true, true, true, true, true, true, true] (roundQ (fun e w => dec_law19_BaseStays_L3 e fun f s => Kn f s w) (fun e w => False) (fun id e w => match Nat.beq id 4 with | true => dx_law19_BaseStays_L3_4 e fun f => Kx4 f w | false => False)) (lit_law19_BaseStays_L3 f s) w := by kernel_rfl
def dx_law19_BaseStays_L4_6 (e : Env) (K : ((Option Addr) × Int × (Option Addr) × Nat × Nat × (Option Addr) × Nat × Nat) → Prop) : Prop :=
 oP e 5 fun b_3 =>
 oI e 8 .i64 fun gen_2 =>
 oS e 9 fun pP_2 pN_2 pC_2 =>
 oS e 10 fun wasP_4 wasN_4 wasC_4 =>
  K (b_3, gen_2, pP_2, pN_2, pC_2, wasP_4, wasN_4, wasC_4)
def dx_law19_BaseStays_L4_ret (e : Env) (K : ((Option Addr) × Int × (Option Addr) × Nat × Nat × (Option Addr) × Nat × Nat) → Bool → Prop) : Prop :=
 oP e 5 fun b_3 =>
 oI e 8 .i64 fun gen_2 =>
 oS e 9 fun pP_2 pN_2 pC_2 =>
 oS e 10 fun wasP_4 wasN_4 wasC_4 =>
 oB e 4 fun t4_2 =>
  K (b_3, gen_2, pP_2, pN_2, pC_2, wasP_4, wasN_4, wasC_4) t4_2
theorem body_law19_BaseStays_L4 (f : (Option Addr) × Int × (Option Addr) × Nat × Nat × (Option Addr) × Nat × Nat) (s : S_law19_BaseStays_L4) (w : World) (Kn : ((Option Addr) × Int × (Option Addr) × Nat × Nat × (Option Addr) × Nat × Nat) → S_law19_BaseStays_L4 → World → Prop) (Kx6 : ((Option Addr) × Int × (Option Addr) × Nat × Nat × (Option Addr) × Nat × Nat) → World → Prop) (Kr : ((Option Addr) × Int × (Option Addr) × Nat × Nat × (Option Addr) × Nat × Nat) → Bool → World → Prop) :
  B_law19_BaseStays_L4 f.1 f.2.1 f.2.2.1 f.2.2.2.1 f.2.2.2.2.1 f.2.2.2.2.2.1 f.2.2.2.2.2.2.1 f.2.2.2.2.2.2.2 s w (fun s1 w1 => Kn f s1 w1) (fun w1 => Kx6 f w1) (fun t4_2 w1 => Kr f t4_2 w1) =
  den Try.prog Try.f3.ntmps G_law19_BaseStays (sub (codeOf Try.f3) [false, false, true, false, true, true, true, true, true, true, true, true, true, true]) [false, false, true, false, true, true, true, true, true, true, true, true, true, true] (roundQ (fun e w => dec_law19_BaseStays_L4 e fun f s => Kn f s w) (fun e w => dx_law19_BaseStays_L4_ret e fun f t4_2 => Kr f t4_2 w) (fun id e w => match Nat.beq id 6 with | true => dx_law19_BaseStays_L4_6 e fun f => Kx6 f w | false => False)) (lit_law19_BaseStays_L4 f s) w := by kernel_rfl
theorem ok_law19_BaseStays_L1 : OneOk Try.prog Try.f3.ntmps G_law19_BaseStays (codeOf Try.f3) [false, true, false, true, true, true, true] spec_law19_BaseStays_L1 := by
 intro c hc ih Q e w a hr h
 have hcc : sub (codeOf Try.f3) [false, false, true, false, true, true, true, true] = c := sub_of_codeAt hc
 obtain ⟨f, s, h, hrep⟩ := dec_law19_BaseStays_L1_ok e a _ hr h
 obtain ⟨J, μ, hj, hround⟩ := h
 refine loop_rule_deep seat_ok seat_mixed ih lit_law19_BaseStays_L1 dec_law19_BaseStays_L1 dec_law19_BaseStays_L1_ok hc f J μ (Kr := fun e w => False) (Kx := fun id e w => match Nat.beq id 0 with | true => (dx_law19_BaseStays_L1_0 e fun f1 => f1 = f ∧ Q (.exit 0) [⟨1, .slice f.2.2.2.1 f.2.2.2.2.1 f.2.2.2.2.2.1, none⟩, ⟨5, .pointer f.2.2.2.2.2.2, none⟩] w) | false => False) ?_ ?_ ?_ s w a hj hrep
 ·intro e a w hr h
  exact h.elim
 ·intro id e a w hr h0
  (try dsimp only at h0)
  split at h0
  ·rename_i hid
   obtain rfl := Nat.eq_of_beq_eq_true hid
   unfold dx_law19_BaseStays_L1_0 at h0
   obtain ⟨lP_1, lN_1, lC_1, g0, h1⟩ := oS_elim h0
   obtain ⟨moreP_1, moreN_1, moreC_1, g1, h2⟩ := oS_elim h1
   obtain ⟨b, g5, h3⟩ := oP_elim h2
   obtain ⟨hf, hq⟩ := h3
   subst hf
   exact ⟨_, rep_less hr (by simp [g1, g5]), hq⟩
  ·exact h0.elim
 ·intro s w hj
  have hb := hround s w hj
  rw [← hcc]
  have e1 := body_law19_BaseStays_L1 f s w (fun f1 s1 w1 => f1 = f ∧ J s1 w1 ∧ μ s1 w1 < μ s w) (fun f1 w1 => f1 = f ∧ Q (.exit 0) [⟨1, .slice f.2.2.2.1 f.2.2.2.2.1 f.2.2.2.2.2.1, none⟩, ⟨5, .pointer f.2.2.2.2.2.2, none⟩] w1)
  simp only [true_and] at e1
  exact cast e1 hb
theorem ok_law19_BaseStays_L2 : OneOk Try.prog Try.f3.ntmps G_law19_BaseStays (codeOf Try.f3) [false, true, false, true, true, true, true, true, true, true, true] spec_law19_BaseStays_L2 := by
 intro c hc ih Q e w a hr h
 have hcc : sub (codeOf Try.f3) [false, false, true, false, true, true, true, true, true, true, true, true] = c := sub_of_codeAt hc
 obtain ⟨f, s, h, hrep⟩ := dec_law19_BaseStays_L2_ok e a _ hr h
 obtain ⟨J, μ, hj, hround⟩ := h
 refine loop_rule_deep seat_ok seat_mixed ih lit_law19_BaseStays_L2 dec_law19_BaseStays_L2 dec_law19_BaseStays_L2_ok hc f J μ (Kr := fun e w => dx_law19_BaseStays_L2_ret e fun f1 t4 => f1 = f ∧ Q .ret [⟨4, .bool t4, none⟩] w) (Kx := fun id e w => match Nat.beq id 2 with | true => (dx_law19_BaseStays_L2_2 e fun f1 wasP_1 wasN_1 wasC_1 => f1 = f ∧ Q (.exit 2) [⟨1, .slice f.1 f.2.1 f.2.2.1, none⟩, ⟨5, .pointer f.2.2.2.1, none⟩, ⟨8, .int .i64 f.2.2.2.2.1, none⟩, ⟨9, .slice f.2.2.2.2.2.1 f.2.2.2.2.2.2.1 f.2.2.2.2.2.2.2, none⟩, ⟨10, .slice wasP_1 wasN_1 wasC_1, none⟩] w) | false => False) ?_ ?_ ?_ s w a hj hrep
 ·intro e a w hr h0
  unfold dx_law19_BaseStays_L2_ret at h0
  obtain ⟨moreP_2, moreN_2, moreC_2, g1, h1⟩ := oS_elim h0
  obtain ⟨b_1, g5, h2⟩ := oP_elim h1
  obtain ⟨gen, g8, h3⟩ := oI_elim h2
  obtain ⟨pP, pN, pC, g9, h4⟩ := oS_elim h3
  obtain ⟨t4, g4, h5⟩ := oB_elim h4
  obtain ⟨hf, hq⟩ := h5
  subst hf
  exact ⟨_, rep_less hr (by simp [g4]), hq⟩
 ·intro id e a w hr h0
  (try dsimp only at h0)
  split at h0
  ·rename_i hid
   obtain rfl := Nat.eq_of_beq_eq_true hid
   unfold dx_law19_BaseStays_L2_2 at h0
   obtain ⟨moreP_2, moreN_2, moreC_2, g1, h1⟩ := oS_elim h0
   obtain ⟨b_1, g5, h2⟩ := oP_elim h1
   obtain ⟨gen, g8, h3⟩ := oI_elim h2
   obtain ⟨pP, pN, pC, g9, h4⟩ := oS_elim h3
   obtain ⟨wasP_1, wasN_1, wasC_1, g10, h5⟩ := oS_elim h4
   obtain ⟨hf, hq⟩ := h5
   subst hf
   exact ⟨_, rep_less hr (by simp [g1, g5, g8, g9, g10]), hq⟩
  ·exact h0.elim
 ·intro s w hj
  have hb := hround s w hj
  rw [← hcc]
  have e1 := body_law19_BaseStays_L2 f s w (fun f1 s1 w1 => f1 = f ∧ J s1 w1 ∧ μ s1 w1 < μ s w) (fun f1 wasP_1 wasN_1 wasC_1 w1 => f1 = f ∧ Q (.exit 2) [⟨1, .slice f.1 f.2.1 f.2.2.1, none⟩, ⟨5, .pointer f.2.2.2.1, none⟩, ⟨8, .int .i64 f.2.2.2.2.1, none⟩, ⟨9, .slice f.2.2.2.2.2.1 f.2.2.2.2.2.2.1 f.2.2.2.2.2.2.2, none⟩, ⟨10, .slice wasP_1 wasN_1 wasC_1, none⟩] w1) (fun f1 t4 w1 => f1 = f ∧ Q .ret [⟨4, .bool t4, none⟩] w1)
  simp only [true_and] at e1
  exact cast e1 hb
theorem ok_law19_BaseStays_L3 : OneOk Try.prog Try.f3.ntmps G_law19_BaseStays (codeOf Try.f3) [false, true, false, true, true, true, true, true, true, true, true, true] spec_law19_BaseStays_L3 := by
 intro c hc ih Q e w a hr h
 have hcc : sub (codeOf Try.f3) [false, false, true, false, true, true, true, true, true, true, true, true, true] = c := sub_of_codeAt hc
 obtain ⟨f, s, h, hrep⟩ := dec_law19_BaseStays_L3_ok e a _ hr h
 obtain ⟨J, μ, hj, hround⟩ := h
 refine loop_rule_deep seat_ok seat_mixed ih lit_law19_BaseStays_L3 dec_law19_BaseStays_L3 dec_law19_BaseStays_L3_ok hc f J μ (Kr := fun e w => False) (Kx := fun id e w => match Nat.beq id 4 with | true => (dx_law19_BaseStays_L3_4 e fun f1 => f1 = f ∧ Q (.exit 4) [⟨5, .pointer f.2.2.2.1, none⟩, ⟨8, .int .i64 f.2.2.2.2.1, none⟩, ⟨9, .slice f.2.2.2.2.2.1 f.2.2.2.2.2.2.1 f.2.2.2.2.2.2.2.1, none⟩, ⟨10, .slice f.2.2.2.2.2.2.2.2.1 f.2.2.2.2.2.2.2.2.2.1 f.2.2.2.2.2.2.2.2.2.2, none⟩] w) | false => False) ?_ ?_ ?_ s w a hj hrep
 ·intro e a w hr h
  exact h.elim
 ·intro id e a w hr h0
  (try dsimp only at h0)
  split at h0
  ·rename_i hid
   obtain rfl := Nat.eq_of_beq_eq_true hid
   unfold dx_law19_BaseStays_L3_4 at h0
   obtain ⟨moreP_3, moreN_3, moreC_3, g1, h1⟩ := oS_elim h0
   obtain ⟨b_2, g5, h2⟩ := oP_elim h1
   obtain ⟨gen_1, g8, h3⟩ := oI_elim h2
   obtain ⟨pP_1, pN_1, pC_1, g9, h4⟩ := oS_elim h3
   obtain ⟨wasP_3, wasN_3, wasC_3, g10, h5⟩ := oS_elim h4
   obtain ⟨hf, hq⟩ := h5
   subst hf
   exact ⟨_, rep_less hr (by simp [g5, g8, g9, g10]), hq⟩
  ·exact h0.elim
 ·intro s w hj
  have hb := hround s w hj
  rw [← hcc]
  have e1 := body_law19_BaseStays_L3 f s w (fun f1 s1 w1 => f1 = f ∧ J s1 w1 ∧ μ s1 w1 < μ s w) (fun f1 w1 => f1 = f ∧ Q (.exit 4) [⟨5, .pointer f.2.2.2.1, none⟩, ⟨8, .int .i64 f.2.2.2.2.1, none⟩, ⟨9, .slice f.2.2.2.2.2.1 f.2.2.2.2.2.2.1 f.2.2.2.2.2.2.2.1, none⟩, ⟨10, .slice f.2.2.2.2.2.2.2.2.1 f.2.2.2.2.2.2.2.2.2.1 f.2.2.2.2.2.2.2.2.2.2, none⟩] w1)
  simp only [true_and] at e1
  exact cast e1 hb
theorem ok_law19_BaseStays_L4 : OneOk Try.prog Try.f3.ntmps G_law19_BaseStays (codeOf Try.f3) [false, true, false, true, true, true, true, true, true, true, true, true, true] spec_law19_BaseStays_L4 := by
 intro c hc ih Q e w a hr h
 have hcc : sub (codeOf Try.f3) [false, false, true, false, true, true, true, true, true, true, true, true, true, true] = c := sub_of_codeAt hc
 obtain ⟨f, s, h, hrep⟩ := dec_law19_BaseStays_L4_ok e a _ hr h
 obtain ⟨J, μ, hj, hround⟩ := h
 refine loop_rule_deep seat_ok seat_mixed ih lit_law19_BaseStays_L4 dec_law19_BaseStays_L4 dec_law19_BaseStays_L4_ok hc f J μ (Kr := fun e w => dx_law19_BaseStays_L4_ret e fun f1 t4_2 => f1 = f ∧ Q .ret [⟨4, .bool t4_2, none⟩] w) (Kx := fun id e w => match Nat.beq id 6 with | true => (dx_law19_BaseStays_L4_6 e fun f1 => f1 = f ∧ Q (.exit 6) [] w) | false => False) ?_ ?_ ?_ s w a hj hrep
 ·intro e a w hr h0
  unfold dx_law19_BaseStays_L4_ret at h0
  obtain ⟨b_3, g5, h1⟩ := oP_elim h0
  obtain ⟨gen_2, g8, h2⟩ := oI_elim h1
  obtain ⟨pP_2, pN_2, pC_2, g9, h3⟩ := oS_elim h2
  obtain ⟨wasP_4, wasN_4, wasC_4, g10, h4⟩ := oS_elim h3
  obtain ⟨t4_2, g4, h5⟩ := oB_elim h4
  obtain ⟨hf, hq⟩ := h5
  subst hf
  exact ⟨_, rep_less hr (by simp [g4]), hq⟩
 ·intro id e a w hr h0
  (try dsimp only at h0)
  split at h0
  ·rename_i hid
   obtain rfl := Nat.eq_of_beq_eq_true hid
   unfold dx_law19_BaseStays_L4_6 at h0
   obtain ⟨b_3, g5, h1⟩ := oP_elim h0
   obtain ⟨gen_2, g8, h2⟩ := oI_elim h1
   obtain ⟨pP_2, pN_2, pC_2, g9, h3⟩ := oS_elim h2
   obtain ⟨wasP_4, wasN_4, wasC_4, g10, h4⟩ := oS_elim h3
   obtain ⟨hf, hq⟩ := h4
   subst hf
   exact ⟨_, rep_less hr (by simp), hq⟩
  ·exact h0.elim
 ·intro s w hj
  have hb := hround s w hj
  rw [← hcc]
  have e1 := body_law19_BaseStays_L4 f s w (fun f1 s1 w1 => f1 = f ∧ J s1 w1 ∧ μ s1 w1 < μ s w) (fun f1 w1 => f1 = f ∧ Q (.exit 6) [] w1) (fun f1 t4_2 w1 => f1 = f ∧ Q .ret [⟨4, .bool t4_2, none⟩] w1)
  simp only [true_and] at e1
  exact cast e1 hb
theorem loops_law19_BaseStays : LoopOk Try.prog Try.f3.ntmps G_law19_BaseStays (codeOf Try.f3) := loopOk_list rfl ⟨ok_law19_BaseStays_L1, ⟨ok_law19_BaseStays_L2, ⟨ok_law19_BaseStays_L3, ⟨ok_law19_BaseStays_L4, trivial⟩⟩⟩⟩
theorem C_law19_BaseStays.of {lP : Option Addr} {lN : Nat} {lC : Nat} {moreP : Option Addr} {moreN : Nat} {moreC : Nat} {w : World} {R : Bool → World → Prop} (h : F_law19_BaseStays lP lN lC moreP moreN moreC w R) : C_law19_BaseStays lP lN lC moreP moreN moreC w R := ofS2 (Fm := F_law19_BaseStays lP lN lC moreP moreN moreC w) Try.func3 (by kernel_rfl) loops_law19_BaseStays rfl (fun _ => by kernel_rfl) h
structure S_law19_large_L1 where
 i : Int
def B_law19_large_L1 (lP_1 : Option Addr) (lN_1 : Nat) (lC_1 : Nat) (s : S_law19_large_L1) (w : World) (Kn : S_law19_large_L1 → World → Prop) (Kx0 : World → Prop) (Kr : Bool → World → Prop) : Prop :=
 If (decide (s.i < (lN_1 : Int)))
 (If (decide (s.i < (60 : Int)))
 (0 ≤ s.i ∧ s.i < (lN_1 : Int) ∧ NN lP_1 fun a =>
 ∃ C0, w.cell? (((a.add (s.i.toNat * 14)).add 1).add 0) = some (.int .i64 C0) ∧
 ∃ C1, w.cell? (((a.add (s.i.toNat * 14)).add 1).add 1) = some (.int .i64 C1) ∧
 ∃ C2, w.cell? (((a.add (s.i.toNat * 14)).add 1).add 2) = some (.string C2) ∧
 ∃ C3P C3N C3C, w.cell? (((a.add (s.i.toNat * 14)).add 1).add 3) = some (.slice C3P C3N C3C) ∧
 ∃ C4P C4N C4C, w.cell? (((a.add (s.i.toNat * 14)).add 1).add 4) = some (.slice C4P C4N C4C) ∧
 ∃ C5, w.cell? (((a.add (s.i.toNat * 14)).add 1).add 5) = some (.int .i64 C5) ∧
 C_ref15_Large C0 C1 C2 C3P C3N C3C C4P C4N C4C C5 w fun t19 w1 =>
 If t19
 (Kr true w1)
 (0 ≤ s.i ∧ s.i < (lN_1 : Int) ∧ NN lP_1 fun a_1 =>
 ∃ CodeP CodeN CodeC, w1.cell? ((a_1.add (s.i.toNat * 14)).add 7) = some (.slice CodeP CodeN CodeC) ∧
 If (decide ((CodeN : Int) > (100 : Int)))
 (Kr true w1)
 (Kn ⟨(IntKind.i64.wrap (s.i + (1 : Int)))⟩ w1)))
 (Kx0 w))
 (Kx0 w)
def F_law19_large_L1 (lP_1 : Option Addr) (lN_1 : Nat) (lC_1 : Nat) (s : S_law19_large_L1) (w : World) (Kx0 : World → Prop) (Kr : Bool → World → Prop) : Prop :=
 LoopS (fun s w Kn => B_law19_large_L1 lP_1 lN_1 lC_1 s w Kn Kx0 Kr) s w
def F_law19_large (lP : Option Addr) (lN : Nat) (lC : Nat) (w : World) (R : Bool → World → Prop) : Prop :=
 F_law19_large_L1 lP lN lC ⟨(0 : Int)⟩ w
 (fun w1_1 =>
 R false w1_1)
 (fun t2_1 w1_2 =>
 R t2_1 w1_2)
def lit_law19_large_L1 (f : (Option Addr) × Nat × Nat) (s : S_law19_large_L1) : Env := [⟨0, .slice f.1 f.2.1 f.2.2, none⟩, ⟨3, .int .i64 s.i, none⟩]
def dec_law19_large_L1 (e : Env) (K : ((Option Addr) × Nat × Nat) → S_law19_large_L1 → Prop) : Prop :=
 oS e 0 fun lP_1 lN_1 lC_1 =>
 oI e 3 .i64 fun i =>
  K (lP_1, lN_1, lC_1) ⟨i⟩
theorem dec_law19_large_L1_ok {N : Nat} (e : Env) (a : Act) (K : ((Option Addr) × Nat × Nat) → S_law19_large_L1 → Prop) (hr : Rep N a e) (h0 : dec_law19_large_L1 e K) : ∃ f s, K f s ∧ Rep N a (lit_law19_large_L1 f s) := by
 unfold dec_law19_large_L1 at h0
 obtain ⟨lP_1, lN_1, lC_1, g0, h1⟩ := oS_elim h0
 obtain ⟨i, g3, h2⟩ := oI_elim h1
 exact ⟨_, _, h2, rep_less hr (by simp [lit_law19_large_L1, g0, g3])⟩
def spec_law19_large_L1 (Q : Post) (e : Env) (w : World) : Prop :=
 dec_law19_large_L1 e fun f s => F_law19_large_L1 f.1 f.2.1 f.2.2 s w (fun w1 => Q (.exit 0) [] w1) (fun t2 w1 => Q .ret [⟨2, .bool t2, none⟩] w1)
def G_law19_large : Gen where
 loop := lookL [([false, true, false, true], spec_law19_large_L1)]
 plan := fun _ => none
def dx_law19_large_L1_0 (e : Env) (K : ((Option Addr) × Nat × Nat) → Prop) : Prop :=
 oS e 0 fun lP_1 lN_1 lC_1 =>
  K (lP_1, lN_1, lC_1)
def dx_law19_large_L1_ret (e : Env) (K : ((Option Addr) × Nat × Nat) → Bool → Prop) : Prop :=
 oS e 0 fun lP_1 lN_1 lC_1 =>
 oB e 2 fun t2 =>
  K (lP_1, lN_1, lC_1) t2
theorem body_law19_large_L1 (f : (Option Addr) × Nat × Nat) (s : S_law19_large_L1) (w : World) (Kn : ((Option Addr) × Nat × Nat) → S_law19_large_L1 → World → Prop) (Kx0 : ((Option Addr) × Nat × Nat) → World → Prop) (Kr : ((Option Addr) × Nat × Nat) → Bool → World → Prop) :
  B_law19_large_L1 f.1 f.2.1 f.2.2 s w (fun s1 w1 => Kn f s1 w1) (fun w1 => Kx0 f w1) (fun t2 w1 => Kr f t2 w1) =
  den Try.prog Try.f5.ntmps G_law19_large (sub (codeOf Try.f5) [false, false, true, false, true]) [false, false, true, false, true] (roundQ (fun e w => dec_law19_large_L1 e fun f s => Kn f s w) (fun e w => dx_law19_large_L1_ret e fun f t2 => Kr f t2 w) (fun id e w => match Nat.beq id 0 with | true => dx_law19_large_L1_0 e fun f => Kx0 f w | false => False)) (lit_law19_large_L1 f s) w := by kernel_rfl
theorem ok_law19_large_L1 : OneOk Try.prog Try.f5.ntmps G_law19_large (codeOf Try.f5) [false, true, false, true] spec_law19_large_L1 := by
 intro c hc ih Q e w a hr h
 have hcc : sub (codeOf Try.f5) [false, false, true, false, true] = c := sub_of_codeAt hc
 obtain ⟨f, s, h, hrep⟩ := dec_law19_large_L1_ok e a _ hr h
 obtain ⟨J, μ, hj, hround⟩ := h
 refine loop_rule_deep seat_ok seat_mixed ih lit_law19_large_L1 dec_law19_large_L1 dec_law19_large_L1_ok hc f J μ (Kr := fun e w => dx_law19_large_L1_ret e fun f1 t2 => f1 = f ∧ Q .ret [⟨2, .bool t2, none⟩] w) (Kx := fun id e w => match Nat.beq id 0 with | true => (dx_law19_large_L1_0 e fun f1 => f1 = f ∧ Q (.exit 0) [] w) | false => False) ?_ ?_ ?_ s w a hj hrep
 ·intro e a w hr h0
  unfold dx_law19_large_L1_ret at h0
  obtain ⟨lP_1, lN_1, lC_1, g0, h1⟩ := oS_elim h0
  obtain ⟨t2, g2, h2⟩ := oB_elim h1
  obtain ⟨hf, hq⟩ := h2
  subst hf
  exact ⟨_, rep_less hr (by simp [g2]), hq⟩
 ·intro id e a w hr h0
  (try dsimp only at h0)
  split at h0
  ·rename_i hid
   obtain rfl := Nat.eq_of_beq_eq_true hid
   unfold dx_law19_large_L1_0 at h0
   obtain ⟨lP_1, lN_1, lC_1, g0, h1⟩ := oS_elim h0
   obtain ⟨hf, hq⟩ := h1
   subst hf
   exact ⟨_, rep_less hr (by simp), hq⟩
  ·exact h0.elim
 ·intro s w hj
  have hb := hround s w hj
  rw [← hcc]
  have e1 := body_law19_large_L1 f s w (fun f1 s1 w1 => f1 = f ∧ J s1 w1 ∧ μ s1 w1 < μ s w) (fun f1 w1 => f1 = f ∧ Q (.exit 0) [] w1) (fun f1 t2 w1 => f1 = f ∧ Q .ret [⟨2, .bool t2, none⟩] w1)
  simp only [true_and] at e1
  exact cast e1 hb
theorem loops_law19_large : LoopOk Try.prog Try.f5.ntmps G_law19_large (codeOf Try.f5) := loopOk_list rfl ⟨ok_law19_large_L1, trivial⟩
theorem C_law19_large.of {lP : Option Addr} {lN : Nat} {lC : Nat} {w : World} {R : Bool → World → Prop} (h : F_law19_large lP lN lC w R) : C_law19_large lP lN lC w R := ofS2 (Fm := F_law19_large lP lN lC w) Try.func5 (by kernel_rfl) loops_law19_large rfl (fun _ => by kernel_rfl) h
def F_law19_lives_k1 (R : Bool → World → Prop) (w1_36 : World) : Prop :=
 R false w1_36
def F_law19_lives (w : World) (R : Bool → World → Prop) : Prop :=
 C_base_New (3 : Int) w fun t210 t211 w1 =>
 If (t211 != (0 : Int))
 (R false w1)
 (If t210.isNone
 (R false w1)
 (C_law19_fact (1 : Int) w1 fun t320 t321 t322 t323P t323N t323C t324P t324N t324C t325 w1_1 =>
 BSl Try.prog 35 1 [(0, .agg #[.int .i64 25, .string ⟨#[]⟩, .int .i64 0, .int .i64 0, .int .i64 0])] w1_1 fun t34P t34N t34C w1_2 =>
 C_base_Base_Add t210 t320 t321 t322 t323P t323N t323C t324P t324N t324C t325 t34P t34N t34C false w1_2 fun t350 t351 w1_3 =>
 C_law19_fact (2 : Int) w1_3 fun t400 t401 t402 t403P t403N t403C t404P t404N t404C t405 w1_4 =>
 C_base_Base_Add t210 t400 t401 t402 t403P t403N t403C t404P t404N t404C t405 none 0 0 true w1_4 fun t410 t411 w1_5 =>
 C_base_Base_Kill t210 t350 w1_5 fun t46 w1_6 =>
 C_base_Base_Head t210 ⟨#[112]⟩ (1 : Int) (0 : Int) ⟨#[]⟩ (0 : Int) (2 : Int) w1_6 fun t500 t501 w1_7 =>
 C_base_Base_Next t210 t500 (0 : Int) ⟨#[]⟩ (0 : Int) (2 : Int) w1_7 fun t570 t571 w1_8 =>
 C_base_Base_Next t210 t500 (0 : Int) ⟨#[]⟩ (0 : Int) (3 : Int) w1_8 fun t640 t641 w1_9 =>
 C_base_Base_Clause t210 t410 w1_9 fun t7000 t7001 t7002 t7003P t7003N t7003C t7004P t7004N t7004C t7005 t701 w1_10 =>
 New w1_10 (.cells #[.int .i64 0, .int .i64 0, .string ⟨#[]⟩, .slice none 0 0, .slice none 0 0, .int .i64 0] 34) fun r w1_11 =>
 St w1_11 (Addr.add ⟨r, 0, none⟩ 0) (.int .i64 t7000) fun w1_12 =>
 St w1_12 (Addr.add ⟨r, 0, none⟩ 1) (.int .i64 t7001) fun w1_13 =>
 St w1_13 (Addr.add ⟨r, 0, none⟩ 2) (.string t7002) fun w1_14 =>
 St w1_14 (Addr.add ⟨r, 0, none⟩ 3) (.slice t7003P t7003N t7003C) fun w1_15 =>
 St w1_15 (Addr.add ⟨r, 0, none⟩ 4) (.slice t7004P t7004N t7004C) fun w1_16 =>
 St w1_16 (Addr.add ⟨r, 0, none⟩ 5) (.int .i64 t7005) fun w1_17 =>
 C_base_Base_At t210 t350 (0 : Int) w1_17 fun t7600 t7601 t7602 t7603 t7604 t761 w1_18 =>
 New w1_18 (.cells #[.int .i64 0, .string ⟨#[]⟩, .int .i64 0, .int .i64 0, .int .i64 0] 60) fun r_1 w1_19 =>
 St w1_19 (Addr.add ⟨r_1, 0, none⟩ 0) (.int .i64 t7600) fun w1_20 =>
 St w1_20 (Addr.add ⟨r_1, 0, none⟩ 1) (.string t7601) fun w1_21 =>
 St w1_21 (Addr.add ⟨r_1, 0, none⟩ 2) (.int .i64 t7602) fun w1_22 =>
 St w1_22 (Addr.add ⟨r_1, 0, none⟩ 3) (.int .i64 t7603) fun w1_23 =>
 St w1_23 (Addr.add ⟨r_1, 0, none⟩ 4) (.int .i64 t7604) fun w1_24 =>
 C_base_New (0 : Int) w1_24 fun t800 t801 w1_25 =>
 If (t350 == (0 : Int))
 (If (t351 == (0 : Int))
 (If (t410 == (1 : Int))
 (If (t411 == (0 : Int))
 (If (t46 == (0 : Int))
 (C_base_Base_Generation t210 (drw w1_25) fun t103 w1_26 =>
 If (t103 == (3 : Int))
 (If t501
 (If (t500 == t410)
 (If t571
 (If (t570 == t350)
 (If (!t641)
 (C_base_Base_Lives t210 t350 (2 : Int) w1_26 fun t129 w1_27 =>
 If t129
 (C_base_Base_Lives t210 t350 (3 : Int) w1_27 fun t134 w1_28 =>
 If (!t134)
 (C_base_Base_Known t210 ⟨#[112]⟩ (1 : Int) w1_28 fun t139 w1_29 =>
 If t139
 (C_base_Base_Known t210 ⟨#[112]⟩ (2 : Int) w1_29 fun t143 w1_30 =>
 If (!t143)
 (If (t701 == (0 : Int))
 (∃ Head0, w1_30.cell? ((Addr.add ⟨r, 0, none⟩ 0).add 0) = some (.int .i64 Head0) ∧
 ∃ Head1, w1_30.cell? ((Addr.add ⟨r, 0, none⟩ 0).add 1) = some (.int .i64 Head1) ∧
 ∃ Head2, w1_30.cell? ((Addr.add ⟨r, 0, none⟩ 0).add 2) = some (.string Head2) ∧
 ∃ Head3P Head3N Head3C, w1_30.cell? ((Addr.add ⟨r, 0, none⟩ 0).add 3) = some (.slice Head3P Head3N Head3C) ∧
 C_law19_fact (2 : Int) w1_30 fun t1530 t1531 t1532 t1533P t1533N t1533C t1534P t1534N t1534C t1535 w1_31 =>
 (∀ i_, i_ < 4 → w1_31.cell? ((Addr.add ⟨r, 0, none⟩ 0).add i_) = w1_30.cell? ((Addr.add ⟨r, 0, none⟩ 0).add i_)) ∧
 C_ref06_Exact Head0 Head1 Head2 Head3P Head3N Head3C t1530 t1531 t1532 t1533P t1533N t1533C w1_31 fun t155 w1_32 =>
 If t155
 (If t761
 (∃ Op, w1_32.cell? (Addr.add ⟨r_1, 0, none⟩ 0) = some (.int .i64 Op) ∧
 If (Op == (25 : Int))
 (C_base_Base_Size t210 t350 w1_32 fun t168 w1_33 =>
 If (t168 == (1 : Int))
 (C_base_Base_Preds t210 w1_33 fun t173P t173N t173C w1_34 =>
 If ((t173N : Int) == (1 : Int))
 (C_base_Base_Slots t210 w1_34 fun t179 w1_35 =>
 If (t179 == (2 : Int))
 (R (t801 == (1 : Int)) w1_35)
 (F_law19_lives_k1 R w1_35))
 (F_law19_lives_k1 R w1_34))
 (F_law19_lives_k1 R w1_33))
 (F_law19_lives_k1 R w1_32))
 (F_law19_lives_k1 R w1_32))
 (F_law19_lives_k1 R w1_32))
 (F_law19_lives_k1 R w1_30))
 (F_law19_lives_k1 R w1_30))
 (F_law19_lives_k1 R w1_29))
 (F_law19_lives_k1 R w1_28))
 (F_law19_lives_k1 R w1_27))
 (F_law19_lives_k1 R w1_26))
 (F_law19_lives_k1 R w1_26))
 (F_law19_lives_k1 R w1_26))
 (F_law19_lives_k1 R w1_26))
 (F_law19_lives_k1 R w1_26))
 (F_law19_lives_k1 R w1_26))
 (F_law19_lives_k1 R (drw w1_25)))
 (F_law19_lives_k1 R (drw w1_25)))
 (F_law19_lives_k1 R (drw w1_25)))
 (F_law19_lives_k1 R (drw w1_25)))
 (F_law19_lives_k1 R (drw w1_25))))
def G_law19_lives : Gen where
 loop := lookL []
 plan := fun id =>
  bif Nat.beq id 13 then some ([0, 1, 3, 7, 15, 31, 63, 127, 255, 511, 1023, 2047, 4095, 8191, 16383, 32767, 65535, 131071, 262143, 524287, 1048575, 2097151, 4194303, 8388607, 16777215, 33554431, 67108863, 134217727, 134217727, 536870911, 1073741823, 2147483647, 4294967295, 8589934591, 17179869183, 34359738367, 34359738367, 137438953471, 274877906943, 549755813887, 1099511627775, 2199023255551, 4398046511103, 8796093022207, 17592186044415, 17592186044415, 70368744177663, 140737488355327, 281474976710655, 562949953421311, 562949953421311, 2251799813685247, 4503599627370495, 9007199254740991, 18014398509481983, 36028797018963967, 72057594037927935, 144115188075855871, 288230376151711743, 576460752303423487, 1152921504606846975, 2305843009213693951, 4611686018427387903, 9223372036854775807, 18446744073709551615, 36893488147419103231, 73786976294838206463, 147573952589676412927, 295147905179352825855, 590295810358705651711, 295147905179352825855, 1475739525896764129279, 4722366482869645213695, 9444732965739290427391, 18889465931478580854783, 37778931862957161709567, 75557863725914323419135, 151115727451828646838271, 302231454903657293676543, 604462909807314587353087, 1208925819614629174706175, 2417851639229258349412351, 4835703278458516698824703, 9671406556917033397649407, 9671406556917033397649407, 38685626227668133590597631, 77371252455336267181195263, 154742504910672534362390527, 309485009821345068724781055, 618970019642690137449562111, 1237940039285380274899124223, 2475880078570760549798248447, 4951760157141521099596496895, 9903520314283042199192993791, 19807040628566084398385987583, 39614081257132168796771975167, 79228162514264337593543950335, 158456325028528675187087900671, 316912650057057350374175801343, 633825300114114700748351602687, 1267650600228229401496703205375, 2535301200456458802993406410751, 5070602400912917605986812821503, 10141204801825835211973625643007], .take 0 (.take 1 (.take 2 (.take 3 (.take 4 (.take 5 (.take 6 (.take 7 (.take 8 (.take 9 (.take 10 (.take 11 (.take 12 (.take 13 (.take 14 (.take 15 (.take 16 (.take 17 (.take 18 (.take 19 (.take 20 (.take 21 (.take 22 (.take 23 (.take 24 (.take 25 (.take 26 (.take 27 (.take 28 (.take 29 (.take 30 (.take 31 (.take 32 (.take 33 (.take 34 (.take 35 (.take 36 (.take 37 (.take 38 (.take 39 (.take 40 (.take 41 (.take 42 (.take 43 (.take 44 (.take 45 (.take 46 (.take 47 (.take 48 (.take 49 (.take 50 (.take 51 (.take 52 (.take 53 (.take 54 (.take 55 (.take 56 (.take 57 (.take 58 (.take 59 (.take 60 (.take 61 (.take 62 (.take 63 (.take 64 (.take 65 (.take 66 (.take 67 (.take 68 (.take 69 (.take 70 (.take 71 (.take 72 (.take 73 (.take 74 (.take 75 (.take 76 (.take 77 (.take 78 (.take 79 (.take 80 (.take 81 (.take 82 (.take 83 (.take 84 (.take 85 (.take 86 (.take 87 (.take 88 (.take 89 (.take 90 (.take 91 (.take 92 (.take 93 (.take 94 (.take 95 (.take 96 (.take 97 (.take 98 (.take 99 (.take 100 (.take 101 (.take 102 (.take 103 .done)))))))))))))))))))))))))))))))))))))))))))))))))))))))))))))))))))))))))))))))))))))))))))))))))))))))) else none
theorem C_law19_lives.of {w : World} {R : Bool → World → Prop} (h : F_law19_lives w R) : C_law19_lives w R := ofS2 (Fm := F_law19_lives w) Try.func6 (by kernel_rfl) (L1 G_law19_lives Try.f6 fun _ => rfl) rfl (fun _ => by kernel_rfl) h
end Go.Proofs.Ytlndgaijekihiaa
