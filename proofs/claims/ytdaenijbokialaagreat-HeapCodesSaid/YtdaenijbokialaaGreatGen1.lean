import Derived.Test.YtdaenijbokialaaGreatGenC
set_option maxRecDepth 100000
set_option linter.unusedVariables false
namespace Go.Proofs.YtdaenijbokialaaGreat
open Go Go.D Go.Proofs
structure S_law20_HeapCodes_L1 where
  i : Int
structure S_law20_HeapCodes_L2 where
  i_1 : Int
structure S_law20_HeapCodes_L3 where
  i_2 : Int
def F_law20_HeapCodes_k1 (R : Bool → World → Prop) (w1_4 : World) : Prop :=
  R false w1_4
def F_law20_HeapCodes_k3 (s : S_law20_HeapCodes_L2) (Kn : S_law20_HeapCodes_L2 → World → Prop) (w1_18 : World) : Prop :=
  Kn ⟨(IntKind.i64.wrap (s.i_1 + (1 : Int)))⟩ w1_18
def F_law20_HeapCodes_k2 (s : S_law20_HeapCodes_L2) (Kn : S_law20_HeapCodes_L2 → World → Prop) (w1_17 : World) : Prop :=
  F_law20_HeapCodes_k3 s Kn w1_17
def B_law20_HeapCodes_L1 (lP_1 : Option Addr) (lN_1 : Nat) (lC_1 : Nat) (hx : Option Addr) (s : S_law20_HeapCodes_L1) (w : World) (Kn : S_law20_HeapCodes_L1 → World → Prop) (Kx0 : World → Prop) (Kr : Bool → World → Prop) : Prop :=
  If (decide (s.i < (lN_1 : Int)))
  (0 ≤ s.i ∧ s.i < (lN_1 : Int) ∧ NN lP_1 fun a =>
  ∃ t430, w.cell? ((a.add (s.i.toNat * 4)).add 0) = some (.int .i64 t430) ∧
  ∃ t431, w.cell? ((a.add (s.i.toNat * 4)).add 1) = some (.int .i64 t431) ∧
  ∃ t432, w.cell? ((a.add (s.i.toNat * 4)).add 2) = some (.string t432) ∧
  ∃ t433P t433N t433C, w.cell? ((a.add (s.i.toNat * 4)).add 3) = some (.slice t433P t433N t433C) ∧
  C_ref06_Check t430 t431 t432 t433P t433N t433C w fun t44 w1_5 =>
  If (t44 != (0 : Int))
  (0 ≤ s.i ∧ s.i < (lN_1 : Int) ∧ NN lP_1 fun a_1 =>
  ∃ t520, w1_5.cell? ((a_1.add (s.i.toNat * 4)).add 0) = some (.int .i64 t520) ∧
  ∃ t521, w1_5.cell? ((a_1.add (s.i.toNat * 4)).add 1) = some (.int .i64 t521) ∧
  ∃ t522, w1_5.cell? ((a_1.add (s.i.toNat * 4)).add 2) = some (.string t522) ∧
  ∃ t523P t523N t523C, w1_5.cell? ((a_1.add (s.i.toNat * 4)).add 3) = some (.slice t523P t523N t523C) ∧
  C_heap_Heap_Encode hx t520 t521 t522 t523P t523N t523C none w1_5 fun t530 t531 w1_6 =>
  Kr (t531 == t44) w1_6)
  (Kn ⟨(IntKind.i64.wrap (s.i + (1 : Int)))⟩ w1_5))
  (Kx0 w)
def F_law20_HeapCodes_L1 (lP_1 : Option Addr) (lN_1 : Nat) (lC_1 : Nat) (hx : Option Addr) (s : S_law20_HeapCodes_L1) (w : World) (Kx0 : World → Prop) (Kr : Bool → World → Prop) : Prop :=
  LoopS (fun s w Kn => B_law20_HeapCodes_L1 lP_1 lN_1 lC_1 hx s w Kn Kx0 Kr) s w
def B_law20_HeapCodes_L2 (lP_2 : Option Addr) (lN_2 : Nat) (lC_2 : Nat) (hx_1 : Option Addr) (vars : Option Nat) (wsP : Option Addr) (wsN : Nat) (wsC : Nat) (vP : Option Addr) (vN : Nat) (vC : Nat) (s : S_law20_HeapCodes_L2) (w : World) (Kn : S_law20_HeapCodes_L2 → World → Prop) (Kx2 : World → Prop) (Kr : Bool → World → Prop) : Prop :=
  If (decide (s.i_1 < (lN_2 : Int)))
  (0 ≤ s.i_1 ∧ s.i_1 < (wsN : Int) ∧ NN wsP fun a_2 =>
  ∃ t96, (drw w).cell? (a_2.add (s.i_1.toNat * 1)) = some (.int .u64 t96) ∧
  0 ≤ s.i_1 ∧ s.i_1 < (lN_2 : Int) ∧ NN lP_2 fun a_3 =>
  ∃ t1010, (drw w).cell? ((a_3.add (s.i_1.toNat * 4)).add 0) = some (.int .i64 t1010) ∧
  ∃ t1011, (drw w).cell? ((a_3.add (s.i_1.toNat * 4)).add 1) = some (.int .i64 t1011) ∧
  ∃ t1012, (drw w).cell? ((a_3.add (s.i_1.toNat * 4)).add 2) = some (.string t1012) ∧
  ∃ t1013P t1013N t1013C, (drw w).cell? ((a_3.add (s.i_1.toNat * 4)).add 3) = some (.slice t1013P t1013N t1013C) ∧
  C_heap_Heap_Key hx_1 t96 (drw w) fun t970 t971 t972 w1_14 =>
  (∀ i_, i_ < 4 → w1_14.cell? ((a_3.add (s.i_1.toNat * 4)).add i_) = (drw w).cell? ((a_3.add (s.i_1.toNat * 4)).add i_)) ∧
  C_ref18_KeyOf t1010 t1011 t1012 t1013P t1013N t1013C w1_14 fun t1020 t1021 t1022 w1_15 =>
  AggEq Tryz.prog 43 (.agg #[.int .i64 t970, .string t971, .int .i64 t972]) (.agg #[.int .i64 t1020, .string t1021, .int .i64 t1022]) fun bb =>
  If (!bb)
  (Kr false w1_15)
  (0 ≤ s.i_1 ∧ s.i_1 < (lN_2 : Int) ∧ NN lP_2 fun a_4 =>
  ∃ Kind, w1_15.cell? ((a_4.add (s.i_1.toNat * 4)).add 0) = some (.int .i64 Kind) ∧
  If (Kind != (1 : Int))
  (0 ≤ s.i_1 ∧ s.i_1 < (wsN : Int) ∧ NN wsP fun a_5 =>
  ∃ t116, w1_15.cell? (a_5.add (s.i_1.toNat * 1)) = some (.int .u64 t116) ∧
  0 ≤ s.i_1 ∧ s.i_1 < (lN_2 : Int) ∧ NN lP_2 fun a_6 =>
  ∃ S, w1_15.cell? ((a_6.add (s.i_1.toNat * 4)).add 2) = some (.string S) ∧
  0 ≤ s.i_1 ∧ s.i_1 < (lN_2 : Int) ∧ NN lP_2 fun a_7 =>
  ∃ LP LN LC, w1_15.cell? ((a_7.add (s.i_1.toNat * 4)).add 3) = some (.slice LP LN LC) ∧
  C_heap_Heap_Is hx_1 t116 S (LN : Int) w1_15 fun t128 w1_16 =>
  If (!t128)
  (0 ≤ s.i_1 ∧ s.i_1 < (lN_2 : Int) ∧ NN lP_2 fun a_8 =>
  ∃ Kind_1, w1_16.cell? ((a_8.add (s.i_1.toNat * 4)).add 0) = some (.int .i64 Kind_1) ∧
  If (Kind_1 != (2 : Int))
  (Kr false w1_16)
  (F_law20_HeapCodes_k3 s Kn w1_16))
  (F_law20_HeapCodes_k2 s Kn w1_16))
  (F_law20_HeapCodes_k2 s Kn w1_15)))
  (Kx2 w)
def F_law20_HeapCodes_L2 (lP_2 : Option Addr) (lN_2 : Nat) (lC_2 : Nat) (hx_1 : Option Addr) (vars : Option Nat) (wsP : Option Addr) (wsN : Nat) (wsC : Nat) (vP : Option Addr) (vN : Nat) (vC : Nat) (s : S_law20_HeapCodes_L2) (w : World) (Kx2 : World → Prop) (Kr : Bool → World → Prop) : Prop :=
  LoopS (fun s w Kn => B_law20_HeapCodes_L2 lP_2 lN_2 lC_2 hx_1 vars wsP wsN wsC vP vN vC s w Kn Kx2 Kr) s w
def B_law20_HeapCodes_L3 (hx_2 : Option Addr) (vars_1 : Option Nat) (vP_1 : Option Addr) (vN_1 : Nat) (vC_1 : Nat) (s : S_law20_HeapCodes_L3) (w : World) (Kn : S_law20_HeapCodes_L3 → World → Prop) (Kx4 : World → Prop) (Kr : Bool → World → Prop) : Prop :=
  If (decide (s.i_2 < (vN_1 : Int)))
  (0 ≤ s.i_2 ∧ s.i_2 < (vN_1 : Int) ∧ NN vP_1 fun a_9 =>
  ∃ t150, (drw w).cell? (a_9.add (s.i_2.toNat * 1)) = some (.int .u64 t150) ∧
  0 ≤ s.i_2 ∧ s.i_2 < (vN_1 : Int) ∧ NN vP_1 fun a_10 =>
  ∃ t155, (drw w).cell? (a_10.add (s.i_2.toNat * 1)) = some (.int .u64 t155) ∧
  C_heap_Heap_Deref hx_2 t150 (drw w) fun t151 w1_21 =>
  w1_21.cell? (a_10.add (s.i_2.toNat * 1)) = (drw w).cell? (a_10.add (s.i_2.toNat * 1)) ∧
  If (t151 != t155)
  (Kr false w1_21)
  (Kn ⟨(IntKind.i64.wrap (s.i_2 + (1 : Int)))⟩ w1_21))
  (Kx4 w)
def F_law20_HeapCodes_L3 (hx_2 : Option Addr) (vars_1 : Option Nat) (vP_1 : Option Addr) (vN_1 : Nat) (vC_1 : Nat) (s : S_law20_HeapCodes_L3) (w : World) (Kx4 : World → Prop) (Kr : Bool → World → Prop) : Prop :=
  LoopS (fun s w Kn => B_law20_HeapCodes_L3 hx_2 vars_1 vP_1 vN_1 vC_1 s w Kn Kx4 Kr) s w
def F_law20_HeapCodes (lP : Option Addr) (lN : Nat) (lC : Nat) (w : World) (R : Bool → World → Prop) : Prop :=
  C_law20_large lP lN lC w fun t18 w1 =>
  If t18
  (C_law20_lives  w1 fun t19 w1_1 =>
  R t19 w1_1)
  (C_heap_New (131072 : Int) (100 : Int) w1 fun t210 t211 w1_2 =>
  C_law20_lives  w1_2 fun t24 w1_3 =>
  If (!t24)
  (F_law20_HeapCodes_k1 R w1_3)
  (If (t211 != (0 : Int))
  (F_law20_HeapCodes_k1 R w1_3)
  (If t210.isNone
  (R false w1_3)
  (F_law20_HeapCodes_L1 lP lN lC t210 ⟨(0 : Int)⟩ w1_3
  (fun w1_7 =>
  New w1_7 (.map #[] 0) fun r w1_9 =>
  C_law20_encode t210 lP lN lC (some r) w1_9 fun t63P t63N t63C w1_10 =>
  If ((t63N : Int) != (lN : Int))
  (R false w1_10)
  (C_heap_Heap_Decode t210 t63P t63N t63C w1_10 fun t720P t720N t720C t721P t721N t721C t722 w1_11 =>
  C_ref20_Renamed lP lN lC w1_11 fun t77P t77N t77C w1_12 =>
  If (t722 != (0 : Int))
  (R false w1_12)
  (C_ref07_Same t720P t720N t720C t77P t77N t77C w1_12 fun t83 w1_13 =>
  If (!t83)
  (R false w1_13)
  (F_law20_HeapCodes_L2 lP lN lC t210 (some r) t63P t63N t63C t721P t721N t721C ⟨(0 : Int)⟩ w1_13
  (fun w1_19 =>
  F_law20_HeapCodes_L3 t210 (some r) t721P t721N t721C ⟨(0 : Int)⟩ w1_19
  (fun w1_22 =>
  MLen Tryz.prog #[35] 3 #[.map (some r)] w1_22 fun t160 w1_24 =>
  R ((t721N : Int) == t160) w1_24)
  (fun t2_5 w1_23 =>
  R t2_5 w1_23))
  (fun t2_3 w1_20 =>
  R t2_3 w1_20)))))
  (fun t2_1 w1_8 =>
  R t2_1 w1_8)))))
def lit_law20_HeapCodes_L1 (f : (Option Addr) × Nat × Nat × (Option Addr)) (s : S_law20_HeapCodes_L1) : Env := [⟨0, .slice f.1 f.2.1 f.2.2.1, none⟩, ⟨3, .pointer f.2.2.2, none⟩, ⟨5, .int .i64 s.i, none⟩]
def dec_law20_HeapCodes_L1 (e : Env) (K : ((Option Addr) × Nat × Nat × (Option Addr)) → S_law20_HeapCodes_L1 → Prop) : Prop :=
  oS e 0 fun lP_1 lN_1 lC_1 =>
  oP e 3 fun hx =>
  oI e 5 .i64 fun i =>
    K (lP_1, lN_1, lC_1, hx) ⟨i⟩
theorem dec_law20_HeapCodes_L1_ok {N : Nat} (e : Env) (a : Act) (K : ((Option Addr) × Nat × Nat × (Option Addr)) → S_law20_HeapCodes_L1 → Prop) (hr : Rep N a e) (h0 : dec_law20_HeapCodes_L1 e K) : ∃ f s, K f s ∧ Rep N a (lit_law20_HeapCodes_L1 f s) := by
  unfold dec_law20_HeapCodes_L1 at h0
  obtain ⟨lP_1, lN_1, lC_1, g0, h1⟩ := oS_elim h0
  obtain ⟨hx, g3, h2⟩ := oP_elim h1
  obtain ⟨i, g5, h3⟩ := oI_elim h2
  exact ⟨_, _, h3, rep_less hr (by simp [lit_law20_HeapCodes_L1, g0, g3, g5])⟩
def spec_law20_HeapCodes_L1 (Q : Post) (e : Env) (w : World) : Prop :=
  dec_law20_HeapCodes_L1 e fun f s => F_law20_HeapCodes_L1 f.1 f.2.1 f.2.2.1 f.2.2.2 s w (fun w1 => Q (.exit 0) [⟨0, .slice f.1 f.2.1 f.2.2.1, none⟩, ⟨3, .pointer f.2.2.2, none⟩] w1) (fun t2 w1 => Q .ret [⟨2, .bool t2, none⟩] w1)
def lit_law20_HeapCodes_L2 (f : (Option Addr) × Nat × Nat × (Option Addr) × (Option Nat) × (Option Addr) × Nat × Nat × (Option Addr) × Nat × Nat) (s : S_law20_HeapCodes_L2) : Env := [⟨0, .slice f.1 f.2.1 f.2.2.1, none⟩, ⟨3, .pointer f.2.2.2.1, none⟩, ⟨9, .map f.2.2.2.2.1, none⟩, ⟨10, .slice f.2.2.2.2.2.1 f.2.2.2.2.2.2.1 f.2.2.2.2.2.2.2.1, none⟩, ⟨12, .slice f.2.2.2.2.2.2.2.2.1 f.2.2.2.2.2.2.2.2.2.1 f.2.2.2.2.2.2.2.2.2.2, none⟩, ⟨15, .int .i64 s.i_1, none⟩]
def dec_law20_HeapCodes_L2 (e : Env) (K : ((Option Addr) × Nat × Nat × (Option Addr) × (Option Nat) × (Option Addr) × Nat × Nat × (Option Addr) × Nat × Nat) → S_law20_HeapCodes_L2 → Prop) : Prop :=
  oS e 0 fun lP_2 lN_2 lC_2 =>
  oP e 3 fun hx_1 =>
  oM e 9 fun vars =>
  oS e 10 fun wsP wsN wsC =>
  oS e 12 fun vP vN vC =>
  oI e 15 .i64 fun i_1 =>
    K (lP_2, lN_2, lC_2, hx_1, vars, wsP, wsN, wsC, vP, vN, vC) ⟨i_1⟩
theorem dec_law20_HeapCodes_L2_ok {N : Nat} (e : Env) (a : Act) (K : ((Option Addr) × Nat × Nat × (Option Addr) × (Option Nat) × (Option Addr) × Nat × Nat × (Option Addr) × Nat × Nat) → S_law20_HeapCodes_L2 → Prop) (hr : Rep N a e) (h0 : dec_law20_HeapCodes_L2 e K) : ∃ f s, K f s ∧ Rep N a (lit_law20_HeapCodes_L2 f s) := by
  unfold dec_law20_HeapCodes_L2 at h0
  obtain ⟨lP_2, lN_2, lC_2, g0, h1⟩ := oS_elim h0
  obtain ⟨hx_1, g3, h2⟩ := oP_elim h1
  obtain ⟨vars, g9, h3⟩ := oM_elim h2
  obtain ⟨wsP, wsN, wsC, g10, h4⟩ := oS_elim h3
  obtain ⟨vP, vN, vC, g12, h5⟩ := oS_elim h4
  obtain ⟨i_1, g15, h6⟩ := oI_elim h5
  exact ⟨_, _, h6, rep_less hr (by simp [lit_law20_HeapCodes_L2, g0, g3, g9, g10, g12, g15])⟩
def spec_law20_HeapCodes_L2 (Q : Post) (e : Env) (w : World) : Prop :=
  dec_law20_HeapCodes_L2 e fun f s => F_law20_HeapCodes_L2 f.1 f.2.1 f.2.2.1 f.2.2.2.1 f.2.2.2.2.1 f.2.2.2.2.2.1 f.2.2.2.2.2.2.1 f.2.2.2.2.2.2.2.1 f.2.2.2.2.2.2.2.2.1 f.2.2.2.2.2.2.2.2.2.1 f.2.2.2.2.2.2.2.2.2.2 s w (fun w1 => Q (.exit 2) [⟨3, .pointer f.2.2.2.1, none⟩, ⟨9, .map f.2.2.2.2.1, none⟩, ⟨12, .slice f.2.2.2.2.2.2.2.2.1 f.2.2.2.2.2.2.2.2.2.1 f.2.2.2.2.2.2.2.2.2.2, none⟩] w1) (fun t2_2 w1 => Q .ret [⟨2, .bool t2_2, none⟩] w1)
def lit_law20_HeapCodes_L3 (f : (Option Addr) × (Option Nat) × (Option Addr) × Nat × Nat) (s : S_law20_HeapCodes_L3) : Env := [⟨3, .pointer f.1, none⟩, ⟨9, .map f.2.1, none⟩, ⟨12, .slice f.2.2.1 f.2.2.2.1 f.2.2.2.2, none⟩, ⟨16, .int .i64 s.i_2, none⟩]
def dec_law20_HeapCodes_L3 (e : Env) (K : ((Option Addr) × (Option Nat) × (Option Addr) × Nat × Nat) → S_law20_HeapCodes_L3 → Prop) : Prop :=
  oP e 3 fun hx_2 =>
  oM e 9 fun vars_1 =>
  oS e 12 fun vP_1 vN_1 vC_1 =>
  oI e 16 .i64 fun i_2 =>
    K (hx_2, vars_1, vP_1, vN_1, vC_1) ⟨i_2⟩
theorem dec_law20_HeapCodes_L3_ok {N : Nat} (e : Env) (a : Act) (K : ((Option Addr) × (Option Nat) × (Option Addr) × Nat × Nat) → S_law20_HeapCodes_L3 → Prop) (hr : Rep N a e) (h0 : dec_law20_HeapCodes_L3 e K) : ∃ f s, K f s ∧ Rep N a (lit_law20_HeapCodes_L3 f s) := by
  unfold dec_law20_HeapCodes_L3 at h0
  obtain ⟨hx_2, g3, h1⟩ := oP_elim h0
  obtain ⟨vars_1, g9, h2⟩ := oM_elim h1
  obtain ⟨vP_1, vN_1, vC_1, g12, h3⟩ := oS_elim h2
  obtain ⟨i_2, g16, h4⟩ := oI_elim h3
  exact ⟨_, _, h4, rep_less hr (by simp [lit_law20_HeapCodes_L3, g3, g9, g12, g16])⟩
def spec_law20_HeapCodes_L3 (Q : Post) (e : Env) (w : World) : Prop :=
  dec_law20_HeapCodes_L3 e fun f s => F_law20_HeapCodes_L3 f.1 f.2.1 f.2.2.1 f.2.2.2.1 f.2.2.2.2 s w (fun w1 => Q (.exit 4) [⟨9, .map f.2.1, none⟩, ⟨12, .slice f.2.2.1 f.2.2.2.1 f.2.2.2.2, none⟩] w1) (fun t2_4 w1 => Q .ret [⟨2, .bool t2_4, none⟩] w1)
def G_law20_HeapCodes : Gen where
  loop := lookL [([false, true, false, true, true, true, true], spec_law20_HeapCodes_L1), ([false, true, false, true, true, true, true, true, true, true, true, true, true, true], spec_law20_HeapCodes_L2), ([false, true, false, true, true, true, true, true, true, true, true, true, true, true, true], spec_law20_HeapCodes_L3)]
  plan := fun id =>
    bif Nat.beq id 24 then some ([0, 0, 0, 6, 14, 31, 0, 0, 192, 448, 1023, 2047, 4095, 8191, 8191, 32767, 65535, 131071, 262143, 524287, 1048575, 1048575, 1048575, 7340031, 15728639, 1048575, 1048575, 101711871, 235929599, 504365055, 1048575, 1048575, 3222274047, 7517241343, 16107175935, 33287045119, 68719476735, 137438953471, 274877906943, 549755813887, 1099511627775, 1099511627775, 4398046511103, 8796093022207, 17592186044415, 35184372088831, 70368744177663, 140737488355327], .take 0 (.take 1 (.take 2 (.take 3 (.take 4 (.take 6 (.take 7 (.take 8 (.take 9 (.take 5 (.take 10 (.take 11 (.take 12 (.take 13 (.take 14 (.take 15 (.take 16 (.take 17 (.take 18 (.take 19 (.take 20 (.take 21 (.take 22 (.take 23 (.take 24 (.take 25 (.take 26 (.take 27 (.take 28 (.take 29 (.take 30 (.take 31 (.take 32 (.take 33 (.take 34 (.take 35 (.take 36 (.take 37 (.take 38 (.take 39 (.take 40 (.take 41 (.take 42 (.take 43 (.take 44 (.take 45 (.take 46 (.take 47 .done)))))))))))))))))))))))))))))))))))))))))))))))) else
    bif Nat.beq id 29 then some ([0, 0, 0, 6, 14, 31, 0, 0, 192, 448, 1023], .take 0 (.take 1 (.take 2 (.take 3 (.take 4 (.take 6 (.take 7 (.take 8 (.take 9 (.take 5 (.take 10 .done))))))))))) else none
def dx_law20_HeapCodes_L1_0 (e : Env) (K : ((Option Addr) × Nat × Nat × (Option Addr)) → Prop) : Prop :=
  oS e 0 fun lP_1 lN_1 lC_1 =>
  oP e 3 fun hx =>
    K (lP_1, lN_1, lC_1, hx)
def dx_law20_HeapCodes_L1_ret (e : Env) (K : ((Option Addr) × Nat × Nat × (Option Addr)) → Bool → Prop) : Prop :=
  oS e 0 fun lP_1 lN_1 lC_1 =>
  oP e 3 fun hx =>
  oB e 2 fun t2 =>
    K (lP_1, lN_1, lC_1, hx) t2
theorem body_law20_HeapCodes_L1 (f : (Option Addr) × Nat × Nat × (Option Addr)) (s : S_law20_HeapCodes_L1) (w : World) (Kn : ((Option Addr) × Nat × Nat × (Option Addr)) → S_law20_HeapCodes_L1 → World → Prop) (Kx0 : ((Option Addr) × Nat × Nat × (Option Addr)) → World → Prop) (Kr : ((Option Addr) × Nat × Nat × (Option Addr)) → Bool → World → Prop) :
    B_law20_HeapCodes_L1 f.1 f.2.1 f.2.2.1 f.2.2.2 s w (fun s1 w1 => Kn f s1 w1) (fun w1 => Kx0 f w1) (fun t2 w1 => Kr f t2 w1) =
    den Tryz.prog Tryz.f3.ntmps G_law20_HeapCodes (sub (codeOf Tryz.f3) [false, false, true, false, true, true, true, true]) [false, false, true, false, true, true, true, true] (roundQ (fun e w => dec_law20_HeapCodes_L1 e fun f s => Kn f s w) (fun e w => dx_law20_HeapCodes_L1_ret e fun f t2 => Kr f t2 w) (fun id e w => match Nat.beq id 0 with | true => dx_law20_HeapCodes_L1_0 e fun f => Kx0 f w | false => False)) (lit_law20_HeapCodes_L1 f s) w := by kernel_rfl
def dx_law20_HeapCodes_L2_2 (e : Env) (K : ((Option Addr) × Nat × Nat × (Option Addr) × (Option Nat) × (Option Addr) × Nat × Nat × (Option Addr) × Nat × Nat) → Prop) : Prop :=
  oS e 0 fun lP_2 lN_2 lC_2 =>
  oP e 3 fun hx_1 =>
  oM e 9 fun vars =>
  oS e 10 fun wsP wsN wsC =>
  oS e 12 fun vP vN vC =>
    K (lP_2, lN_2, lC_2, hx_1, vars, wsP, wsN, wsC, vP, vN, vC)
def dx_law20_HeapCodes_L2_ret (e : Env) (K : ((Option Addr) × Nat × Nat × (Option Addr) × (Option Nat) × (Option Addr) × Nat × Nat × (Option Addr) × Nat × Nat) → Bool → Prop) : Prop :=
  oS e 0 fun lP_2 lN_2 lC_2 =>
  oP e 3 fun hx_1 =>
  oM e 9 fun vars =>
  oS e 10 fun wsP wsN wsC =>
  oS e 12 fun vP vN vC =>
  oB e 2 fun t2_2 =>
    K (lP_2, lN_2, lC_2, hx_1, vars, wsP, wsN, wsC, vP, vN, vC) t2_2
theorem body_law20_HeapCodes_L2 (f : (Option Addr) × Nat × Nat × (Option Addr) × (Option Nat) × (Option Addr) × Nat × Nat × (Option Addr) × Nat × Nat) (s : S_law20_HeapCodes_L2) (w : World) (Kn : ((Option Addr) × Nat × Nat × (Option Addr) × (Option Nat) × (Option Addr) × Nat × Nat × (Option Addr) × Nat × Nat) → S_law20_HeapCodes_L2 → World → Prop) (Kx2 : ((Option Addr) × Nat × Nat × (Option Addr) × (Option Nat) × (Option Addr) × Nat × Nat × (Option Addr) × Nat × Nat) → World → Prop) (Kr : ((Option Addr) × Nat × Nat × (Option Addr) × (Option Nat) × (Option Addr) × Nat × Nat × (Option Addr) × Nat × Nat) → Bool → World → Prop) :
    B_law20_HeapCodes_L2 f.1 f.2.1 f.2.2.1 f.2.2.2.1 f.2.2.2.2.1 f.2.2.2.2.2.1 f.2.2.2.2.2.2.1 f.2.2.2.2.2.2.2.1 f.2.2.2.2.2.2.2.2.1 f.2.2.2.2.2.2.2.2.2.1 f.2.2.2.2.2.2.2.2.2.2 s w (fun s1 w1 => Kn f s1 w1) (fun w1 => Kx2 f w1) (fun t2_2 w1 => Kr f t2_2 w1) =
    den Tryz.prog Tryz.f3.ntmps G_law20_HeapCodes (sub (codeOf Tryz.f3) [false, false, true, false, true, true, true, true, true, true, true, true, true, true, true]) [false, false, true, false, true, true, true, true, true, true, true, true, true, true, true] (roundQ (fun e w => dec_law20_HeapCodes_L2 e fun f s => Kn f s w) (fun e w => dx_law20_HeapCodes_L2_ret e fun f t2_2 => Kr f t2_2 w) (fun id e w => match Nat.beq id 2 with | true => dx_law20_HeapCodes_L2_2 e fun f => Kx2 f w | false => False)) (lit_law20_HeapCodes_L2 f s) w := by kernel_rfl
def dx_law20_HeapCodes_L3_4 (e : Env) (K : ((Option Addr) × (Option Nat) × (Option Addr) × Nat × Nat) → Prop) : Prop :=
  oP e 3 fun hx_2 =>
  oM e 9 fun vars_1 =>
  oS e 12 fun vP_1 vN_1 vC_1 =>
    K (hx_2, vars_1, vP_1, vN_1, vC_1)
def dx_law20_HeapCodes_L3_ret (e : Env) (K : ((Option Addr) × (Option Nat) × (Option Addr) × Nat × Nat) → Bool → Prop) : Prop :=
  oP e 3 fun hx_2 =>
  oM e 9 fun vars_1 =>
  oS e 12 fun vP_1 vN_1 vC_1 =>
  oB e 2 fun t2_4 =>
    K (hx_2, vars_1, vP_1, vN_1, vC_1) t2_4
theorem body_law20_HeapCodes_L3 (f : (Option Addr) × (Option Nat) × (Option Addr) × Nat × Nat) (s : S_law20_HeapCodes_L3) (w : World) (Kn : ((Option Addr) × (Option Nat) × (Option Addr) × Nat × Nat) → S_law20_HeapCodes_L3 → World → Prop) (Kx4 : ((Option Addr) × (Option Nat) × (Option Addr) × Nat × Nat) → World → Prop) (Kr : ((Option Addr) × (Option Nat) × (Option Addr) × Nat × Nat) → Bool → World → Prop) :
    B_law20_HeapCodes_L3 f.1 f.2.1 f.2.2.1 f.2.2.2.1 f.2.2.2.2 s w (fun s1 w1 => Kn f s1 w1) (fun w1 => Kx4 f w1) (fun t2_4 w1 => Kr f t2_4 w1) =
    den Tryz.prog Tryz.f3.ntmps G_law20_HeapCodes (sub (codeOf Tryz.f3) [false, false, true, false, true, true, true, true, true, true, true, true, true, true, true, true]) [false, false, true, false, true, true, true, true, true, true, true, true, true, true, true, true] (roundQ (fun e w => dec_law20_HeapCodes_L3 e fun f s => Kn f s w) (fun e w => dx_law20_HeapCodes_L3_ret e fun f t2_4 => Kr f t2_4 w) (fun id e w => match Nat.beq id 4 with | true => dx_law20_HeapCodes_L3_4 e fun f => Kx4 f w | false => False)) (lit_law20_HeapCodes_L3 f s) w := by kernel_rfl
theorem ok_law20_HeapCodes_L1 : OneOk Tryz.prog Tryz.f3.ntmps G_law20_HeapCodes (codeOf Tryz.f3) [false, true, false, true, true, true, true] spec_law20_HeapCodes_L1 := by
  intro c hc ih Q e w a hr h
  have hcc : sub (codeOf Tryz.f3) [false, false, true, false, true, true, true, true] = c := sub_of_codeAt hc
  obtain ⟨f, s, h, hrep⟩ := dec_law20_HeapCodes_L1_ok e a _ hr h
  obtain ⟨J, μ, hj, hround⟩ := h
  refine loop_rule_deep seat_ok seat_mixed ih lit_law20_HeapCodes_L1 dec_law20_HeapCodes_L1 dec_law20_HeapCodes_L1_ok hc f J μ (Kr := fun e w => dx_law20_HeapCodes_L1_ret e fun f1 t2 => f1 = f ∧ Q .ret [⟨2, .bool t2, none⟩] w) (Kx := fun id e w => match Nat.beq id 0 with | true => (dx_law20_HeapCodes_L1_0 e fun f1 => f1 = f ∧ Q (.exit 0) [⟨0, .slice f.1 f.2.1 f.2.2.1, none⟩, ⟨3, .pointer f.2.2.2, none⟩] w) | false => False) ?_ ?_ ?_ s w a hj hrep
  · intro e a w hr h0
    unfold dx_law20_HeapCodes_L1_ret at h0
    obtain ⟨lP_1, lN_1, lC_1, g0, h1⟩ := oS_elim h0
    obtain ⟨hx, g3, h2⟩ := oP_elim h1
    obtain ⟨t2, g2, h3⟩ := oB_elim h2
    obtain ⟨hf, hq⟩ := h3
    subst hf
    exact ⟨_, rep_less hr (by simp [g2]), hq⟩
  · intro id e a w hr h0
    (try dsimp only at h0)
    split at h0
    · rename_i hid
      obtain rfl := Nat.eq_of_beq_eq_true hid
      unfold dx_law20_HeapCodes_L1_0 at h0
      obtain ⟨lP_1, lN_1, lC_1, g0, h1⟩ := oS_elim h0
      obtain ⟨hx, g3, h2⟩ := oP_elim h1
      obtain ⟨hf, hq⟩ := h2
      subst hf
      exact ⟨_, rep_less hr (by simp [g0, g3]), hq⟩
    · exact h0.elim
  · intro s w hj
    have hb := hround s w hj
    rw [← hcc]
    have e1 := body_law20_HeapCodes_L1 f s w (fun f1 s1 w1 => f1 = f ∧ J s1 w1 ∧ μ s1 w1 < μ s w) (fun f1 w1 => f1 = f ∧ Q (.exit 0) [⟨0, .slice f.1 f.2.1 f.2.2.1, none⟩, ⟨3, .pointer f.2.2.2, none⟩] w1) (fun f1 t2 w1 => f1 = f ∧ Q .ret [⟨2, .bool t2, none⟩] w1)
    simp only [true_and] at e1
    exact cast e1 hb
theorem ok_law20_HeapCodes_L2 : OneOk Tryz.prog Tryz.f3.ntmps G_law20_HeapCodes (codeOf Tryz.f3) [false, true, false, true, true, true, true, true, true, true, true, true, true, true] spec_law20_HeapCodes_L2 := by
  intro c hc ih Q e w a hr h
  have hcc : sub (codeOf Tryz.f3) [false, false, true, false, true, true, true, true, true, true, true, true, true, true, true] = c := sub_of_codeAt hc
  obtain ⟨f, s, h, hrep⟩ := dec_law20_HeapCodes_L2_ok e a _ hr h
  obtain ⟨J, μ, hj, hround⟩ := h
  refine loop_rule_deep seat_ok seat_mixed ih lit_law20_HeapCodes_L2 dec_law20_HeapCodes_L2 dec_law20_HeapCodes_L2_ok hc f J μ (Kr := fun e w => dx_law20_HeapCodes_L2_ret e fun f1 t2_2 => f1 = f ∧ Q .ret [⟨2, .bool t2_2, none⟩] w) (Kx := fun id e w => match Nat.beq id 2 with | true => (dx_law20_HeapCodes_L2_2 e fun f1 => f1 = f ∧ Q (.exit 2) [⟨3, .pointer f.2.2.2.1, none⟩, ⟨9, .map f.2.2.2.2.1, none⟩, ⟨12, .slice f.2.2.2.2.2.2.2.2.1 f.2.2.2.2.2.2.2.2.2.1 f.2.2.2.2.2.2.2.2.2.2, none⟩] w) | false => False) ?_ ?_ ?_ s w a hj hrep
  · intro e a w hr h0
    unfold dx_law20_HeapCodes_L2_ret at h0
    obtain ⟨lP_2, lN_2, lC_2, g0, h1⟩ := oS_elim h0
    obtain ⟨hx_1, g3, h2⟩ := oP_elim h1
    obtain ⟨vars, g9, h3⟩ := oM_elim h2
    obtain ⟨wsP, wsN, wsC, g10, h4⟩ := oS_elim h3
    obtain ⟨vP, vN, vC, g12, h5⟩ := oS_elim h4
    obtain ⟨t2_2, g2, h6⟩ := oB_elim h5
    obtain ⟨hf, hq⟩ := h6
    subst hf
    exact ⟨_, rep_less hr (by simp [g2]), hq⟩
  · intro id e a w hr h0
    (try dsimp only at h0)
    split at h0
    · rename_i hid
      obtain rfl := Nat.eq_of_beq_eq_true hid
      unfold dx_law20_HeapCodes_L2_2 at h0
      obtain ⟨lP_2, lN_2, lC_2, g0, h1⟩ := oS_elim h0
      obtain ⟨hx_1, g3, h2⟩ := oP_elim h1
      obtain ⟨vars, g9, h3⟩ := oM_elim h2
      obtain ⟨wsP, wsN, wsC, g10, h4⟩ := oS_elim h3
      obtain ⟨vP, vN, vC, g12, h5⟩ := oS_elim h4
      obtain ⟨hf, hq⟩ := h5
      subst hf
      exact ⟨_, rep_less hr (by simp [g3, g9, g12]), hq⟩
    · exact h0.elim
  · intro s w hj
    have hb := hround s w hj
    rw [← hcc]
    have e1 := body_law20_HeapCodes_L2 f s w (fun f1 s1 w1 => f1 = f ∧ J s1 w1 ∧ μ s1 w1 < μ s w) (fun f1 w1 => f1 = f ∧ Q (.exit 2) [⟨3, .pointer f.2.2.2.1, none⟩, ⟨9, .map f.2.2.2.2.1, none⟩, ⟨12, .slice f.2.2.2.2.2.2.2.2.1 f.2.2.2.2.2.2.2.2.2.1 f.2.2.2.2.2.2.2.2.2.2, none⟩] w1) (fun f1 t2_2 w1 => f1 = f ∧ Q .ret [⟨2, .bool t2_2, none⟩] w1)
    simp only [true_and] at e1
    exact cast e1 hb
theorem ok_law20_HeapCodes_L3 : OneOk Tryz.prog Tryz.f3.ntmps G_law20_HeapCodes (codeOf Tryz.f3) [false, true, false, true, true, true, true, true, true, true, true, true, true, true, true] spec_law20_HeapCodes_L3 := by
  intro c hc ih Q e w a hr h
  have hcc : sub (codeOf Tryz.f3) [false, false, true, false, true, true, true, true, true, true, true, true, true, true, true, true] = c := sub_of_codeAt hc
  obtain ⟨f, s, h, hrep⟩ := dec_law20_HeapCodes_L3_ok e a _ hr h
  obtain ⟨J, μ, hj, hround⟩ := h
  refine loop_rule_deep seat_ok seat_mixed ih lit_law20_HeapCodes_L3 dec_law20_HeapCodes_L3 dec_law20_HeapCodes_L3_ok hc f J μ (Kr := fun e w => dx_law20_HeapCodes_L3_ret e fun f1 t2_4 => f1 = f ∧ Q .ret [⟨2, .bool t2_4, none⟩] w) (Kx := fun id e w => match Nat.beq id 4 with | true => (dx_law20_HeapCodes_L3_4 e fun f1 => f1 = f ∧ Q (.exit 4) [⟨9, .map f.2.1, none⟩, ⟨12, .slice f.2.2.1 f.2.2.2.1 f.2.2.2.2, none⟩] w) | false => False) ?_ ?_ ?_ s w a hj hrep
  · intro e a w hr h0
    unfold dx_law20_HeapCodes_L3_ret at h0
    obtain ⟨hx_2, g3, h1⟩ := oP_elim h0
    obtain ⟨vars_1, g9, h2⟩ := oM_elim h1
    obtain ⟨vP_1, vN_1, vC_1, g12, h3⟩ := oS_elim h2
    obtain ⟨t2_4, g2, h4⟩ := oB_elim h3
    obtain ⟨hf, hq⟩ := h4
    subst hf
    exact ⟨_, rep_less hr (by simp [g2]), hq⟩
  · intro id e a w hr h0
    (try dsimp only at h0)
    split at h0
    · rename_i hid
      obtain rfl := Nat.eq_of_beq_eq_true hid
      unfold dx_law20_HeapCodes_L3_4 at h0
      obtain ⟨hx_2, g3, h1⟩ := oP_elim h0
      obtain ⟨vars_1, g9, h2⟩ := oM_elim h1
      obtain ⟨vP_1, vN_1, vC_1, g12, h3⟩ := oS_elim h2
      obtain ⟨hf, hq⟩ := h3
      subst hf
      exact ⟨_, rep_less hr (by simp [g9, g12]), hq⟩
    · exact h0.elim
  · intro s w hj
    have hb := hround s w hj
    rw [← hcc]
    have e1 := body_law20_HeapCodes_L3 f s w (fun f1 s1 w1 => f1 = f ∧ J s1 w1 ∧ μ s1 w1 < μ s w) (fun f1 w1 => f1 = f ∧ Q (.exit 4) [⟨9, .map f.2.1, none⟩, ⟨12, .slice f.2.2.1 f.2.2.2.1 f.2.2.2.2, none⟩] w1) (fun f1 t2_4 w1 => f1 = f ∧ Q .ret [⟨2, .bool t2_4, none⟩] w1)
    simp only [true_and] at e1
    exact cast e1 hb
theorem loops_law20_HeapCodes : LoopOk Tryz.prog Tryz.f3.ntmps G_law20_HeapCodes (codeOf Tryz.f3) := loopOk_list rfl ⟨ok_law20_HeapCodes_L1, ⟨ok_law20_HeapCodes_L2, ⟨ok_law20_HeapCodes_L3, trivial⟩⟩⟩
theorem C_law20_HeapCodes.of {lP : Option Addr} {lN : Nat} {lC : Nat} {w : World} {R : Bool → World → Prop} (h : F_law20_HeapCodes lP lN lC w R) : C_law20_HeapCodes lP lN lC w R := ofS2 (Fm := F_law20_HeapCodes lP lN lC w) Tryz.func3 (by kernel_rfl) loops_law20_HeapCodes rfl (fun _ => by kernel_rfl) h
end Go.Proofs.YtdaenijbokialaaGreat
