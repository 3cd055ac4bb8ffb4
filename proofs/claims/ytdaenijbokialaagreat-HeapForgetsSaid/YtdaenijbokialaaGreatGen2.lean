import Derived.Test.YtdaenijbokialaaGreatGenC
set_option maxRecDepth 100000
set_option linter.unusedVariables false
namespace Go.Proofs.YtdaenijbokialaaGreat
open Go Go.D Go.Proofs
structure S_law20_HeapForgets_L1 where
 i : Int
structure S_law20_HeapForgets_L3 where
 less : Int
 j : Int
structure S_law20_HeapForgets_L2 where
 i_1 : Int
def F_law20_HeapForgets_k1 (R : Bool → World → Prop) (w1_4 : World) : Prop :=
 C_law20_lives  w1_4 fun t41 w1_5 =>
 R t41 w1_5
def F_law20_HeapForgets_k2 (R : Bool → World → Prop) (w1_9 : World) : Prop :=
 R false w1_9
def F_law20_HeapForgets_k4 (s : S_law20_HeapForgets_L1) (Kn : S_law20_HeapForgets_L1 → World → Prop) (w1_17 : World) : Prop :=
 Kn ⟨(IntKind.i64.wrap (s.i + (1 : Int)))⟩ w1_17
def F_law20_HeapForgets_k3 (hx : Option Addr) (s : S_law20_HeapForgets_L1) (Kn : S_law20_HeapForgets_L1 → World → Prop) (Kind : Int) (t93 : Bool) (w1_14 : World) : Prop :=
 If t93
 (C_heap_Heap_Open hx w1_14 fun t970 t971 w1_15 =>
 F_law20_HeapForgets_k4 s Kn w1_15)
 (If (Kind == (3 : Int))
 (C_heap_Heap_Back hx w1_14 fun t101 w1_16 =>
 F_law20_HeapForgets_k4 s Kn w1_16)
 (F_law20_HeapForgets_k4 s Kn w1_14))
def F_law20_HeapForgets_k5 (R : Bool → World → Prop) (w1_27 : World) : Prop :=
 R false w1_27
def F_law20_HeapForgets_k6 (s : S_law20_HeapForgets_L3) (Kn : S_law20_HeapForgets_L3 → World → Prop) (less_2 : Int) (w1_29 : World) : Prop :=
 Kn ⟨less_2, (IntKind.i64.wrap (s.j + (1 : Int)))⟩ w1_29
def F_law20_HeapForgets_k7 (R : Bool → World → Prop) (w1_37 : World) : Prop :=
 R false w1_37
def B_law20_HeapForgets_L1 (lP_1 : Option Addr) (lN_1 : Nat) (lC_1 : Nat) (n_1 : Int) (atx_1 : Int) (hx : Option Addr) (wsP : Option Addr) (wsN : Nat) (wsC : Nat) (s : S_law20_HeapForgets_L1) (w : World) (Kn : S_law20_HeapForgets_L1 → World → Prop) (Kx0 : World → Prop) : Prop :=
 If (decide (s.i < (lN_1 : Int)))
 (0 ≤ s.i ∧ s.i < (lN_1 : Int) ∧ NN lP_1 fun a =>
 ∃ Kind, w.cell? ((a.add (s.i.toNat * 9)).add 0) = some (.int .i64 Kind) ∧
 If (Kind == (1 : Int))
 (0 ≤ (IntKind.i64.wrap ((2 : Int) * s.i)) ∧ (IntKind.i64.wrap ((2 : Int) * s.i)) < (wsN : Int) ∧ NN wsP fun a_1 =>
 ∃ t85, (drw w).cell? (a_1.add ((IntKind.i64.wrap ((2 : Int) * s.i)).toNat * 1)) = some (.int .u64 t85) ∧
 0 ≤ (IntKind.i64.wrap ((IntKind.i64.wrap ((2 : Int) * s.i)) + (1 : Int))) ∧ (IntKind.i64.wrap ((IntKind.i64.wrap ((2 : Int) * s.i)) + (1 : Int))) < (wsN : Int) ∧ NN wsP fun a_2 =>
 ∃ t91, (drw w).cell? (a_2.add ((IntKind.i64.wrap ((IntKind.i64.wrap ((2 : Int) * s.i)) + (1 : Int))).toNat * 1)) = some (.int .u64 t91) ∧
 C_heap_Heap_Unify hx t85 t91 (drw w) fun t920 t921 w1_13 =>
 F_law20_HeapForgets_k4 s Kn w1_13)
 (If (Kind == (2 : Int))
 (F_law20_HeapForgets_k3 hx s Kn Kind (Kind == (2 : Int)) w)
 (F_law20_HeapForgets_k3 hx s Kn Kind (Kind == (4 : Int)) w)))
 (Kx0 w)
def F_law20_HeapForgets_L1 (lP_1 : Option Addr) (lN_1 : Nat) (lC_1 : Nat) (n_1 : Int) (atx_1 : Int) (hx : Option Addr) (wsP : Option Addr) (wsN : Nat) (wsC : Nat) (s : S_law20_HeapForgets_L1) (w : World) (Kx0 : World → Prop) : Prop :=
 LoopS (fun s w Kn => B_law20_HeapForgets_L1 lP_1 lN_1 lC_1 n_1 atx_1 hx wsP wsN wsC s w Kn Kx0) s w
def B_law20_HeapForgets_L3 (n_3 : Int) (atx_3 : Int) (hx_2 : Option Addr) (marksP_1 : Option Addr) (marksN_1 : Nat) (marksC_1 : Nat) (nowP_1 : Option Addr) (nowN_1 : Nat) (nowC_1 : Nat) (i_2 : Int) (s : S_law20_HeapForgets_L3) (w : World) (Kn : S_law20_HeapForgets_L3 → World → Prop) (Kx5 : Int → World → Prop) : Prop :=
 0 ≤ i_2 ∧ i_2 < (marksN_1 : Int) ∧ NN marksP_1 fun a_7 =>
 ∃ t157, w.cell? (a_7.add (i_2.toNat * 1)) = some (.int .i64 t157) ∧
 If (decide (s.j < t157))
 (n_3 ≠ 0 ∧
 If ((s.j.tmod n_3) == (0 : Int))
 (F_law20_HeapForgets_k6 s Kn (IntKind.i64.wrap (s.less + (1 : Int))) w)
 (F_law20_HeapForgets_k6 s Kn s.less w))
 (Kx5 s.less w)
def F_law20_HeapForgets_L3 (n_3 : Int) (atx_3 : Int) (hx_2 : Option Addr) (marksP_1 : Option Addr) (marksN_1 : Nat) (marksC_1 : Nat) (nowP_1 : Option Addr) (nowN_1 : Nat) (nowC_1 : Nat) (i_2 : Int) (s : S_law20_HeapForgets_L3) (w : World) (Kx5 : Int → World → Prop) : Prop :=
 LoopS (fun s w Kn => B_law20_HeapForgets_L3 n_3 atx_3 hx_2 marksP_1 marksN_1 marksC_1 nowP_1 nowN_1 nowC_1 i_2 s w Kn Kx5) s w
def B_law20_HeapForgets_L2 (n_2 : Int) (atx_2 : Int) (hx_1 : Option Addr) (marksP : Option Addr) (marksN : Nat) (marksC : Nat) (nowP : Option Addr) (nowN : Nat) (nowC : Nat) (s : S_law20_HeapForgets_L2) (w : World) (Kn : S_law20_HeapForgets_L2 → World → Prop) (Kx3 : World → Prop) (Kr : Bool → World → Prop) : Prop :=
 If (decide (s.i_1 < (nowN : Int)))
 (F_law20_HeapForgets_L3 n_2 atx_2 hx_1 marksP marksN marksC nowP nowN nowC s.i_1 ⟨(0 : Int), (0 : Int)⟩ w
 (fun less_3 w1_30 =>
 0 ≤ s.i_1 ∧ s.i_1 < (nowN : Int) ∧ NN nowP fun a_8 =>
 ∃ t170, (drw w1_30).cell? (a_8.add (s.i_1.toNat * 1)) = some (.int .i64 t170) ∧
 0 ≤ s.i_1 ∧ s.i_1 < (marksN : Int) ∧ NN marksP fun a_9 =>
 ∃ t174, (drw w1_30).cell? (a_9.add (s.i_1.toNat * 1)) = some (.int .i64 t174) ∧
 If (t170 != (IntKind.i64.wrap (t174 - less_3)))
 (Kr false (drw w1_30))
 (Kn ⟨(IntKind.i64.wrap (s.i_1 + (1 : Int)))⟩ (drw w1_30))))
 (Kx3 w)
def F_law20_HeapForgets_L2 (n_2 : Int) (atx_2 : Int) (hx_1 : Option Addr) (marksP : Option Addr) (marksN : Nat) (marksC : Nat) (nowP : Option Addr) (nowN : Nat) (nowC : Nat) (s : S_law20_HeapForgets_L2) (w : World) (Kx3 : World → Prop) (Kr : Bool → World → Prop) : Prop :=
 LoopS (fun s w Kn => B_law20_HeapForgets_L2 n_2 atx_2 hx_1 marksP marksN marksC nowP nowN nowC s w Kn Kx3 Kr) s w
def F_law20_HeapForgets (lP : Option Addr) (lN : Nat) (lC : Nat) (n : Int) (atx : Int) (w : World) (R : Bool → World → Prop) : Prop :=
 If (decide ((lN : Int) > (9 : Int)))
 (F_law20_HeapForgets_k1 R w)
 (C_law20_terms lP lN lC w fun t24P t24N t24C w1 =>
 C_law20_large t24P t24N t24C w1 fun t25 w1_1 =>
 If t25
 (F_law20_HeapForgets_k1 R w1_1)
 (C_law20_terms lP lN lC w1_1 fun t29P t29N t29C w1_2 =>
 C_law20_may t29P t29N t29C w1_2 fun t30 w1_3 =>
 If (!t30)
 (F_law20_HeapForgets_k1 R w1_3)
 (If (decide (n < (1 : Int)))
 (F_law20_HeapForgets_k1 R w1_3)
 (If (decide (n > (20 : Int)))
 (C_law20_lives  w1_3 fun t41_1 w1_6 =>
 R t41_1 w1_6)
 (C_heap_New (131072 : Int) (65536 : Int) w1_3 fun t430 t431 w1_7 =>
 C_law20_lives  w1_7 fun t46 w1_8 =>
 If (!t46)
 (F_law20_HeapForgets_k2 R w1_8)
 (If (t431 != (0 : Int))
 (F_law20_HeapForgets_k2 R w1_8)
 (If t430.isNone
 (R false w1_8)
 (C_law20_terms lP lN lC w1_8 fun t58P t58N t58C w1_10 =>
 New w1_10 (.map #[] 0) fun r w1_11 =>
 C_law20_encode t430 t58P t58N t58C (some r) w1_11 fun t60P t60N t60C w1_12 =>
 If ((t60N : Int) != (IntKind.i64.wrap ((2 : Int) * (lN : Int))))
 (R false w1_12)
 (F_law20_HeapForgets_L1 lP lN lC n atx t430 t60P t60N t60C ⟨(0 : Int)⟩ w1_12
 (fun w1_18 =>
 C_heap_Heap_Trail t430 w1_18 fun t104 w1_19 =>
 C_room_Room_Words t104 w1_19 fun t105P t105N t105C w1_20 =>
 New w1_20 (.cells #[.int .i64 n, .slice t105P t105N t105C, .slice none 0 0, .bool true, .int .i64 0] 98) fun r_1 w1_21 =>
 C_heap_Heap_Marks t430 w1_21 fun t109P t109N t109C w1_22 =>
 C_heap_Heap_Forget t430 (.func (.func 60) #[.pointer (some ⟨r_1, 0, none⟩)] #[]) w1_22 fun t113 w1_23 =>
 NN (some ⟨r_1, 0, none⟩) fun a_3 =>
 ∃ ok, (drw w1_23).cell? (a_3.add 3) = some (.bool ok) ∧
 If (!ok)
 (F_law20_HeapForgets_k5 R (drw w1_23))
 (NN (some ⟨r_1, 0, none⟩) fun a_4 =>
 ∃ wasP wasN wasC, (drw w1_23).cell? (a_4.add 1) = some (.slice wasP wasN wasC) ∧
 NN (some ⟨r_1, 0, none⟩) fun a_5 =>
 ∃ leftP leftN leftC, (drw w1_23).cell? (a_5.add 2) = some (.slice leftP leftN leftC) ∧
 If (t113 != (IntKind.i64.wrap ((wasN : Int) - (leftN : Int))))
 (F_law20_HeapForgets_k5 R (drw w1_23))
 (NN (some ⟨r_1, 0, none⟩) fun a_6 =>
 ∃ leftP_1 leftN_1 leftC_1, (drw w1_23).cell? (a_6.add 2) = some (.slice leftP_1 leftN_1 leftC_1) ∧
 C_heap_Heap_Trail t430 (drw w1_23) fun t136 w1_24 =>
 w1_24.cell? (a_6.add 2) = (drw w1_23).cell? (a_6.add 2) ∧
 C_room_Room_Words t136 w1_24 fun t137P t137N t137C w1_25 =>
 w1_25.cell? (a_6.add 2) = (drw w1_23).cell? (a_6.add 2) ∧
 C_ref02_Same t137P t137N t137C leftP_1 leftN_1 leftC_1 w1_25 fun t142 w1_26 =>
 If (!t142)
 (R false w1_26)
 (C_heap_Heap_Marks t430 w1_26 fun t146P t146N t146C w1_28 =>
 F_law20_HeapForgets_L2 n atx t430 t109P t109N t109C t146P t146N t146C ⟨(0 : Int)⟩ w1_28
 (fun w1_31 =>
 C_heap_Heap_Loose t430 atx w1_31 fun t180 w1_33 =>
 If (decide (atx < (0 : Int)))
 (If ((t146N : Int) == (t109N : Int))
 (R (t180 == (1 : Int)) w1_33)
 (R false w1_33))
 (C_heap_Heap_Pool t430 w1_33 fun t186 w1_34 =>
 C_pool_Pool_Top t186 w1_34 fun t187 w1_35 =>
 If (decide (atx ≥ t187))
 (If ((t146N : Int) == (t109N : Int))
 (R (t180 == (1 : Int)) w1_35)
 (R false w1_35))
 (If ((t146N : Int) == (t109N : Int))
 (If (t180 == (0 : Int))
 (C_heap_Heap_Cell t430 atx w1_35 fun t211 w1_36 =>
 0 ≤ (3 : Int) ∧
 R (t211 == (orI .u64 (shlI .u64 (IntKind.u64.wrap atx) (3 : Int)) (1 : Int))) w1_36)
 (F_law20_HeapForgets_k7 R w1_35))
 (F_law20_HeapForgets_k7 R w1_35))))
 (fun t6_1 w1_32 =>
 R t6_1 w1_32))))))))))))))
def lit_law20_HeapForgets_L1 (f : (Option Addr) × Nat × Nat × Int × Int × (Option Addr) × (Option Addr) × Nat × Nat) (s : S_law20_HeapForgets_L1) : Env := [⟨0, .slice f.1 f.2.1 f.2.2.1, none⟩, ⟨1, .int .i64 f.2.2.2.1, none⟩, ⟨2, .int .i64 f.2.2.2.2.1, none⟩, ⟨7, .pointer f.2.2.2.2.2.1, none⟩, ⟨9, .slice f.2.2.2.2.2.2.1 f.2.2.2.2.2.2.2.1 f.2.2.2.2.2.2.2.2, none⟩, ⟨10, .int .i64 s.i, none⟩]
def dec_law20_HeapForgets_L1 (e : Env) (K : ((Option Addr) × Nat × Nat × Int × Int × (Option Addr) × (Option Addr) × Nat × Nat) → S_law20_HeapForgets_L1 → Prop) : Prop :=
 oS e 0 fun lP_1 lN_1 lC_1 =>
 oI e 1 .i64 fun n_1 =>
 oI e 2 .i64 fun atx_1 =>
 oP e 7 fun hx =>
 oS e 9 fun wsP wsN wsC =>
 oI e 10 .i64 fun i =>
  K (lP_1, lN_1, lC_1, n_1, atx_1, hx, wsP, wsN, wsC) ⟨i⟩
theorem dec_law20_HeapForgets_L1_ok {N : Nat} (e : Env) (a : Act) (K : ((Option Addr) × Nat × Nat × Int × Int × (Option Addr) × (Option Addr) × Nat × Nat) → S_law20_HeapForgets_L1 → Prop) (hr : Rep N a e) (h0 : dec_law20_HeapForgets_L1 e K) : ∃ f s, K f s ∧ Rep N a (lit_law20_HeapForgets_L1 f s) := by
 unfold dec_law20_HeapForgets_L1 at h0
 obtain ⟨lP_1, lN_1, lC_1, g0, h1⟩ := oS_elim h0
 obtain ⟨n_1, g1, h2⟩ := oI_elim h1
 obtain ⟨atx_1, g2, h3⟩ := oI_elim h2
 obtain ⟨hx, g7, h4⟩ := oP_elim h3
 obtain ⟨wsP, wsN, wsC, g9, h5⟩ := oS_elim h4
 obtain ⟨i, g10, h6⟩ := oI_elim h5
 exact ⟨_, _, h6, rep_less hr (by simp [lit_law20_HeapForgets_L1, g0, g1, g2, g7, g9, g10])⟩
def spec_law20_HeapForgets_L1 (Q : Post) (e : Env) (w : World) : Prop :=
 dec_law20_HeapForgets_L1 e fun f s => F_law20_HeapForgets_L1 f.1 f.2.1 f.2.2.1 f.2.2.2.1 f.2.2.2.2.1 f.2.2.2.2.2.1 f.2.2.2.2.2.2.1 f.2.2.2.2.2.2.2.1 f.2.2.2.2.2.2.2.2 s w (fun w1 => Q (.exit 0) [⟨1, .int .i64 f.2.2.2.1, none⟩, ⟨2, .int .i64 f.2.2.2.2.1, none⟩, ⟨7, .pointer f.2.2.2.2.2.1, none⟩] w1)
def lit_law20_HeapForgets_L2 (f : Int × Int × (Option Addr) × (Option Addr) × Nat × Nat × (Option Addr) × Nat × Nat) (s : S_law20_HeapForgets_L2) : Env := [⟨1, .int .i64 f.1, none⟩, ⟨2, .int .i64 f.2.1, none⟩, ⟨7, .pointer f.2.2.1, none⟩, ⟨12, .slice f.2.2.2.1 f.2.2.2.2.1 f.2.2.2.2.2.1, none⟩, ⟨14, .slice f.2.2.2.2.2.2.1 f.2.2.2.2.2.2.2.1 f.2.2.2.2.2.2.2.2, none⟩, ⟨15, .int .i64 s.i_1, none⟩]
def dec_law20_HeapForgets_L2 (e : Env) (K : (Int × Int × (Option Addr) × (Option Addr) × Nat × Nat × (Option Addr) × Nat × Nat) → S_law20_HeapForgets_L2 → Prop) : Prop :=
 oI e 1 .i64 fun n_2 =>
 oI e 2 .i64 fun atx_2 =>
 oP e 7 fun hx_1 =>
 oS e 12 fun marksP marksN marksC =>
 oS e 14 fun nowP nowN nowC =>
 oI e 15 .i64 fun i_1 =>
  K (n_2, atx_2, hx_1, marksP, marksN, marksC, nowP, nowN, nowC) ⟨i_1⟩
theorem dec_law20_HeapForgets_L2_ok {N : Nat} (e : Env) (a : Act) (K : (Int × Int × (Option Addr) × (Option Addr) × Nat × Nat × (Option Addr) × Nat × Nat) → S_law20_HeapForgets_L2 → Prop) (hr : Rep N a e) (h0 : dec_law20_HeapForgets_L2 e K) : ∃ f s, K f s ∧ Rep N a (lit_law20_HeapForgets_L2 f s) := by
 unfold dec_law20_HeapForgets_L2 at h0
 obtain ⟨n_2, g1, h1⟩ := oI_elim h0
 obtain ⟨atx_2, g2, h2⟩ := oI_elim h1
 obtain ⟨hx_1, g7, h3⟩ := oP_elim h2
 obtain ⟨marksP, marksN, marksC, g12, h4⟩ := oS_elim h3
 obtain ⟨nowP, nowN, nowC, g14, h5⟩ := oS_elim h4
 obtain ⟨i_1, g15, h6⟩ := oI_elim h5
 exact ⟨_, _, h6, rep_less hr (by simp [lit_law20_HeapForgets_L2, g1, g2, g7, g12, g14, g15])⟩
def spec_law20_HeapForgets_L2 (Q : Post) (e : Env) (w : World) : Prop :=
 dec_law20_HeapForgets_L2 e fun f s => F_law20_HeapForgets_L2 f.1 f.2.1 f.2.2.1 f.2.2.2.1 f.2.2.2.2.1 f.2.2.2.2.2.1 f.2.2.2.2.2.2.1 f.2.2.2.2.2.2.2.1 f.2.2.2.2.2.2.2.2 s w (fun w1 => Q (.exit 3) [⟨2, .int .i64 f.2.1, none⟩, ⟨7, .pointer f.2.2.1, none⟩, ⟨12, .slice f.2.2.2.1 f.2.2.2.2.1 f.2.2.2.2.2.1, none⟩, ⟨14, .slice f.2.2.2.2.2.2.1 f.2.2.2.2.2.2.2.1 f.2.2.2.2.2.2.2.2, none⟩] w1) (fun t6 w1 => Q .ret [⟨6, .bool t6, none⟩] w1)
def lit_law20_HeapForgets_L3 (f : Int × Int × (Option Addr) × (Option Addr) × Nat × Nat × (Option Addr) × Nat × Nat × Int) (s : S_law20_HeapForgets_L3) : Env := [⟨1, .int .i64 f.1, none⟩, ⟨2, .int .i64 f.2.1, none⟩, ⟨7, .pointer f.2.2.1, none⟩, ⟨12, .slice f.2.2.2.1 f.2.2.2.2.1 f.2.2.2.2.2.1, none⟩, ⟨14, .slice f.2.2.2.2.2.2.1 f.2.2.2.2.2.2.2.1 f.2.2.2.2.2.2.2.2.1, none⟩, ⟨15, .int .i64 f.2.2.2.2.2.2.2.2.2, none⟩, ⟨16, .int .i64 s.less, none⟩, ⟨17, .int .i64 s.j, none⟩]
def dec_law20_HeapForgets_L3 (e : Env) (K : (Int × Int × (Option Addr) × (Option Addr) × Nat × Nat × (Option Addr) × Nat × Nat × Int) → S_law20_HeapForgets_L3 → Prop) : Prop :=
 oI e 1 .i64 fun n_3 =>
 oI e 2 .i64 fun atx_3 =>
 oP e 7 fun hx_2 =>
 oS e 12 fun marksP_1 marksN_1 marksC_1 =>
 oS e 14 fun nowP_1 nowN_1 nowC_1 =>
 oI e 15 .i64 fun i_2 =>
 oI e 16 .i64 fun less =>
 oI e 17 .i64 fun j =>
  K (n_3, atx_3, hx_2, marksP_1, marksN_1, marksC_1, nowP_1, nowN_1, nowC_1, i_2) ⟨less, j⟩
theorem dec_law20_HeapForgets_L3_ok {N : Nat} (e : Env) (a : Act) (K : (Int × Int × (Option Addr) × (Option Addr) × Nat × Nat × (Option Addr) × Nat × Nat × Int) → S_law20_HeapForgets_L3 → Prop) (hr : Rep N a e) (h0 : dec_law20_HeapForgets_L3 e K) : ∃ f s, K f s ∧ Rep N a (lit_law20_HeapForgets_L3 f s) := by
 unfold dec_law20_HeapForgets_L3 at h0
 obtain ⟨n_3, g1, h1⟩ := oI_elim h0
 obtain ⟨atx_3, g2, h2⟩ := oI_elim h1
 obtain ⟨hx_2, g7, h3⟩ := oP_elim h2
 obtain ⟨marksP_1, marksN_1, marksC_1, g12, h4⟩ := oS_elim h3
 obtain ⟨nowP_1, nowN_1, nowC_1, g14, h5⟩ := oS_elim h4
 obtain ⟨i_2, g15, h6⟩ := oI_elim h5
 obtain ⟨less, g16, h7⟩ := oI_elim h6
 obtain ⟨j, g17, h8⟩ := oI_elim h7
 exact ⟨_, _, h8, rep_less hr (by simp [lit_law20_HeapForgets_L3, g1, g2, g7, g12, g14, g15, g16, g17])⟩
def spec_law20_HeapForgets_L3 (Q : Post) (e : Env) (w : World) : Prop :=
 dec_law20_HeapForgets_L3 e fun f s => F_law20_HeapForgets_L3 f.1 f.2.1 f.2.2.1 f.2.2.2.1 f.2.2.2.2.1 f.2.2.2.2.2.1 f.2.2.2.2.2.2.1 f.2.2.2.2.2.2.2.1 f.2.2.2.2.2.2.2.2.1 f.2.2.2.2.2.2.2.2.2 s w (fun less_1 w1 => Q (.exit 5) [⟨1, .int .i64 f.1, none⟩, ⟨2, .int .i64 f.2.1, none⟩, ⟨7, .pointer f.2.2.1, none⟩, ⟨12, .slice f.2.2.2.1 f.2.2.2.2.1 f.2.2.2.2.2.1, none⟩, ⟨14, .slice f.2.2.2.2.2.2.1 f.2.2.2.2.2.2.2.1 f.2.2.2.2.2.2.2.2.1, none⟩, ⟨15, .int .i64 f.2.2.2.2.2.2.2.2.2, none⟩, ⟨16, .int .i64 less_1, none⟩] w1)
def G_law20_HeapForgets : Gen where
 loop := lookL [([false, true, false, true, true, true, true, true, true], spec_law20_HeapForgets_L1), ([false, true, false, true, true, true, true, true, true, true, true, true, true, true, true], spec_law20_HeapForgets_L2), ([false, true, false, true, false, false, true, false, false, true, false, true, true, true, true, true, true, true, true, true, true, true, true], spec_law20_HeapForgets_L3)]
 plan := fun id =>
  bif Nat.beq id 14 then some ([0, 0, 0, 4, 14, 30, 0, 0, 128, 384, 960, 1984, 4095], .take 0 (.take 1 (.take 2 (.take 3 (.take 4 (.take 5 (.take 6 (.take 7 (.take 8 (.take 9 (.take 10 (.take 11 (.take 12 .done))))))))))))) else
  bif Nat.beq id 23 then some ([0, 1, 3, 7, 15, 31, 63, 63, 191, 447, 959, 1983, 63, 4159, 12351, 28735, 61503, 131007, 262143, 524287, 1048575, 2097151, 4194303, 8388607, 2097151, 18874367, 52428799, 119537663, 268435455, 536870911, 1073741823], .take 0 (.take 1 (.take 2 (.take 3 (.take 4 (.take 5 (.take 6 (.take 7 (.take 8 (.take 9 (.take 10 (.take 11 (.take 12 (.take 13 (.take 14 (.take 15 (.take 16 (.take 17 (.take 18 (.take 19 (.take 20 (.take 21 (.take 24 (.take 25 (.take 26 (.take 27 (.take 22 (.take 23 (.take 28 (.take 29 (.take 30 .done))))))))))))))))))))))))))))))) else
  bif Nat.beq id 35 then some ([0, 0, 3, 7, 0, 0, 48, 112, 0, 496, 1023], .take 0 (.take 1 (.take 2 (.take 3 (.take 4 (.take 5 (.take 6 (.take 7 (.take 8 (.take 9 (.take 10 .done))))))))))) else none
def dx_law20_HeapForgets_L1_0 (e : Env) (K : ((Option Addr) × Nat × Nat × Int × Int × (Option Addr) × (Option Addr) × Nat × Nat) → Prop) : Prop :=
 oS e 0 fun lP_1 lN_1 lC_1 =>
 oI e 1 .i64 fun n_1 =>
 oI e 2 .i64 fun atx_1 =>
 oP e 7 fun hx =>
 oS e 9 fun wsP wsN wsC =>
  K (lP_1, lN_1, lC_1, n_1, atx_1, hx, wsP, wsN, wsC)
theorem body_law20_HeapForgets_L1 (f : (Option Addr) × Nat × Nat × Int × Int × (Option Addr) × (Option Addr) × Nat × Nat) (s : S_law20_HeapForgets_L1) (w : World) (Kn : ((Option Addr) × Nat × Nat × Int × Int × (Option Addr) × (Option Addr) × Nat × Nat) → S_law20_HeapForgets_L1 → World → Prop) (Kx0 : ((Option Addr) × Nat × Nat × Int × Int × (Option Addr) × (Option Addr) × Nat × Nat) → World → Prop) :
  B_law20_HeapForgets_L1 f.1 f.2.1 f.2.2.1 f.2.2.2.1 f.2.2.2.2.1 f.2.2.2.2.2.1 f.2.2.2.2.2.2.1 f.2.2.2.2.2.2.2.1 f.2.2.2.2.2.2.2.2 s w (fun s1 w1 => Kn f s1 w1) (fun w1 => Kx0 f w1) =
  den Tryz.prog Tryz.f11.ntmps G_law20_HeapForgets (sub (codeOf Tryz.f11) [false, false, true, false, true, true, true, true, true, true]) [false, false, true, false, true, true, true, true, true, true] (roundQ (fun e w => dec_law20_HeapForgets_L1 e fun f s => Kn f s w) (fun e w => False) (fun id e w => match Nat.beq id 0 with | true => dx_law20_HeapForgets_L1_0 e fun f => Kx0 f w | false => False)) (lit_law20_HeapForgets_L1 f s) w := by kernel_rfl
def dx_law20_HeapForgets_L2_3 (e : Env) (K : (Int × Int × (Option Addr) × (Option Addr) × Nat × Nat × (Option Addr) × Nat × Nat) → Prop) : Prop :=
 oI e 1 .i64 fun n_2 =>
 oI e 2 .i64 fun atx_2 =>
 oP e 7 fun hx_1 =>
 oS e 12 fun marksP marksN marksC =>
 oS e 14 fun nowP nowN nowC =>
  K (n_2, atx_2, hx_1, marksP, marksN, marksC, nowP, nowN, nowC)
def dx_law20_HeapForgets_L2_ret (e : Env) (K : (Int × Int × (Option Addr) × (Option Addr) × Nat × Nat × (Option Addr) × Nat × Nat) → Bool → Prop) : Prop :=
 oI e 1 .i64 fun n_2 =>
 oI e 2 .i64 fun atx_2 =>
 oP e 7 fun hx_1 =>
 oS e 12 fun marksP marksN marksC =>
 oS e 14 fun nowP nowN nowC =>
 oB e 6 fun t6 =>
  K (n_2, atx_2, hx_1, marksP, marksN, marksC, nowP, nowN, nowC) t6
theorem body_law20_HeapForgets_L2 (f : Int × Int × (Option Addr) × (Option Addr) × Nat × Nat × (Option Addr) × Nat × Nat) (s : S_law20_HeapForgets_L2) (w : World) (Kn : (Int × Int × (Option Addr) × (Option Addr) × Nat × Nat × (Option Addr) × Nat × Nat) → S_law20_HeapForgets_L2 → World → Prop) (Kx3 : (Int × Int × (Option Addr) × (Option Addr) × Nat × Nat × (Option Addr) × Nat × Nat) → World → Prop) (Kr : (Int × Int × (Option Addr) × (Option Addr) × Nat × Nat × (Option Addr) × Nat × Nat) → Bool → World → Prop) :
  B_law20_HeapForgets_L2 f.1 f.2.1 f.2.2.1 f.2.2.2.1 f.2.2.2.2.1 f.2.2.2.2.2.1 f.2.2.2.2.2.2.1 f.2.2.2.2.2.2.2.1 f.2.2.2.2.2.2.2.2 s w (fun s1 w1 => Kn f s1 w1) (fun w1 => Kx3 f w1) (fun t6 w1 => Kr f t6 w1) =
  den Tryz.prog Tryz.f11.ntmps G_law20_HeapForgets (sub (codeOf Tryz.f11) [false, false, true, false, true, true, true, true, true, true, true, true, true, true, true, true]) [false, false, true, false, true, true, true, true, true, true, true, true, true, true, true, true] (roundQ (fun e w => dec_law20_HeapForgets_L2 e fun f s => Kn f s w) (fun e w => dx_law20_HeapForgets_L2_ret e fun f t6 => Kr f t6 w) (fun id e w => match Nat.beq id 3 with | true => dx_law20_HeapForgets_L2_3 e fun f => Kx3 f w | false => False)) (lit_law20_HeapForgets_L2 f s) w := by kernel_rfl
def dx_law20_HeapForgets_L3_5 (e : Env) (K : (Int × Int × (Option Addr) × (Option Addr) × Nat × Nat × (Option Addr) × Nat × Nat × Int) → Int → Prop) : Prop :=
 oI e 1 .i64 fun n_3 =>
 oI e 2 .i64 fun atx_3 =>
 oP e 7 fun hx_2 =>
 oS e 12 fun marksP_1 marksN_1 marksC_1 =>
 oS e 14 fun nowP_1 nowN_1 nowC_1 =>
 oI e 15 .i64 fun i_2 =>
 oI e 16 .i64 fun less_1 =>
  K (n_3, atx_3, hx_2, marksP_1, marksN_1, marksC_1, nowP_1, nowN_1, nowC_1, i_2) less_1
theorem body_law20_HeapForgets_L3 (f : Int × Int × (Option Addr) × (Option Addr) × Nat × Nat × (Option Addr) × Nat × Nat × Int) (s : S_law20_HeapForgets_L3) (w : World) (Kn : (Int × Int × (Option Addr) × (Option Addr) × Nat × Nat × (Option Addr) × Nat × Nat × Int) → S_law20_HeapForgets_L3 → World → Prop) (Kx5 : (Int × Int × (Option Addr) × (Option Addr) × Nat × Nat × (Option Addr) × Nat × Nat × Int) → Int → World → Prop) :
  B_law20_HeapForgets_L3 f.1 f.2.1 f.2.2.1 f.2.2.2.1 f.2.2.2.2.1 f.2.2.2.2.2.1 f.2.2.2.2.2.2.1 f.2.2.2.2.2.2.2.1 f.2.2.2.2.2.2.2.2.1 f.2.2.2.2.2.2.2.2.2 s w (fun s1 w1 => Kn f s1 w1) (fun less_1 w1 => Kx5 f less_1 w1) =
  den Tryz.prog Tryz.f11.ntmps G_law20_HeapForgets (sub (codeOf Tryz.f11) [false, false, true, false, true, false, false, true, false, false, true, false, true, true, true, true, true, true, true, true, true, true, true, true]) [false, false, true, false, true, false, false, true, false, false, true, false, true, true, true, true, true, true, true, true, true, true, true, true] (roundQ (fun e w => dec_law20_HeapForgets_L3 e fun f s => Kn f s w) (fun e w => False) (fun id e w => match Nat.beq id 5 with | true => dx_law20_HeapForgets_L3_5 e fun f less_1 => Kx5 f less_1 w | false => False)) (lit_law20_HeapForgets_L3 f s) w := by kernel_rfl
theorem ok_law20_HeapForgets_L1 : OneOk Tryz.prog Tryz.f11.ntmps G_law20_HeapForgets (codeOf Tryz.f11) [false, true, false, true, true, true, true, true, true] spec_law20_HeapForgets_L1 := by
 intro c hc ih Q e w a hr h
 have hcc : sub (codeOf Tryz.f11) [false, false, true, false, true, true, true, true, true, true] = c := sub_of_codeAt hc
 obtain ⟨f, s, h, hrep⟩ := dec_law20_HeapForgets_L1_ok e a _ hr h
 obtain ⟨J, μ, hj, hround⟩ := h
 refine loop_rule_deep seat_ok seat_mixed ih lit_law20_HeapForgets_L1 dec_law20_HeapForgets_L1 dec_law20_HeapForgets_L1_ok hc f J μ (Kr := fun e w => False) (Kx := fun id e w => match Nat.beq id 0 with | true => (dx_law20_HeapForgets_L1_0 e fun f1 => f1 = f ∧ Q (.exit 0) [⟨1, .int .i64 f.2.2.2.1, none⟩, ⟨2, .int .i64 f.2.2.2.2.1, none⟩, ⟨7, .pointer f.2.2.2.2.2.1, none⟩] w) | false => False) ?_ ?_ ?_ s w a hj hrep
 ·intro e a w hr h
  exact h.elim
 ·intro id e a w hr h0
  (try dsimp only at h0)
  split at h0
  ·rename_i hid
   obtain rfl := Nat.eq_of_beq_eq_true hid
   unfold dx_law20_HeapForgets_L1_0 at h0
   obtain ⟨lP_1, lN_1, lC_1, g0, h1⟩ := oS_elim h0
   obtain ⟨n_1, g1, h2⟩ := oI_elim h1
   obtain ⟨atx_1, g2, h3⟩ := oI_elim h2
   obtain ⟨hx, g7, h4⟩ := oP_elim h3
   obtain ⟨wsP, wsN, wsC, g9, h5⟩ := oS_elim h4
   obtain ⟨hf, hq⟩ := h5
   subst hf
   exact ⟨_, rep_less hr (by simp [g1, g2, g7]), hq⟩
  ·exact h0.elim
 ·intro s w hj
  have hb := hround s w hj
  rw [← hcc]
  have e1 := body_law20_HeapForgets_L1 f s w (fun f1 s1 w1 => f1 = f ∧ J s1 w1 ∧ μ s1 w1 < μ s w) (fun f1 w1 => f1 = f ∧ Q (.exit 0) [⟨1, .int .i64 f.2.2.2.1, none⟩, ⟨2, .int .i64 f.2.2.2.2.1, none⟩, ⟨7, .pointer f.2.2.2.2.2.1, none⟩] w1)
  simp only [true_and] at e1
  exact cast e1 hb
theorem ok_law20_HeapForgets_L2 : OneOk Tryz.prog Tryz.f11.ntmps G_law20_HeapForgets (codeOf Tryz.f11) [false, true, false, true, true, true, true, true, true, true, true, true, true, true, true] spec_law20_HeapForgets_L2 := by
 intro c hc ih Q e w a hr h
 have hcc : sub (codeOf Tryz.f11) [false, false, true, false, true, true, true, true, true, true, true, true, true, true, true, true] = c := sub_of_codeAt hc
 obtain ⟨f, s, h, hrep⟩ := dec_law20_HeapForgets_L2_ok e a _ hr h
 obtain ⟨J, μ, hj, hround⟩ := h
 refine loop_rule_deep seat_ok seat_mixed ih lit_law20_HeapForgets_L2 dec_law20_HeapForgets_L2 dec_law20_HeapForgets_L2_ok hc f J μ (Kr := fun e w => dx_law20_HeapForgets_L2_ret e fun f1 t6 => f1 = f ∧ Q .ret [⟨6, .bool t6, none⟩] w) (Kx := fun id e w => match Nat.beq id 3 with | true => (dx_law20_HeapForgets_L2_3 e fun f1 => f1 = f ∧ Q (.exit 3) [⟨2, .int .i64 f.2.1, none⟩, ⟨7, .pointer f.2.2.1, none⟩, ⟨12, .slice f.2.2.2.1 f.2.2.2.2.1 f.2.2.2.2.2.1, none⟩, ⟨14, .slice f.2.2.2.2.2.2.1 f.2.2.2.2.2.2.2.1 f.2.2.2.2.2.2.2.2, none⟩] w) | false => False) ?_ ?_ ?_ s w a hj hrep
 ·intro e a w hr h0
  unfold dx_law20_HeapForgets_L2_ret at h0
  obtain ⟨n_2, g1, h1⟩ := oI_elim h0
  obtain ⟨atx_2, g2, h2⟩ := oI_elim h1
  obtain ⟨hx_1, g7, h3⟩ := oP_elim h2
  obtain ⟨marksP, marksN, marksC, g12, h4⟩ := oS_elim h3
  obtain ⟨nowP, nowN, nowC, g14, h5⟩ := oS_elim h4
  obtain ⟨t6, g6, h6⟩ := oB_elim h5
  obtain ⟨hf, hq⟩ := h6
  subst hf
  exact ⟨_, rep_less hr (by simp [g6]), hq⟩
 ·intro id e a w hr h0
  (try dsimp only at h0)
  split at h0
  ·rename_i hid
   obtain rfl := Nat.eq_of_beq_eq_true hid
   unfold dx_law20_HeapForgets_L2_3 at h0
   obtain ⟨n_2, g1, h1⟩ := oI_elim h0
   obtain ⟨atx_2, g2, h2⟩ := oI_elim h1
   obtain ⟨hx_1, g7, h3⟩ := oP_elim h2
   obtain ⟨marksP, marksN, marksC, g12, h4⟩ := oS_elim h3
   obtain ⟨nowP, nowN, nowC, g14, h5⟩ := oS_elim h4
   obtain ⟨hf, hq⟩ := h5
   subst hf
   exact ⟨_, rep_less hr (by simp [g2, g7, g12, g14]), hq⟩
  ·exact h0.elim
 ·intro s w hj
  have hb := hround s w hj
  rw [← hcc]
  have e1 := body_law20_HeapForgets_L2 f s w (fun f1 s1 w1 => f1 = f ∧ J s1 w1 ∧ μ s1 w1 < μ s w) (fun f1 w1 => f1 = f ∧ Q (.exit 3) [⟨2, .int .i64 f.2.1, none⟩, ⟨7, .pointer f.2.2.1, none⟩, ⟨12, .slice f.2.2.2.1 f.2.2.2.2.1 f.2.2.2.2.2.1, none⟩, ⟨14, .slice f.2.2.2.2.2.2.1 f.2.2.2.2.2.2.2.1 f.2.2.2.2.2.2.2.2, none⟩] w1) (fun f1 t6 w1 => f1 = f ∧ Q .ret [⟨6, .bool t6, none⟩] w1)
  simp only [true_and] at e1
  exact cast e1 hb
theorem ok_law20_HeapForgets_L3 : OneOk Tryz.prog Tryz.f11.ntmps G_law20_HeapForgets (codeOf Tryz.f11) [false, true, false, true, false, false, true, false, false, true, false, true, true, true, true, true, true, true, true, true, true, true, true] spec_law20_HeapForgets_L3 := by
 intro c hc ih Q e w a hr h
 have hcc : sub (codeOf Tryz.f11) [false, false, true, false, true, false, false, true, false, false, true, false, true, true, true, true, true, true, true, true, true, true, true, true] = c := sub_of_codeAt hc
 obtain ⟨f, s, h, hrep⟩ := dec_law20_HeapForgets_L3_ok e a _ hr h
 obtain ⟨J, μ, hj, hround⟩ := h
 refine loop_rule_deep seat_ok seat_mixed ih lit_law20_HeapForgets_L3 dec_law20_HeapForgets_L3 dec_law20_HeapForgets_L3_ok hc f J μ (Kr := fun e w => False) (Kx := fun id e w => match Nat.beq id 5 with | true => (dx_law20_HeapForgets_L3_5 e fun f1 less_1 => f1 = f ∧ Q (.exit 5) [⟨1, .int .i64 f.1, none⟩, ⟨2, .int .i64 f.2.1, none⟩, ⟨7, .pointer f.2.2.1, none⟩, ⟨12, .slice f.2.2.2.1 f.2.2.2.2.1 f.2.2.2.2.2.1, none⟩, ⟨14, .slice f.2.2.2.2.2.2.1 f.2.2.2.2.2.2.2.1 f.2.2.2.2.2.2.2.2.1, none⟩, ⟨15, .int .i64 f.2.2.2.2.2.2.2.2.2, none⟩, ⟨16, .int .i64 less_1, none⟩] w) | false => False) ?_ ?_ ?_ s w a hj hrep
 ·intro e a w hr h
  exact h.elim
 ·intro id e a w hr h0
  (try dsimp only at h0)
  split at h0
  ·rename_i hid
   obtain rfl := Nat.eq_of_beq_eq_true hid
   unfold dx_law20_HeapForgets_L3_5 at h0
   obtain ⟨n_3, g1, h1⟩ := oI_elim h0
   obtain ⟨atx_3, g2, h2⟩ := oI_elim h1
   obtain ⟨hx_2, g7, h3⟩ := oP_elim h2
   obtain ⟨marksP_1, marksN_1, marksC_1, g12, h4⟩ := oS_elim h3
   obtain ⟨nowP_1, nowN_1, nowC_1, g14, h5⟩ := oS_elim h4
   obtain ⟨i_2, g15, h6⟩ := oI_elim h5
   obtain ⟨less_1, g16, h7⟩ := oI_elim h6
   obtain ⟨hf, hq⟩ := h7
   subst hf
   exact ⟨_, rep_less hr (by simp [g1, g2, g7, g12, g14, g15, g16]), hq⟩
  ·exact h0.elim
 ·intro s w hj
  have hb := hround s w hj
  rw [← hcc]
  have e1 := body_law20_HeapForgets_L3 f s w (fun f1 s1 w1 => f1 = f ∧ J s1 w1 ∧ μ s1 w1 < μ s w) (fun f1 less_1 w1 => f1 = f ∧ Q (.exit 5) [⟨1, .int .i64 f.1, none⟩, ⟨2, .int .i64 f.2.1, none⟩, ⟨7, .pointer f.2.2.1, none⟩, ⟨12, .slice f.2.2.2.1 f.2.2.2.2.1 f.2.2.2.2.2.1, none⟩, ⟨14, .slice f.2.2.2.2.2.2.1 f.2.2.2.2.2.2.2.1 f.2.2.2.2.2.2.2.2.1, none⟩, ⟨15, .int .i64 f.2.2.2.2.2.2.2.2.2, none⟩, ⟨16, .int .i64 less_1, none⟩] w1)
  simp only [true_and] at e1
  exact cast e1 hb
theorem loops_law20_HeapForgets : LoopOk Tryz.prog Tryz.f11.ntmps G_law20_HeapForgets (codeOf Tryz.f11) := loopOk_list rfl ⟨ok_law20_HeapForgets_L1, ⟨ok_law20_HeapForgets_L2, ⟨ok_law20_HeapForgets_L3, trivial⟩⟩⟩
theorem C_law20_HeapForgets.of {lP : Option Addr} {lN : Nat} {lC : Nat} {n : Int} {atx : Int} {w : World} {R : Bool → World → Prop} (h : F_law20_HeapForgets lP lN lC n atx w R) : C_law20_HeapForgets lP lN lC n atx w R := ofS2 (Fm := F_law20_HeapForgets lP lN lC n atx w) Tryz.func11 (by kernel_rfl) loops_law20_HeapForgets rfl (fun _ => by kernel_rfl) h
structure S_law20_large_L1 where
 n : Int
 i : Int
def B_law20_large_L1 (lP_1 : Option Addr) (lN_1 : Nat) (lC_1 : Nat) (s : S_law20_large_L1) (w : World) (Kn : S_law20_large_L1 → World → Prop) (Kx0 : Int → World → Prop) : Prop :=
 If (decide (s.i < (lN_1 : Int)))
 (0 ≤ s.i ∧ s.i < (lN_1 : Int) ∧ NN lP_1 fun a =>
 ∃ t220, w.cell? ((a.add (s.i.toNat * 4)).add 0) = some (.int .i64 t220) ∧
 ∃ t221, w.cell? ((a.add (s.i.toNat * 4)).add 1) = some (.int .i64 t221) ∧
 ∃ t222, w.cell? ((a.add (s.i.toNat * 4)).add 2) = some (.string t222) ∧
 ∃ t223P t223N t223C, w.cell? ((a.add (s.i.toNat * 4)).add 3) = some (.slice t223P t223N t223C) ∧
 C_ref06_Size t220 t221 t222 t223P t223N t223C w fun t23 w1_1 =>
 Kn ⟨(IntKind.i64.wrap (s.n + t23)), (IntKind.i64.wrap (s.i + (1 : Int)))⟩ w1_1)
 (Kx0 s.n w)
def F_law20_large_L1 (lP_1 : Option Addr) (lN_1 : Nat) (lC_1 : Nat) (s : S_law20_large_L1) (w : World) (Kx0 : Int → World → Prop) : Prop :=
 LoopS (fun s w Kn => B_law20_large_L1 lP_1 lN_1 lC_1 s w Kn Kx0) s w
def F_law20_large (lP : Option Addr) (lN : Nat) (lC : Nat) (w : World) (R : Bool → World → Prop) : Prop :=
 If (decide ((lN : Int) > (20 : Int)))
 (R true w)
 (C_ref07_Large lP lN lC w fun t10 w1 =>
 If t10
 (R true w1)
 (F_law20_large_L1 lP lN lC ⟨(0 : Int), (0 : Int)⟩ w1
 (fun n_2 w1_2 =>
 R (decide (n_2 > (8000 : Int))) w1_2)))
def lit_law20_large_L1 (f : (Option Addr) × Nat × Nat) (s : S_law20_large_L1) : Env := [⟨0, .slice f.1 f.2.1 f.2.2, none⟩, ⟨3, .int .i64 s.n, none⟩, ⟨4, .int .i64 s.i, none⟩]
def dec_law20_large_L1 (e : Env) (K : ((Option Addr) × Nat × Nat) → S_law20_large_L1 → Prop) : Prop :=
 oS e 0 fun lP_1 lN_1 lC_1 =>
 oI e 3 .i64 fun n =>
 oI e 4 .i64 fun i =>
  K (lP_1, lN_1, lC_1) ⟨n, i⟩
theorem dec_law20_large_L1_ok {N : Nat} (e : Env) (a : Act) (K : ((Option Addr) × Nat × Nat) → S_law20_large_L1 → Prop) (hr : Rep N a e) (h0 : dec_law20_large_L1 e K) : ∃ f s, K f s ∧ Rep N a (lit_law20_large_L1 f s) := by
 unfold dec_law20_large_L1 at h0
 obtain ⟨lP_1, lN_1, lC_1, g0, h1⟩ := oS_elim h0
 obtain ⟨n, g3, h2⟩ := oI_elim h1
 obtain ⟨i, g4, h3⟩ := oI_elim h2
 exact ⟨_, _, h3, rep_less hr (by simp [lit_law20_large_L1, g0, g3, g4])⟩
def spec_law20_large_L1 (Q : Post) (e : Env) (w : World) : Prop :=
 dec_law20_large_L1 e fun f s => F_law20_large_L1 f.1 f.2.1 f.2.2 s w (fun n_1 w1 => Q (.exit 0) [⟨3, .int .i64 n_1, none⟩] w1)
def G_law20_large : Gen where
 loop := lookL [([false, true, false, true, true, true], spec_law20_large_L1)]
 plan := fun _ => none
def dx_law20_large_L1_0 (e : Env) (K : ((Option Addr) × Nat × Nat) → Int → Prop) : Prop :=
 oS e 0 fun lP_1 lN_1 lC_1 =>
 oI e 3 .i64 fun n_1 =>
  K (lP_1, lN_1, lC_1) n_1
theorem body_law20_large_L1 (f : (Option Addr) × Nat × Nat) (s : S_law20_large_L1) (w : World) (Kn : ((Option Addr) × Nat × Nat) → S_law20_large_L1 → World → Prop) (Kx0 : ((Option Addr) × Nat × Nat) → Int → World → Prop) :
  B_law20_large_L1 f.1 f.2.1 f.2.2 s w (fun s1 w1 => Kn f s1 w1) (fun n_1 w1 => Kx0 f n_1 w1) =
  den Tryz.prog Tryz.f12.ntmps G_law20_large (sub (codeOf Tryz.f12) [false, false, true, false, true, true, true]) [false, false, true, false, true, true, true] (roundQ (fun e w => dec_law20_large_L1 e fun f s => Kn f s w) (fun e w => False) (fun id e w => match Nat.beq id 0 with | true => dx_law20_large_L1_0 e fun f n_1 => Kx0 f n_1 w | false => False)) (lit_law20_large_L1 f s) w := by kernel_rfl
theorem ok_law20_large_L1 : OneOk Tryz.prog Tryz.f12.ntmps G_law20_large (codeOf Tryz.f12) [false, true, false, true, true, true] spec_law20_large_L1 := by
 intro c hc ih Q e w a hr h
 have hcc : sub (codeOf Tryz.f12) [false, false, true, false, true, true, true] = c := sub_of_codeAt hc
 obtain ⟨f, s, h, hrep⟩ := dec_law20_large_L1_ok e a _ hr h
 obtain ⟨J, μ, hj, hround⟩ := h
 refine loop_rule_deep seat_ok seat_mixed ih lit_law20_large_L1 dec_law20_large_L1 dec_law20_large_L1_ok hc f J μ (Kr := fun e w => False) (Kx := fun id e w => match Nat.beq id 0 with | true => (dx_law20_large_L1_0 e fun f1 n_1 => f1 = f ∧ Q (.exit 0) [⟨3, .int .i64 n_1, none⟩] w) | false => False) ?_ ?_ ?_ s w a hj hrep
 ·intro e a w hr h
  exact h.elim
 ·intro id e a w hr h0
  (try dsimp only at h0)
  split at h0
  ·rename_i hid
   obtain rfl := Nat.eq_of_beq_eq_true hid
   unfold dx_law20_large_L1_0 at h0
   obtain ⟨lP_1, lN_1, lC_1, g0, h1⟩ := oS_elim h0
   obtain ⟨n_1, g3, h2⟩ := oI_elim h1
   obtain ⟨hf, hq⟩ := h2
   subst hf
   exact ⟨_, rep_less hr (by simp [g3]), hq⟩
  ·exact h0.elim
 ·intro s w hj
  have hb := hround s w hj
  rw [← hcc]
  have e1 := body_law20_large_L1 f s w (fun f1 s1 w1 => f1 = f ∧ J s1 w1 ∧ μ s1 w1 < μ s w) (fun f1 n_1 w1 => f1 = f ∧ Q (.exit 0) [⟨3, .int .i64 n_1, none⟩] w1)
  simp only [true_and] at e1
  exact cast e1 hb
theorem loops_law20_large : LoopOk Tryz.prog Tryz.f12.ntmps G_law20_large (codeOf Tryz.f12) := loopOk_list rfl ⟨ok_law20_large_L1, trivial⟩
theorem C_law20_large.of {lP : Option Addr} {lN : Nat} {lC : Nat} {w : World} {R : Bool → World → Prop} (h : F_law20_large lP lN lC w R) : C_law20_large lP lN lC w R := ofS2 (Fm := F_law20_large lP lN lC w) Tryz.func12 (by kernel_rfl) loops_law20_large rfl (fun _ => by kernel_rfl) h
end Go.Proofs.YtdaenijbokialaaGreat
