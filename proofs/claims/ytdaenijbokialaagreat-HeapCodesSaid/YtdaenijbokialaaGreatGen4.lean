import Derived.Test.YtdaenijbokialaaGreatGenC
set_option maxRecDepth 100000
set_option linter.unusedVariables false
namespace Go.Proofs.YtdaenijbokialaaGreat
open Go Go.D Go.Proofs
structure S_ref07_Same_L1 where
  i : Int
def B_ref07_Same_L1 (aP_1 : Option Addr) (aN_1 : Nat) (aC_1 : Nat) (bP_1 : Option Addr) (bN_1 : Nat) (bC_1 : Nat) (s : S_ref07_Same_L1) (w : World) (Kn : S_ref07_Same_L1 → World → Prop) (Kx0 : World → Prop) (Kr : Bool → World → Prop) : Prop :=
  If (decide (s.i < (aN_1 : Int)))
  (0 ≤ s.i ∧ s.i < (aN_1 : Int) ∧ NN aP_1 fun a =>
  ∃ t200, (drw w).cell? ((a.add (s.i.toNat * 4)).add 0) = some (.int .i64 t200) ∧
  ∃ t201, (drw w).cell? ((a.add (s.i.toNat * 4)).add 1) = some (.int .i64 t201) ∧
  ∃ t202, (drw w).cell? ((a.add (s.i.toNat * 4)).add 2) = some (.string t202) ∧
  ∃ t203P t203N t203C, (drw w).cell? ((a.add (s.i.toNat * 4)).add 3) = some (.slice t203P t203N t203C) ∧
  0 ≤ s.i ∧ s.i < (bN_1 : Int) ∧ NN bP_1 fun a_1 =>
  ∃ t240, (drw w).cell? ((a_1.add (s.i.toNat * 4)).add 0) = some (.int .i64 t240) ∧
  ∃ t241, (drw w).cell? ((a_1.add (s.i.toNat * 4)).add 1) = some (.int .i64 t241) ∧
  ∃ t242, (drw w).cell? ((a_1.add (s.i.toNat * 4)).add 2) = some (.string t242) ∧
  ∃ t243P t243N t243C, (drw w).cell? ((a_1.add (s.i.toNat * 4)).add 3) = some (.slice t243P t243N t243C) ∧
  C_ref06_Exact t200 t201 t202 t203P t203N t203C t240 t241 t242 t243P t243N t243C (drw w) fun t25 w1 =>
  If (!t25)
  (Kr false w1)
  (Kn ⟨(IntKind.i64.wrap (s.i + (1 : Int)))⟩ w1))
  (Kx0 w)
def F_ref07_Same_L1 (aP_1 : Option Addr) (aN_1 : Nat) (aC_1 : Nat) (bP_1 : Option Addr) (bN_1 : Nat) (bC_1 : Nat) (s : S_ref07_Same_L1) (w : World) (Kx0 : World → Prop) (Kr : Bool → World → Prop) : Prop :=
  LoopS (fun s w Kn => B_ref07_Same_L1 aP_1 aN_1 aC_1 bP_1 bN_1 bC_1 s w Kn Kx0 Kr) s w
def F_ref07_Same (aP : Option Addr) (aN : Nat) (aC : Nat) (bP : Option Addr) (bN : Nat) (bC : Nat) (w : World) (R : Bool → World → Prop) : Prop :=
  If ((aN : Int) != (bN : Int))
  (R false w)
  (F_ref07_Same_L1 aP aN aC bP bN bC ⟨(0 : Int)⟩ w
  (fun w1_1 =>
  R true w1_1)
  (fun t4_1 w1_2 =>
  R t4_1 w1_2))
def lit_ref07_Same_L1 (f : (Option Addr) × Nat × Nat × (Option Addr) × Nat × Nat) (s : S_ref07_Same_L1) : Env := [⟨0, .slice f.1 f.2.1 f.2.2.1, none⟩, ⟨1, .slice f.2.2.2.1 f.2.2.2.2.1 f.2.2.2.2.2, none⟩, ⟨5, .int .i64 s.i, none⟩]
def dec_ref07_Same_L1 (e : Env) (K : ((Option Addr) × Nat × Nat × (Option Addr) × Nat × Nat) → S_ref07_Same_L1 → Prop) : Prop :=
  oS e 0 fun aP_1 aN_1 aC_1 =>
  oS e 1 fun bP_1 bN_1 bC_1 =>
  oI e 5 .i64 fun i =>
    K (aP_1, aN_1, aC_1, bP_1, bN_1, bC_1) ⟨i⟩
theorem dec_ref07_Same_L1_ok {N : Nat} (e : Env) (a : Act) (K : ((Option Addr) × Nat × Nat × (Option Addr) × Nat × Nat) → S_ref07_Same_L1 → Prop) (hr : Rep N a e) (h0 : dec_ref07_Same_L1 e K) : ∃ f s, K f s ∧ Rep N a (lit_ref07_Same_L1 f s) := by
  unfold dec_ref07_Same_L1 at h0
  obtain ⟨aP_1, aN_1, aC_1, g0, h1⟩ := oS_elim h0
  obtain ⟨bP_1, bN_1, bC_1, g1, h2⟩ := oS_elim h1
  obtain ⟨i, g5, h3⟩ := oI_elim h2
  exact ⟨_, _, h3, rep_less hr (by simp [lit_ref07_Same_L1, g0, g1, g5])⟩
def spec_ref07_Same_L1 (Q : Post) (e : Env) (w : World) : Prop :=
  dec_ref07_Same_L1 e fun f s => F_ref07_Same_L1 f.1 f.2.1 f.2.2.1 f.2.2.2.1 f.2.2.2.2.1 f.2.2.2.2.2 s w (fun w1 => Q (.exit 0) [] w1) (fun t4 w1 => Q .ret [⟨4, .bool t4, none⟩] w1)
def G_ref07_Same : Gen where
  loop := lookL [([false, true, false, true, true], spec_ref07_Same_L1)]
  plan := fun id =>
    bif Nat.beq id 6 then some ([0, 0, 3, 7, 0, 0, 48, 112, 255, 511], .take 0 (.take 1 (.take 2 (.take 3 (.take 4 (.take 5 (.take 6 (.take 7 (.take 8 (.take 9 .done)))))))))) else none
def dx_ref07_Same_L1_0 (e : Env) (K : ((Option Addr) × Nat × Nat × (Option Addr) × Nat × Nat) → Prop) : Prop :=
  oS e 0 fun aP_1 aN_1 aC_1 =>
  oS e 1 fun bP_1 bN_1 bC_1 =>
    K (aP_1, aN_1, aC_1, bP_1, bN_1, bC_1)
def dx_ref07_Same_L1_ret (e : Env) (K : ((Option Addr) × Nat × Nat × (Option Addr) × Nat × Nat) → Bool → Prop) : Prop :=
  oS e 0 fun aP_1 aN_1 aC_1 =>
  oS e 1 fun bP_1 bN_1 bC_1 =>
  oB e 4 fun t4 =>
    K (aP_1, aN_1, aC_1, bP_1, bN_1, bC_1) t4
theorem body_ref07_Same_L1 (f : (Option Addr) × Nat × Nat × (Option Addr) × Nat × Nat) (s : S_ref07_Same_L1) (w : World) (Kn : ((Option Addr) × Nat × Nat × (Option Addr) × Nat × Nat) → S_ref07_Same_L1 → World → Prop) (Kx0 : ((Option Addr) × Nat × Nat × (Option Addr) × Nat × Nat) → World → Prop) (Kr : ((Option Addr) × Nat × Nat × (Option Addr) × Nat × Nat) → Bool → World → Prop) :
    B_ref07_Same_L1 f.1 f.2.1 f.2.2.1 f.2.2.2.1 f.2.2.2.2.1 f.2.2.2.2.2 s w (fun s1 w1 => Kn f s1 w1) (fun w1 => Kx0 f w1) (fun t4 w1 => Kr f t4 w1) =
    den Tryz.prog Tryz.f20.ntmps G_ref07_Same (sub (codeOf Tryz.f20) [false, false, true, false, true, true]) [false, false, true, false, true, true] (roundQ (fun e w => dec_ref07_Same_L1 e fun f s => Kn f s w) (fun e w => dx_ref07_Same_L1_ret e fun f t4 => Kr f t4 w) (fun id e w => match Nat.beq id 0 with | true => dx_ref07_Same_L1_0 e fun f => Kx0 f w | false => False)) (lit_ref07_Same_L1 f s) w := by kernel_rfl
theorem ok_ref07_Same_L1 : OneOk Tryz.prog Tryz.f20.ntmps G_ref07_Same (codeOf Tryz.f20) [false, true, false, true, true] spec_ref07_Same_L1 := by
  intro c hc ih Q e w a hr h
  have hcc : sub (codeOf Tryz.f20) [false, false, true, false, true, true] = c := sub_of_codeAt hc
  obtain ⟨f, s, h, hrep⟩ := dec_ref07_Same_L1_ok e a _ hr h
  obtain ⟨J, μ, hj, hround⟩ := h
  refine loop_rule_deep seat_ok seat_mixed ih lit_ref07_Same_L1 dec_ref07_Same_L1 dec_ref07_Same_L1_ok hc f J μ (Kr := fun e w => dx_ref07_Same_L1_ret e fun f1 t4 => f1 = f ∧ Q .ret [⟨4, .bool t4, none⟩] w) (Kx := fun id e w => match Nat.beq id 0 with | true => (dx_ref07_Same_L1_0 e fun f1 => f1 = f ∧ Q (.exit 0) [] w) | false => False) ?_ ?_ ?_ s w a hj hrep
  · intro e a w hr h0
    unfold dx_ref07_Same_L1_ret at h0
    obtain ⟨aP_1, aN_1, aC_1, g0, h1⟩ := oS_elim h0
    obtain ⟨bP_1, bN_1, bC_1, g1, h2⟩ := oS_elim h1
    obtain ⟨t4, g4, h3⟩ := oB_elim h2
    obtain ⟨hf, hq⟩ := h3
    subst hf
    exact ⟨_, rep_less hr (by simp [g4]), hq⟩
  · intro id e a w hr h0
    (try dsimp only at h0)
    split at h0
    · rename_i hid
      obtain rfl := Nat.eq_of_beq_eq_true hid
      unfold dx_ref07_Same_L1_0 at h0
      obtain ⟨aP_1, aN_1, aC_1, g0, h1⟩ := oS_elim h0
      obtain ⟨bP_1, bN_1, bC_1, g1, h2⟩ := oS_elim h1
      obtain ⟨hf, hq⟩ := h2
      subst hf
      exact ⟨_, rep_less hr (by simp), hq⟩
    · exact h0.elim
  · intro s w hj
    have hb := hround s w hj
    rw [← hcc]
    have e1 := body_ref07_Same_L1 f s w (fun f1 s1 w1 => f1 = f ∧ J s1 w1 ∧ μ s1 w1 < μ s w) (fun f1 w1 => f1 = f ∧ Q (.exit 0) [] w1) (fun f1 t4 w1 => f1 = f ∧ Q .ret [⟨4, .bool t4, none⟩] w1)
    simp only [true_and] at e1
    exact cast e1 hb
theorem loops_ref07_Same : LoopOk Tryz.prog Tryz.f20.ntmps G_ref07_Same (codeOf Tryz.f20) := loopOk_list rfl ⟨ok_ref07_Same_L1, trivial⟩
theorem C_ref07_Same.of {aP : Option Addr} {aN : Nat} {aC : Nat} {bP : Option Addr} {bN : Nat} {bC : Nat} {w : World} {R : Bool → World → Prop} (h : F_ref07_Same aP aN aC bP bN bC w R) : C_ref07_Same aP aN aC bP bN bC w R := ofS2 (Fm := F_ref07_Same aP aN aC bP bN bC w) Tryz.func20 (by kernel_rfl) loops_ref07_Same rfl (fun _ => by kernel_rfl) h
def F_heap_Heap_Key (hx : Option Addr) (wx : Int) (w : World) (R : Int → ByteArray → Int → World → Prop) : Prop :=
  New w (.cells #[.int .i64 0, .string ⟨#[]⟩, .int .i64 0] 43) fun r w1 =>
  C_heap_Heap_Deref hx wx w1 fun t11 w1_1 =>
  C_cell_Tag t11 w1_1 fun t13 w1_2 =>
  If (t13 == (4 : Int))
  (C_cell_Number t11 w1_2 fun t17 w1_3 =>
  St w1_3 ((⟨r, 0, none⟩ : Addr).add 0) (.int .i64 1) fun w1_4 =>
  St w1_4 ((⟨r, 0, none⟩ : Addr).add 1) (.string ⟨#[]⟩) fun w1_5 =>
  St w1_5 ((⟨r, 0, none⟩ : Addr).add 2) (.int .i64 t17) fun w1_6 =>
  ∃ r_1, w1_6.cell? ((⟨r, 0, none⟩ : Addr).add 0) = some (.int .i64 r_1) ∧
  ∃ r_2, w1_6.cell? ((⟨r, 0, none⟩ : Addr).add 1) = some (.string r_2) ∧
  ∃ r_3, w1_6.cell? ((⟨r, 0, none⟩ : Addr).add 2) = some (.int .i64 r_3) ∧
  R r_1 r_2 r_3 w1_6)
  (If (t13 == (3 : Int))
  (NN hx fun a =>
  ∃ atoms, (drw w1_2).cell? (a.add 2) = some (.pointer atoms) ∧
  C_cell_Number t11 (drw w1_2) fun t27 w1_7 =>
  w1_7.cell? (a.add 2) = (drw w1_2).cell? (a.add 2) ∧
  C_atom_Table_Name atoms t27 w1_7 fun t280 t281 w1_8 =>
  St w1_8 ((⟨r, 0, none⟩ : Addr).add 0) (.int .i64 2) fun w1_9 =>
  St w1_9 ((⟨r, 0, none⟩ : Addr).add 1) (.string t280) fun w1_10 =>
  St w1_10 ((⟨r, 0, none⟩ : Addr).add 2) (.int .i64 0) fun w1_11 =>
  ∃ r_4, w1_11.cell? ((⟨r, 0, none⟩ : Addr).add 0) = some (.int .i64 r_4) ∧
  ∃ r_5, w1_11.cell? ((⟨r, 0, none⟩ : Addr).add 1) = some (.string r_5) ∧
  ∃ r_6, w1_11.cell? ((⟨r, 0, none⟩ : Addr).add 2) = some (.int .i64 r_6) ∧
  R r_4 r_5 r_6 w1_11)
  (If (t13 == (2 : Int))
  (C_heap_Heap_fun hx t11 w1_2 fun t380 t381 w1_12 =>
  St w1_12 ((⟨r, 0, none⟩ : Addr).add 0) (.int .i64 3) fun w1_13 =>
  St w1_13 ((⟨r, 0, none⟩ : Addr).add 1) (.string t380) fun w1_14 =>
  St w1_14 ((⟨r, 0, none⟩ : Addr).add 2) (.int .i64 t381) fun w1_15 =>
  ∃ r_7, w1_15.cell? ((⟨r, 0, none⟩ : Addr).add 0) = some (.int .i64 r_7) ∧
  ∃ r_8, w1_15.cell? ((⟨r, 0, none⟩ : Addr).add 1) = some (.string r_8) ∧
  ∃ r_9, w1_15.cell? ((⟨r, 0, none⟩ : Addr).add 2) = some (.int .i64 r_9) ∧
  R r_7 r_8 r_9 w1_15)
  (St w1_2 ((⟨r, 0, none⟩ : Addr).add 0) (.int .i64 0) fun w1_16 =>
  St w1_16 ((⟨r, 0, none⟩ : Addr).add 1) (.string ⟨#[]⟩) fun w1_17 =>
  St w1_17 ((⟨r, 0, none⟩ : Addr).add 2) (.int .i64 0) fun w1_18 =>
  ∃ r_10, w1_18.cell? ((⟨r, 0, none⟩ : Addr).add 0) = some (.int .i64 r_10) ∧
  ∃ r_11, w1_18.cell? ((⟨r, 0, none⟩ : Addr).add 1) = some (.string r_11) ∧
  ∃ r_12, w1_18.cell? ((⟨r, 0, none⟩ : Addr).add 2) = some (.int .i64 r_12) ∧
  R r_10 r_11 r_12 w1_18)))
def G_heap_Heap_Key : Gen where
  loop := lookL []
  plan := fun id =>
    bif Nat.beq id 6 then some ([0, 1, 3, 7, 0, 16, 63, 127, 255, 255, 511, 2047], .take 0 (.take 1 (.take 2 (.take 3 (.take 4 (.take 5 (.take 6 (.take 7 (.take 8 (.take 9 (.take 10 (.take 11 .done)))))))))))) else none
theorem loops_heap_Heap_Key : LoopOk Tryz.prog Tryz.f21.ntmps G_heap_Heap_Key (codeOf Tryz.f21) := loopOk_none fun _ => rfl
theorem C_heap_Heap_Key.of {hx : Option Addr} {wx : Int} {w : World} {R : Int → ByteArray → Int → World → Prop} (h : F_heap_Heap_Key hx wx w R) : C_heap_Heap_Key hx wx w R := ofS8 (Fm := F_heap_Heap_Key hx wx w) Tryz.func21 (by kernel_rfl) loops_heap_Heap_Key rfl (fun _ => by kernel_rfl) h
def F_ref18_KeyOf (t0 : Int) (t1 : Int) (t2 : ByteArray) (t3P : Option Addr) (t3N : Nat) (t3C : Nat) (w : World) (R : Int → ByteArray → Int → World → Prop) : Prop :=
  New w (.cells #[.int .i64 t0, .int .i64 t1, .string t2, .slice t3P t3N t3C] 31) fun r w1 =>
  New w1 (.cells #[.int .i64 0, .string ⟨#[]⟩, .int .i64 0] 43) fun r_1 w1_1 =>
  ∃ Kind, w1_1.cell? ((⟨r, 0, none⟩ : Addr).add 0) = some (.int .i64 Kind) ∧
  If (Kind == (2 : Int))
  (∃ N, w1_1.cell? ((⟨r, 0, none⟩ : Addr).add 1) = some (.int .i64 N) ∧
  St w1_1 ((⟨r_1, 0, none⟩ : Addr).add 0) (.int .i64 1) fun w1_2 =>
  St w1_2 ((⟨r_1, 0, none⟩ : Addr).add 1) (.string ⟨#[]⟩) fun w1_3 =>
  St w1_3 ((⟨r_1, 0, none⟩ : Addr).add 2) (.int .i64 N) fun w1_4 =>
  ∃ r_2, w1_4.cell? ((⟨r_1, 0, none⟩ : Addr).add 0) = some (.int .i64 r_2) ∧
  ∃ r_3, w1_4.cell? ((⟨r_1, 0, none⟩ : Addr).add 1) = some (.string r_3) ∧
  ∃ r_4, w1_4.cell? ((⟨r_1, 0, none⟩ : Addr).add 2) = some (.int .i64 r_4) ∧
  R r_2 r_3 r_4 w1_4)
  (If (Kind == (3 : Int))
  (∃ S, w1_1.cell? ((⟨r, 0, none⟩ : Addr).add 2) = some (.string S) ∧
  St w1_1 ((⟨r_1, 0, none⟩ : Addr).add 0) (.int .i64 2) fun w1_5 =>
  St w1_5 ((⟨r_1, 0, none⟩ : Addr).add 1) (.string S) fun w1_6 =>
  St w1_6 ((⟨r_1, 0, none⟩ : Addr).add 2) (.int .i64 0) fun w1_7 =>
  ∃ r_5, w1_7.cell? ((⟨r_1, 0, none⟩ : Addr).add 0) = some (.int .i64 r_5) ∧
  ∃ r_6, w1_7.cell? ((⟨r_1, 0, none⟩ : Addr).add 1) = some (.string r_6) ∧
  ∃ r_7, w1_7.cell? ((⟨r_1, 0, none⟩ : Addr).add 2) = some (.int .i64 r_7) ∧
  R r_5 r_6 r_7 w1_7)
  (If (Kind == (4 : Int))
  (∃ S_1, w1_1.cell? ((⟨r, 0, none⟩ : Addr).add 2) = some (.string S_1) ∧
  ∃ LP LN LC, w1_1.cell? ((⟨r, 0, none⟩ : Addr).add 3) = some (.slice LP LN LC) ∧
  St w1_1 ((⟨r_1, 0, none⟩ : Addr).add 0) (.int .i64 3) fun w1_8 =>
  St w1_8 ((⟨r_1, 0, none⟩ : Addr).add 1) (.string S_1) fun w1_9 =>
  St w1_9 ((⟨r_1, 0, none⟩ : Addr).add 2) (.int .i64 (LN : Int)) fun w1_10 =>
  ∃ r_8, w1_10.cell? ((⟨r_1, 0, none⟩ : Addr).add 0) = some (.int .i64 r_8) ∧
  ∃ r_9, w1_10.cell? ((⟨r_1, 0, none⟩ : Addr).add 1) = some (.string r_9) ∧
  ∃ r_10, w1_10.cell? ((⟨r_1, 0, none⟩ : Addr).add 2) = some (.int .i64 r_10) ∧
  R r_8 r_9 r_10 w1_10)
  (St w1_1 ((⟨r_1, 0, none⟩ : Addr).add 0) (.int .i64 0) fun w1_11 =>
  St w1_11 ((⟨r_1, 0, none⟩ : Addr).add 1) (.string ⟨#[]⟩) fun w1_12 =>
  St w1_12 ((⟨r_1, 0, none⟩ : Addr).add 2) (.int .i64 0) fun w1_13 =>
  ∃ r_11, w1_13.cell? ((⟨r_1, 0, none⟩ : Addr).add 0) = some (.int .i64 r_11) ∧
  ∃ r_12, w1_13.cell? ((⟨r_1, 0, none⟩ : Addr).add 1) = some (.string r_12) ∧
  ∃ r_13, w1_13.cell? ((⟨r_1, 0, none⟩ : Addr).add 2) = some (.int .i64 r_13) ∧
  R r_11 r_12 r_13 w1_13)))
def G_ref18_KeyOf : Gen where
  loop := lookL []
  plan := fun _ => none
theorem loops_ref18_KeyOf : LoopOk Tryz.prog Tryz.f22.ntmps G_ref18_KeyOf (codeOf Tryz.f22) := loopOk_none fun _ => rfl
theorem C_ref18_KeyOf.of {t0 : Int} {t1 : Int} {t2 : ByteArray} {t3P : Option Addr} {t3N : Nat} {t3C : Nat} {w : World} {R : Int → ByteArray → Int → World → Prop} (h : F_ref18_KeyOf t0 t1 t2 t3P t3N t3C w R) : C_ref18_KeyOf t0 t1 t2 t3P t3N t3C w R := ofS8 (Fm := F_ref18_KeyOf t0 t1 t2 t3P t3N t3C w) Tryz.func22 (by kernel_rfl) loops_ref18_KeyOf rfl (fun _ => by kernel_rfl) h
def F_heap_Heap_Is (hx : Option Addr) (wx : Int) (namex : ByteArray) (arity : Int) (w : World) (R : Bool → World → Prop) : Prop :=
  C_heap_Heap_Deref hx wx w fun t15 w1 =>
  C_cell_Tag t15 w1 fun t17 w1_1 =>
  If (t17 == (3 : Int))
  (NN hx fun a =>
  ∃ atoms, (drw w1_1).cell? (a.add 2) = some (.pointer atoms) ∧
  C_cell_Number t15 (drw w1_1) fun t26 w1_2 =>
  w1_2.cell? (a.add 2) = (drw w1_1).cell? (a.add 2) ∧
  C_atom_Table_Name atoms t26 w1_2 fun t270 t271 w1_3 =>
  If (t270.toList == namex.toList)
  (R (arity == (0 : Int)) w1_3)
  (R false w1_3))
  (If (t17 == (2 : Int))
  (C_heap_Heap_fun hx t15 w1_1 fun t420 t421 w1_4 =>
  If (t420.toList == namex.toList)
  (R (t421 == arity) w1_4)
  (R false w1_4))
  (R false w1_1))
def G_heap_Heap_Is : Gen where
  loop := lookL []
  plan := fun id =>
    bif Nat.beq id 4 then some ([0, 1, 3, 7, 0, 16, 63, 127, 255, 255, 511, 2047], .take 0 (.take 1 (.take 2 (.take 3 (.take 4 (.take 5 (.take 6 (.take 7 (.take 8 (.take 9 (.take 10 (.take 11 .done)))))))))))) else none
theorem loops_heap_Heap_Is : LoopOk Tryz.prog Tryz.f23.ntmps G_heap_Heap_Is (codeOf Tryz.f23) := loopOk_none fun _ => rfl
theorem C_heap_Heap_Is.of {hx : Option Addr} {wx : Int} {namex : ByteArray} {arity : Int} {w : World} {R : Bool → World → Prop} (h : F_heap_Heap_Is hx wx namex arity w R) : C_heap_Heap_Is hx wx namex arity w R := ofS2 (Fm := F_heap_Heap_Is hx wx namex arity w) Tryz.func23 (by kernel_rfl) loops_heap_Heap_Is rfl (fun _ => by kernel_rfl) h
def F_heap_Heap_Deref (hx : Option Addr) (wx : Int) (w : World) (R : Int → World → Prop) : Prop :=
  C_heap_Heap_right hx wx w fun t7 w1 =>
  If (!t7)
  (R (0 : Int) w1)
  (C_heap_Heap_deref hx wx w1 fun t11 w1_1 =>
  R t11 w1_1)
def G_heap_Heap_Deref : Gen where
  loop := lookL []
  plan := fun _ => none
theorem loops_heap_Heap_Deref : LoopOk Tryz.prog Tryz.f24.ntmps G_heap_Heap_Deref (codeOf Tryz.f24) := loopOk_none fun _ => rfl
theorem C_heap_Heap_Deref.of {hx : Option Addr} {wx : Int} {w : World} {R : Int → World → Prop} (h : F_heap_Heap_Deref hx wx w R) : C_heap_Heap_Deref hx wx w R := ofS9 (Fm := F_heap_Heap_Deref hx wx w) Tryz.func24 (by kernel_rfl) loops_heap_Heap_Deref rfl (fun _ => by kernel_rfl) h
def F_ref06_Comp (sx : ByteArray) (lP : Option Addr) (lN : Nat) (lC : Nat) (w : World) (R : Int → Int → ByteArray → Option Addr → Nat → Nat → World → Prop) : Prop :=
  New w (.cells #[.int .i64 0, .int .i64 0, .string ⟨#[]⟩, .slice none 0 0] 31) fun r w1 =>
  If ((lN : Int) == (0 : Int))
  (C_ref06_Atom sx w1 fun t90 t91 t92 t93P t93N t93C w1_1 =>
  St w1_1 ((⟨r, 0, none⟩ : Addr).add 0) (.int .i64 t90) fun w1_2 =>
  St w1_2 ((⟨r, 0, none⟩ : Addr).add 1) (.int .i64 t91) fun w1_3 =>
  St w1_3 ((⟨r, 0, none⟩ : Addr).add 2) (.string t92) fun w1_4 =>
  St w1_4 ((⟨r, 0, none⟩ : Addr).add 3) (.slice t93P t93N t93C) fun w1_5 =>
  ∃ r_1, w1_5.cell? ((⟨r, 0, none⟩ : Addr).add 0) = some (.int .i64 r_1) ∧
  ∃ r_2, w1_5.cell? ((⟨r, 0, none⟩ : Addr).add 1) = some (.int .i64 r_2) ∧
  ∃ r_3, w1_5.cell? ((⟨r, 0, none⟩ : Addr).add 2) = some (.string r_3) ∧
  ∃ rP rN rC, w1_5.cell? ((⟨r, 0, none⟩ : Addr).add 3) = some (.slice rP rN rC) ∧
  R r_1 r_2 r_3 rP rN rC w1_5)
  (BSl Tryz.prog 22 0 [] w1 fun t11P t11N t11C w1_6 =>
  App Tryz.prog #[22, 22] 22 #[.slice t11P t11N t11C, .slice lP lN lC] w1_6 fun t13P t13N t13C w1_7 =>
  St w1_7 ((⟨r, 0, none⟩ : Addr).add 0) (.int .i64 4) fun w1_8 =>
  St w1_8 ((⟨r, 0, none⟩ : Addr).add 1) (.int .i64 0) fun w1_9 =>
  St w1_9 ((⟨r, 0, none⟩ : Addr).add 2) (.string sx) fun w1_10 =>
  St w1_10 ((⟨r, 0, none⟩ : Addr).add 3) (.slice t13P t13N t13C) fun w1_11 =>
  ∃ r_4, w1_11.cell? ((⟨r, 0, none⟩ : Addr).add 0) = some (.int .i64 r_4) ∧
  ∃ r_5, w1_11.cell? ((⟨r, 0, none⟩ : Addr).add 1) = some (.int .i64 r_5) ∧
  ∃ r_6, w1_11.cell? ((⟨r, 0, none⟩ : Addr).add 2) = some (.string r_6) ∧
  ∃ rP_1 rN_1 rC_1, w1_11.cell? ((⟨r, 0, none⟩ : Addr).add 3) = some (.slice rP_1 rN_1 rC_1) ∧
  R r_4 r_5 r_6 rP_1 rN_1 rC_1 w1_11)
def G_ref06_Comp : Gen where
  loop := lookL []
  plan := fun _ => none
theorem loops_ref06_Comp : LoopOk Tryz.prog Tryz.f26.ntmps G_ref06_Comp (codeOf Tryz.f26) := loopOk_none fun _ => rfl
theorem C_ref06_Comp.of {sx : ByteArray} {lP : Option Addr} {lN : Nat} {lC : Nat} {w : World} {R : Int → Int → ByteArray → Option Addr → Nat → Nat → World → Prop} (h : F_ref06_Comp sx lP lN lC w R) : C_ref06_Comp sx lP lN lC w R := ofS10 (Fm := F_ref06_Comp sx lP lN lC w) Tryz.func26 (by kernel_rfl) loops_ref06_Comp rfl (fun _ => by kernel_rfl) h
def F_heap_Heap_Struct (hx : Option Addr) (namex : ByteArray) (arity : Int) (w : World) (R : Int → Int → World → Prop) : Prop :=
  C_heap_Heap_made hx w fun t12 w1 =>
  If (!t12)
  (R (0 : Int) (6 : Int) w1)
  (NN hx fun a =>
  ∃ funs, w1.cell? (a.add 3) = some (.pointer funs) ∧
  C_functor_Table_Put funs namex arity w1 fun t210 t211 w1_1 =>
  If (t211 != (0 : Int))
  (R (0 : Int) t211 w1_1)
  (C_heap_Heap_take hx (IntKind.i64.wrap (arity + (1 : Int))) w1_1 fun t310 t311 w1_2 =>
  If (t311 != (0 : Int))
  (R (0 : Int) t311 w1_2)
  (NN hx fun a_1 =>
  ∃ cellsP cellsN cellsC, (drw w1_2).cell? (a_1.add 4) = some (.slice cellsP cellsN cellsC) ∧
  C_heap_word (5 : Int) t210 (drw w1_2) fun t43 w1_3 =>
  w1_3.cell? (a_1.add 4) = (drw w1_2).cell? (a_1.add 4) ∧
  0 ≤ t310 ∧ t310 < (cellsN : Int) ∧ NN cellsP fun a_2 =>
  St w1_3 ((a_2.add (t310.toNat * 1)).add 0) (.int .u64 t43) fun w1_4 =>
  C_heap_word (2 : Int) t310 w1_4 fun t46 w1_5 =>
  R t46 (0 : Int) w1_5)))
def G_heap_Heap_Struct : Gen where
  loop := lookL []
  plan := fun id =>
    bif Nat.beq id 9 then some ([0, 1, 3, 7, 0, 0, 32, 127, 255], .take 0 (.take 1 (.take 2 (.take 3 (.take 4 (.take 5 (.take 6 (.take 7 (.take 8 .done))))))))) else none
theorem loops_heap_Heap_Struct : LoopOk Tryz.prog Tryz.f27.ntmps G_heap_Heap_Struct (codeOf Tryz.f27) := loopOk_none fun _ => rfl
theorem C_heap_Heap_Struct.of {hx : Option Addr} {namex : ByteArray} {arity : Int} {w : World} {R : Int → Int → World → Prop} (h : F_heap_Heap_Struct hx namex arity w R) : C_heap_Heap_Struct hx namex arity w R := ofS5 (Fm := F_heap_Heap_Struct hx namex arity w) Tryz.func27 (by kernel_rfl) loops_heap_Heap_Struct rfl (fun _ => by kernel_rfl) h
def F_heap_Heap_Arg (hx : Option Addr) (wx : Int) (i : Int) (w : World) (R : Int → Int → World → Prop) : Prop :=
  C_heap_Heap_made hx w fun t10 w1 =>
  If (!t10)
  (R (0 : Int) (6 : Int) w1)
  (C_heap_Heap_compound hx wx i w1 fun t160 t161 w1_1 =>
  If (!t161)
  (R (0 : Int) (1 : Int) w1_1)
  (C_heap_arg t160 i w1_1 fun t23 w1_2 =>
  C_heap_ref t23 w1_2 fun t24 w1_3 =>
  R t24 (0 : Int) w1_3))
def G_heap_Heap_Arg : Gen where
  loop := lookL []
  plan := fun _ => none
theorem loops_heap_Heap_Arg : LoopOk Tryz.prog Tryz.f28.ntmps G_heap_Heap_Arg (codeOf Tryz.f28) := loopOk_none fun _ => rfl
theorem C_heap_Heap_Arg.of {hx : Option Addr} {wx : Int} {i : Int} {w : World} {R : Int → Int → World → Prop} (h : F_heap_Heap_Arg hx wx i w R) : C_heap_Heap_Arg hx wx i w R := ofS5 (Fm := F_heap_Heap_Arg hx wx i w) Tryz.func28 (by kernel_rfl) loops_heap_Heap_Arg rfl (fun _ => by kernel_rfl) h
def F_ref06_Large (t0 : Int) (t1 : Int) (t2 : ByteArray) (t3P : Option Addr) (t3N : Nat) (t3C : Nat) (w : World) (R : Bool → World → Prop) : Prop :=
  New w (.cells #[.int .i64 t0, .int .i64 t1, .string t2, .slice t3P t3N t3C] 31) fun r w1 =>
  New w1 (.cells #[.int .i64 0] 3) fun r_1 w1_1 =>
  St w1_1 ((⟨r_1, 0, none⟩ : Addr).add 0) (.int .i64 0) fun w1_2 =>
  ∃ t40, w1_2.cell? ((⟨r, 0, none⟩ : Addr).add 0) = some (.int .i64 t40) ∧
  ∃ t41, w1_2.cell? ((⟨r, 0, none⟩ : Addr).add 1) = some (.int .i64 t41) ∧
  ∃ t42, w1_2.cell? ((⟨r, 0, none⟩ : Addr).add 2) = some (.string t42) ∧
  ∃ t43P t43N t43C, w1_2.cell? ((⟨r, 0, none⟩ : Addr).add 3) = some (.slice t43P t43N t43C) ∧
  C_ref06_large t40 t41 t42 t43P t43N t43C (0 : Int) (some ⟨r_1, 0, none⟩) w1_2 fun t5 w1_3 =>
  R t5 w1_3
def G_ref06_Large : Gen where
  loop := lookL []
  plan := fun _ => none
theorem loops_ref06_Large : LoopOk Tryz.prog Tryz.f30.ntmps G_ref06_Large (codeOf Tryz.f30) := loopOk_none fun _ => rfl
theorem C_ref06_Large.of {t0 : Int} {t1 : Int} {t2 : ByteArray} {t3P : Option Addr} {t3N : Nat} {t3C : Nat} {w : World} {R : Bool → World → Prop} (h : F_ref06_Large t0 t1 t2 t3P t3N t3C w R) : C_ref06_Large t0 t1 t2 t3P t3N t3C w R := ofS2 (Fm := F_ref06_Large t0 t1 t2 t3P t3N t3C w) Tryz.func30 (by kernel_rfl) loops_ref06_Large rfl (fun _ => by kernel_rfl) h
def F_ref06_Var (n : Int) (w : World) (R : Int → Int → ByteArray → Option Addr → Nat → Nat → World → Prop) : Prop :=
  New w (.cells #[.int .i64 0, .int .i64 0, .string ⟨#[]⟩, .slice none 0 0] 31) fun r w1 =>
  St w1 ((⟨r, 0, none⟩ : Addr).add 0) (.int .i64 1) fun w1_1 =>
  St w1_1 ((⟨r, 0, none⟩ : Addr).add 1) (.int .i64 n) fun w1_2 =>
  St w1_2 ((⟨r, 0, none⟩ : Addr).add 2) (.string ⟨#[]⟩) fun w1_3 =>
  St w1_3 ((⟨r, 0, none⟩ : Addr).add 3) (.slice none 0 0) fun w1_4 =>
  ∃ r_1, w1_4.cell? ((⟨r, 0, none⟩ : Addr).add 0) = some (.int .i64 r_1) ∧
  ∃ r_2, w1_4.cell? ((⟨r, 0, none⟩ : Addr).add 1) = some (.int .i64 r_2) ∧
  ∃ r_3, w1_4.cell? ((⟨r, 0, none⟩ : Addr).add 2) = some (.string r_3) ∧
  ∃ rP rN rC, w1_4.cell? ((⟨r, 0, none⟩ : Addr).add 3) = some (.slice rP rN rC) ∧
  R r_1 r_2 r_3 rP rN rC w1_4
def G_ref06_Var : Gen where
  loop := lookL []
  plan := fun _ => none
theorem loops_ref06_Var : LoopOk Tryz.prog Tryz.f31.ntmps G_ref06_Var (codeOf Tryz.f31) := loopOk_none fun _ => rfl
theorem C_ref06_Var.of {n : Int} {w : World} {R : Int → Int → ByteArray → Option Addr → Nat → Nat → World → Prop} (h : F_ref06_Var n w R) : C_ref06_Var n w R := ofS10 (Fm := F_ref06_Var n w) Tryz.func31 (by kernel_rfl) loops_ref06_Var rfl (fun _ => by kernel_rfl) h
def F_ref06_Vars (t0 : Int) (t1 : Int) (t2 : ByteArray) (t3P : Option Addr) (t3N : Nat) (t3C : Nat) (w : World) (R : Option Addr → Nat → Nat → World → Prop) : Prop :=
  New w (.cells #[.int .i64 t0, .int .i64 t1, .string t2, .slice t3P t3N t3C] 31) fun r w1 =>
  ∃ t30, w1.cell? ((⟨r, 0, none⟩ : Addr).add 0) = some (.int .i64 t30) ∧
  ∃ t31, w1.cell? ((⟨r, 0, none⟩ : Addr).add 1) = some (.int .i64 t31) ∧
  ∃ t32, w1.cell? ((⟨r, 0, none⟩ : Addr).add 2) = some (.string t32) ∧
  ∃ t33P t33N t33C, w1.cell? ((⟨r, 0, none⟩ : Addr).add 3) = some (.slice t33P t33N t33C) ∧
  C_ref06_vars t30 t31 t32 t33P t33N t33C none 0 0 w1 fun t4P t4N t4C w1_1 =>
  R t4P t4N t4C w1_1
def G_ref06_Vars : Gen where
  loop := lookL []
  plan := fun _ => none
theorem loops_ref06_Vars : LoopOk Tryz.prog Tryz.f32.ntmps G_ref06_Vars (codeOf Tryz.f32) := loopOk_none fun _ => rfl
theorem C_ref06_Vars.of {t0 : Int} {t1 : Int} {t2 : ByteArray} {t3P : Option Addr} {t3N : Nat} {t3C : Nat} {w : World} {R : Option Addr → Nat → Nat → World → Prop} (h : F_ref06_Vars t0 t1 t2 t3P t3N t3C w R) : C_ref06_Vars t0 t1 t2 t3P t3N t3C w R := ofS6 (Fm := F_ref06_Vars t0 t1 t2 t3P t3N t3C w) Tryz.func32 (by kernel_rfl) loops_ref06_Vars rfl (fun _ => by kernel_rfl) h
def F_heap_Heap_Unify (hx : Option Addr) (a : Int) (b : Int) (w : World) (R : Bool → Int → World → Prop) : Prop :=
  C_heap_Heap_made hx w fun t12 w1 =>
  If (!t12)
  (R false (6 : Int) w1)
  (C_heap_Heap_right hx a w1 fun t17 w1_1 =>
  If (!t17)
  (R false (1 : Int) w1_1)
  (C_heap_Heap_right hx b w1_1 fun t22 w1_2 =>
  If (!t22)
  (R false (1 : Int) w1_2)
  (New w1_2 (.map #[] 0) fun r w1_3 =>
  New w1_3 (.cells #[.pointer hx, .map (some r), .int .i64 0] 143) fun r_1 w1_4 =>
  C_heap_matcher_unify (some ⟨r_1, 0, none⟩) a b w1_4 fun t32 w1_5 =>
  NN (some ⟨r_1, 0, none⟩) fun a_1 =>
  ∃ ex, (drw w1_5).cell? (a_1.add 2) = some (.int .i64 ex) ∧
  (drw w1_5).cell? (a_1.add 2) = (drw w1_5).cell? (a_1.add 2) ∧
  R t32 ex (drw w1_5))))
def G_heap_Heap_Unify : Gen where
  loop := lookL []
  plan := fun id =>
    bif Nat.beq id 7 then some ([0, 0, 2, 6, 14, 1, 63], .take 0 (.take 1 (.take 2 (.take 3 (.take 4 (.take 5 (.take 6 .done))))))) else none
theorem loops_heap_Heap_Unify : LoopOk Tryz.prog Tryz.f35.ntmps G_heap_Heap_Unify (codeOf Tryz.f35) := loopOk_none fun _ => rfl
theorem C_heap_Heap_Unify.of {hx : Option Addr} {a : Int} {b : Int} {w : World} {R : Bool → Int → World → Prop} (h : F_heap_Heap_Unify hx a b w R) : C_heap_Heap_Unify hx a b w R := ofS11 (Fm := F_heap_Heap_Unify hx a b w) Tryz.func35 (by kernel_rfl) loops_heap_Heap_Unify rfl (fun _ => by kernel_rfl) h
def F_heap_Heap_Cell (hx : Option Addr) (atx : Int) (w : World) (R : Int → World → Prop) : Prop :=
  C_heap_Heap_made hx w fun t6 w1 =>
  If (!t6)
  (R (0 : Int) w1)
  (C_heap_Heap_taken hx atx w1 fun t11 w1_1 =>
  If (!t11)
  (R (0 : Int) w1_1)
  (NN hx fun a =>
  ∃ cellsP cellsN cellsC, w1_1.cell? (a.add 4) = some (.slice cellsP cellsN cellsC) ∧
  0 ≤ atx ∧ atx < (cellsN : Int) ∧ NN cellsP fun a_1 =>
  ∃ t20, w1_1.cell? (a_1.add (atx.toNat * 1)) = some (.int .u64 t20) ∧
  R t20 w1_1))
def G_heap_Heap_Cell : Gen where
  loop := lookL []
  plan := fun _ => none
theorem loops_heap_Heap_Cell : LoopOk Tryz.prog Tryz.f36.ntmps G_heap_Heap_Cell (codeOf Tryz.f36) := loopOk_none fun _ => rfl
theorem C_heap_Heap_Cell.of {hx : Option Addr} {atx : Int} {w : World} {R : Int → World → Prop} (h : F_heap_Heap_Cell hx atx w R) : C_heap_Heap_Cell hx atx w R := ofS9 (Fm := F_heap_Heap_Cell hx atx w) Tryz.func36 (by kernel_rfl) loops_heap_Heap_Cell rfl (fun _ => by kernel_rfl) h
def F_heap_Heap_Pool (hx : Option Addr) (w : World) (R : Option Addr → World → Prop) : Prop :=
  C_heap_Heap_made hx w fun t4 w1 =>
  If (!t4)
  (R none w1)
  (NN hx fun a =>
  ∃ pool, w1.cell? (a.add 0) = some (.pointer pool) ∧
  R pool w1)
def G_heap_Heap_Pool : Gen where
  loop := lookL []
  plan := fun _ => none
theorem loops_heap_Heap_Pool : LoopOk Tryz.prog Tryz.f40.ntmps G_heap_Heap_Pool (codeOf Tryz.f40) := loopOk_none fun _ => rfl
theorem C_heap_Heap_Pool.of {hx : Option Addr} {w : World} {R : Option Addr → World → Prop} (h : F_heap_Heap_Pool hx w R) : C_heap_Heap_Pool hx w R := ofS13 (Fm := F_heap_Heap_Pool hx w) Tryz.func40 (by kernel_rfl) loops_heap_Heap_Pool rfl (fun _ => by kernel_rfl) h
def F_pool_Pool_Top (p : Option Addr) (w : World) (R : Int → World → Prop) : Prop :=
  C_pool_Pool_made p w fun t4 w1 =>
  If (!t4)
  (R (0 : Int) w1)
  (NN p fun a =>
  ∃ topx, w1.cell? (a.add 1) = some (.int .i64 topx) ∧
  R topx w1)
def G_pool_Pool_Top : Gen where
  loop := lookL []
  plan := fun _ => none
theorem loops_pool_Pool_Top : LoopOk Tryz.prog Tryz.f41.ntmps G_pool_Pool_Top (codeOf Tryz.f41) := loopOk_none fun _ => rfl
theorem C_pool_Pool_Top.of {p : Option Addr} {w : World} {R : Int → World → Prop} (h : F_pool_Pool_Top p w R) : C_pool_Pool_Top p w R := ofS4 (Fm := F_pool_Pool_Top p w) Tryz.func41 (by kernel_rfl) loops_pool_Pool_Top rfl (fun _ => by kernel_rfl) h
def F_heap_Heap_Var (hx : Option Addr) (w : World) (R : Int → Int → World → Prop) : Prop :=
  C_heap_Heap_made hx w fun t7 w1 =>
  If (!t7)
  (R (0 : Int) (6 : Int) w1)
  (C_heap_Heap_take hx (1 : Int) w1 fun t110 t111 w1_1 =>
  If (t111 != (0 : Int))
  (R (0 : Int) t111 w1_1)
  (C_heap_ref t110 w1_1 fun t18 w1_2 =>
  R t18 (0 : Int) w1_2))
def G_heap_Heap_Var : Gen where
  loop := lookL []
  plan := fun _ => none
theorem loops_heap_Heap_Var : LoopOk Tryz.prog Tryz.f42.ntmps G_heap_Heap_Var (codeOf Tryz.f42) := loopOk_none fun _ => rfl
theorem C_heap_Heap_Var.of {hx : Option Addr} {w : World} {R : Int → Int → World → Prop} (h : F_heap_Heap_Var hx w R) : C_heap_Heap_Var hx w R := ofS5 (Fm := F_heap_Heap_Var hx w) Tryz.func42 (by kernel_rfl) loops_heap_Heap_Var rfl (fun _ => by kernel_rfl) h
end Go.Proofs.YtdaenijbokialaaGreat
