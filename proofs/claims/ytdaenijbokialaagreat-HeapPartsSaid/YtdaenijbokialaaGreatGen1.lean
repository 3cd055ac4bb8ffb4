import Derived.Test.YtdaenijbokialaaGreatGenC
set_option maxRecDepth 100000
set_option linter.unusedVariables false
namespace Go.Proofs.YtdaenijbokialaaGreat
open Go Go.D Go.Proofs
structure S_law20_HeapParts_L1 where
  i : Int
def F_law20_HeapParts_k1 (R : Bool → World → Prop) (w1_4 : World) : Prop :=
  C_law20_lives  w1_4 fun t48 w1_5 =>
  R t48 w1_5
def F_law20_HeapParts_k2 (R : Bool → World → Prop) (w1_9 : World) : Prop :=
  R false w1_9
def F_law20_HeapParts_k3 (Kr : Bool → World → Prop) (w1_18 : World) : Prop :=
  Kr false w1_18
def F_law20_HeapParts_k4 (R : Bool → World → Prop) (w1_29 : World) : Prop :=
  R false w1_29
def B_law20_HeapParts_L1 (namex_1 : ByteArray) (lP_1 : Option Addr) (lN_1 : Nat) (lC_1 : Nat) (hx : Option Addr) (sx : Int) (wsP : Option Addr) (wsN : Nat) (wsC : Nat) (s : S_law20_HeapParts_L1) (w : World) (Kn : S_law20_HeapParts_L1 → World → Prop) (Kx0 : World → Prop) (Kr : Bool → World → Prop) : Prop :=
  If (decide (s.i < (lN_1 : Int)))
  (C_heap_Heap_Arg hx sx (IntKind.i64.wrap (s.i + (1 : Int))) w fun t960 t961 w1_13 =>
  If (t961 != (0 : Int))
  (F_law20_HeapParts_k3 Kr (drw w1_13))
  (C_heap_Heap_Deref hx t960 (drw w1_13) fun t104 w1_14 =>
  If (t104 != t960)
  (F_law20_HeapParts_k3 Kr w1_14)
  (0 ≤ s.i ∧ s.i < (wsN : Int) ∧ NN wsP fun a =>
  ∃ t116, w1_14.cell? (a.add (s.i.toNat * 1)) = some (.int .u64 t116) ∧
  C_heap_Heap_Put hx sx (IntKind.i64.wrap (s.i + (1 : Int))) t116 w1_14 fun t117 w1_15 =>
  If (t117 != (0 : Int))
  (F_law20_HeapParts_k3 Kr w1_15)
  (0 ≤ s.i ∧ s.i < (wsN : Int) ∧ NN wsP fun a_1 =>
  ∃ t128, w1_15.cell? (a_1.add (s.i.toNat * 1)) = some (.int .u64 t128) ∧
  C_heap_Heap_Deref hx t960 w1_15 fun t123 w1_16 =>
  w1_16.cell? (a_1.add (s.i.toNat * 1)) = w1_15.cell? (a_1.add (s.i.toNat * 1)) ∧
  C_heap_Heap_Deref hx t128 w1_16 fun t129 w1_17 =>
  If (t123 != t129)
  (Kr false w1_17)
  (Kn ⟨(IntKind.i64.wrap (s.i + (1 : Int)))⟩ w1_17)))))
  (Kx0 w)
def F_law20_HeapParts_L1 (namex_1 : ByteArray) (lP_1 : Option Addr) (lN_1 : Nat) (lC_1 : Nat) (hx : Option Addr) (sx : Int) (wsP : Option Addr) (wsN : Nat) (wsC : Nat) (s : S_law20_HeapParts_L1) (w : World) (Kx0 : World → Prop) (Kr : Bool → World → Prop) : Prop :=
  LoopS (fun s w Kn => B_law20_HeapParts_L1 namex_1 lP_1 lN_1 lC_1 hx sx wsP wsN wsC s w Kn Kx0 Kr) s w
def F_law20_HeapParts (namex : ByteArray) (lP : Option Addr) (lN : Nat) (lC : Nat) (w : World) (R : Bool → World → Prop) : Prop :=
  C_law20_large lP lN lC w fun t20 w1 =>
  If t20
  (F_law20_HeapParts_k1 R w1)
  (C_law20_may lP lN lC w1 fun t23 w1_1 =>
  If (!t23)
  (F_law20_HeapParts_k1 R w1_1)
  (If (decide ((namex.size : Int) > (64 : Int)))
  (F_law20_HeapParts_k1 R w1_1)
  (If (decide ((lN : Int) < (1 : Int)))
  (F_law20_HeapParts_k1 R w1_1)
  (If (decide ((lN : Int) > (16 : Int)))
  (F_law20_HeapParts_k1 R w1_1)
  (C_ref06_Comp namex lP lN lC w1_1 fun t440 t441 t442 t443P t443N t443C w1_2 =>
  C_ref06_Check t440 t441 t442 t443P t443N t443C w1_2 fun t45 w1_3 =>
  If (t45 != (0 : Int))
  (C_law20_lives  w1_3 fun t48_1 w1_6 =>
  R t48_1 w1_6)
  (C_heap_New (131072 : Int) (100 : Int) w1_3 fun t500 t501 w1_7 =>
  C_law20_lives  w1_7 fun t53 w1_8 =>
  If (!t53)
  (F_law20_HeapParts_k2 R w1_8)
  (If (t501 != (0 : Int))
  (F_law20_HeapParts_k2 R w1_8)
  (If t500.isNone
  (R false w1_8)
  (New w1_8 (.map #[] 0) fun r w1_10 =>
  C_heap_Heap_Struct t500 namex (lN : Int) w1_10 fun t690 t691 w1_11 =>
  C_law20_encode t500 lP lN lC (some r) w1_11 fun t75P t75N t75C w1_12 =>
  If (t691 != (0 : Int))
  (R false w1_12)
  (If ((t75N : Int) != (lN : Int))
  (R false w1_12)
  (F_law20_HeapParts_L1 namex lP lN lC t500 t690 t75P t75N t75C ⟨(0 : Int)⟩ w1_12
  (fun w1_19 =>
  C_heap_Heap_Arg t500 t690 (IntKind.i64.wrap ((lN : Int) + (1 : Int))) w1_19 fun t1380 t1381 w1_21 =>
  BSl Tryz.prog 36 1 [(0, .int .u64 t690)] w1_21 fun t144P t144N t144C w1_22 =>
  C_heap_Heap_Decode t500 t144P t144N t144C w1_22 fun t1450P t1450N t1450C t1451P t1451N t1451C t1452 w1_23 =>
  If (t1381 == (1 : Int))
  (0 ≤ (0 : Int) ∧ (0 : Int) < (t75N : Int) ∧ NN t75P fun a_2 =>
  ∃ t156, w1_23.cell? (a_2.add ((0 : Int).toNat * 1)) = some (.int .u64 t156) ∧
  C_heap_Heap_Put t500 t690 (0 : Int) t156 w1_23 fun t157 w1_24 =>
  If (t157 == (1 : Int))
  (If (t1452 == (0 : Int))
  (C_ref06_Comp namex lP lN lC w1_24 fun t1680 t1681 t1682 t1683P t1683N t1683C w1_25 =>
  BSl Tryz.prog 22 1 [(0, .agg #[.int .i64 t1680, .int .i64 t1681, .string t1682, .slice t1683P t1683N t1683C])] w1_25 fun t169P t169N t169C w1_26 =>
  C_ref20_Renamed t169P t169N t169C w1_26 fun t170P t170N t170C w1_27 =>
  C_ref07_Same t1450P t1450N t1450C t170P t170N t170C w1_27 fun t171 w1_28 =>
  R t171 w1_28)
  (F_law20_HeapParts_k4 R w1_24))
  (F_law20_HeapParts_k4 R w1_24))
  (F_law20_HeapParts_k4 R w1_23))
  (fun t4_1 w1_20 =>
  R t4_1 w1_20))))))))))))
def lit_law20_HeapParts_L1 (f : ByteArray × (Option Addr) × Nat × Nat × (Option Addr) × Int × (Option Addr) × Nat × Nat) (s : S_law20_HeapParts_L1) : Env := [⟨0, .string f.1, none⟩, ⟨1, .slice f.2.1 f.2.2.1 f.2.2.2.1, none⟩, ⟨5, .pointer f.2.2.2.2.1, none⟩, ⟨8, .int .u64 f.2.2.2.2.2.1, none⟩, ⟨10, .slice f.2.2.2.2.2.2.1 f.2.2.2.2.2.2.2.1 f.2.2.2.2.2.2.2.2, none⟩, ⟨11, .int .i64 s.i, none⟩]
def dec_law20_HeapParts_L1 (e : Env) (K : (ByteArray × (Option Addr) × Nat × Nat × (Option Addr) × Int × (Option Addr) × Nat × Nat) → S_law20_HeapParts_L1 → Prop) : Prop :=
  oT e 0 fun namex_1 =>
  oS e 1 fun lP_1 lN_1 lC_1 =>
  oP e 5 fun hx =>
  oI e 8 .u64 fun sx =>
  oS e 10 fun wsP wsN wsC =>
  oI e 11 .i64 fun i =>
    K (namex_1, lP_1, lN_1, lC_1, hx, sx, wsP, wsN, wsC) ⟨i⟩
theorem dec_law20_HeapParts_L1_ok {N : Nat} (e : Env) (a : Act) (K : (ByteArray × (Option Addr) × Nat × Nat × (Option Addr) × Int × (Option Addr) × Nat × Nat) → S_law20_HeapParts_L1 → Prop) (hr : Rep N a e) (h0 : dec_law20_HeapParts_L1 e K) : ∃ f s, K f s ∧ Rep N a (lit_law20_HeapParts_L1 f s) := by
  unfold dec_law20_HeapParts_L1 at h0
  obtain ⟨namex_1, g0, h1⟩ := oT_elim h0
  obtain ⟨lP_1, lN_1, lC_1, g1, h2⟩ := oS_elim h1
  obtain ⟨hx, g5, h3⟩ := oP_elim h2
  obtain ⟨sx, g8, h4⟩ := oI_elim h3
  obtain ⟨wsP, wsN, wsC, g10, h5⟩ := oS_elim h4
  obtain ⟨i, g11, h6⟩ := oI_elim h5
  exact ⟨_, _, h6, rep_less hr (by simp [lit_law20_HeapParts_L1, g0, g1, g5, g8, g10, g11])⟩
def spec_law20_HeapParts_L1 (Q : Post) (e : Env) (w : World) : Prop :=
  dec_law20_HeapParts_L1 e fun f s => F_law20_HeapParts_L1 f.1 f.2.1 f.2.2.1 f.2.2.2.1 f.2.2.2.2.1 f.2.2.2.2.2.1 f.2.2.2.2.2.2.1 f.2.2.2.2.2.2.2.1 f.2.2.2.2.2.2.2.2 s w (fun w1 => Q (.exit 0) [⟨0, .string f.1, none⟩, ⟨1, .slice f.2.1 f.2.2.1 f.2.2.2.1, none⟩, ⟨5, .pointer f.2.2.2.2.1, none⟩, ⟨8, .int .u64 f.2.2.2.2.2.1, none⟩, ⟨10, .slice f.2.2.2.2.2.2.1 f.2.2.2.2.2.2.2.1 f.2.2.2.2.2.2.2.2, none⟩] w1) (fun t4 w1 => Q .ret [⟨4, .bool t4, none⟩] w1)
def G_law20_HeapParts : Gen where
  loop := lookL [([false, true, false, true, true, true, true, true, true, true, true], spec_law20_HeapParts_L1)]
  plan := fun id =>
    bif Nat.beq id 15 then some ([0, 1, 3, 7, 7, 31, 7, 127, 255, 511, 1023, 1023, 1023, 5119, 1023, 1023, 50175, 115711, 262143, 524287, 1048575, 2097151, 4194303, 4194303, 16777215, 4194303, 4194303, 4194303, 205520895, 473956351, 1073741823, 2147483647, 4294967295], .take 0 (.take 1 (.take 2 (.take 3 (.take 4 (.take 6 (.take 5 (.take 7 (.take 8 (.take 9 (.take 10 (.take 11 (.take 12 (.take 13 (.take 14 (.take 15 (.take 16 (.take 17 (.take 18 (.take 19 (.take 20 (.take 21 (.take 22 (.take 23 (.take 25 (.take 26 (.take 27 (.take 28 (.take 29 (.take 24 (.take 30 (.take 31 (.take 32 .done))))))))))))))))))))))))))))))))) else none
def dx_law20_HeapParts_L1_0 (e : Env) (K : (ByteArray × (Option Addr) × Nat × Nat × (Option Addr) × Int × (Option Addr) × Nat × Nat) → Prop) : Prop :=
  oT e 0 fun namex_1 =>
  oS e 1 fun lP_1 lN_1 lC_1 =>
  oP e 5 fun hx =>
  oI e 8 .u64 fun sx =>
  oS e 10 fun wsP wsN wsC =>
    K (namex_1, lP_1, lN_1, lC_1, hx, sx, wsP, wsN, wsC)
def dx_law20_HeapParts_L1_ret (e : Env) (K : (ByteArray × (Option Addr) × Nat × Nat × (Option Addr) × Int × (Option Addr) × Nat × Nat) → Bool → Prop) : Prop :=
  oT e 0 fun namex_1 =>
  oS e 1 fun lP_1 lN_1 lC_1 =>
  oP e 5 fun hx =>
  oI e 8 .u64 fun sx =>
  oS e 10 fun wsP wsN wsC =>
  oB e 4 fun t4 =>
    K (namex_1, lP_1, lN_1, lC_1, hx, sx, wsP, wsN, wsC) t4
theorem body_law20_HeapParts_L1 (f : ByteArray × (Option Addr) × Nat × Nat × (Option Addr) × Int × (Option Addr) × Nat × Nat) (s : S_law20_HeapParts_L1) (w : World) (Kn : (ByteArray × (Option Addr) × Nat × Nat × (Option Addr) × Int × (Option Addr) × Nat × Nat) → S_law20_HeapParts_L1 → World → Prop) (Kx0 : (ByteArray × (Option Addr) × Nat × Nat × (Option Addr) × Int × (Option Addr) × Nat × Nat) → World → Prop) (Kr : (ByteArray × (Option Addr) × Nat × Nat × (Option Addr) × Int × (Option Addr) × Nat × Nat) → Bool → World → Prop) :
    B_law20_HeapParts_L1 f.1 f.2.1 f.2.2.1 f.2.2.2.1 f.2.2.2.2.1 f.2.2.2.2.2.1 f.2.2.2.2.2.2.1 f.2.2.2.2.2.2.2.1 f.2.2.2.2.2.2.2.2 s w (fun s1 w1 => Kn f s1 w1) (fun w1 => Kx0 f w1) (fun t4 w1 => Kr f t4 w1) =
    den Tryz.prog Tryz.f4.ntmps G_law20_HeapParts (sub (codeOf Tryz.f4) [false, false, true, false, true, true, true, true, true, true, true, true]) [false, false, true, false, true, true, true, true, true, true, true, true] (roundQ (fun e w => dec_law20_HeapParts_L1 e fun f s => Kn f s w) (fun e w => dx_law20_HeapParts_L1_ret e fun f t4 => Kr f t4 w) (fun id e w => match Nat.beq id 0 with | true => dx_law20_HeapParts_L1_0 e fun f => Kx0 f w | false => False)) (lit_law20_HeapParts_L1 f s) w := by kernel_rfl
theorem ok_law20_HeapParts_L1 : OneOk Tryz.prog Tryz.f4.ntmps G_law20_HeapParts (codeOf Tryz.f4) [false, true, false, true, true, true, true, true, true, true, true] spec_law20_HeapParts_L1 := by
  intro c hc ih Q e w a hr h
  have hcc : sub (codeOf Tryz.f4) [false, false, true, false, true, true, true, true, true, true, true, true] = c := sub_of_codeAt hc
  obtain ⟨f, s, h, hrep⟩ := dec_law20_HeapParts_L1_ok e a _ hr h
  obtain ⟨J, μ, hj, hround⟩ := h
  refine loop_rule_deep seat_ok seat_mixed ih lit_law20_HeapParts_L1 dec_law20_HeapParts_L1 dec_law20_HeapParts_L1_ok hc f J μ (Kr := fun e w => dx_law20_HeapParts_L1_ret e fun f1 t4 => f1 = f ∧ Q .ret [⟨4, .bool t4, none⟩] w) (Kx := fun id e w => match Nat.beq id 0 with | true => (dx_law20_HeapParts_L1_0 e fun f1 => f1 = f ∧ Q (.exit 0) [⟨0, .string f.1, none⟩, ⟨1, .slice f.2.1 f.2.2.1 f.2.2.2.1, none⟩, ⟨5, .pointer f.2.2.2.2.1, none⟩, ⟨8, .int .u64 f.2.2.2.2.2.1, none⟩, ⟨10, .slice f.2.2.2.2.2.2.1 f.2.2.2.2.2.2.2.1 f.2.2.2.2.2.2.2.2, none⟩] w) | false => False) ?_ ?_ ?_ s w a hj hrep
  · intro e a w hr h0
    unfold dx_law20_HeapParts_L1_ret at h0
    obtain ⟨namex_1, g0, h1⟩ := oT_elim h0
    obtain ⟨lP_1, lN_1, lC_1, g1, h2⟩ := oS_elim h1
    obtain ⟨hx, g5, h3⟩ := oP_elim h2
    obtain ⟨sx, g8, h4⟩ := oI_elim h3
    obtain ⟨wsP, wsN, wsC, g10, h5⟩ := oS_elim h4
    obtain ⟨t4, g4, h6⟩ := oB_elim h5
    obtain ⟨hf, hq⟩ := h6
    subst hf
    exact ⟨_, rep_less hr (by simp [g4]), hq⟩
  · intro id e a w hr h0
    (try dsimp only at h0)
    split at h0
    · rename_i hid
      obtain rfl := Nat.eq_of_beq_eq_true hid
      unfold dx_law20_HeapParts_L1_0 at h0
      obtain ⟨namex_1, g0, h1⟩ := oT_elim h0
      obtain ⟨lP_1, lN_1, lC_1, g1, h2⟩ := oS_elim h1
      obtain ⟨hx, g5, h3⟩ := oP_elim h2
      obtain ⟨sx, g8, h4⟩ := oI_elim h3
      obtain ⟨wsP, wsN, wsC, g10, h5⟩ := oS_elim h4
      obtain ⟨hf, hq⟩ := h5
      subst hf
      exact ⟨_, rep_less hr (by simp [g0, g1, g5, g8, g10]), hq⟩
    · exact h0.elim
  · intro s w hj
    have hb := hround s w hj
    rw [← hcc]
    have e1 := body_law20_HeapParts_L1 f s w (fun f1 s1 w1 => f1 = f ∧ J s1 w1 ∧ μ s1 w1 < μ s w) (fun f1 w1 => f1 = f ∧ Q (.exit 0) [⟨0, .string f.1, none⟩, ⟨1, .slice f.2.1 f.2.2.1 f.2.2.2.1, none⟩, ⟨5, .pointer f.2.2.2.2.1, none⟩, ⟨8, .int .u64 f.2.2.2.2.2.1, none⟩, ⟨10, .slice f.2.2.2.2.2.2.1 f.2.2.2.2.2.2.2.1 f.2.2.2.2.2.2.2.2, none⟩] w1) (fun f1 t4 w1 => f1 = f ∧ Q .ret [⟨4, .bool t4, none⟩] w1)
    simp only [true_and] at e1
    exact cast e1 hb
theorem loops_law20_HeapParts : LoopOk Tryz.prog Tryz.f4.ntmps G_law20_HeapParts (codeOf Tryz.f4) := loopOk_list rfl ⟨ok_law20_HeapParts_L1, trivial⟩
theorem C_law20_HeapParts.of {namex : ByteArray} {lP : Option Addr} {lN : Nat} {lC : Nat} {w : World} {R : Bool → World → Prop} (h : F_law20_HeapParts namex lP lN lC w R) : C_law20_HeapParts namex lP lN lC w R := ofS2 (Fm := F_law20_HeapParts namex lP lN lC w) Tryz.func4 (by kernel_rfl) loops_law20_HeapParts rfl (fun _ => by kernel_rfl) h
end Go.Proofs.YtdaenijbokialaaGreat
