/- The formulas of this seat's functions, held against the loaded program by the kernel. Printed by a program. -/
import Derived.Test.YtdaenijbokialaaGreatGenC
set_option maxRecDepth 100000
set_option linter.unusedVariables false
namespace Go.Proofs.YtdaenijbokialaaGreat
open Go Go.D Go.Proofs

structure S_law20_HeapReaches_L1 where
  inx : Bool
  i : Int

def F_law20_HeapReaches_k1 (R : Bool → World → Prop) (w1_3 : World) : Prop :=
  C_law20_lives  w1_3 fun t32 w1_4 =>
  R t32 w1_4

def F_law20_HeapReaches_k2 (R : Bool → World → Prop) (w1_8 : World) : Prop :=
  R false w1_8

def F_law20_HeapReaches_k3 (R : Bool → World → Prop) (w1_23 : World) : Prop :=
  R true w1_23

def F_law20_HeapReaches_k4 (R : Bool → World → Prop) (t4 : Bool) (w1_24 : World) : Prop :=
  R t4 w1_24

def F_law20_HeapReaches_k5 (R : Bool → World → Prop) (w1_25 : World) : Prop :=
  R false w1_25

def F_law20_HeapReaches_k6 (R : Bool → World → Prop) (r : Nat) (t340 : Option Addr) (t520 : Int) (t600 : Int) (inx_2 : Bool) (w1_17 : World) : Prop :=
  C_heap_Heap_Bind t340 t600 t520 w1_17 fun t1080 t1081 w1_18 =>
  If (t1081 == (0 : Int))
  (If (!inx_2)
  (If (t1080 == true)
  (If (!t1080)
  (F_law20_HeapReaches_k3 R w1_18)
  (C_heap_Heap_Deref t340 t600 w1_18 fun t130 w1_19 =>
  C_heap_Heap_Deref t340 t520 w1_19 fun t133 w1_20 =>
  F_law20_HeapReaches_k4 R (t130 == t133) w1_20))
  (F_law20_HeapReaches_k5 R w1_18))
  (∃ Kind_1 : Int, w1_18.cell? ((⟨r, 0, none⟩ : Addr).add 0) = some (.int .i64 Kind_1) ∧
  If (t1080 == (Kind_1 == (1 : Int)))
  (If (!t1080)
  (F_law20_HeapReaches_k3 R w1_18)
  (C_heap_Heap_Deref t340 t600 w1_18 fun t130_1 w1_21 =>
  C_heap_Heap_Deref t340 t520 w1_21 fun t133_1 w1_22 =>
  F_law20_HeapReaches_k4 R (t130_1 == t133_1) w1_22))
  (F_law20_HeapReaches_k5 R w1_18)))
  (F_law20_HeapReaches_k5 R w1_18)

/-- One round. -/
def B_law20_HeapReaches_L1 (n_1 : Int) (t : Addr) (hx : Option Addr) (wx : Int) (v : Int) (lP : Option Addr) (lN : Nat) (lC : Nat) (s : S_law20_HeapReaches_L1) (w : World) (Kn : S_law20_HeapReaches_L1 → World → Prop) (Kx0 : Bool → World → Prop) : Prop :=
  If (decide ((s.i : Int) < (lN : Int)))
  (If s.inx
  (Kn ⟨true, (IntKind.i64.wrap ((s.i : Int) + (1 : Int)))⟩ w)
  (0 ≤ (s.i : Int) ∧ (s.i : Int) < (lN : Int) ∧ NN lP fun a =>
  ∃ t82 : Int, w.cell? (a.add ((s.i : Int).toNat * 1)) = some (.int .i64 t82) ∧
  Kn ⟨(t82 == n_1), (IntKind.i64.wrap ((s.i : Int) + (1 : Int)))⟩ w))
  (Kx0 s.inx w)

def F_law20_HeapReaches_L1 (n_1 : Int) (t : Addr) (hx : Option Addr) (wx : Int) (v : Int) (lP : Option Addr) (lN : Nat) (lC : Nat) (s : S_law20_HeapReaches_L1) (w : World) (Kx0 : Bool → World → Prop) : Prop :=
  LoopS (fun s w Kn => B_law20_HeapReaches_L1 n_1 t hx wx v lP lN lC s w Kn Kx0) s w

def F_law20_HeapReaches (t0 : Int) (t1 : Int) (t2 : ByteArray) (t3P : Option Addr) (t3N : Nat) (t3C : Nat) (n : Int) (w : World) (R : Bool → World → Prop) : Prop :=
  New w (.cells #[.int .i64 t0, .int .i64 t1, .string t2, .slice t3P t3N t3C] 31) fun r w1 =>
  ∃ t170 : Int, w1.cell? ((⟨r, 0, none⟩ : Addr).add 0) = some (.int .i64 t170) ∧
  ∃ t171 : Int, w1.cell? ((⟨r, 0, none⟩ : Addr).add 1) = some (.int .i64 t171) ∧
  ∃ t172 : ByteArray, w1.cell? ((⟨r, 0, none⟩ : Addr).add 2) = some (.string t172) ∧
  ∃ t173P : Option Addr, ∃ t173N : Nat, ∃ t173C : Nat, w1.cell? ((⟨r, 0, none⟩ : Addr).add 3) = some (.slice t173P t173N t173C) ∧
  C_ref06_Large t170 t171 t172 t173P t173N t173C w1 fun t18 w1_1 =>
  If t18
  (F_law20_HeapReaches_k1 R w1_1)
  (∃ t200 : Int, w1_1.cell? ((⟨r, 0, none⟩ : Addr).add 0) = some (.int .i64 t200) ∧
  ∃ t201 : Int, w1_1.cell? ((⟨r, 0, none⟩ : Addr).add 1) = some (.int .i64 t201) ∧
  ∃ t202 : ByteArray, w1_1.cell? ((⟨r, 0, none⟩ : Addr).add 2) = some (.string t202) ∧
  ∃ t203P : Option Addr, ∃ t203N : Nat, ∃ t203C : Nat, w1_1.cell? ((⟨r, 0, none⟩ : Addr).add 3) = some (.slice t203P t203N t203C) ∧
  C_ref06_Check t200 t201 t202 t203P t203N t203C w1_1 fun t21 w1_2 =>
  If (t21 != (0 : Int))
  (F_law20_HeapReaches_k1 R w1_2)
  (If (decide (n < (0 : Int)))
  (F_law20_HeapReaches_k1 R w1_2)
  (If (decide (n > (1000 : Int)))
  (C_law20_lives  w1_2 fun t32_1 w1_5 =>
  R t32_1 w1_5)
  (C_heap_New (16384 : Int) (100 : Int) w1_2 fun t340 t341 w1_6 =>
  C_law20_lives  w1_6 fun t37 w1_7 =>
  If (!t37)
  (F_law20_HeapReaches_k2 R w1_7)
  (If (t341 != (0 : Int))
  (F_law20_HeapReaches_k2 R w1_7)
  (If t340.isNone
  (R false w1_7)
  (New w1_7 (.map #[] 0) fun r_1 w1_9 =>
  ∃ t500 : Int, w1_9.cell? ((⟨r, 0, none⟩ : Addr).add 0) = some (.int .i64 t500) ∧
  ∃ t501 : Int, w1_9.cell? ((⟨r, 0, none⟩ : Addr).add 1) = some (.int .i64 t501) ∧
  ∃ t502 : ByteArray, w1_9.cell? ((⟨r, 0, none⟩ : Addr).add 2) = some (.string t502) ∧
  ∃ t503P : Option Addr, ∃ t503N : Nat, ∃ t503C : Nat, w1_9.cell? ((⟨r, 0, none⟩ : Addr).add 3) = some (.slice t503P t503N t503C) ∧
  C_heap_Heap_Encode t340 t500 t501 t502 t503P t503N t503C (some r_1) w1_9 fun t520 t521 w1_10 =>
  C_ref06_Var n w1_10 fun t580 t581 t582 t583P t583N t583C w1_11 =>
  C_heap_Heap_Encode t340 t580 t581 t582 t583P t583N t583C (some r_1) w1_11 fun t600 t601 w1_12 =>
  If (t521 != (0 : Int))
  (R false w1_12)
  (If (t601 != (0 : Int))
  (R false w1_12)
  (∃ t690 : Int, w1_12.cell? ((⟨r, 0, none⟩ : Addr).add 0) = some (.int .i64 t690) ∧
  ∃ t691 : Int, w1_12.cell? ((⟨r, 0, none⟩ : Addr).add 1) = some (.int .i64 t691) ∧
  ∃ t692 : ByteArray, w1_12.cell? ((⟨r, 0, none⟩ : Addr).add 2) = some (.string t692) ∧
  ∃ t693P : Option Addr, ∃ t693N : Nat, ∃ t693C : Nat, w1_12.cell? ((⟨r, 0, none⟩ : Addr).add 3) = some (.slice t693P t693N t693C) ∧
  C_ref06_Vars t690 t691 t692 t693P t693N t693C w1_12 fun t70P t70N t70C w1_13 =>
  F_law20_HeapReaches_L1 n ⟨r, 0, none⟩ t340 t520 t600 t70P t70N t70C ⟨false, (0 : Int)⟩ w1_13
  (fun inx_2 w1_14 =>
  C_heap_Heap_Reaches t340 t600 t520 w1_14 fun t89 w1_15 =>
  If (!(t89 == inx_2))
  (R false w1_15)
  (∃ Kind : Int, w1_15.cell? ((⟨r, 0, none⟩ : Addr).add 0) = some (.int .i64 Kind) ∧
  If (Kind == (4 : Int))
  (C_heap_Heap_Reaches t340 t520 t520 w1_15 fun t100 w1_16 =>
  If (!t100)
  (R false w1_16)
  (F_law20_HeapReaches_k6 R r t340 t520 t600 inx_2 w1_16))
  (F_law20_HeapReaches_k6 R r t340 t520 t600 inx_2 w1_15))))))))))))

def lit_law20_HeapReaches_L1 (f : Int × Addr × (Option Addr) × Int × Int × (Option Addr) × Nat × Nat) (s : S_law20_HeapReaches_L1) : Env := [⟨1, .int .i64 f.1, none⟩, ⟨2, .pointer (some f.2.1), none⟩, ⟨5, .pointer f.2.2.1, none⟩, ⟨8, .int .u64 f.2.2.2.1, none⟩, ⟨10, .int .u64 f.2.2.2.2.1, none⟩, ⟨13, .slice f.2.2.2.2.2.1 f.2.2.2.2.2.2.1 f.2.2.2.2.2.2.2, none⟩, ⟨12, .bool s.inx, none⟩, ⟨14, .int .i64 s.i, none⟩]

def dec_law20_HeapReaches_L1 (e : Env) (K : (Int × Addr × (Option Addr) × Int × Int × (Option Addr) × Nat × Nat) → S_law20_HeapReaches_L1 → Prop) : Prop :=
  oI e 1 .i64 fun n_1 =>
  oA e 2 fun t =>
  oP e 5 fun hx =>
  oI e 8 .u64 fun wx =>
  oI e 10 .u64 fun v =>
  oS e 13 fun lP lN lC =>
  oB e 12 fun inx =>
  oI e 14 .i64 fun i =>
    K (n_1, t, hx, wx, v, lP, lN, lC) ⟨inx, i⟩

theorem dec_law20_HeapReaches_L1_ok {N : Nat} (e : Env) (a : Act) (K : (Int × Addr × (Option Addr) × Int × Int × (Option Addr) × Nat × Nat) → S_law20_HeapReaches_L1 → Prop) (hr : Rep N a e) (h0 : dec_law20_HeapReaches_L1 e K) : ∃ f s, K f s ∧ Rep N a (lit_law20_HeapReaches_L1 f s) := by
  unfold dec_law20_HeapReaches_L1 at h0
  obtain ⟨n_1, g1, h1⟩ := oI_elim h0
  obtain ⟨t, g2, h2⟩ := oA_elim h1
  obtain ⟨hx, g5, h3⟩ := oP_elim h2
  obtain ⟨wx, g8, h4⟩ := oI_elim h3
  obtain ⟨v, g10, h5⟩ := oI_elim h4
  obtain ⟨lP, lN, lC, g13, h6⟩ := oS_elim h5
  obtain ⟨inx, g12, h7⟩ := oB_elim h6
  obtain ⟨i, g14, h8⟩ := oI_elim h7
  exact ⟨_, _, h8, rep_less hr (by simp [lit_law20_HeapReaches_L1, g1, g2, g5, g8, g10, g13, g12, g14])⟩

def spec_law20_HeapReaches_L1 (Q : Post) (e : Env) (w : World) : Prop :=
  dec_law20_HeapReaches_L1 e fun f s => F_law20_HeapReaches_L1 f.1 f.2.1 f.2.2.1 f.2.2.2.1 f.2.2.2.2.1 f.2.2.2.2.2.1 f.2.2.2.2.2.2.1 f.2.2.2.2.2.2.2 s w (fun inx_1 w1 => Q (.exit 0) [⟨2, .pointer (some f.2.1), none⟩, ⟨5, .pointer f.2.2.1, none⟩, ⟨8, .int .u64 f.2.2.2.1, none⟩, ⟨10, .int .u64 f.2.2.2.2.1, none⟩, ⟨12, .bool inx_1, none⟩] w1)

def G_law20_HeapReaches : Gen where
  loop := lookL [([false, true, false, true, true, true, true, true, true, true, true, true, true], spec_law20_HeapReaches_L1)]
  plan := fun _ => none

def dx_law20_HeapReaches_L1_0 (e : Env) (K : (Int × Addr × (Option Addr) × Int × Int × (Option Addr) × Nat × Nat) → Bool → Prop) : Prop :=
  oI e 1 .i64 fun n_1 =>
  oA e 2 fun t =>
  oP e 5 fun hx =>
  oI e 8 .u64 fun wx =>
  oI e 10 .u64 fun v =>
  oS e 13 fun lP lN lC =>
  oB e 12 fun inx_1 =>
    K (n_1, t, hx, wx, v, lP, lN, lC) inx_1

theorem body_law20_HeapReaches_L1 (f : Int × Addr × (Option Addr) × Int × Int × (Option Addr) × Nat × Nat) (s : S_law20_HeapReaches_L1) (w : World) (Kn : (Int × Addr × (Option Addr) × Int × Int × (Option Addr) × Nat × Nat) → S_law20_HeapReaches_L1 → World → Prop) (Kx0 : (Int × Addr × (Option Addr) × Int × Int × (Option Addr) × Nat × Nat) → Bool → World → Prop) :
    B_law20_HeapReaches_L1 f.1 f.2.1 f.2.2.1 f.2.2.2.1 f.2.2.2.2.1 f.2.2.2.2.2.1 f.2.2.2.2.2.2.1 f.2.2.2.2.2.2.2 s w (fun s1 w1 => Kn f s1 w1) (fun inx_1 w1 => Kx0 f inx_1 w1) =
    den Tryz.prog Tryz.f5.ntmps G_law20_HeapReaches (sub (codeOf Tryz.f5) [false, false, true, false, true, true, true, true, true, true, true, true, true, true]) [false, false, true, false, true, true, true, true, true, true, true, true, true, true] (roundQ (fun e w => dec_law20_HeapReaches_L1 e fun f s => Kn f s w) (fun e w => False) (fun id e w => match Nat.beq id 0 with | true => dx_law20_HeapReaches_L1_0 e fun f inx_1 => Kx0 f inx_1 w | false => False)) (lit_law20_HeapReaches_L1 f s) w := by kernel_rfl

theorem ok_law20_HeapReaches_L1 : OneOk Tryz.prog Tryz.f5.ntmps G_law20_HeapReaches (codeOf Tryz.f5) [false, true, false, true, true, true, true, true, true, true, true, true, true] spec_law20_HeapReaches_L1 := by
  intro c hc ih Q e w a hr h
  have hcc : sub (codeOf Tryz.f5) [false, false, true, false, true, true, true, true, true, true, true, true, true, true] = c := sub_of_codeAt hc
  obtain ⟨f, s, h, hrep⟩ := dec_law20_HeapReaches_L1_ok e a _ hr h
  obtain ⟨J, μ, hj, hround⟩ := h
  refine loop_rule_deep seat_ok seat_mixed ih lit_law20_HeapReaches_L1 dec_law20_HeapReaches_L1 dec_law20_HeapReaches_L1_ok hc f J μ (Kr := fun e w => False) (Kx := fun id e w => match Nat.beq id 0 with | true => (dx_law20_HeapReaches_L1_0 e fun f1 inx_1 => f1 = f ∧ Q (.exit 0) [⟨2, .pointer (some f.2.1), none⟩, ⟨5, .pointer f.2.2.1, none⟩, ⟨8, .int .u64 f.2.2.2.1, none⟩, ⟨10, .int .u64 f.2.2.2.2.1, none⟩, ⟨12, .bool inx_1, none⟩] w) | false => False) ?_ ?_ ?_ s w a hj hrep
  · intro e a w hr h
    exact h.elim
  · intro id e a w hr h0
    (try dsimp only at h0)
    split at h0
    · rename_i hid
      obtain rfl := Nat.eq_of_beq_eq_true hid
      unfold dx_law20_HeapReaches_L1_0 at h0
      obtain ⟨n_1, g1, h1⟩ := oI_elim h0
      obtain ⟨t, g2, h2⟩ := oA_elim h1
      obtain ⟨hx, g5, h3⟩ := oP_elim h2
      obtain ⟨wx, g8, h4⟩ := oI_elim h3
      obtain ⟨v, g10, h5⟩ := oI_elim h4
      obtain ⟨lP, lN, lC, g13, h6⟩ := oS_elim h5
      obtain ⟨inx_1, g12, h7⟩ := oB_elim h6
      obtain ⟨hf, hq⟩ := h7
      subst hf
      exact ⟨_, rep_less hr (by simp [g2, g5, g8, g10, g12]), hq⟩
    · exact h0.elim
  · intro s w hj
    have hb := hround s w hj
    rw [← hcc]
    have e1 := body_law20_HeapReaches_L1 f s w (fun f1 s1 w1 => f1 = f ∧ J s1 w1 ∧ μ s1 w1 < μ s w) (fun f1 inx_1 w1 => f1 = f ∧ Q (.exit 0) [⟨2, .pointer (some f.2.1), none⟩, ⟨5, .pointer f.2.2.1, none⟩, ⟨8, .int .u64 f.2.2.2.1, none⟩, ⟨10, .int .u64 f.2.2.2.2.1, none⟩, ⟨12, .bool inx_1, none⟩] w1)
    simp only [true_and] at e1
    exact cast e1 hb

theorem loops_law20_HeapReaches : LoopOk Tryz.prog Tryz.f5.ntmps G_law20_HeapReaches (codeOf Tryz.f5) := loopOk_list rfl ⟨ok_law20_HeapReaches_L1, trivial⟩

theorem C_law20_HeapReaches.of {t0 : Int} {t1 : Int} {t2 : ByteArray} {t3P : Option Addr} {t3N : Nat} {t3C : Nat} {n : Int} {w : World} {R : Bool → World → Prop} (h : F_law20_HeapReaches t0 t1 t2 t3P t3N t3C n w R) : C_law20_HeapReaches t0 t1 t2 t3P t3N t3C n w R := ofS2 (Fm := F_law20_HeapReaches t0 t1 t2 t3P t3N t3C n w) Tryz.func5 (by kernel_rfl) loops_law20_HeapReaches rfl (fun _ => by kernel_rfl) h

end Go.Proofs.YtdaenijbokialaaGreat
