/- The formulas of this seat's functions, held against the loaded program by the kernel. Printed by a program. -/
import Derived.Test.YtdaenijbokialaaGreatGenC
set_option maxRecDepth 100000
set_option linter.unusedVariables false
namespace Go.Proofs.YtdaenijbokialaaGreat
open Go Go.D Go.Proofs

def F_heap_Heap_right (hx : Option Addr) (wx : Int) (w : World) (R : Bool → World → Prop) : Prop :=
  C_heap_Heap_made hx w fun t9 w1 =>
  If (!t9)
  (R false w1)
  (C_cell_Number wx w1 fun t12 w1_1 =>
  C_cell_Tag wx w1_1 fun t14 w1_2 =>
  If (t14 == (1 : Int))
  (C_heap_Heap_taken hx t12 w1_2 fun t19 w1_3 =>
  If t19
  (NN hx fun a =>
  ∃ cellsP : Option Addr, ∃ cellsN : Nat, ∃ cellsC : Nat, w1_3.cell? (a.add 4) = some (.slice cellsP cellsN cellsC) ∧
  0 ≤ t12 ∧ t12 < (cellsN : Int) ∧ NN cellsP fun a_1 =>
  ∃ t27 : Int, w1_3.cell? (a_1.add (t12.toNat * 1)) = some (.int .u64 t27) ∧
  C_cell_Is t27 (5 : Int) w1_3 fun t28 w1_4 =>
  R (!t28) w1_4)
  (R false w1_3))
  (If (t14 == (4 : Int))
  (If (decide (t12 ≥ (-9007199254740991)))
  (R (decide (t12 ≤ (9007199254740991 : Int))) w1_2)
  (R false w1_2))
  (If (t14 == (3 : Int))
  (NN hx fun a_2 =>
  ∃ atoms : Option Addr, w1_2.cell? (a_2.add 2) = some (.pointer atoms) ∧
  C_atom_Table_Name atoms t12 w1_2 fun t470 t471 w1_5 =>
  R (t471 == (0 : Int)) w1_5)
  (If (t14 == (2 : Int))
  (C_heap_Heap_taken hx t12 w1_2 fun t56 w1_6 =>
  If t56
  (NN hx fun a_3 =>
  ∃ cellsP_1 : Option Addr, ∃ cellsN_1 : Nat, ∃ cellsC_1 : Nat, w1_6.cell? (a_3.add 4) = some (.slice cellsP_1 cellsN_1 cellsC_1) ∧
  0 ≤ t12 ∧ t12 < (cellsN_1 : Int) ∧ NN cellsP_1 fun a_4 =>
  ∃ t64 : Int, w1_6.cell? (a_4.add (t12.toNat * 1)) = some (.int .u64 t64) ∧
  C_cell_Is t64 (5 : Int) w1_6 fun t65 w1_7 =>
  R t65 w1_7)
  (R false w1_6))
  (R false w1_2)))))

def G_heap_Heap_right : Gen where
  loop := lookL []
  plan := fun _ => none

theorem loops_heap_Heap_right : LoopOk Tryz.prog Tryz.f76.ntmps G_heap_Heap_right (codeOf Tryz.f76) := loopOk_none fun _ => rfl

theorem den_heap_Heap_right (hx : Option Addr) (wx : Int) (w : World) (R : Value → World → Prop) :
    F_heap_Heap_right hx wx w (fun r w1 => R (.bool r) w1) = den Tryz.prog Tryz.f76.ntmps G_heap_Heap_right (codeOf Tryz.f76) [] (postD Tryz.prog Tryz.f76.results.toList R) (entry [.pointer hx, .int .u64 wx] 0) w := by kernel_rfl

theorem C_heap_Heap_right.of {hx : Option Addr} {wx : Int} {w : World} {R : Bool → World → Prop} (h : F_heap_Heap_right hx wx w R) : C_heap_Heap_right hx wx w R := by
  refine (calls_of_den (c := codeOf Tryz.f76) seat_ok seat_mixed Tryz.func76 (by kernel_rfl) loops_heap_Heap_right (args := [.pointer hx, .int .u64 wx]) rfl (R := fun v w1 => ∃ (r : Bool), v = (.bool r : Value) ∧ R r w1) ?_).mono ?_
  · rw [← den_heap_Heap_right]
    have e : (fun r w1 => ∃ (r' : Bool), (.bool r : Value) = (.bool r' : Value) ∧ R r' w1) = R := by
      funext r w1
      exact propext ⟨fun ⟨r', he, h⟩ => by first | (simp at he; simp_all) | (cases he; exact h), fun h => ⟨_, rfl, h⟩⟩
    simpa only [e] using h
  · rintro en w1 ⟨v, he, r, rfl, h⟩
    exact ⟨_, he, h⟩

structure S_heap_reader_read_L1 where
  i : Int

/-- One round. -/
def B_heap_reader_read_L1 (r_12 : Option Addr) (wx_1 : Int) (t4 : Addr) (arity : Int) (t : Addr) (s : S_heap_reader_read_L1) (w : World) (Kn : S_heap_reader_read_L1 → World → Prop) (Kx1 : World → Prop) : Prop :=
  If (decide ((s.i : Int) ≤ arity))
  (NN r_12 fun a_6 =>
  ∃ parts_1 : Int, w.cell? (a_6.add 3) = some (.int .i64 parts_1) ∧
  If (decide (parts_1 ≤ (4096 : Int)))
  (∃ LP : Option Addr, ∃ LN : Nat, ∃ LC : Nat, (drw w).cell? (t.add 3) = some (.slice LP LN LC) ∧
  C_heap_arg wx_1 (s.i : Int) (drw w) fun t81 w1_28 =>
  w1_28.cell? (t.add 3) = (drw w).cell? (t.add 3) ∧
  C_heap_ref t81 w1_28 fun t82 w1_29 =>
  w1_29.cell? (t.add 3) = (drw w).cell? (t.add 3) ∧
  C_heap_reader_read r_12 t82 w1_29 fun t830 t831 t832 t833P t833N t833C w1_30 =>
  w1_30.cell? (t.add 3) = (drw w).cell? (t.add 3) ∧
  BSl Tryz.prog 22 1 [(0, .agg #[.int .i64 t830, .int .i64 t831, .string t832, .slice t833P t833N t833C])] w1_30 fun t84P t84N t84C w1_31 =>
  w1_31.cell? (t.add 3) = (drw w).cell? (t.add 3) ∧
  App Tryz.prog #[22, 22] 22 #[.slice LP LN LC, .slice t84P t84N t84C] w1_31 fun t85P t85N t85C w1_32 =>
  St w1_32 ((t.add 3).add 0) (.slice t85P t85N t85C) fun w1_33 =>
  Kn ⟨(IntKind.i64.wrap ((s.i : Int) + (1 : Int)))⟩ w1_33)
  (Kx1 w))
  (Kx1 w)

def F_heap_reader_read_L1 (r_12 : Option Addr) (wx_1 : Int) (t4 : Addr) (arity : Int) (t : Addr) (s : S_heap_reader_read_L1) (w : World) (Kx1 : World → Prop) : Prop :=
  LoopS (fun s w Kn => B_heap_reader_read_L1 r_12 wx_1 t4 arity t s w Kn Kx1) s w

def F_heap_reader_read (r : Option Addr) (wx : Int) (w : World) (R : Int → Int → ByteArray → Option Addr → Nat → Nat → World → Prop) : Prop :=
  New w (.cells #[.int .i64 0, .int .i64 0, .string ⟨#[]⟩, .slice none 0 0] 31) fun r_1 w1 =>
  NN r fun a =>
  ∃ parts : Int, w1.cell? (a.add 3) = some (.int .i64 parts) ∧
  NN r fun a_1 =>
  St w1 ((a_1.add 3).add 0) (.int .i64 (IntKind.i64.wrap (parts + (1 : Int)))) fun w1_1 =>
  NN r fun a_2 =>
  ∃ hx : Option Addr, w1_1.cell? (a_2.add 0) = some (.pointer hx) ∧
  C_heap_Heap_deref hx wx w1_1 fun t23 w1_2 =>
  C_cell_Tag t23 w1_2 fun t25 w1_3 =>
  If (t25 == (1 : Int))
  (C_heap_reader_variable r t23 w1_3 fun t300 t301 t302 t303P t303N t303C w1_4 =>
  St w1_4 ((⟨r_1, 0, none⟩ : Addr).add 0) (.int .i64 t300) fun w1_5 =>
  St w1_5 ((⟨r_1, 0, none⟩ : Addr).add 1) (.int .i64 t301) fun w1_6 =>
  St w1_6 ((⟨r_1, 0, none⟩ : Addr).add 2) (.string t302) fun w1_7 =>
  St w1_7 ((⟨r_1, 0, none⟩ : Addr).add 3) (.slice t303P t303N t303C) fun w1_8 =>
  ∃ r_2 : Int, w1_8.cell? ((⟨r_1, 0, none⟩ : Addr).add 0) = some (.int .i64 r_2) ∧
  ∃ r_3 : Int, w1_8.cell? ((⟨r_1, 0, none⟩ : Addr).add 1) = some (.int .i64 r_3) ∧
  ∃ r_4 : ByteArray, w1_8.cell? ((⟨r_1, 0, none⟩ : Addr).add 2) = some (.string r_4) ∧
  ∃ rP : Option Addr, ∃ rN : Nat, ∃ rC : Nat, w1_8.cell? ((⟨r_1, 0, none⟩ : Addr).add 3) = some (.slice rP rN rC) ∧
  R r_2 r_3 r_4 rP rN rC w1_8)
  (If (t25 == (4 : Int))
  (C_cell_Number t23 w1_3 fun t34 w1_9 =>
  C_term_Int t34 w1_9 fun t350 t351 t352 t353P t353N t353C w1_10 =>
  St w1_10 ((⟨r_1, 0, none⟩ : Addr).add 0) (.int .i64 t350) fun w1_11 =>
  St w1_11 ((⟨r_1, 0, none⟩ : Addr).add 1) (.int .i64 t351) fun w1_12 =>
  St w1_12 ((⟨r_1, 0, none⟩ : Addr).add 2) (.string t352) fun w1_13 =>
  St w1_13 ((⟨r_1, 0, none⟩ : Addr).add 3) (.slice t353P t353N t353C) fun w1_14 =>
  ∃ r_5 : Int, w1_14.cell? ((⟨r_1, 0, none⟩ : Addr).add 0) = some (.int .i64 r_5) ∧
  ∃ r_6 : Int, w1_14.cell? ((⟨r_1, 0, none⟩ : Addr).add 1) = some (.int .i64 r_6) ∧
  ∃ r_7 : ByteArray, w1_14.cell? ((⟨r_1, 0, none⟩ : Addr).add 2) = some (.string r_7) ∧
  ∃ rP_1 : Option Addr, ∃ rN_1 : Nat, ∃ rC_1 : Nat, w1_14.cell? ((⟨r_1, 0, none⟩ : Addr).add 3) = some (.slice rP_1 rN_1 rC_1) ∧
  R r_5 r_6 r_7 rP_1 rN_1 rC_1 w1_14)
  (If (t25 == (3 : Int))
  (NN r fun a_3 =>
  ∃ hx_1 : Option Addr, (drw w1_3).cell? (a_3.add 0) = some (.pointer hx_1) ∧
  NN hx_1 fun a_4 =>
  ∃ atoms : Option Addr, (drw w1_3).cell? (a_4.add 2) = some (.pointer atoms) ∧
  C_cell_Number t23 (drw w1_3) fun t47 w1_15 =>
  w1_15.cell? (a_4.add 2) = (drw w1_3).cell? (a_4.add 2) ∧
  w1_15.cell? (a_3.add 0) = (drw w1_3).cell? (a_3.add 0) ∧
  C_atom_Table_Name atoms t47 w1_15 fun t480 t481 w1_16 =>
  C_term_Atom t480 w1_16 fun t520 t521 t522 t523P t523N t523C w1_17 =>
  St w1_17 ((⟨r_1, 0, none⟩ : Addr).add 0) (.int .i64 t520) fun w1_18 =>
  St w1_18 ((⟨r_1, 0, none⟩ : Addr).add 1) (.int .i64 t521) fun w1_19 =>
  St w1_19 ((⟨r_1, 0, none⟩ : Addr).add 2) (.string t522) fun w1_20 =>
  St w1_20 ((⟨r_1, 0, none⟩ : Addr).add 3) (.slice t523P t523N t523C) fun w1_21 =>
  ∃ r_8 : Int, w1_21.cell? ((⟨r_1, 0, none⟩ : Addr).add 0) = some (.int .i64 r_8) ∧
  ∃ r_9 : Int, w1_21.cell? ((⟨r_1, 0, none⟩ : Addr).add 1) = some (.int .i64 r_9) ∧
  ∃ r_10 : ByteArray, w1_21.cell? ((⟨r_1, 0, none⟩ : Addr).add 2) = some (.string r_10) ∧
  ∃ rP_2 : Option Addr, ∃ rN_2 : Nat, ∃ rC_2 : Nat, w1_21.cell? ((⟨r_1, 0, none⟩ : Addr).add 3) = some (.slice rP_2 rN_2 rC_2) ∧
  R r_8 r_9 r_10 rP_2 rN_2 rC_2 w1_21)
  (NN r fun a_5 =>
  ∃ hx_2 : Option Addr, w1_3.cell? (a_5.add 0) = some (.pointer hx_2) ∧
  C_heap_Heap_fun hx_2 t23 w1_3 fun t590 t591 w1_22 =>
  New w1_22 (.cells #[.int .i64 0, .int .i64 0, .string ⟨#[]⟩, .slice none 0 0] 31) fun r_11 w1_23 =>
  St w1_23 ((⟨r_11, 0, none⟩ : Addr).add 0) (.int .i64 4) fun w1_24 =>
  St w1_24 ((⟨r_11, 0, none⟩ : Addr).add 1) (.int .i64 0) fun w1_25 =>
  St w1_25 ((⟨r_11, 0, none⟩ : Addr).add 2) (.string t590) fun w1_26 =>
  St w1_26 ((⟨r_11, 0, none⟩ : Addr).add 3) (.slice none 0 0) fun w1_27 =>
  F_heap_reader_read_L1 r t23 ⟨r_1, 0, none⟩ t591 ⟨r_11, 0, none⟩ ⟨(1 : Int)⟩ w1_27
  (fun w1_34 =>
  ∃ t870 : Int, w1_34.cell? ((⟨r_11, 0, none⟩ : Addr).add 0) = some (.int .i64 t870) ∧
  ∃ t871 : Int, w1_34.cell? ((⟨r_11, 0, none⟩ : Addr).add 1) = some (.int .i64 t871) ∧
  ∃ t872 : ByteArray, w1_34.cell? ((⟨r_11, 0, none⟩ : Addr).add 2) = some (.string t872) ∧
  ∃ t873P : Option Addr, ∃ t873N : Nat, ∃ t873C : Nat, w1_34.cell? ((⟨r_11, 0, none⟩ : Addr).add 3) = some (.slice t873P t873N t873C) ∧
  St w1_34 ((⟨r_1, 0, none⟩ : Addr).add 0) (.int .i64 t870) fun w1_35 =>
  St w1_35 ((⟨r_1, 0, none⟩ : Addr).add 1) (.int .i64 t871) fun w1_36 =>
  St w1_36 ((⟨r_1, 0, none⟩ : Addr).add 2) (.string t872) fun w1_37 =>
  St w1_37 ((⟨r_1, 0, none⟩ : Addr).add 3) (.slice t873P t873N t873C) fun w1_38 =>
  ∃ r_13 : Int, w1_38.cell? ((⟨r_1, 0, none⟩ : Addr).add 0) = some (.int .i64 r_13) ∧
  ∃ r_14 : Int, w1_38.cell? ((⟨r_1, 0, none⟩ : Addr).add 1) = some (.int .i64 r_14) ∧
  ∃ r_15 : ByteArray, w1_38.cell? ((⟨r_1, 0, none⟩ : Addr).add 2) = some (.string r_15) ∧
  ∃ rP_3 : Option Addr, ∃ rN_3 : Nat, ∃ rC_3 : Nat, w1_38.cell? ((⟨r_1, 0, none⟩ : Addr).add 3) = some (.slice rP_3 rN_3 rC_3) ∧
  R r_13 r_14 r_15 rP_3 rN_3 rC_3 w1_38))))

def lit_heap_reader_read_L1 (f : (Option Addr) × Int × Addr × Int × Addr) (s : S_heap_reader_read_L1) : Env := [⟨0, .pointer f.1, none⟩, ⟨1, .int .u64 f.2.1, none⟩, ⟨4, .pointer (some f.2.2.1), none⟩, ⟨8, .int .i64 f.2.2.2.1, none⟩, ⟨9, .pointer (some f.2.2.2.2), none⟩, ⟨10, .int .i64 s.i, none⟩]

def dec_heap_reader_read_L1 (e : Env) (K : ((Option Addr) × Int × Addr × Int × Addr) → S_heap_reader_read_L1 → Prop) : Prop :=
  onV (getV e 0) fun u1 =>
  asP u1 fun r_12 =>
  onV (getV e 1) fun u2 =>
  asI .u64 u2 fun wx_1 =>
  onV (getV e 4) fun u3 =>
  asA u3 fun t4 =>
  onV (getV e 8) fun u4 =>
  asI .i64 u4 fun arity =>
  onV (getV e 9) fun u5 =>
  asA u5 fun t =>
  onV (getV e 10) fun u6 =>
  asI .i64 u6 fun i =>
    K (r_12, wx_1, t4, arity, t) ⟨i⟩

theorem dec_heap_reader_read_L1_ok {N : Nat} (e : Env) (a : Act) (K : ((Option Addr) × Int × Addr × Int × Addr) → S_heap_reader_read_L1 → Prop) (hr : Rep N a e) (h0 : dec_heap_reader_read_L1 e K) : ∃ f s, K f s ∧ Rep N a (lit_heap_reader_read_L1 f s) := by
  unfold dec_heap_reader_read_L1 at h0
  obtain ⟨u1, g0, h1⟩ := onV_elim h0
  obtain ⟨r_12, rfl, h2⟩ := asP_elim h1
  obtain ⟨u2, g1, h3⟩ := onV_elim h2
  obtain ⟨wx_1, rfl, h4⟩ := asI_elim h3
  obtain ⟨u3, g4, h5⟩ := onV_elim h4
  obtain ⟨t4, rfl, h6⟩ := asA_elim h5
  obtain ⟨u4, g8, h7⟩ := onV_elim h6
  obtain ⟨arity, rfl, h8⟩ := asI_elim h7
  obtain ⟨u5, g9, h9⟩ := onV_elim h8
  obtain ⟨t, rfl, h10⟩ := asA_elim h9
  obtain ⟨u6, g10, h11⟩ := onV_elim h10
  obtain ⟨i, rfl, h12⟩ := asI_elim h11
  exact ⟨_, _, h12, rep_less hr (by simp [lit_heap_reader_read_L1, g0, g1, g4, g8, g9, g10])⟩

def spec_heap_reader_read_L1 (Q : Post) (e : Env) (w : World) : Prop :=
  dec_heap_reader_read_L1 e fun f s => F_heap_reader_read_L1 f.1 f.2.1 f.2.2.1 f.2.2.2.1 f.2.2.2.2 s w (fun w1 => Q (.exit 1) [⟨4, .pointer (some f.2.2.1), none⟩, ⟨9, .pointer (some f.2.2.2.2), none⟩] w1)

def G_heap_reader_read : Gen where
  loop := lookL [([false, true, false, true, true, true, true, true, true], spec_heap_reader_read_L1)]
  plan := fun id =>
    bif Nat.beq id 9 then some ([0, 1, 3, 7, 15, 31, 63, 0, 128, 511, 1023, 2047, 2047, 4095, 16383], .take 0 (.take 1 (.take 2 (.take 3 (.take 4 (.take 5 (.take 6 (.take 7 (.take 8 (.take 9 (.take 10 (.take 11 (.take 12 (.take 13 (.take 14 .done))))))))))))))) else
    bif Nat.beq id 16 then some ([0, 1, 0, 0, 0, 24, 56, 124, 252, 511, 1023, 2047], .take 0 (.take 1 (.take 2 (.take 3 (.take 4 (.take 5 (.take 6 (.take 7 (.take 8 (.take 9 (.take 10 (.take 11 .done)))))))))))) else none

def dx_heap_reader_read_L1_1 (e : Env) (K : ((Option Addr) × Int × Addr × Int × Addr) → Prop) : Prop :=
  onV (getV e 0) fun u1 =>
  asP u1 fun r_12 =>
  onV (getV e 1) fun u2 =>
  asI .u64 u2 fun wx_1 =>
  onV (getV e 4) fun u3 =>
  asA u3 fun t4 =>
  onV (getV e 8) fun u4 =>
  asI .i64 u4 fun arity =>
  onV (getV e 9) fun u5 =>
  asA u5 fun t =>
    K (r_12, wx_1, t4, arity, t)

theorem body_heap_reader_read_L1 (f : (Option Addr) × Int × Addr × Int × Addr) (s : S_heap_reader_read_L1) (w : World) (Kn : ((Option Addr) × Int × Addr × Int × Addr) → S_heap_reader_read_L1 → World → Prop) (Kx1 : ((Option Addr) × Int × Addr × Int × Addr) → World → Prop) :
    B_heap_reader_read_L1 f.1 f.2.1 f.2.2.1 f.2.2.2.1 f.2.2.2.2 s w (fun s1 w1 => Kn f s1 w1) (fun w1 => Kx1 f w1) =
    den Tryz.prog Tryz.f77.ntmps G_heap_reader_read (sub (codeOf Tryz.f77) [false, false, true, false, true, true, true, true, true, true]) [false, false, true, false, true, true, true, true, true, true] (roundQ (fun e w => dec_heap_reader_read_L1 e fun f s => Kn f s w) (fun e w => False) (fun id e w => match Nat.beq id 1 with | true => dx_heap_reader_read_L1_1 e fun f => Kx1 f w | false => False)) (lit_heap_reader_read_L1 f s) w := by kernel_rfl

theorem ok_heap_reader_read_L1 : OneOk Tryz.prog Tryz.f77.ntmps G_heap_reader_read (codeOf Tryz.f77) [false, true, false, true, true, true, true, true, true] spec_heap_reader_read_L1 := by
  intro c hc ih Q e w a hr h
  have hcc : sub (codeOf Tryz.f77) [false, false, true, false, true, true, true, true, true, true] = c := sub_of_codeAt hc
  obtain ⟨f, s, h, hrep⟩ := dec_heap_reader_read_L1_ok e a _ hr h
  obtain ⟨J, μ, hj, hround⟩ := h
  refine loop_rule_deep seat_ok seat_mixed ih lit_heap_reader_read_L1 dec_heap_reader_read_L1 dec_heap_reader_read_L1_ok hc f J μ (Kr := fun e w => False) (Kx := fun id e w => match Nat.beq id 1 with | true => (dx_heap_reader_read_L1_1 e fun f1 => f1 = f ∧ Q (.exit 1) [⟨4, .pointer (some f.2.2.1), none⟩, ⟨9, .pointer (some f.2.2.2.2), none⟩] w) | false => False) ?_ ?_ ?_ s w a hj hrep
  · intro e a w hr h
    exact h.elim
  · intro id e a w hr h0
    (try dsimp only at h0)
    split at h0
    · rename_i hid
      obtain rfl := Nat.eq_of_beq_eq_true hid
      unfold dx_heap_reader_read_L1_1 at h0
      obtain ⟨u1, g0, h1⟩ := onV_elim h0
      obtain ⟨r_12, rfl, h2⟩ := asP_elim h1
      obtain ⟨u2, g1, h3⟩ := onV_elim h2
      obtain ⟨wx_1, rfl, h4⟩ := asI_elim h3
      obtain ⟨u3, g4, h5⟩ := onV_elim h4
      obtain ⟨t4, rfl, h6⟩ := asA_elim h5
      obtain ⟨u4, g8, h7⟩ := onV_elim h6
      obtain ⟨arity, rfl, h8⟩ := asI_elim h7
      obtain ⟨u5, g9, h9⟩ := onV_elim h8
      obtain ⟨t, rfl, h10⟩ := asA_elim h9
      obtain ⟨hf, hq⟩ := h10
      subst hf
      exact ⟨_, rep_less hr (by simp [g4, g9]), hq⟩
    · exact h0.elim
  · intro s w hj
    have hb := hround s w hj
    rw [← hcc]
    have e1 := body_heap_reader_read_L1 f s w (fun f1 s1 w1 => f1 = f ∧ J s1 w1 ∧ μ s1 w1 < μ s w) (fun f1 w1 => f1 = f ∧ Q (.exit 1) [⟨4, .pointer (some f.2.2.1), none⟩, ⟨9, .pointer (some f.2.2.2.2), none⟩] w1)
    simp only [true_and] at e1
    exact cast e1 hb

theorem loops_heap_reader_read : LoopOk Tryz.prog Tryz.f77.ntmps G_heap_reader_read (codeOf Tryz.f77) := loopOk_list rfl ⟨ok_heap_reader_read_L1, trivial⟩

theorem den_heap_reader_read (r : Option Addr) (wx : Int) (w : World) (R : Value → World → Prop) :
    F_heap_reader_read r wx w (fun r0 r1 r2 r3P r3N r3C w1 => R (.agg #[.int .i64 r0, .int .i64 r1, .string r2, .slice r3P r3N r3C]) w1) = den Tryz.prog Tryz.f77.ntmps G_heap_reader_read (codeOf Tryz.f77) [] (postD Tryz.prog Tryz.f77.results.toList R) (entry [.pointer r, .int .u64 wx] 0) w := by kernel_rfl

theorem C_heap_reader_read.of {r : Option Addr} {wx : Int} {w : World} {R : Int → Int → ByteArray → Option Addr → Nat → Nat → World → Prop} (h : F_heap_reader_read r wx w R) : C_heap_reader_read r wx w R := by
  refine (calls_of_den (c := codeOf Tryz.f77) seat_ok seat_mixed Tryz.func77 (by kernel_rfl) loops_heap_reader_read (args := [.pointer r, .int .u64 wx]) rfl (R := fun v w1 => ∃ (r0 : Int) (r1 : Int) (r2 : ByteArray) (r3P : Option Addr) (r3N : Nat) (r3C : Nat), v = (.agg #[.int .i64 r0, .int .i64 r1, .string r2, .slice r3P r3N r3C] : Value) ∧ R r0 r1 r2 r3P r3N r3C w1) ?_).mono ?_
  · rw [← den_heap_reader_read]
    have e : (fun r0 r1 r2 r3P r3N r3C w1 => ∃ (r0' : Int) (r1' : Int) (r2' : ByteArray) (r3P' : Option Addr) (r3N' : Nat) (r3C' : Nat), (.agg #[.int .i64 r0, .int .i64 r1, .string r2, .slice r3P r3N r3C] : Value) = (.agg #[.int .i64 r0', .int .i64 r1', .string r2', .slice r3P' r3N' r3C'] : Value) ∧ R r0' r1' r2' r3P' r3N' r3C' w1) = R := by
      funext r0 r1 r2 r3P r3N r3C w1
      exact propext ⟨fun ⟨r0', r1', r2', r3P', r3N', r3C', he, h⟩ => by first | (simp at he; simp_all) | (cases he; exact h), fun h => ⟨_, _, _, _, _, _, rfl, h⟩⟩
    simpa only [e] using h
  · rintro en w1 ⟨v, he, r0, r1, r2, r3P, r3N, r3C, rfl, h⟩
    exact ⟨_, _, _, _, _, _, he, h⟩

def F_cell_Tag (wx : Int) (w : World) (R : Int → World → Prop) : Prop :=
  R (IntKind.i64.wrap (andI .u64 wx (7 : Int))) w

def G_cell_Tag : Gen where
  loop := lookL []
  plan := fun _ => none

theorem loops_cell_Tag : LoopOk Tryz.prog Tryz.f79.ntmps G_cell_Tag (codeOf Tryz.f79) := loopOk_none fun _ => rfl

theorem den_cell_Tag (wx : Int) (w : World) (R : Value → World → Prop) :
    F_cell_Tag wx w (fun r w1 => R (.int .i64 r) w1) = den Tryz.prog Tryz.f79.ntmps G_cell_Tag (codeOf Tryz.f79) [] (postD Tryz.prog Tryz.f79.results.toList R) (entry [.int .u64 wx] 0) w := by kernel_rfl

theorem C_cell_Tag.of {wx : Int} {w : World} {R : Int → World → Prop} (h : F_cell_Tag wx w R) : C_cell_Tag wx w R := by
  refine (calls_of_den (c := codeOf Tryz.f79) seat_ok seat_mixed Tryz.func79 (by kernel_rfl) loops_cell_Tag (args := [.int .u64 wx]) rfl (R := fun v w1 => ∃ (r : Int), v = (.int .i64 r : Value) ∧ R r w1) ?_).mono ?_
  · rw [← den_cell_Tag]
    have e : (fun r w1 => ∃ (r' : Int), (.int .i64 r : Value) = (.int .i64 r' : Value) ∧ R r' w1) = R := by
      funext r w1
      exact propext ⟨fun ⟨r', he, h⟩ => by first | (simp at he; simp_all) | (cases he; exact h), fun h => ⟨_, rfl, h⟩⟩
    simpa only [e] using h
  · rintro en w1 ⟨v, he, r, rfl, h⟩
    exact ⟨_, he, h⟩

def F_cell_Number (wx : Int) (w : World) (R : Int → World → Prop) : Prop :=
  C_cell_Tag wx w fun t4 w1 =>
  If (t4 == (0 : Int))
  (R (0 : Int) w1)
  (0 ≤ (3 : Int) ∧
  R (shrI .i64 (IntKind.i64.wrap wx) (3 : Int)) w1)

def G_cell_Number : Gen where
  loop := lookL []
  plan := fun _ => none

theorem loops_cell_Number : LoopOk Tryz.prog Tryz.f80.ntmps G_cell_Number (codeOf Tryz.f80) := loopOk_none fun _ => rfl

theorem den_cell_Number (wx : Int) (w : World) (R : Value → World → Prop) :
    F_cell_Number wx w (fun r w1 => R (.int .i64 r) w1) = den Tryz.prog Tryz.f80.ntmps G_cell_Number (codeOf Tryz.f80) [] (postD Tryz.prog Tryz.f80.results.toList R) (entry [.int .u64 wx] 0) w := by kernel_rfl

theorem C_cell_Number.of {wx : Int} {w : World} {R : Int → World → Prop} (h : F_cell_Number wx w R) : C_cell_Number wx w R := by
  refine (calls_of_den (c := codeOf Tryz.f80) seat_ok seat_mixed Tryz.func80 (by kernel_rfl) loops_cell_Number (args := [.int .u64 wx]) rfl (R := fun v w1 => ∃ (r : Int), v = (.int .i64 r : Value) ∧ R r w1) ?_).mono ?_
  · rw [← den_cell_Number]
    have e : (fun r w1 => ∃ (r' : Int), (.int .i64 r : Value) = (.int .i64 r' : Value) ∧ R r' w1) = R := by
      funext r w1
      exact propext ⟨fun ⟨r', he, h⟩ => by first | (simp at he; simp_all) | (cases he; exact h), fun h => ⟨_, rfl, h⟩⟩
    simpa only [e] using h
  · rintro en w1 ⟨v, he, r, rfl, h⟩
    exact ⟨_, he, h⟩

def F_atom_Table_Name (t : Option Addr) (idx : Int) (w : World) (R : ByteArray → Int → World → Prop) : Prop :=
  C_atom_Table_may t idx w fun t9 w1 =>
  If (t9 != (0 : Int))
  (R ⟨#[]⟩ t9 w1)
  (NN t fun a =>
  ∃ lP : Option Addr, ∃ lN : Nat, ∃ lC : Nat, w1.cell? (a.add 5) = some (.slice lP lN lC) ∧
  0 ≤ idx ∧ idx < (lN : Int) ∧ NN lP fun a_1 =>
  ∃ namex : ByteArray, w1.cell? ((a_1.add (idx.toNat * 3)).add 0) = some (.string namex) ∧
  R namex (0 : Int) w1)

def G_atom_Table_Name : Gen where
  loop := lookL []
  plan := fun _ => none

theorem loops_atom_Table_Name : LoopOk Tryz.prog Tryz.f81.ntmps G_atom_Table_Name (codeOf Tryz.f81) := loopOk_none fun _ => rfl

theorem den_atom_Table_Name (t : Option Addr) (idx : Int) (w : World) (R : Value → World → Prop) :
    F_atom_Table_Name t idx w (fun r0 r1 w1 => R (.tuple #[.string r0, .int .i64 r1]) w1) = den Tryz.prog Tryz.f81.ntmps G_atom_Table_Name (codeOf Tryz.f81) [] (postD Tryz.prog Tryz.f81.results.toList R) (entry [.pointer t, .int .i64 idx] 0) w := by kernel_rfl

theorem C_atom_Table_Name.of {t : Option Addr} {idx : Int} {w : World} {R : ByteArray → Int → World → Prop} (h : F_atom_Table_Name t idx w R) : C_atom_Table_Name t idx w R := by
  refine (calls_of_den (c := codeOf Tryz.f81) seat_ok seat_mixed Tryz.func81 (by kernel_rfl) loops_atom_Table_Name (args := [.pointer t, .int .i64 idx]) rfl (R := fun v w1 => ∃ (r0 : ByteArray) (r1 : Int), v = (.tuple #[.string r0, .int .i64 r1] : Value) ∧ R r0 r1 w1) ?_).mono ?_
  · rw [← den_atom_Table_Name]
    have e : (fun r0 r1 w1 => ∃ (r0' : ByteArray) (r1' : Int), (.tuple #[.string r0, .int .i64 r1] : Value) = (.tuple #[.string r0', .int .i64 r1'] : Value) ∧ R r0' r1' w1) = R := by
      funext r0 r1 w1
      exact propext ⟨fun ⟨r0', r1', he, h⟩ => by first | (simp at he; simp_all) | (cases he; exact h), fun h => ⟨_, _, rfl, h⟩⟩
    simpa only [e] using h
  · rintro en w1 ⟨v, he, r0, r1, rfl, h⟩
    exact ⟨_, _, he, h⟩

def F_heap_Heap_fun (hx : Option Addr) (wx : Int) (w : World) (R : ByteArray → Int → World → Prop) : Prop :=
  NN hx fun a =>
  ∃ funs : Option Addr, (drw w).cell? (a.add 3) = some (.pointer funs) ∧
  NN hx fun a_1 =>
  ∃ cellsP : Option Addr, ∃ cellsN : Nat, ∃ cellsC : Nat, (drw w).cell? (a_1.add 4) = some (.slice cellsP cellsN cellsC) ∧
  C_cell_Number wx (drw w) fun t19 w1 =>
  w1.cell? (a_1.add 4) = (drw w).cell? (a_1.add 4) ∧
  w1.cell? (a.add 3) = (drw w).cell? (a.add 3) ∧
  0 ≤ t19 ∧ t19 < (cellsN : Int) ∧ NN cellsP fun a_2 =>
  ∃ t21 : Int, w1.cell? (a_2.add (t19.toNat * 1)) = some (.int .u64 t21) ∧
  C_cell_Number t21 w1 fun t22 w1_1 =>
  w1_1.cell? (a.add 3) = (drw w).cell? (a.add 3) ∧
  C_functor_Table_Get funs t22 w1_1 fun t230 t231 t232 w1_2 =>
  R t230 t231 w1_2

def G_heap_Heap_fun : Gen where
  loop := lookL []
  plan := fun id =>
    bif Nat.beq id 1 then some ([0, 1, 3, 7, 0, 16, 48, 112, 0, 256, 1008, 2032, 4080, 8191, 16383, 32767, 32767, 32767, 65535, 393215, 1048575], .take 0 (.take 1 (.take 2 (.take 3 (.take 4 (.take 5 (.take 6 (.take 7 (.take 8 (.take 9 (.take 10 (.take 11 (.take 12 (.take 13 (.take 14 (.take 15 (.take 16 (.take 17 (.take 18 (.take 19 (.take 20 .done))))))))))))))))))))) else none

theorem loops_heap_Heap_fun : LoopOk Tryz.prog Tryz.f82.ntmps G_heap_Heap_fun (codeOf Tryz.f82) := loopOk_none fun _ => rfl

theorem den_heap_Heap_fun (hx : Option Addr) (wx : Int) (w : World) (R : Value → World → Prop) :
    F_heap_Heap_fun hx wx w (fun r0 r1 w1 => R (.tuple #[.string r0, .int .i64 r1]) w1) = den Tryz.prog Tryz.f82.ntmps G_heap_Heap_fun (codeOf Tryz.f82) [] (postD Tryz.prog Tryz.f82.results.toList R) (entry [.pointer hx, .int .u64 wx] 0) w := by kernel_rfl

theorem C_heap_Heap_fun.of {hx : Option Addr} {wx : Int} {w : World} {R : ByteArray → Int → World → Prop} (h : F_heap_Heap_fun hx wx w R) : C_heap_Heap_fun hx wx w R := by
  refine (calls_of_den (c := codeOf Tryz.f82) seat_ok seat_mixed Tryz.func82 (by kernel_rfl) loops_heap_Heap_fun (args := [.pointer hx, .int .u64 wx]) rfl (R := fun v w1 => ∃ (r0 : ByteArray) (r1 : Int), v = (.tuple #[.string r0, .int .i64 r1] : Value) ∧ R r0 r1 w1) ?_).mono ?_
  · rw [← den_heap_Heap_fun]
    have e : (fun r0 r1 w1 => ∃ (r0' : ByteArray) (r1' : Int), (.tuple #[.string r0, .int .i64 r1] : Value) = (.tuple #[.string r0', .int .i64 r1'] : Value) ∧ R r0' r1' w1) = R := by
      funext r0 r1 w1
      exact propext ⟨fun ⟨r0', r1', he, h⟩ => by first | (simp at he; simp_all) | (cases he; exact h), fun h => ⟨_, _, rfl, h⟩⟩
    simpa only [e] using h
  · rintro en w1 ⟨v, he, r0, r1, rfl, h⟩
    exact ⟨_, _, he, h⟩

structure S_heap_Heap_deref_L1 where
  wx_1 : Int

/-- One round. -/
def B_heap_Heap_deref_L1 (hx_1 : Option Addr) (s : S_heap_Heap_deref_L1) (w : World) (Kn : S_heap_Heap_deref_L1 → World → Prop) (Kx0 : Int → World → Prop) : Prop :=
  C_cell_Is (s.wx_1 : Int) (1 : Int) w fun t7 w1 =>
  If t7
  (NN hx_1 fun a =>
  ∃ cellsP : Option Addr, ∃ cellsN : Nat, ∃ cellsC : Nat, (drw w1).cell? (a.add 4) = some (.slice cellsP cellsN cellsC) ∧
  C_cell_Number (s.wx_1 : Int) (drw w1) fun t13 w1_1 =>
  w1_1.cell? (a.add 4) = (drw w1).cell? (a.add 4) ∧
  0 ≤ t13 ∧ t13 < (cellsN : Int) ∧ NN cellsP fun a_1 =>
  ∃ t15 : Int, w1_1.cell? (a_1.add (t13.toNat * 1)) = some (.int .u64 t15) ∧
  If (t15 == (s.wx_1 : Int))
  (Kx0 (s.wx_1 : Int) w1_1)
  (Kn ⟨t15⟩ w1_1))
  (Kx0 (s.wx_1 : Int) w1)

def F_heap_Heap_deref_L1 (hx_1 : Option Addr) (s : S_heap_Heap_deref_L1) (w : World) (Kx0 : Int → World → Prop) : Prop :=
  LoopS (fun s w Kn => B_heap_Heap_deref_L1 hx_1 s w Kn Kx0) s w

def F_heap_Heap_deref (hx : Option Addr) (wx : Int) (w : World) (R : Int → World → Prop) : Prop :=
  F_heap_Heap_deref_L1 hx ⟨wx⟩ w
  (fun wx_3 w1_2 =>
  R wx_3 w1_2)

def lit_heap_Heap_deref_L1 (f : (Option Addr)) (s : S_heap_Heap_deref_L1) : Env := [⟨0, .pointer f, none⟩, ⟨1, .int .u64 s.wx_1, none⟩]

def dec_heap_Heap_deref_L1 (e : Env) (K : (Option Addr) → S_heap_Heap_deref_L1 → Prop) : Prop :=
  onV (getV e 0) fun u1 =>
  asP u1 fun hx_1 =>
  onV (getV e 1) fun u2 =>
  asI .u64 u2 fun wx_1 =>
    K (hx_1) ⟨wx_1⟩

theorem dec_heap_Heap_deref_L1_ok {N : Nat} (e : Env) (a : Act) (K : (Option Addr) → S_heap_Heap_deref_L1 → Prop) (hr : Rep N a e) (h0 : dec_heap_Heap_deref_L1 e K) : ∃ f s, K f s ∧ Rep N a (lit_heap_Heap_deref_L1 f s) := by
  unfold dec_heap_Heap_deref_L1 at h0
  obtain ⟨u1, g0, h1⟩ := onV_elim h0
  obtain ⟨hx_1, rfl, h2⟩ := asP_elim h1
  obtain ⟨u2, g1, h3⟩ := onV_elim h2
  obtain ⟨wx_1, rfl, h4⟩ := asI_elim h3
  exact ⟨_, _, h4, rep_less hr (by simp [lit_heap_Heap_deref_L1, g0, g1])⟩

def spec_heap_Heap_deref_L1 (Q : Post) (e : Env) (w : World) : Prop :=
  dec_heap_Heap_deref_L1 e fun f s => F_heap_Heap_deref_L1 f s w (fun wx_2 w1 => Q (.exit 0) [⟨1, .int .u64 wx_2, none⟩] w1)

def G_heap_Heap_deref : Gen where
  loop := lookL [([false, false, true], spec_heap_Heap_deref_L1)]
  plan := fun id =>
    bif Nat.beq id 2 then some ([0, 1, 3, 7, 0, 16, 63, 127, 255], .take 0 (.take 1 (.take 2 (.take 3 (.take 4 (.take 5 (.take 6 (.take 7 (.take 8 .done))))))))) else none

def dx_heap_Heap_deref_L1_0 (e : Env) (K : (Option Addr) → Int → Prop) : Prop :=
  onV (getV e 0) fun u1 =>
  asP u1 fun hx_1 =>
  onV (getV e 1) fun u2 =>
  asI .u64 u2 fun wx_2 =>
    K (hx_1) wx_2

theorem body_heap_Heap_deref_L1 (f : (Option Addr)) (s : S_heap_Heap_deref_L1) (w : World) (Kn : (Option Addr) → S_heap_Heap_deref_L1 → World → Prop) (Kx0 : (Option Addr) → Int → World → Prop) :
    B_heap_Heap_deref_L1 f s w (fun s1 w1 => Kn f s1 w1) (fun wx_2 w1 => Kx0 f wx_2 w1) =
    den Tryz.prog Tryz.f83.ntmps G_heap_Heap_deref (sub (codeOf Tryz.f83) [false, false, false, true]) [false, false, false, true] (roundQ (fun e w => dec_heap_Heap_deref_L1 e fun f s => Kn f s w) (fun e w => False) (fun id e w => match Nat.beq id 0 with | true => dx_heap_Heap_deref_L1_0 e fun f wx_2 => Kx0 f wx_2 w | false => False)) (lit_heap_Heap_deref_L1 f s) w := by kernel_rfl

theorem ok_heap_Heap_deref_L1 : OneOk Tryz.prog Tryz.f83.ntmps G_heap_Heap_deref (codeOf Tryz.f83) [false, false, true] spec_heap_Heap_deref_L1 := by
  intro c hc ih Q e w a hr h
  have hcc : sub (codeOf Tryz.f83) [false, false, false, true] = c := sub_of_codeAt hc
  obtain ⟨f, s, h, hrep⟩ := dec_heap_Heap_deref_L1_ok e a _ hr h
  obtain ⟨J, μ, hj, hround⟩ := h
  refine loop_rule_deep seat_ok seat_mixed ih lit_heap_Heap_deref_L1 dec_heap_Heap_deref_L1 dec_heap_Heap_deref_L1_ok hc f J μ (Kr := fun e w => False) (Kx := fun id e w => match Nat.beq id 0 with | true => (dx_heap_Heap_deref_L1_0 e fun f1 wx_2 => f1 = f ∧ Q (.exit 0) [⟨1, .int .u64 wx_2, none⟩] w) | false => False) ?_ ?_ ?_ s w a hj hrep
  · intro e a w hr h
    exact h.elim
  · intro id e a w hr h0
    (try dsimp only at h0)
    split at h0
    · rename_i hid
      obtain rfl := Nat.eq_of_beq_eq_true hid
      unfold dx_heap_Heap_deref_L1_0 at h0
      obtain ⟨u1, g0, h1⟩ := onV_elim h0
      obtain ⟨hx_1, rfl, h2⟩ := asP_elim h1
      obtain ⟨u2, g1, h3⟩ := onV_elim h2
      obtain ⟨wx_2, rfl, h4⟩ := asI_elim h3
      obtain ⟨hf, hq⟩ := h4
      subst hf
      exact ⟨_, rep_less hr (by simp [g1]), hq⟩
    · exact h0.elim
  · intro s w hj
    have hb := hround s w hj
    rw [← hcc]
    have e1 := body_heap_Heap_deref_L1 f s w (fun f1 s1 w1 => f1 = f ∧ J s1 w1 ∧ μ s1 w1 < μ s w) (fun f1 wx_2 w1 => f1 = f ∧ Q (.exit 0) [⟨1, .int .u64 wx_2, none⟩] w1)
    simp only [true_and] at e1
    exact cast e1 hb

theorem loops_heap_Heap_deref : LoopOk Tryz.prog Tryz.f83.ntmps G_heap_Heap_deref (codeOf Tryz.f83) := loopOk_list rfl ⟨ok_heap_Heap_deref_L1, trivial⟩

theorem den_heap_Heap_deref (hx : Option Addr) (wx : Int) (w : World) (R : Value → World → Prop) :
    F_heap_Heap_deref hx wx w (fun r w1 => R (.int .u64 r) w1) = den Tryz.prog Tryz.f83.ntmps G_heap_Heap_deref (codeOf Tryz.f83) [] (postD Tryz.prog Tryz.f83.results.toList R) (entry [.pointer hx, .int .u64 wx] 0) w := by kernel_rfl

theorem C_heap_Heap_deref.of {hx : Option Addr} {wx : Int} {w : World} {R : Int → World → Prop} (h : F_heap_Heap_deref hx wx w R) : C_heap_Heap_deref hx wx w R := by
  refine (calls_of_den (c := codeOf Tryz.f83) seat_ok seat_mixed Tryz.func83 (by kernel_rfl) loops_heap_Heap_deref (args := [.pointer hx, .int .u64 wx]) rfl (R := fun v w1 => ∃ (r : Int), v = (.int .u64 r : Value) ∧ R r w1) ?_).mono ?_
  · rw [← den_heap_Heap_deref]
    have e : (fun r w1 => ∃ (r' : Int), (.int .u64 r : Value) = (.int .u64 r' : Value) ∧ R r' w1) = R := by
      funext r w1
      exact propext ⟨fun ⟨r', he, h⟩ => by first | (simp at he; simp_all) | (cases he; exact h), fun h => ⟨_, rfl, h⟩⟩
    simpa only [e] using h
  · rintro en w1 ⟨v, he, r, rfl, h⟩
    exact ⟨_, he, h⟩

def F_ref06_Atom (sx : ByteArray) (w : World) (R : Int → Int → ByteArray → Option Addr → Nat → Nat → World → Prop) : Prop :=
  New w (.cells #[.int .i64 0, .int .i64 0, .string ⟨#[]⟩, .slice none 0 0] 31) fun r w1 =>
  St w1 ((⟨r, 0, none⟩ : Addr).add 0) (.int .i64 3) fun w1_1 =>
  St w1_1 ((⟨r, 0, none⟩ : Addr).add 1) (.int .i64 0) fun w1_2 =>
  St w1_2 ((⟨r, 0, none⟩ : Addr).add 2) (.string sx) fun w1_3 =>
  St w1_3 ((⟨r, 0, none⟩ : Addr).add 3) (.slice none 0 0) fun w1_4 =>
  ∃ r_1 : Int, w1_4.cell? ((⟨r, 0, none⟩ : Addr).add 0) = some (.int .i64 r_1) ∧
  ∃ r_2 : Int, w1_4.cell? ((⟨r, 0, none⟩ : Addr).add 1) = some (.int .i64 r_2) ∧
  ∃ r_3 : ByteArray, w1_4.cell? ((⟨r, 0, none⟩ : Addr).add 2) = some (.string r_3) ∧
  ∃ rP : Option Addr, ∃ rN : Nat, ∃ rC : Nat, w1_4.cell? ((⟨r, 0, none⟩ : Addr).add 3) = some (.slice rP rN rC) ∧
  R r_1 r_2 r_3 rP rN rC w1_4

def G_ref06_Atom : Gen where
  loop := lookL []
  plan := fun _ => none

theorem loops_ref06_Atom : LoopOk Tryz.prog Tryz.f84.ntmps G_ref06_Atom (codeOf Tryz.f84) := loopOk_none fun _ => rfl

theorem den_ref06_Atom (sx : ByteArray) (w : World) (R : Value → World → Prop) :
    F_ref06_Atom sx w (fun r0 r1 r2 r3P r3N r3C w1 => R (.agg #[.int .i64 r0, .int .i64 r1, .string r2, .slice r3P r3N r3C]) w1) = den Tryz.prog Tryz.f84.ntmps G_ref06_Atom (codeOf Tryz.f84) [] (postD Tryz.prog Tryz.f84.results.toList R) (entry [.string sx] 0) w := by kernel_rfl

theorem C_ref06_Atom.of {sx : ByteArray} {w : World} {R : Int → Int → ByteArray → Option Addr → Nat → Nat → World → Prop} (h : F_ref06_Atom sx w R) : C_ref06_Atom sx w R := by
  refine (calls_of_den (c := codeOf Tryz.f84) seat_ok seat_mixed Tryz.func84 (by kernel_rfl) loops_ref06_Atom (args := [.string sx]) rfl (R := fun v w1 => ∃ (r0 : Int) (r1 : Int) (r2 : ByteArray) (r3P : Option Addr) (r3N : Nat) (r3C : Nat), v = (.agg #[.int .i64 r0, .int .i64 r1, .string r2, .slice r3P r3N r3C] : Value) ∧ R r0 r1 r2 r3P r3N r3C w1) ?_).mono ?_
  · rw [← den_ref06_Atom]
    have e : (fun r0 r1 r2 r3P r3N r3C w1 => ∃ (r0' : Int) (r1' : Int) (r2' : ByteArray) (r3P' : Option Addr) (r3N' : Nat) (r3C' : Nat), (.agg #[.int .i64 r0, .int .i64 r1, .string r2, .slice r3P r3N r3C] : Value) = (.agg #[.int .i64 r0', .int .i64 r1', .string r2', .slice r3P' r3N' r3C'] : Value) ∧ R r0' r1' r2' r3P' r3N' r3C' w1) = R := by
      funext r0 r1 r2 r3P r3N r3C w1
      exact propext ⟨fun ⟨r0', r1', r2', r3P', r3N', r3C', he, h⟩ => by first | (simp at he; simp_all) | (cases he; exact h), fun h => ⟨_, _, _, _, _, _, rfl, h⟩⟩
    simpa only [e] using h
  · rintro en w1 ⟨v, he, r0, r1, r2, r3P, r3N, r3C, rfl, h⟩
    exact ⟨_, _, _, _, _, _, he, h⟩

def F_functor_Table_Put (t : Option Addr) (namex : ByteArray) (arity : Int) (w : World) (R : Int → Int → World → Prop) : Prop :=
  C_functor_Table_made t w fun t15 w1 =>
  If (!t15)
  (R (0 : Int) (6 : Int) w1)
  (If (decide (arity < (1 : Int)))
  (R (0 : Int) (1 : Int) w1)
  (If (decide (arity > (16 : Int)))
  (R (0 : Int) (1 : Int) w1)
  (NN t fun a =>
  ∃ atoms : Option Addr, w1.cell? (a.add 0) = some (.pointer atoms) ∧
  C_atom_Table_Intern atoms namex w1 fun t300 t301 w1_1 =>
  If (t301 != (0 : Int))
  (R (0 : Int) t301 w1_1)
  (New w1_1 (.cells #[.int .i64 0, .int .i64 0] 204) fun r w1_2 =>
  St w1_2 ((⟨r, 0, none⟩ : Addr).add 0) (.int .i64 t300) fun w1_3 =>
  St w1_3 ((⟨r, 0, none⟩ : Addr).add 1) (.int .i64 arity) fun w1_4 =>
  NN t fun a_1 =>
  ∃ ids : Option Nat, (drw w1_4).cell? (a_1.add 3) = some (.map ids) ∧
  ∃ t440 : Int, (drw w1_4).cell? ((⟨r, 0, none⟩ : Addr).add 0) = some (.int .i64 t440) ∧
  ∃ t441 : Int, (drw w1_4).cell? ((⟨r, 0, none⟩ : Addr).add 1) = some (.int .i64 t441) ∧
  Run Tryz.prog (Instr.lookup 191 (.map ids) (.agg #[.int .i64 t440, .int .i64 t441]) true) (drw w1_4) fun v w1_5 => ∃ t450 : Int, ∃ t451 : Bool, v = (.tuple #[.int .i64 t450, .bool t451]) ∧
  If t451
  (R t450 (0 : Int) w1_5)
  (∃ t510 : Int, w1_5.cell? ((⟨r, 0, none⟩ : Addr).add 0) = some (.int .i64 t510) ∧
  ∃ t511 : Int, w1_5.cell? ((⟨r, 0, none⟩ : Addr).add 1) = some (.int .i64 t511) ∧
  C_functor_Table_add t t510 t511 w1_5 fun t520 t521 w1_6 =>
  R t520 t521 w1_6)))))

def G_functor_Table_Put : Gen where
  loop := lookL []
  plan := fun id =>
    bif Nat.beq id 9 then some ([0, 1, 3, 7, 0, 31, 63, 127, 127, 255, 1023], .take 0 (.take 1 (.take 2 (.take 3 (.take 4 (.take 5 (.take 6 (.take 7 (.take 8 (.take 9 (.take 10 .done))))))))))) else none

theorem loops_functor_Table_Put : LoopOk Tryz.prog Tryz.f85.ntmps G_functor_Table_Put (codeOf Tryz.f85) := loopOk_none fun _ => rfl

theorem den_functor_Table_Put (t : Option Addr) (namex : ByteArray) (arity : Int) (w : World) (R : Value → World → Prop) :
    F_functor_Table_Put t namex arity w (fun r0 r1 w1 => R (.tuple #[.int .i64 r0, .int .i64 r1]) w1) = den Tryz.prog Tryz.f85.ntmps G_functor_Table_Put (codeOf Tryz.f85) [] (postD Tryz.prog Tryz.f85.results.toList R) (entry [.pointer t, .string namex, .int .i64 arity] 0) w := by kernel_rfl

theorem C_functor_Table_Put.of {t : Option Addr} {namex : ByteArray} {arity : Int} {w : World} {R : Int → Int → World → Prop} (h : F_functor_Table_Put t namex arity w R) : C_functor_Table_Put t namex arity w R := by
  refine (calls_of_den (c := codeOf Tryz.f85) seat_ok seat_mixed Tryz.func85 (by kernel_rfl) loops_functor_Table_Put (args := [.pointer t, .string namex, .int .i64 arity]) rfl (R := fun v w1 => ∃ (r0 : Int) (r1 : Int), v = (.tuple #[.int .i64 r0, .int .i64 r1] : Value) ∧ R r0 r1 w1) ?_).mono ?_
  · rw [← den_functor_Table_Put]
    have e : (fun r0 r1 w1 => ∃ (r0' : Int) (r1' : Int), (.tuple #[.int .i64 r0, .int .i64 r1] : Value) = (.tuple #[.int .i64 r0', .int .i64 r1'] : Value) ∧ R r0' r1' w1) = R := by
      funext r0 r1 w1
      exact propext ⟨fun ⟨r0', r1', he, h⟩ => by first | (simp at he; simp_all) | (cases he; exact h), fun h => ⟨_, _, rfl, h⟩⟩
    simpa only [e] using h
  · rintro en w1 ⟨v, he, r0, r1, rfl, h⟩
    exact ⟨_, _, he, h⟩

structure S_heap_Heap_take_L1 where
  mk ::

structure S_heap_Heap_take_L2 where
  i : Int

/-- One round. -/
def B_heap_Heap_take_L1 (hx_1 : Option Addr) (n_1 : Int) (atx : Int) (s : S_heap_Heap_take_L1) (w : World) (Kn : S_heap_Heap_take_L1 → World → Prop) (Kx0 : World → Prop) : Prop :=
  NN hx_1 fun a_1 =>
  ∃ cellsP : Option Addr, ∃ cellsN : Nat, ∃ cellsC : Nat, (drw w).cell? (a_1.add 4) = some (.slice cellsP cellsN cellsC) ∧
  NN hx_1 fun a_2 =>
  ∃ pool_1 : Option Addr, (drw w).cell? (a_2.add 0) = some (.pointer pool_1) ∧
  C_pool_Pool_Top pool_1 (drw w) fun t30 w1_1 =>
  w1_1.cell? (a_1.add 4) = (drw w).cell? (a_1.add 4) ∧
  If (decide ((cellsN : Int) < t30))
  (NN hx_1 fun a_3 =>
  ∃ cellsP_1 : Option Addr, ∃ cellsN_1 : Nat, ∃ cellsC_1 : Nat, w1_1.cell? (a_3.add 4) = some (.slice cellsP_1 cellsN_1 cellsC_1) ∧
  BSl Tryz.prog 36 1 [(0, .int .u64 0)] w1_1 fun t37P t37N t37C w1_2 =>
  App Tryz.prog #[36, 36] 36 #[.slice cellsP_1 cellsN_1 cellsC_1, .slice t37P t37N t37C] w1_2 fun t38P t38N t38C w1_3 =>
  NN hx_1 fun a_4 =>
  St w1_3 ((a_4.add 4).add 0) (.slice t38P t38N t38C) fun w1_4 =>
  Kn ⟨⟩ w1_4)
  (Kx0 w1_1)

def F_heap_Heap_take_L1 (hx_1 : Option Addr) (n_1 : Int) (atx : Int) (s : S_heap_Heap_take_L1) (w : World) (Kx0 : World → Prop) : Prop :=
  LoopS (fun s w Kn => B_heap_Heap_take_L1 hx_1 n_1 atx s w Kn Kx0) s w

/-- One round. -/
def B_heap_Heap_take_L2 (hx_2 : Option Addr) (n_2 : Int) (atx_1 : Int) (s : S_heap_Heap_take_L2) (w : World) (Kn : S_heap_Heap_take_L2 → World → Prop) (Kx2 : World → Prop) : Prop :=
  If (decide ((s.i : Int) < (IntKind.i64.wrap (atx_1 + n_2))))
  (NN hx_2 fun a_5 =>
  ∃ cellsP_2 : Option Addr, ∃ cellsN_2 : Nat, ∃ cellsC_2 : Nat, (drw w).cell? (a_5.add 4) = some (.slice cellsP_2 cellsN_2 cellsC_2) ∧
  C_heap_ref (s.i : Int) (drw w) fun t55 w1_6 =>
  w1_6.cell? (a_5.add 4) = (drw w).cell? (a_5.add 4) ∧
  0 ≤ (s.i : Int) ∧ (s.i : Int) < (cellsN_2 : Int) ∧ NN cellsP_2 fun a_6 =>
  St w1_6 ((a_6.add ((s.i : Int).toNat * 1)).add 0) (.int .u64 t55) fun w1_7 =>
  Kn ⟨(IntKind.i64.wrap ((s.i : Int) + (1 : Int)))⟩ w1_7)
  (Kx2 w)

def F_heap_Heap_take_L2 (hx_2 : Option Addr) (n_2 : Int) (atx_1 : Int) (s : S_heap_Heap_take_L2) (w : World) (Kx2 : World → Prop) : Prop :=
  LoopS (fun s w Kn => B_heap_Heap_take_L2 hx_2 n_2 atx_1 s w Kn Kx2) s w

def F_heap_Heap_take (hx : Option Addr) (n : Int) (w : World) (R : Int → Int → World → Prop) : Prop :=
  NN hx fun a =>
  ∃ pool : Option Addr, w.cell? (a.add 0) = some (.pointer pool) ∧
  C_pool_Pool_Take pool n w fun t150 t151 w1 =>
  If (t151 != (0 : Int))
  (R (0 : Int) t151 w1)
  (F_heap_Heap_take_L1 hx n t150 ⟨⟩ w1
  (fun w1_5 =>
  F_heap_Heap_take_L2 hx n t150 ⟨t150⟩ w1_5
  (fun w1_8 =>
  R t150 (0 : Int) w1_8)))

def lit_heap_Heap_take_L1 (f : (Option Addr) × Int × Int) (s : S_heap_Heap_take_L1) : Env := [⟨0, .pointer f.1, none⟩, ⟨1, .int .i64 f.2.1, none⟩, ⟨6, .int .i64 f.2.2, none⟩]

def dec_heap_Heap_take_L1 (e : Env) (K : ((Option Addr) × Int × Int) → S_heap_Heap_take_L1 → Prop) : Prop :=
  onV (getV e 0) fun u1 =>
  asP u1 fun hx_1 =>
  onV (getV e 1) fun u2 =>
  asI .i64 u2 fun n_1 =>
  onV (getV e 6) fun u3 =>
  asI .i64 u3 fun atx =>
    K (hx_1, n_1, atx) ⟨⟩

theorem dec_heap_Heap_take_L1_ok {N : Nat} (e : Env) (a : Act) (K : ((Option Addr) × Int × Int) → S_heap_Heap_take_L1 → Prop) (hr : Rep N a e) (h0 : dec_heap_Heap_take_L1 e K) : ∃ f s, K f s ∧ Rep N a (lit_heap_Heap_take_L1 f s) := by
  unfold dec_heap_Heap_take_L1 at h0
  obtain ⟨u1, g0, h1⟩ := onV_elim h0
  obtain ⟨hx_1, rfl, h2⟩ := asP_elim h1
  obtain ⟨u2, g1, h3⟩ := onV_elim h2
  obtain ⟨n_1, rfl, h4⟩ := asI_elim h3
  obtain ⟨u3, g6, h5⟩ := onV_elim h4
  obtain ⟨atx, rfl, h6⟩ := asI_elim h5
  exact ⟨_, _, h6, rep_less hr (by simp [lit_heap_Heap_take_L1, g0, g1, g6])⟩

def spec_heap_Heap_take_L1 (Q : Post) (e : Env) (w : World) : Prop :=
  dec_heap_Heap_take_L1 e fun f s => F_heap_Heap_take_L1 f.1 f.2.1 f.2.2 s w (fun w1 => Q (.exit 0) [⟨0, .pointer f.1, none⟩, ⟨1, .int .i64 f.2.1, none⟩, ⟨6, .int .i64 f.2.2, none⟩] w1)

def lit_heap_Heap_take_L2 (f : (Option Addr) × Int × Int) (s : S_heap_Heap_take_L2) : Env := [⟨0, .pointer f.1, none⟩, ⟨1, .int .i64 f.2.1, none⟩, ⟨6, .int .i64 f.2.2, none⟩, ⟨8, .int .i64 s.i, none⟩]

def dec_heap_Heap_take_L2 (e : Env) (K : ((Option Addr) × Int × Int) → S_heap_Heap_take_L2 → Prop) : Prop :=
  onV (getV e 0) fun u1 =>
  asP u1 fun hx_2 =>
  onV (getV e 1) fun u2 =>
  asI .i64 u2 fun n_2 =>
  onV (getV e 6) fun u3 =>
  asI .i64 u3 fun atx_1 =>
  onV (getV e 8) fun u4 =>
  asI .i64 u4 fun i =>
    K (hx_2, n_2, atx_1) ⟨i⟩

theorem dec_heap_Heap_take_L2_ok {N : Nat} (e : Env) (a : Act) (K : ((Option Addr) × Int × Int) → S_heap_Heap_take_L2 → Prop) (hr : Rep N a e) (h0 : dec_heap_Heap_take_L2 e K) : ∃ f s, K f s ∧ Rep N a (lit_heap_Heap_take_L2 f s) := by
  unfold dec_heap_Heap_take_L2 at h0
  obtain ⟨u1, g0, h1⟩ := onV_elim h0
  obtain ⟨hx_2, rfl, h2⟩ := asP_elim h1
  obtain ⟨u2, g1, h3⟩ := onV_elim h2
  obtain ⟨n_2, rfl, h4⟩ := asI_elim h3
  obtain ⟨u3, g6, h5⟩ := onV_elim h4
  obtain ⟨atx_1, rfl, h6⟩ := asI_elim h5
  obtain ⟨u4, g8, h7⟩ := onV_elim h6
  obtain ⟨i, rfl, h8⟩ := asI_elim h7
  exact ⟨_, _, h8, rep_less hr (by simp [lit_heap_Heap_take_L2, g0, g1, g6, g8])⟩

def spec_heap_Heap_take_L2 (Q : Post) (e : Env) (w : World) : Prop :=
  dec_heap_Heap_take_L2 e fun f s => F_heap_Heap_take_L2 f.1 f.2.1 f.2.2 s w (fun w1 => Q (.exit 2) [⟨6, .int .i64 f.2.2, none⟩] w1)

def G_heap_Heap_take : Gen where
  loop := lookL [([false, false, true, true, true], spec_heap_Heap_take_L1), ([false, true, false, true, true, true, true], spec_heap_Heap_take_L2)]
  plan := fun id =>
    bif Nat.beq id 4 then some ([0, 1, 3, 7, 15, 0, 32, 96, 224, 480, 1023], .take 0 (.take 1 (.take 2 (.take 3 (.take 4 (.take 5 (.take 6 (.take 7 (.take 8 (.take 9 (.take 10 .done))))))))))) else
    bif Nat.beq id 9 then some ([0, 1, 3, 7, 0, 0, 32, 127, 255], .take 0 (.take 1 (.take 2 (.take 3 (.take 4 (.take 5 (.take 6 (.take 7 (.take 8 .done))))))))) else none

def dx_heap_Heap_take_L1_0 (e : Env) (K : ((Option Addr) × Int × Int) → Prop) : Prop :=
  onV (getV e 0) fun u1 =>
  asP u1 fun hx_1 =>
  onV (getV e 1) fun u2 =>
  asI .i64 u2 fun n_1 =>
  onV (getV e 6) fun u3 =>
  asI .i64 u3 fun atx =>
    K (hx_1, n_1, atx)

theorem body_heap_Heap_take_L1 (f : (Option Addr) × Int × Int) (s : S_heap_Heap_take_L1) (w : World) (Kn : ((Option Addr) × Int × Int) → S_heap_Heap_take_L1 → World → Prop) (Kx0 : ((Option Addr) × Int × Int) → World → Prop) :
    B_heap_Heap_take_L1 f.1 f.2.1 f.2.2 s w (fun s1 w1 => Kn f s1 w1) (fun w1 => Kx0 f w1) =
    den Tryz.prog Tryz.f86.ntmps G_heap_Heap_take (sub (codeOf Tryz.f86) [false, false, false, true, true, true]) [false, false, false, true, true, true] (roundQ (fun e w => dec_heap_Heap_take_L1 e fun f s => Kn f s w) (fun e w => False) (fun id e w => match Nat.beq id 0 with | true => dx_heap_Heap_take_L1_0 e fun f => Kx0 f w | false => False)) (lit_heap_Heap_take_L1 f s) w := by kernel_rfl

def dx_heap_Heap_take_L2_2 (e : Env) (K : ((Option Addr) × Int × Int) → Prop) : Prop :=
  onV (getV e 0) fun u1 =>
  asP u1 fun hx_2 =>
  onV (getV e 1) fun u2 =>
  asI .i64 u2 fun n_2 =>
  onV (getV e 6) fun u3 =>
  asI .i64 u3 fun atx_1 =>
    K (hx_2, n_2, atx_1)

theorem body_heap_Heap_take_L2 (f : (Option Addr) × Int × Int) (s : S_heap_Heap_take_L2) (w : World) (Kn : ((Option Addr) × Int × Int) → S_heap_Heap_take_L2 → World → Prop) (Kx2 : ((Option Addr) × Int × Int) → World → Prop) :
    B_heap_Heap_take_L2 f.1 f.2.1 f.2.2 s w (fun s1 w1 => Kn f s1 w1) (fun w1 => Kx2 f w1) =
    den Tryz.prog Tryz.f86.ntmps G_heap_Heap_take (sub (codeOf Tryz.f86) [false, false, true, false, true, true, true, true]) [false, false, true, false, true, true, true, true] (roundQ (fun e w => dec_heap_Heap_take_L2 e fun f s => Kn f s w) (fun e w => False) (fun id e w => match Nat.beq id 2 with | true => dx_heap_Heap_take_L2_2 e fun f => Kx2 f w | false => False)) (lit_heap_Heap_take_L2 f s) w := by kernel_rfl

theorem ok_heap_Heap_take_L1 : OneOk Tryz.prog Tryz.f86.ntmps G_heap_Heap_take (codeOf Tryz.f86) [false, false, true, true, true] spec_heap_Heap_take_L1 := by
  intro c hc ih Q e w a hr h
  have hcc : sub (codeOf Tryz.f86) [false, false, false, true, true, true] = c := sub_of_codeAt hc
  obtain ⟨f, s, h, hrep⟩ := dec_heap_Heap_take_L1_ok e a _ hr h
  obtain ⟨J, μ, hj, hround⟩ := h
  refine loop_rule_deep seat_ok seat_mixed ih lit_heap_Heap_take_L1 dec_heap_Heap_take_L1 dec_heap_Heap_take_L1_ok hc f J μ (Kr := fun e w => False) (Kx := fun id e w => match Nat.beq id 0 with | true => (dx_heap_Heap_take_L1_0 e fun f1 => f1 = f ∧ Q (.exit 0) [⟨0, .pointer f.1, none⟩, ⟨1, .int .i64 f.2.1, none⟩, ⟨6, .int .i64 f.2.2, none⟩] w) | false => False) ?_ ?_ ?_ s w a hj hrep
  · intro e a w hr h
    exact h.elim
  · intro id e a w hr h0
    (try dsimp only at h0)
    split at h0
    · rename_i hid
      obtain rfl := Nat.eq_of_beq_eq_true hid
      unfold dx_heap_Heap_take_L1_0 at h0
      obtain ⟨u1, g0, h1⟩ := onV_elim h0
      obtain ⟨hx_1, rfl, h2⟩ := asP_elim h1
      obtain ⟨u2, g1, h3⟩ := onV_elim h2
      obtain ⟨n_1, rfl, h4⟩ := asI_elim h3
      obtain ⟨u3, g6, h5⟩ := onV_elim h4
      obtain ⟨atx, rfl, h6⟩ := asI_elim h5
      obtain ⟨hf, hq⟩ := h6
      subst hf
      exact ⟨_, rep_less hr (by simp [g0, g1, g6]), hq⟩
    · exact h0.elim
  · intro s w hj
    have hb := hround s w hj
    rw [← hcc]
    have e1 := body_heap_Heap_take_L1 f s w (fun f1 s1 w1 => f1 = f ∧ J s1 w1 ∧ μ s1 w1 < μ s w) (fun f1 w1 => f1 = f ∧ Q (.exit 0) [⟨0, .pointer f.1, none⟩, ⟨1, .int .i64 f.2.1, none⟩, ⟨6, .int .i64 f.2.2, none⟩] w1)
    simp only [true_and] at e1
    exact cast e1 hb

theorem ok_heap_Heap_take_L2 : OneOk Tryz.prog Tryz.f86.ntmps G_heap_Heap_take (codeOf Tryz.f86) [false, true, false, true, true, true, true] spec_heap_Heap_take_L2 := by
  intro c hc ih Q e w a hr h
  have hcc : sub (codeOf Tryz.f86) [false, false, true, false, true, true, true, true] = c := sub_of_codeAt hc
  obtain ⟨f, s, h, hrep⟩ := dec_heap_Heap_take_L2_ok e a _ hr h
  obtain ⟨J, μ, hj, hround⟩ := h
  refine loop_rule_deep seat_ok seat_mixed ih lit_heap_Heap_take_L2 dec_heap_Heap_take_L2 dec_heap_Heap_take_L2_ok hc f J μ (Kr := fun e w => False) (Kx := fun id e w => match Nat.beq id 2 with | true => (dx_heap_Heap_take_L2_2 e fun f1 => f1 = f ∧ Q (.exit 2) [⟨6, .int .i64 f.2.2, none⟩] w) | false => False) ?_ ?_ ?_ s w a hj hrep
  · intro e a w hr h
    exact h.elim
  · intro id e a w hr h0
    (try dsimp only at h0)
    split at h0
    · rename_i hid
      obtain rfl := Nat.eq_of_beq_eq_true hid
      unfold dx_heap_Heap_take_L2_2 at h0
      obtain ⟨u1, g0, h1⟩ := onV_elim h0
      obtain ⟨hx_2, rfl, h2⟩ := asP_elim h1
      obtain ⟨u2, g1, h3⟩ := onV_elim h2
      obtain ⟨n_2, rfl, h4⟩ := asI_elim h3
      obtain ⟨u3, g6, h5⟩ := onV_elim h4
      obtain ⟨atx_1, rfl, h6⟩ := asI_elim h5
      obtain ⟨hf, hq⟩ := h6
      subst hf
      exact ⟨_, rep_less hr (by simp [g6]), hq⟩
    · exact h0.elim
  · intro s w hj
    have hb := hround s w hj
    rw [← hcc]
    have e1 := body_heap_Heap_take_L2 f s w (fun f1 s1 w1 => f1 = f ∧ J s1 w1 ∧ μ s1 w1 < μ s w) (fun f1 w1 => f1 = f ∧ Q (.exit 2) [⟨6, .int .i64 f.2.2, none⟩] w1)
    simp only [true_and] at e1
    exact cast e1 hb

theorem loops_heap_Heap_take : LoopOk Tryz.prog Tryz.f86.ntmps G_heap_Heap_take (codeOf Tryz.f86) := loopOk_list rfl ⟨ok_heap_Heap_take_L1, ⟨ok_heap_Heap_take_L2, trivial⟩⟩

theorem den_heap_Heap_take (hx : Option Addr) (n : Int) (w : World) (R : Value → World → Prop) :
    F_heap_Heap_take hx n w (fun r0 r1 w1 => R (.tuple #[.int .i64 r0, .int .i64 r1]) w1) = den Tryz.prog Tryz.f86.ntmps G_heap_Heap_take (codeOf Tryz.f86) [] (postD Tryz.prog Tryz.f86.results.toList R) (entry [.pointer hx, .int .i64 n] 0) w := by kernel_rfl

theorem C_heap_Heap_take.of {hx : Option Addr} {n : Int} {w : World} {R : Int → Int → World → Prop} (h : F_heap_Heap_take hx n w R) : C_heap_Heap_take hx n w R := by
  refine (calls_of_den (c := codeOf Tryz.f86) seat_ok seat_mixed Tryz.func86 (by kernel_rfl) loops_heap_Heap_take (args := [.pointer hx, .int .i64 n]) rfl (R := fun v w1 => ∃ (r0 : Int) (r1 : Int), v = (.tuple #[.int .i64 r0, .int .i64 r1] : Value) ∧ R r0 r1 w1) ?_).mono ?_
  · rw [← den_heap_Heap_take]
    have e : (fun r0 r1 w1 => ∃ (r0' : Int) (r1' : Int), (.tuple #[.int .i64 r0, .int .i64 r1] : Value) = (.tuple #[.int .i64 r0', .int .i64 r1'] : Value) ∧ R r0' r1' w1) = R := by
      funext r0 r1 w1
      exact propext ⟨fun ⟨r0', r1', he, h⟩ => by first | (simp at he; simp_all) | (cases he; exact h), fun h => ⟨_, _, rfl, h⟩⟩
    simpa only [e] using h
  · rintro en w1 ⟨v, he, r0, r1, rfl, h⟩
    exact ⟨_, _, he, h⟩

end Go.Proofs.YtdaenijbokialaaGreat
