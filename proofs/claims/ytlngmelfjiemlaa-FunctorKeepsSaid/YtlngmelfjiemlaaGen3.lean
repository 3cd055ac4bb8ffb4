/- The formulas of this seat's functions, held against the loaded program by the kernel. Printed by a program. -/
import Derived.Test.YtlngmelfjiemlaaGenC
set_option maxRecDepth 100000
set_option linter.unusedVariables false
namespace Go.Proofs.Ytlngmelfjiemlaa
open Go Go.D Go.Proofs

def F_atom_Table_Len (t : Option Addr) (w : World) (R : Int → World → Prop) : Prop :=
  C_atom_Table_ready t w fun t4 w1 =>
  If (!t4)
  (R (0 : Int) w1)
  (NN t fun a =>
  ∃ ids : Option Nat, w1.cell? (a.add 6) = some (.map ids) ∧
  MLen Try.prog #[87] 3 #[.map ids] w1 fun t10 w1_1 =>
  R t10 w1_1)

def G_atom_Table_Len : Gen where
  loop := lookL []
  plan := fun _ => none

theorem loops_atom_Table_Len : LoopOk Try.prog Try.f23.ntmps G_atom_Table_Len (codeOf Try.f23) := loopOk_none fun _ => rfl

theorem den_atom_Table_Len (t : Option Addr) (w : World) (R : Value → World → Prop) :
    F_atom_Table_Len t w (fun r w1 => R (.int .i64 r) w1) = den Try.prog Try.f23.ntmps G_atom_Table_Len (codeOf Try.f23) [] (postD Try.prog Try.f23.results.toList R) (entry [.pointer t] 0) w := by kernel_rfl

theorem C_atom_Table_Len.of {t : Option Addr} {w : World} {R : Int → World → Prop} (h : F_atom_Table_Len t w R) : C_atom_Table_Len t w R := by
  refine (calls_of_den (c := codeOf Try.f23) seat_ok seat_mixed Try.func23 (by kernel_rfl) loops_atom_Table_Len (args := [.pointer t]) rfl (R := fun v w1 => ∃ (r : Int), v = (.int .i64 r : Value) ∧ R r w1) ?_).mono ?_
  · rw [← den_atom_Table_Len]
    have e : (fun r w1 => ∃ (r' : Int), (.int .i64 r : Value) = (.int .i64 r' : Value) ∧ R r' w1) = R := by
      funext r w1
      exact propext ⟨fun ⟨r', he, h⟩ => by simp at he; simp_all, fun h => ⟨_, rfl, h⟩⟩
    simpa only [e] using h
  · rintro en w1 ⟨v, he, r, rfl, h⟩
    exact ⟨_, he, h⟩

structure S_ref04_Table_Len_L1 where
  n : Int
  i : Int

def F_ref04_Table_Len_k1 (s : S_ref04_Table_Len_L1) (Kn : S_ref04_Table_Len_L1 → World → Prop) (n_2 : Int) (w1 : World) : Prop :=
  Kn ⟨n_2, (IntKind.i64.wrap ((s.i : Int) + (1 : Int)))⟩ w1

/-- One round. -/
def B_ref04_Table_Len_L1 (t_1 : Option Addr) (s : S_ref04_Table_Len_L1) (w : World) (Kn : S_ref04_Table_Len_L1 → World → Prop) (Kx0 : Int → World → Prop) : Prop :=
  NN t_1 fun a =>
  ∃ LP : Option Addr, ∃ LN : Nat, ∃ LC : Nat, w.cell? (a.add 0) = some (.slice LP LN LC) ∧
  If (decide ((s.i : Int) < (LN : Int)))
  (NN t_1 fun a_1 =>
  ∃ LP_1 : Option Addr, ∃ LN_1 : Nat, ∃ LC_1 : Nat, w.cell? (a_1.add 0) = some (.slice LP_1 LN_1 LC_1) ∧
  0 ≤ (s.i : Int) ∧ (s.i : Int) < (LN_1 : Int) ∧ NN LP_1 fun a_2 =>
  ∃ Is : Bool, w.cell? ((a_2.add ((s.i : Int).toNat * 3)).add 1) = some (.bool Is) ∧
  If Is
  (F_ref04_Table_Len_k1 s Kn (IntKind.i64.wrap ((s.n : Int) + (1 : Int))) w)
  (F_ref04_Table_Len_k1 s Kn (s.n : Int) w))
  (Kx0 (s.n : Int) w)

def F_ref04_Table_Len_L1 (t_1 : Option Addr) (s : S_ref04_Table_Len_L1) (w : World) (Kx0 : Int → World → Prop) : Prop :=
  LoopS (fun s w Kn => B_ref04_Table_Len_L1 t_1 s w Kn Kx0) s w

def F_ref04_Table_Len (t : Option Addr) (w : World) (R : Int → World → Prop) : Prop :=
  F_ref04_Table_Len_L1 t ⟨(0 : Int), (0 : Int)⟩ w
  (fun n_3 w1_1 =>
  R n_3 w1_1)

def lit_ref04_Table_Len_L1 (f : (Option Addr)) (s : S_ref04_Table_Len_L1) : Env := [⟨0, .pointer f, none⟩, ⟨3, .int .i64 s.n, none⟩, ⟨4, .int .i64 s.i, none⟩]

def dec_ref04_Table_Len_L1 (e : Env) (K : (Option Addr) → S_ref04_Table_Len_L1 → Prop) : Prop :=
  onV (getV e 0) fun u1 =>
  asP u1 fun t_1 =>
  onV (getV e 3) fun u2 =>
  asI .i64 u2 fun n =>
  onV (getV e 4) fun u3 =>
  asI .i64 u3 fun i =>
    K (t_1) ⟨n, i⟩

theorem dec_ref04_Table_Len_L1_ok {N : Nat} (e : Env) (a : Act) (K : (Option Addr) → S_ref04_Table_Len_L1 → Prop) (hr : Rep N a e) (h0 : dec_ref04_Table_Len_L1 e K) : ∃ f s, K f s ∧ Rep N a (lit_ref04_Table_Len_L1 f s) := by
  unfold dec_ref04_Table_Len_L1 at h0
  obtain ⟨u1, g0, h1⟩ := onV_elim h0
  obtain ⟨t_1, rfl, h2⟩ := asP_elim h1
  obtain ⟨u2, g3, h3⟩ := onV_elim h2
  obtain ⟨n, rfl, h4⟩ := asI_elim h3
  obtain ⟨u3, g4, h5⟩ := onV_elim h4
  obtain ⟨i, rfl, h6⟩ := asI_elim h5
  exact ⟨_, _, h6, rep_less hr (by simp [lit_ref04_Table_Len_L1, g0, g3, g4])⟩

def spec_ref04_Table_Len_L1 (Q : Post) (e : Env) (w : World) : Prop :=
  dec_ref04_Table_Len_L1 e fun f s => F_ref04_Table_Len_L1 f s w (fun n_1 w1 => Q (.exit 0) [⟨3, .int .i64 n_1, none⟩] w1)

def G_ref04_Table_Len : Gen where
  loop := lookL [([false, true, false, true, true], spec_ref04_Table_Len_L1)]
  plan := fun _ => none

def dx_ref04_Table_Len_L1_0 (e : Env) (K : (Option Addr) → Int → Prop) : Prop :=
  onV (getV e 0) fun u1 =>
  asP u1 fun t_1 =>
  onV (getV e 3) fun u2 =>
  asI .i64 u2 fun n_1 =>
    K (t_1) n_1

theorem body_ref04_Table_Len_L1 (f : (Option Addr)) (s : S_ref04_Table_Len_L1) (w : World) (Kn : (Option Addr) → S_ref04_Table_Len_L1 → World → Prop) (Kx0 : (Option Addr) → Int → World → Prop) :
    B_ref04_Table_Len_L1 f s w (fun s1 w1 => Kn f s1 w1) (fun n_1 w1 => Kx0 f n_1 w1) =
    den Try.prog Try.f24.ntmps G_ref04_Table_Len (sub (codeOf Try.f24) [false, false, true, false, true, true]) [false, false, true, false, true, true] (roundQ (fun e w => dec_ref04_Table_Len_L1 e fun f s => Kn f s w) (fun e w => False) (fun id e w => match Nat.beq id 0 with | true => dx_ref04_Table_Len_L1_0 e fun f n_1 => Kx0 f n_1 w | false => False)) (lit_ref04_Table_Len_L1 f s) w := by kernel_rfl

theorem ok_ref04_Table_Len_L1 : OneOk Try.prog Try.f24.ntmps G_ref04_Table_Len (codeOf Try.f24) [false, true, false, true, true] spec_ref04_Table_Len_L1 := by
  intro c hc ih Q e w a hr h
  have hcc : sub (codeOf Try.f24) [false, false, true, false, true, true] = c := sub_of_codeAt hc
  obtain ⟨f, s, h, hrep⟩ := dec_ref04_Table_Len_L1_ok e a _ hr h
  obtain ⟨J, μ, hj, hround⟩ := h
  refine loop_rule_deep seat_ok seat_mixed ih lit_ref04_Table_Len_L1 dec_ref04_Table_Len_L1 dec_ref04_Table_Len_L1_ok hc f J μ (Kr := fun e w => False) (Kx := fun id e w => match Nat.beq id 0 with | true => (dx_ref04_Table_Len_L1_0 e fun f1 n_1 => f1 = f ∧ Q (.exit 0) [⟨3, .int .i64 n_1, none⟩] w) | false => False) ?_ ?_ ?_ s w a hj hrep
  · intro e a w hr h
    exact h.elim
  · intro id e a w hr h0
    (try dsimp only at h0)
    split at h0
    · rename_i hid
      obtain rfl := Nat.eq_of_beq_eq_true hid
      unfold dx_ref04_Table_Len_L1_0 at h0
      obtain ⟨u1, g0, h1⟩ := onV_elim h0
      obtain ⟨t_1, rfl, h2⟩ := asP_elim h1
      obtain ⟨u2, g3, h3⟩ := onV_elim h2
      obtain ⟨n_1, rfl, h4⟩ := asI_elim h3
      obtain ⟨hf, hq⟩ := h4
      subst hf
      exact ⟨_, rep_less hr (by simp [g3]), hq⟩
    · exact h0.elim
  · intro s w hj
    have hb := hround s w hj
    rw [← hcc]
    have e1 := body_ref04_Table_Len_L1 f s w (fun f1 s1 w1 => f1 = f ∧ J s1 w1 ∧ μ s1 w1 < μ s w) (fun f1 n_1 w1 => f1 = f ∧ Q (.exit 0) [⟨3, .int .i64 n_1, none⟩] w1)
    simp only [true_and] at e1
    exact cast e1 hb

theorem loops_ref04_Table_Len : LoopOk Try.prog Try.f24.ntmps G_ref04_Table_Len (codeOf Try.f24) := loopOk_list rfl ⟨ok_ref04_Table_Len_L1, trivial⟩

theorem den_ref04_Table_Len (t : Option Addr) (w : World) (R : Value → World → Prop) :
    F_ref04_Table_Len t w (fun r w1 => R (.int .i64 r) w1) = den Try.prog Try.f24.ntmps G_ref04_Table_Len (codeOf Try.f24) [] (postD Try.prog Try.f24.results.toList R) (entry [.pointer t] 0) w := by kernel_rfl

theorem C_ref04_Table_Len.of {t : Option Addr} {w : World} {R : Int → World → Prop} (h : F_ref04_Table_Len t w R) : C_ref04_Table_Len t w R := by
  refine (calls_of_den (c := codeOf Try.f24) seat_ok seat_mixed Try.func24 (by kernel_rfl) loops_ref04_Table_Len (args := [.pointer t]) rfl (R := fun v w1 => ∃ (r : Int), v = (.int .i64 r : Value) ∧ R r w1) ?_).mono ?_
  · rw [← den_ref04_Table_Len]
    have e : (fun r w1 => ∃ (r' : Int), (.int .i64 r : Value) = (.int .i64 r' : Value) ∧ R r' w1) = R := by
      funext r w1
      exact propext ⟨fun ⟨r', he, h⟩ => by simp at he; simp_all, fun h => ⟨_, rfl, h⟩⟩
    simpa only [e] using h
  · rintro en w1 ⟨v, he, r, rfl, h⟩
    exact ⟨_, he, h⟩

def F_functor_Table_made (t : Option Addr) (w : World) (R : Bool → World → Prop) : Prop :=
  If (!t.isNone)
  (NN t fun a =>
  ∃ ids : Option Nat, w.cell? (a.add 3) = some (.map ids) ∧
  R (!ids.isNone) w)
  (R false w)

def G_functor_Table_made : Gen where
  loop := lookL []
  plan := fun _ => none

theorem loops_functor_Table_made : LoopOk Try.prog Try.f25.ntmps G_functor_Table_made (codeOf Try.f25) := loopOk_none fun _ => rfl

theorem den_functor_Table_made (t : Option Addr) (w : World) (R : Value → World → Prop) :
    F_functor_Table_made t w (fun r w1 => R (.bool r) w1) = den Try.prog Try.f25.ntmps G_functor_Table_made (codeOf Try.f25) [] (postD Try.prog Try.f25.results.toList R) (entry [.pointer t] 0) w := by kernel_rfl

theorem C_functor_Table_made.of {t : Option Addr} {w : World} {R : Bool → World → Prop} (h : F_functor_Table_made t w R) : C_functor_Table_made t w R := by
  refine (calls_of_den (c := codeOf Try.f25) seat_ok seat_mixed Try.func25 (by kernel_rfl) loops_functor_Table_made (args := [.pointer t]) rfl (R := fun v w1 => ∃ (r : Bool), v = (.bool r : Value) ∧ R r w1) ?_).mono ?_
  · rw [← den_functor_Table_made]
    have e : (fun r w1 => ∃ (r' : Bool), (.bool r : Value) = (.bool r' : Value) ∧ R r' w1) = R := by
      funext r w1
      exact propext ⟨fun ⟨r', he, h⟩ => by simp at he; simp_all, fun h => ⟨_, rfl, h⟩⟩
    simpa only [e] using h
  · rintro en w1 ⟨v, he, r, rfl, h⟩
    exact ⟨_, he, h⟩

def F_atom_Table_Intern_k1 (t : Option Addr) (namex : ByteArray) (R : Int → Int → World → Prop) (idx : Int) (w1_9 : World) : Prop :=
  NN t fun a_12 =>
  ∃ ids_1 : Option Nat, w1_9.cell? (a_12.add 6) = some (.map ids_1) ∧
  MUp Try.prog 87 (.map ids_1) (.string namex) (.int .i64 idx) w1_9 fun w1_10 =>
  NN t fun a_13 =>
  C_sync_atomic_Int64_Add (some (a_13.add 3)) (1 : Int) w1_10 fun t87 w1_11 =>
  R idx (0 : Int) w1_11

def F_atom_Table_Intern (t : Option Addr) (namex : ByteArray) (w : World) (R : Int → Int → World → Prop) : Prop :=
  C_atom_Table_ready t w fun t10 w1 =>
  If (!t10)
  (R (0 : Int) (6 : Int) w1)
  (If (decide ((namex.size : Int) > (64 : Int)))
  (R (0 : Int) (3 : Int) w1)
  (NN t fun a =>
  ∃ ids : Option Nat, w1.cell? (a.add 6) = some (.map ids) ∧
  Run Try.prog (Instr.lookup 87 (.map ids) (.string namex) true) w1 fun v w1_1 => ∃ t210 : Int, ∃ t211 : Bool, v = (.tuple #[.int .i64 t210, .bool t211]) ∧
  If t211
  (R t210 (0 : Int) w1_1)
  (NN t fun a_1 =>
  ∃ lP : Option Addr, ∃ lN : Nat, ∃ lC : Nat, w1_1.cell? (a_1.add 5) = some (.slice lP lN lC) ∧
  NN t fun a_2 =>
  ∃ freeP : Option Addr, ∃ freeN : Nat, ∃ freeC : Nat, w1_1.cell? (a_2.add 7) = some (.slice freeP freeN freeC) ∧
  If (decide ((freeN : Int) > (0 : Int)))
  (NN t fun a_3 =>
  ∃ freeP_1 : Option Addr, ∃ freeN_1 : Nat, ∃ freeC_1 : Nat, w1_1.cell? (a_3.add 7) = some (.slice freeP_1 freeN_1 freeC_1) ∧
  0 ≤ (0 : Int) ∧ (0 : Int) < (freeN_1 : Int) ∧ NN freeP_1 fun a_4 =>
  ∃ t54 : Int, w1_1.cell? (a_4.add ((0 : Int).toNat * 1)) = some (.int .i64 t54) ∧
  NN t fun a_5 =>
  ∃ freeP_2 : Option Addr, ∃ freeN_2 : Nat, ∃ freeC_2 : Nat, w1_1.cell? (a_5.add 7) = some (.slice freeP_2 freeN_2 freeC_2) ∧
  0 ≤ (1 : Int) ∧ (1 : Int) ≤ (freeN_2 : Int) ∧
  NN t fun a_6 =>
  St w1_1 ((a_6.add 7).add 0) (.slice (adv freeP_2 freeC_2 (1 : Int).toNat 1) (freeN_2 - (1 : Int).toNat) (freeC_2 - (1 : Int).toNat)) fun w1_2 =>
  NN t fun a_7 =>
  ∃ lP_1 : Option Addr, ∃ lN_1 : Nat, ∃ lC_1 : Nat, w1_2.cell? (a_7.add 5) = some (.slice lP_1 lN_1 lC_1) ∧
  0 ≤ t54 ∧ t54 < (lN_1 : Int) ∧ NN lP_1 fun a_8 =>
  St w1_2 ((a_8.add (t54.toNat * 3)).add 0) (.string namex) fun w1_3 =>
  St w1_3 ((a_8.add (t54.toNat * 3)).add 1) (.bool true) fun w1_4 =>
  St w1_4 ((a_8.add (t54.toNat * 3)).add 2) (.bool false) fun w1_5 =>
  F_atom_Table_Intern_k1 t namex R t54 w1_5)
  (NN t fun a_9 =>
  ∃ limitx : Int, w1_1.cell? (a_9.add 4) = some (.int .i64 limitx) ∧
  If (decide ((lN : Int) ≥ limitx))
  (R (0 : Int) (2 : Int) w1_1)
  (NN t fun a_10 =>
  ∃ lP_2 : Option Addr, ∃ lN_2 : Nat, ∃ lC_2 : Nat, w1_1.cell? (a_10.add 5) = some (.slice lP_2 lN_2 lC_2) ∧
  BSl Try.prog 86 1 [(0, .agg #[.string namex, .bool true, .bool false])] w1_1 fun t38P t38N t38C w1_6 =>
  App Try.prog #[86, 86] 86 #[.slice lP_2 lN_2 lC_2, .slice t38P t38N t38C] w1_6 fun t39P t39N t39C w1_7 =>
  NN t fun a_11 =>
  St w1_7 ((a_11.add 5).add 0) (.slice t39P t39N t39C) fun w1_8 =>
  F_atom_Table_Intern_k1 t namex R (lN : Int) w1_8)))))

def G_atom_Table_Intern : Gen where
  loop := lookL []
  plan := fun _ => none

theorem loops_atom_Table_Intern : LoopOk Try.prog Try.f26.ntmps G_atom_Table_Intern (codeOf Try.f26) := loopOk_none fun _ => rfl

theorem den_atom_Table_Intern (t : Option Addr) (namex : ByteArray) (w : World) (R : Value → World → Prop) :
    F_atom_Table_Intern t namex w (fun r0 r1 w1 => R (.tuple #[.int .i64 r0, .int .i64 r1]) w1) = den Try.prog Try.f26.ntmps G_atom_Table_Intern (codeOf Try.f26) [] (postD Try.prog Try.f26.results.toList R) (entry [.pointer t, .string namex] 0) w := by kernel_rfl

theorem C_atom_Table_Intern.of {t : Option Addr} {namex : ByteArray} {w : World} {R : Int → Int → World → Prop} (h : F_atom_Table_Intern t namex w R) : C_atom_Table_Intern t namex w R := by
  refine (calls_of_den (c := codeOf Try.f26) seat_ok seat_mixed Try.func26 (by kernel_rfl) loops_atom_Table_Intern (args := [.pointer t, .string namex]) rfl (R := fun v w1 => ∃ (r0 : Int) (r1 : Int), v = (.tuple #[.int .i64 r0, .int .i64 r1] : Value) ∧ R r0 r1 w1) ?_).mono ?_
  · rw [← den_atom_Table_Intern]
    have e : (fun r0 r1 w1 => ∃ (r0' : Int) (r1' : Int), (.tuple #[.int .i64 r0, .int .i64 r1] : Value) = (.tuple #[.int .i64 r0', .int .i64 r1'] : Value) ∧ R r0' r1' w1) = R := by
      funext r0 r1 w1
      exact propext ⟨fun ⟨r0', r1', he, h⟩ => by simp at he; simp_all, fun h => ⟨_, _, rfl, h⟩⟩
    simpa only [e] using h
  · rintro en w1 ⟨v, he, r0, r1, rfl, h⟩
    exact ⟨_, _, he, h⟩

def F_functor_Table_add_k1 (t : Option Addr) (R : Int → Int → World → Prop) (r : Nat) (idx : Int) (w1_9 : World) : Prop :=
  NN t fun a_11 =>
  ∃ ids : Option Nat, (drw w1_9).cell? (a_11.add 3) = some (.map ids) ∧
  ∃ t630 : Int, (drw w1_9).cell? ((⟨r, 0, none⟩ : Addr).add 0) = some (.int .i64 t630) ∧
  ∃ t631 : Int, (drw w1_9).cell? ((⟨r, 0, none⟩ : Addr).add 1) = some (.int .i64 t631) ∧
  MUp Try.prog 55 (.map ids) (.agg #[.int .i64 t630, .int .i64 t631]) (.int .i64 idx) (drw w1_9) fun w1_10 =>
  R idx (0 : Int) w1_10

def F_functor_Table_add (t : Option Addr) (f0 : Int) (f1 : Int) (w : World) (R : Int → Int → World → Prop) : Prop :=
  New w (.cells #[.int .i64 f0, .int .i64 f1] 60) fun r w1 =>
  NN t fun a =>
  ∃ lP : Option Addr, ∃ lN : Nat, ∃ lC : Nat, w1.cell? (a.add 2) = some (.slice lP lN lC) ∧
  NN t fun a_1 =>
  ∃ freeP : Option Addr, ∃ freeN : Nat, ∃ freeC : Nat, w1.cell? (a_1.add 4) = some (.slice freeP freeN freeC) ∧
  If (decide ((freeN : Int) > (0 : Int)))
  (NN t fun a_2 =>
  ∃ freeP_1 : Option Addr, ∃ freeN_1 : Nat, ∃ freeC_1 : Nat, w1.cell? (a_2.add 4) = some (.slice freeP_1 freeN_1 freeC_1) ∧
  0 ≤ (0 : Int) ∧ (0 : Int) < (freeN_1 : Int) ∧ NN freeP_1 fun a_3 =>
  ∃ t35 : Int, w1.cell? (a_3.add ((0 : Int).toNat * 1)) = some (.int .i64 t35) ∧
  NN t fun a_4 =>
  ∃ freeP_2 : Option Addr, ∃ freeN_2 : Nat, ∃ freeC_2 : Nat, w1.cell? (a_4.add 4) = some (.slice freeP_2 freeN_2 freeC_2) ∧
  0 ≤ (1 : Int) ∧ (1 : Int) ≤ (freeN_2 : Int) ∧
  NN t fun a_5 =>
  St w1 ((a_5.add 4).add 0) (.slice (adv freeP_2 freeC_2 (1 : Int).toNat 1) (freeN_2 - (1 : Int).toNat) (freeC_2 - (1 : Int).toNat)) fun w1_1 =>
  NN t fun a_6 =>
  ∃ lP_1 : Option Addr, ∃ lN_1 : Nat, ∃ lC_1 : Nat, (drw w1_1).cell? (a_6.add 2) = some (.slice lP_1 lN_1 lC_1) ∧
  ∃ t490 : Int, (drw w1_1).cell? ((⟨r, 0, none⟩ : Addr).add 0) = some (.int .i64 t490) ∧
  ∃ t491 : Int, (drw w1_1).cell? ((⟨r, 0, none⟩ : Addr).add 1) = some (.int .i64 t491) ∧
  0 ≤ t35 ∧ t35 < (lN_1 : Int) ∧ NN lP_1 fun a_7 =>
  St (drw w1_1) ((a_7.add (t35.toNat * 4)).add 0) (.int .i64 t490) fun w1_2 =>
  St w1_2 ((a_7.add (t35.toNat * 4)).add 1) (.int .i64 t491) fun w1_3 =>
  St w1_3 ((a_7.add (t35.toNat * 4)).add 2) (.bool true) fun w1_4 =>
  St w1_4 ((a_7.add (t35.toNat * 4)).add 3) (.bool false) fun w1_5 =>
  F_functor_Table_add_k1 t R r t35 w1_5)
  (NN t fun a_8 =>
  ∃ limitx : Int, w1.cell? (a_8.add 1) = some (.int .i64 limitx) ∧
  If (decide ((lN : Int) ≥ limitx))
  (R (0 : Int) (2 : Int) w1)
  (NN t fun a_9 =>
  ∃ lP_2 : Option Addr, ∃ lN_2 : Nat, ∃ lC_2 : Nat, (drw w1).cell? (a_9.add 2) = some (.slice lP_2 lN_2 lC_2) ∧
  ∃ t170 : Int, (drw w1).cell? ((⟨r, 0, none⟩ : Addr).add 0) = some (.int .i64 t170) ∧
  ∃ t171 : Int, (drw w1).cell? ((⟨r, 0, none⟩ : Addr).add 1) = some (.int .i64 t171) ∧
  BSl Try.prog 54 1 [(0, .agg #[.int .i64 t170, .int .i64 t171, .bool true, .bool false])] (drw w1) fun t19P t19N t19C w1_6 =>
  w1_6.cell? (a_9.add 2) = (drw w1).cell? (a_9.add 2) ∧
  App Try.prog #[54, 54] 54 #[.slice lP_2 lN_2 lC_2, .slice t19P t19N t19C] w1_6 fun t20P t20N t20C w1_7 =>
  NN t fun a_10 =>
  St w1_7 ((a_10.add 2).add 0) (.slice t20P t20N t20C) fun w1_8 =>
  F_functor_Table_add_k1 t R r (lN : Int) w1_8))

def G_functor_Table_add : Gen where
  loop := lookL []
  plan := fun id =>
    bif Nat.beq id 6 then some ([0, 1, 3, 7, 0, 0, 32, 127, 255], .take 0 (.take 1 (.take 2 (.take 3 (.take 4 (.take 5 (.take 6 (.take 7 (.take 8 .done))))))))) else
    bif Nat.beq id 2 then some ([0, 0, 2, 6, 14, 0, 32, 96, 254, 511, 1023, 2047], .take 0 (.take 1 (.take 2 (.take 3 (.take 4 (.take 5 (.take 6 (.take 7 (.take 8 (.take 9 (.take 10 (.take 11 .done)))))))))))) else
    bif Nat.beq id 9 then some ([0, 1, 3, 7, 0, 0, 63], .take 0 (.take 1 (.take 2 (.take 3 (.take 4 (.take 5 (.take 6 .done))))))) else none

theorem loops_functor_Table_add : LoopOk Try.prog Try.f27.ntmps G_functor_Table_add (codeOf Try.f27) := loopOk_none fun _ => rfl

theorem den_functor_Table_add (t : Option Addr) (f0 : Int) (f1 : Int) (w : World) (R : Value → World → Prop) :
    F_functor_Table_add t f0 f1 w (fun r0 r1 w1 => R (.tuple #[.int .i64 r0, .int .i64 r1]) w1) = den Try.prog Try.f27.ntmps G_functor_Table_add (codeOf Try.f27) [] (postD Try.prog Try.f27.results.toList R) (entry [.pointer t, .agg #[.int .i64 f0, .int .i64 f1]] 0) w := by kernel_rfl

theorem C_functor_Table_add.of {t : Option Addr} {f0 : Int} {f1 : Int} {w : World} {R : Int → Int → World → Prop} (h : F_functor_Table_add t f0 f1 w R) : C_functor_Table_add t f0 f1 w R := by
  refine (calls_of_den (c := codeOf Try.f27) seat_ok seat_mixed Try.func27 (by kernel_rfl) loops_functor_Table_add (args := [.pointer t, .agg #[.int .i64 f0, .int .i64 f1]]) rfl (R := fun v w1 => ∃ (r0 : Int) (r1 : Int), v = (.tuple #[.int .i64 r0, .int .i64 r1] : Value) ∧ R r0 r1 w1) ?_).mono ?_
  · rw [← den_functor_Table_add]
    have e : (fun r0 r1 w1 => ∃ (r0' : Int) (r1' : Int), (.tuple #[.int .i64 r0, .int .i64 r1] : Value) = (.tuple #[.int .i64 r0', .int .i64 r1'] : Value) ∧ R r0' r1' w1) = R := by
      funext r0 r1 w1
      exact propext ⟨fun ⟨r0', r1', he, h⟩ => by simp at he; simp_all, fun h => ⟨_, _, rfl, h⟩⟩
    simpa only [e] using h
  · rintro en w1 ⟨v, he, r0, r1, rfl, h⟩
    exact ⟨_, _, he, h⟩

def F_atom_Table_Find (t : Option Addr) (namex : ByteArray) (w : World) (R : Int → Bool → World → Prop) : Prop :=
  C_atom_Table_ready t w fun t9 w1 =>
  If (!t9)
  (R (0 : Int) false w1)
  (NN t fun a =>
  ∃ ids : Option Nat, w1.cell? (a.add 6) = some (.map ids) ∧
  Run Try.prog (Instr.lookup 87 (.map ids) (.string namex) true) w1 fun v w1_1 => ∃ t170 : Int, ∃ t171 : Bool, v = (.tuple #[.int .i64 t170, .bool t171]) ∧
  R t170 t171 w1_1)

def G_atom_Table_Find : Gen where
  loop := lookL []
  plan := fun _ => none

theorem loops_atom_Table_Find : LoopOk Try.prog Try.f28.ntmps G_atom_Table_Find (codeOf Try.f28) := loopOk_none fun _ => rfl

theorem den_atom_Table_Find (t : Option Addr) (namex : ByteArray) (w : World) (R : Value → World → Prop) :
    F_atom_Table_Find t namex w (fun r0 r1 w1 => R (.tuple #[.int .i64 r0, .bool r1]) w1) = den Try.prog Try.f28.ntmps G_atom_Table_Find (codeOf Try.f28) [] (postD Try.prog Try.f28.results.toList R) (entry [.pointer t, .string namex] 0) w := by kernel_rfl

theorem C_atom_Table_Find.of {t : Option Addr} {namex : ByteArray} {w : World} {R : Int → Bool → World → Prop} (h : F_atom_Table_Find t namex w R) : C_atom_Table_Find t namex w R := by
  refine (calls_of_den (c := codeOf Try.f28) seat_ok seat_mixed Try.func28 (by kernel_rfl) loops_atom_Table_Find (args := [.pointer t, .string namex]) rfl (R := fun v w1 => ∃ (r0 : Int) (r1 : Bool), v = (.tuple #[.int .i64 r0, .bool r1] : Value) ∧ R r0 r1 w1) ?_).mono ?_
  · rw [← den_atom_Table_Find]
    have e : (fun r0 r1 w1 => ∃ (r0' : Int) (r1' : Bool), (.tuple #[.int .i64 r0, .bool r1] : Value) = (.tuple #[.int .i64 r0', .bool r1'] : Value) ∧ R r0' r1' w1) = R := by
      funext r0 r1 w1
      exact propext ⟨fun ⟨r0', r1', he, h⟩ => by simp at he; simp_all, fun h => ⟨_, _, rfl, h⟩⟩
    simpa only [e] using h
  · rintro en w1 ⟨v, he, r0, r1, rfl, h⟩
    exact ⟨_, _, he, h⟩

def F_functor_Table_may_k1 (R : Int → World → Prop) (w1_1 : World) : Prop :=
  R (4 : Int) w1_1

def F_functor_Table_may (t : Option Addr) (idx : Int) (w : World) (R : Int → World → Prop) : Prop :=
  C_functor_Table_made t w fun t7 w1 =>
  If (!t7)
  (R (6 : Int) w1)
  (If (decide (idx < (0 : Int)))
  (F_functor_Table_may_k1 R w1)
  (NN t fun a =>
  ∃ lP : Option Addr, ∃ lN : Nat, ∃ lC : Nat, w1.cell? (a.add 2) = some (.slice lP lN lC) ∧
  If (decide (idx ≥ (lN : Int)))
  (F_functor_Table_may_k1 R w1)
  (NN t fun a_1 =>
  ∃ lP_1 : Option Addr, ∃ lN_1 : Nat, ∃ lC_1 : Nat, w1.cell? (a_1.add 2) = some (.slice lP_1 lN_1 lC_1) ∧
  0 ≤ idx ∧ idx < (lN_1 : Int) ∧ NN lP_1 fun a_2 =>
  ∃ isx : Bool, w1.cell? ((a_2.add (idx.toNat * 4)).add 2) = some (.bool isx) ∧
  If (!isx)
  (R (4 : Int) w1)
  (R (0 : Int) w1))))

def G_functor_Table_may : Gen where
  loop := lookL []
  plan := fun _ => none

theorem loops_functor_Table_may : LoopOk Try.prog Try.f29.ntmps G_functor_Table_may (codeOf Try.f29) := loopOk_none fun _ => rfl

theorem den_functor_Table_may (t : Option Addr) (idx : Int) (w : World) (R : Value → World → Prop) :
    F_functor_Table_may t idx w (fun r w1 => R (.int .i64 r) w1) = den Try.prog Try.f29.ntmps G_functor_Table_may (codeOf Try.f29) [] (postD Try.prog Try.f29.results.toList R) (entry [.pointer t, .int .i64 idx] 0) w := by kernel_rfl

theorem C_functor_Table_may.of {t : Option Addr} {idx : Int} {w : World} {R : Int → World → Prop} (h : F_functor_Table_may t idx w R) : C_functor_Table_may t idx w R := by
  refine (calls_of_den (c := codeOf Try.f29) seat_ok seat_mixed Try.func29 (by kernel_rfl) loops_functor_Table_may (args := [.pointer t, .int .i64 idx]) rfl (R := fun v w1 => ∃ (r : Int), v = (.int .i64 r : Value) ∧ R r w1) ?_).mono ?_
  · rw [← den_functor_Table_may]
    have e : (fun r w1 => ∃ (r' : Int), (.int .i64 r : Value) = (.int .i64 r' : Value) ∧ R r' w1) = R := by
      funext r w1
      exact propext ⟨fun ⟨r', he, h⟩ => by simp at he; simp_all, fun h => ⟨_, rfl, h⟩⟩
    simpa only [e] using h
  · rintro en w1 ⟨v, he, r, rfl, h⟩
    exact ⟨_, he, h⟩

def F_atom_Table_Name (t : Option Addr) (idx : Int) (w : World) (R : ByteArray → Int → World → Prop) : Prop :=
  C_atom_Table_may t idx w fun t9 w1 =>
  If (t9 != (0 : Int))
  (R ⟨#[]⟩ t9 w1)
  (NN t fun a =>
  ∃ lP : Option Addr, ∃ lN : Nat, ∃ lC : Nat, w1.cell? (a.add 5) = some (.slice lP lN lC) ∧
  0 ≤ idx ∧ idx < (lN : Int) ∧ NN lP fun a_1 =>
  ∃ namex : ByteArray, w1.cell? ((a_1.add (idx.toNat * 3)).add 0) = some (.string namex) ∧
  R namex (0 : Int) w1)

def G_atom_Table_Name : Gen where
  loop := lookL []
  plan := fun _ => none

theorem loops_atom_Table_Name : LoopOk Try.prog Try.f30.ntmps G_atom_Table_Name (codeOf Try.f30) := loopOk_none fun _ => rfl

theorem den_atom_Table_Name (t : Option Addr) (idx : Int) (w : World) (R : Value → World → Prop) :
    F_atom_Table_Name t idx w (fun r0 r1 w1 => R (.tuple #[.string r0, .int .i64 r1]) w1) = den Try.prog Try.f30.ntmps G_atom_Table_Name (codeOf Try.f30) [] (postD Try.prog Try.f30.results.toList R) (entry [.pointer t, .int .i64 idx] 0) w := by kernel_rfl

theorem C_atom_Table_Name.of {t : Option Addr} {idx : Int} {w : World} {R : ByteArray → Int → World → Prop} (h : F_atom_Table_Name t idx w R) : C_atom_Table_Name t idx w R := by
  refine (calls_of_den (c := codeOf Try.f30) seat_ok seat_mixed Try.func30 (by kernel_rfl) loops_atom_Table_Name (args := [.pointer t, .int .i64 idx]) rfl (R := fun v w1 => ∃ (r0 : ByteArray) (r1 : Int), v = (.tuple #[.string r0, .int .i64 r1] : Value) ∧ R r0 r1 w1) ?_).mono ?_
  · rw [← den_atom_Table_Name]
    have e : (fun r0 r1 w1 => ∃ (r0' : ByteArray) (r1' : Int), (.tuple #[.string r0, .int .i64 r1] : Value) = (.tuple #[.string r0', .int .i64 r1'] : Value) ∧ R r0' r1' w1) = R := by
      funext r0 r1 w1
      exact propext ⟨fun ⟨r0', r1', he, h⟩ => by simp at he; simp_all, fun h => ⟨_, _, rfl, h⟩⟩
    simpa only [e] using h
  · rintro en w1 ⟨v, he, r0, r1, rfl, h⟩
    exact ⟨_, _, he, h⟩

def F_slices_Sort (xP : Option Addr) (xN : Nat) (xC : Nat) (w : World) (R : World → Prop) : Prop :=
  C_math_bits_Len (IntKind.u64.wrap (xN : Int)) w fun t9 w1 =>
  C_slices_pdqsortOrdered xP xN xC (0 : Int) (xN : Int) t9 w1 fun w1_1 =>
  R w1_1

def G_slices_Sort : Gen where
  loop := lookL []
  plan := fun _ => none

theorem loops_slices_Sort : LoopOk Try.prog Try.f31.ntmps G_slices_Sort (codeOf Try.f31) := loopOk_none fun _ => rfl

theorem den_slices_Sort (xP : Option Addr) (xN : Nat) (xC : Nat) (w : World) (R : Value → World → Prop) :
    F_slices_Sort xP xN xC w (fun w1 => R (.tuple #[]) w1) = den Try.prog Try.f31.ntmps G_slices_Sort (codeOf Try.f31) [] (postD Try.prog Try.f31.results.toList R) (entry [.slice xP xN xC] 0) w := by kernel_rfl

theorem C_slices_Sort.of {xP : Option Addr} {xN : Nat} {xC : Nat} {w : World} {R : World → Prop} (h : F_slices_Sort xP xN xC w R) : C_slices_Sort xP xN xC w R := by
  refine (calls_of_den (c := codeOf Try.f31) seat_ok seat_mixed Try.func31 (by kernel_rfl) loops_slices_Sort (args := [.slice xP xN xC]) rfl (R := fun v w1 => v = (.tuple #[] : Value) ∧ R w1) ?_).mono ?_
  · rw [← den_slices_Sort]
    simpa using h
  · rintro en w1 ⟨v, he, rfl, h⟩
    exact ⟨he, h⟩

def F_atom_Table_Mark (t : Option Addr) (idx : Int) (w : World) (R : Int → World → Prop) : Prop :=
  C_atom_Table_may t idx w fun t8 w1 =>
  If (t8 != (0 : Int))
  (R t8 w1)
  (NN t fun a =>
  ∃ lP : Option Addr, ∃ lN : Nat, ∃ lC : Nat, w1.cell? (a.add 5) = some (.slice lP lN lC) ∧
  0 ≤ idx ∧ idx < (lN : Int) ∧ NN lP fun a_1 =>
  St w1 (((a_1.add (idx.toNat * 3)).add 2).add 0) (.bool true) fun w1_1 =>
  R (0 : Int) w1_1)

def G_atom_Table_Mark : Gen where
  loop := lookL []
  plan := fun _ => none

theorem loops_atom_Table_Mark : LoopOk Try.prog Try.f32.ntmps G_atom_Table_Mark (codeOf Try.f32) := loopOk_none fun _ => rfl

theorem den_atom_Table_Mark (t : Option Addr) (idx : Int) (w : World) (R : Value → World → Prop) :
    F_atom_Table_Mark t idx w (fun r w1 => R (.int .i64 r) w1) = den Try.prog Try.f32.ntmps G_atom_Table_Mark (codeOf Try.f32) [] (postD Try.prog Try.f32.results.toList R) (entry [.pointer t, .int .i64 idx] 0) w := by kernel_rfl

theorem C_atom_Table_Mark.of {t : Option Addr} {idx : Int} {w : World} {R : Int → World → Prop} (h : F_atom_Table_Mark t idx w R) : C_atom_Table_Mark t idx w R := by
  refine (calls_of_den (c := codeOf Try.f32) seat_ok seat_mixed Try.func32 (by kernel_rfl) loops_atom_Table_Mark (args := [.pointer t, .int .i64 idx]) rfl (R := fun v w1 => ∃ (r : Int), v = (.int .i64 r : Value) ∧ R r w1) ?_).mono ?_
  · rw [← den_atom_Table_Mark]
    have e : (fun r w1 => ∃ (r' : Int), (.int .i64 r : Value) = (.int .i64 r' : Value) ∧ R r' w1) = R := by
      funext r w1
      exact propext ⟨fun ⟨r', he, h⟩ => by simp at he; simp_all, fun h => ⟨_, rfl, h⟩⟩
    simpa only [e] using h
  · rintro en w1 ⟨v, he, r, rfl, h⟩
    exact ⟨_, he, h⟩

def F_atom_Reserved (w : World) (R : Option Addr → Nat → Nat → World → Prop) : Prop :=
  BSl Try.prog 69 15 [(0, .string ⟨#[91, 93]⟩), (1, .string ⟨#[46]⟩), (2, .string ⟨#[123, 125]⟩), (3, .string ⟨#[45]⟩), (4, .string ⟨#[44]⟩), (5, .string ⟨#[59]⟩), (6, .string ⟨#[45, 62]⟩), (7, .string ⟨#[58, 45]⟩), (8, .string ⟨#[124]⟩), (9, .string ⟨#[33]⟩), (10, .string ⟨#[92, 43]⟩), (11, .string ⟨#[116, 114, 117, 101]⟩), (12, .string ⟨#[102, 97, 105, 108]⟩), (13, .string ⟨#[99, 97, 108, 108]⟩), (14, .string ⟨#[101, 114, 114, 111, 114]⟩)] w fun t1P t1N t1C w1 =>
  R t1P t1N t1C w1

def G_atom_Reserved : Gen where
  loop := lookL []
  plan := fun _ => none

theorem loops_atom_Reserved : LoopOk Try.prog Try.f33.ntmps G_atom_Reserved (codeOf Try.f33) := loopOk_none fun _ => rfl

theorem den_atom_Reserved  (w : World) (R : Value → World → Prop) :
    F_atom_Reserved w (fun rP rN rC w1 => R (.slice rP rN rC) w1) = den Try.prog Try.f33.ntmps G_atom_Reserved (codeOf Try.f33) [] (postD Try.prog Try.f33.results.toList R) (entry [] 0) w := by kernel_rfl

theorem C_atom_Reserved.of {w : World} {R : Option Addr → Nat → Nat → World → Prop} (h : F_atom_Reserved w R) : C_atom_Reserved w R := by
  refine (calls_of_den (c := codeOf Try.f33) seat_ok seat_mixed Try.func33 (by kernel_rfl) loops_atom_Reserved (args := []) rfl (R := fun v w1 => ∃ (rP : Option Addr) (rN : Nat) (rC : Nat), v = (.slice rP rN rC : Value) ∧ R rP rN rC w1) ?_).mono ?_
  · rw [← den_atom_Reserved]
    have e : (fun rP rN rC w1 => ∃ (rP' : Option Addr) (rN' : Nat) (rC' : Nat), (.slice rP rN rC : Value) = (.slice rP' rN' rC' : Value) ∧ R rP' rN' rC' w1) = R := by
      funext rP rN rC w1
      exact propext ⟨fun ⟨rP', rN', rC', he, h⟩ => by simp at he; simp_all, fun h => ⟨_, _, _, rfl, h⟩⟩
    simpa only [e] using h
  · rintro en w1 ⟨v, he, rP, rN, rC, rfl, h⟩
    exact ⟨_, _, _, he, h⟩

def F_atom_Table_ready (t : Option Addr) (w : World) (R : Bool → World → Prop) : Prop :=
  If t.isNone
  (R false w)
  (NN t fun a =>
  ∃ limitx : Int, w.cell? (a.add 4) = some (.int .i64 limitx) ∧
  If (limitx == (0 : Int))
  (R false w)
  (NN t fun a_1 =>
  C_sync_Once_Do (some (a_1.add 0)) (.func (.func 49) #[.pointer t] #[]) w fun w1 =>
  R true w1))

def G_atom_Table_ready : Gen where
  loop := lookL []
  plan := fun _ => none

theorem loops_atom_Table_ready : LoopOk Try.prog Try.f34.ntmps G_atom_Table_ready (codeOf Try.f34) := loopOk_none fun _ => rfl

theorem den_atom_Table_ready (t : Option Addr) (w : World) (R : Value → World → Prop) :
    F_atom_Table_ready t w (fun r w1 => R (.bool r) w1) = den Try.prog Try.f34.ntmps G_atom_Table_ready (codeOf Try.f34) [] (postD Try.prog Try.f34.results.toList R) (entry [.pointer t] 0) w := by kernel_rfl

theorem C_atom_Table_ready.of {t : Option Addr} {w : World} {R : Bool → World → Prop} (h : F_atom_Table_ready t w R) : C_atom_Table_ready t w R := by
  refine (calls_of_den (c := codeOf Try.f34) seat_ok seat_mixed Try.func34 (by kernel_rfl) loops_atom_Table_ready (args := [.pointer t]) rfl (R := fun v w1 => ∃ (r : Bool), v = (.bool r : Value) ∧ R r w1) ?_).mono ?_
  · rw [← den_atom_Table_ready]
    have e : (fun r w1 => ∃ (r' : Bool), (.bool r : Value) = (.bool r' : Value) ∧ R r' w1) = R := by
      funext r w1
      exact propext ⟨fun ⟨r', he, h⟩ => by simp at he; simp_all, fun h => ⟨_, rfl, h⟩⟩
    simpa only [e] using h
  · rintro en w1 ⟨v, he, r, rfl, h⟩
    exact ⟨_, he, h⟩

def F_ref04_Reserved (w : World) (R : Option Addr → Nat → Nat → World → Prop) : Prop :=
  BSl Try.prog 69 15 [(0, .string ⟨#[91, 93]⟩), (1, .string ⟨#[46]⟩), (2, .string ⟨#[123, 125]⟩), (3, .string ⟨#[45]⟩), (4, .string ⟨#[44]⟩), (5, .string ⟨#[59]⟩), (6, .string ⟨#[45, 62]⟩), (7, .string ⟨#[58, 45]⟩), (8, .string ⟨#[124]⟩), (9, .string ⟨#[33]⟩), (10, .string ⟨#[92, 43]⟩), (11, .string ⟨#[116, 114, 117, 101]⟩), (12, .string ⟨#[102, 97, 105, 108]⟩), (13, .string ⟨#[99, 97, 108, 108]⟩), (14, .string ⟨#[101, 114, 114, 111, 114]⟩)] w fun t1P t1N t1C w1 =>
  R t1P t1N t1C w1

def G_ref04_Reserved : Gen where
  loop := lookL []
  plan := fun _ => none

theorem loops_ref04_Reserved : LoopOk Try.prog Try.f35.ntmps G_ref04_Reserved (codeOf Try.f35) := loopOk_none fun _ => rfl

theorem den_ref04_Reserved  (w : World) (R : Value → World → Prop) :
    F_ref04_Reserved w (fun rP rN rC w1 => R (.slice rP rN rC) w1) = den Try.prog Try.f35.ntmps G_ref04_Reserved (codeOf Try.f35) [] (postD Try.prog Try.f35.results.toList R) (entry [] 0) w := by kernel_rfl

theorem C_ref04_Reserved.of {w : World} {R : Option Addr → Nat → Nat → World → Prop} (h : F_ref04_Reserved w R) : C_ref04_Reserved w R := by
  refine (calls_of_den (c := codeOf Try.f35) seat_ok seat_mixed Try.func35 (by kernel_rfl) loops_ref04_Reserved (args := []) rfl (R := fun v w1 => ∃ (rP : Option Addr) (rN : Nat) (rC : Nat), v = (.slice rP rN rC : Value) ∧ R rP rN rC w1) ?_).mono ?_
  · rw [← den_ref04_Reserved]
    have e : (fun rP rN rC w1 => ∃ (rP' : Option Addr) (rN' : Nat) (rC' : Nat), (.slice rP rN rC : Value) = (.slice rP' rN' rC' : Value) ∧ R rP' rN' rC' w1) = R := by
      funext rP rN rC w1
      exact propext ⟨fun ⟨rP', rN', rC', he, h⟩ => by simp at he; simp_all, fun h => ⟨_, _, _, rfl, h⟩⟩
    simpa only [e] using h
  · rintro en w1 ⟨v, he, rP, rN, rC, rfl, h⟩
    exact ⟨_, _, _, he, h⟩

structure S_ref05_Table_Put_L1 where
  i : Int

/-- One round. -/
def B_ref05_Table_Put_L1 (t_1 : Option Addr) (sx : Addr) (s : S_ref05_Table_Put_L1) (w : World) (Kn : S_ref05_Table_Put_L1 → World → Prop) (Kx0 : World → Prop) (Kr : Int → Int → World → Prop) : Prop :=
  NN t_1 fun a_1 =>
  ∃ LP : Option Addr, ∃ LN : Nat, ∃ LC : Nat, w.cell? (a_1.add 0) = some (.slice LP LN LC) ∧
  If (decide ((s.i : Int) < (LN : Int)))
  (NN t_1 fun a_2 =>
  ∃ LP_1 : Option Addr, ∃ LN_1 : Nat, ∃ LC_1 : Nat, w.cell? (a_2.add 0) = some (.slice LP_1 LN_1 LC_1) ∧
  0 ≤ (s.i : Int) ∧ (s.i : Int) < (LN_1 : Int) ∧ NN LP_1 fun a_3 =>
  ∃ Is : Bool, w.cell? ((a_3.add ((s.i : Int).toNat * 4)).add 2) = some (.bool Is) ∧
  If (!Is)
  (NN t_1 fun a_4 =>
  ∃ LP_2 : Option Addr, ∃ LN_2 : Nat, ∃ LC_2 : Nat, (drw w).cell? (a_4.add 0) = some (.slice LP_2 LN_2 LC_2) ∧
  ∃ t640 : Int, (drw w).cell? (sx.add 0) = some (.int .i64 t640) ∧
  ∃ t641 : Int, (drw w).cell? (sx.add 1) = some (.int .i64 t641) ∧
  ∃ t642 : Bool, (drw w).cell? (sx.add 2) = some (.bool t642) ∧
  ∃ t643 : Bool, (drw w).cell? (sx.add 3) = some (.bool t643) ∧
  0 ≤ (s.i : Int) ∧ (s.i : Int) < (LN_2 : Int) ∧ NN LP_2 fun a_5 =>
  St (drw w) ((a_5.add ((s.i : Int).toNat * 4)).add 0) (.int .i64 t640) fun w1_7 =>
  St w1_7 ((a_5.add ((s.i : Int).toNat * 4)).add 1) (.int .i64 t641) fun w1_8 =>
  St w1_8 ((a_5.add ((s.i : Int).toNat * 4)).add 2) (.bool t642) fun w1_9 =>
  St w1_9 ((a_5.add ((s.i : Int).toNat * 4)).add 3) (.bool t643) fun w1_10 =>
  Kr (s.i : Int) (0 : Int) w1_10)
  (Kn ⟨(IntKind.i64.wrap ((s.i : Int) + (1 : Int)))⟩ w))
  (Kx0 w)

def F_ref05_Table_Put_L1 (t_1 : Option Addr) (sx : Addr) (s : S_ref05_Table_Put_L1) (w : World) (Kx0 : World → Prop) (Kr : Int → Int → World → Prop) : Prop :=
  LoopS (fun s w Kn => B_ref05_Table_Put_L1 t_1 sx s w Kn Kx0 Kr) s w

def F_ref05_Table_Put (t : Option Addr) (namex : ByteArray) (arity : Int) (w : World) (R : Int → Int → World → Prop) : Prop :=
  If (decide (arity < (1 : Int)))
  (R (0 : Int) (1 : Int) w)
  (If (decide (arity > (16 : Int)))
  (R (0 : Int) (1 : Int) w)
  (NN t fun a =>
  ∃ A : Option Addr, w.cell? (a.add 2) = some (.pointer A) ∧
  C_ref04_Table_Intern A namex w fun t250 t251 w1 =>
  If (t251 != (0 : Int))
  (R (0 : Int) t251 w1)
  (C_ref05_Table_at t t250 arity w1 fun t34 w1_1 =>
  If (decide (t34 ≥ (0 : Int)))
  (R t34 (0 : Int) w1_1)
  (New w1_1 (.cells #[.int .i64 0, .int .i64 0, .bool false, .bool false] 101) fun r w1_2 =>
  St w1_2 ((⟨r, 0, none⟩ : Addr).add 0) (.int .i64 t250) fun w1_3 =>
  St w1_3 ((⟨r, 0, none⟩ : Addr).add 1) (.int .i64 arity) fun w1_4 =>
  St w1_4 ((⟨r, 0, none⟩ : Addr).add 2) (.bool true) fun w1_5 =>
  St w1_5 ((⟨r, 0, none⟩ : Addr).add 3) (.bool false) fun w1_6 =>
  F_ref05_Table_Put_L1 t ⟨r, 0, none⟩ ⟨(0 : Int)⟩ w1_6
  (fun w1_11 =>
  NN t fun a_6 =>
  ∃ LP_3 : Option Addr, ∃ LN_3 : Nat, ∃ LC_3 : Nat, (drw w1_11).cell? (a_6.add 0) = some (.slice LP_3 LN_3 LC_3) ∧
  NN t fun a_7 =>
  ∃ Limit : Int, (drw w1_11).cell? (a_7.add 1) = some (.int .i64 Limit) ∧
  If (decide ((LN_3 : Int) ≥ Limit))
  (R (0 : Int) (2 : Int) (drw w1_11))
  (NN t fun a_8 =>
  ∃ LP_4 : Option Addr, ∃ LN_4 : Nat, ∃ LC_4 : Nat, (drw (drw w1_11)).cell? (a_8.add 0) = some (.slice LP_4 LN_4 LC_4) ∧
  ∃ t820 : Int, (drw (drw w1_11)).cell? ((⟨r, 0, none⟩ : Addr).add 0) = some (.int .i64 t820) ∧
  ∃ t821 : Int, (drw (drw w1_11)).cell? ((⟨r, 0, none⟩ : Addr).add 1) = some (.int .i64 t821) ∧
  ∃ t822 : Bool, (drw (drw w1_11)).cell? ((⟨r, 0, none⟩ : Addr).add 2) = some (.bool t822) ∧
  ∃ t823 : Bool, (drw (drw w1_11)).cell? ((⟨r, 0, none⟩ : Addr).add 3) = some (.bool t823) ∧
  BSl Try.prog 50 1 [(0, .agg #[.int .i64 t820, .int .i64 t821, .bool t822, .bool t823])] (drw (drw w1_11)) fun t83P t83N t83C w1_13 =>
  w1_13.cell? (a_8.add 0) = (drw (drw w1_11)).cell? (a_8.add 0) ∧
  App Try.prog #[50, 50] 50 #[.slice LP_4 LN_4 LC_4, .slice t83P t83N t83C] w1_13 fun t84P t84N t84C w1_14 =>
  NN t fun a_9 =>
  St w1_14 ((a_9.add 0).add 0) (.slice t84P t84N t84C) fun w1_15 =>
  NN t fun a_10 =>
  ∃ LP_5 : Option Addr, ∃ LN_5 : Nat, ∃ LC_5 : Nat, w1_15.cell? (a_10.add 0) = some (.slice LP_5 LN_5 LC_5) ∧
  R (IntKind.i64.wrap ((LN_5 : Int) - (1 : Int))) (0 : Int) w1_15))
  (fun t6_1 t7_1 w1_12 =>
  R t6_1 t7_1 w1_12)))))

def lit_ref05_Table_Put_L1 (f : (Option Addr) × Addr) (s : S_ref05_Table_Put_L1) : Env := [⟨0, .pointer f.1, none⟩, ⟨11, .pointer (some f.2), none⟩, ⟨12, .int .i64 s.i, none⟩]

def dec_ref05_Table_Put_L1 (e : Env) (K : ((Option Addr) × Addr) → S_ref05_Table_Put_L1 → Prop) : Prop :=
  onV (getV e 0) fun u1 =>
  asP u1 fun t_1 =>
  onV (getV e 11) fun u2 =>
  asA u2 fun sx =>
  onV (getV e 12) fun u3 =>
  asI .i64 u3 fun i =>
    K (t_1, sx) ⟨i⟩

theorem dec_ref05_Table_Put_L1_ok {N : Nat} (e : Env) (a : Act) (K : ((Option Addr) × Addr) → S_ref05_Table_Put_L1 → Prop) (hr : Rep N a e) (h0 : dec_ref05_Table_Put_L1 e K) : ∃ f s, K f s ∧ Rep N a (lit_ref05_Table_Put_L1 f s) := by
  unfold dec_ref05_Table_Put_L1 at h0
  obtain ⟨u1, g0, h1⟩ := onV_elim h0
  obtain ⟨t_1, rfl, h2⟩ := asP_elim h1
  obtain ⟨u2, g11, h3⟩ := onV_elim h2
  obtain ⟨sx, rfl, h4⟩ := asA_elim h3
  obtain ⟨u3, g12, h5⟩ := onV_elim h4
  obtain ⟨i, rfl, h6⟩ := asI_elim h5
  exact ⟨_, _, h6, rep_less hr (by simp [lit_ref05_Table_Put_L1, g0, g11, g12])⟩

def spec_ref05_Table_Put_L1 (Q : Post) (e : Env) (w : World) : Prop :=
  dec_ref05_Table_Put_L1 e fun f s => F_ref05_Table_Put_L1 f.1 f.2 s w (fun w1 => Q (.exit 0) [⟨0, .pointer f.1, none⟩, ⟨11, .pointer (some f.2), none⟩] w1) (fun t6 t7 w1 => Q .ret [⟨6, .int .i64 t6, none⟩, ⟨7, .int .i64 t7, none⟩] w1)

def G_ref05_Table_Put : Gen where
  loop := lookL [([false, true, false, true, true, true, true, true, true], spec_ref05_Table_Put_L1)]
  plan := fun id =>
    bif Nat.beq id 14 then some ([0, 1, 3, 7, 0, 0, 63, 127], .take 0 (.take 1 (.take 2 (.take 3 (.take 4 (.take 5 (.take 6 (.take 7 .done)))))))) else
    bif Nat.beq id 16 then some ([0, 1, 3, 7, 15, 0, 32, 96, 224, 511], .take 0 (.take 1 (.take 2 (.take 3 (.take 4 (.take 5 (.take 6 (.take 7 (.take 8 (.take 9 .done)))))))))) else
    bif Nat.beq id 18 then some ([0, 0, 2, 6, 14, 0, 32, 126, 255, 511, 1023], .take 0 (.take 1 (.take 2 (.take 3 (.take 4 (.take 5 (.take 6 (.take 7 (.take 8 (.take 9 (.take 10 .done))))))))))) else none

def dx_ref05_Table_Put_L1_0 (e : Env) (K : ((Option Addr) × Addr) → Prop) : Prop :=
  onV (getV e 0) fun u1 =>
  asP u1 fun t_1 =>
  onV (getV e 11) fun u2 =>
  asA u2 fun sx =>
    K (t_1, sx)

def dx_ref05_Table_Put_L1_ret (e : Env) (K : ((Option Addr) × Addr) → Int → Int → Prop) : Prop :=
  onV (getV e 0) fun u1 =>
  asP u1 fun t_1 =>
  onV (getV e 11) fun u2 =>
  asA u2 fun sx =>
  onV (getV e 6) fun u3 =>
  asI .i64 u3 fun t6 =>
  onV (getV e 7) fun u4 =>
  asI .i64 u4 fun t7 =>
    K (t_1, sx) t6 t7

theorem body_ref05_Table_Put_L1 (f : (Option Addr) × Addr) (s : S_ref05_Table_Put_L1) (w : World) (Kn : ((Option Addr) × Addr) → S_ref05_Table_Put_L1 → World → Prop) (Kx0 : ((Option Addr) × Addr) → World → Prop) (Kr : ((Option Addr) × Addr) → Int → Int → World → Prop) :
    B_ref05_Table_Put_L1 f.1 f.2 s w (fun s1 w1 => Kn f s1 w1) (fun w1 => Kx0 f w1) (fun t6 t7 w1 => Kr f t6 t7 w1) =
    den Try.prog Try.f36.ntmps G_ref05_Table_Put (sub (codeOf Try.f36) [false, false, true, false, true, true, true, true, true, true]) [false, false, true, false, true, true, true, true, true, true] (roundQ (fun e w => dec_ref05_Table_Put_L1 e fun f s => Kn f s w) (fun e w => dx_ref05_Table_Put_L1_ret e fun f t6 t7 => Kr f t6 t7 w) (fun id e w => match Nat.beq id 0 with | true => dx_ref05_Table_Put_L1_0 e fun f => Kx0 f w | false => False)) (lit_ref05_Table_Put_L1 f s) w := by kernel_rfl

theorem ok_ref05_Table_Put_L1 : OneOk Try.prog Try.f36.ntmps G_ref05_Table_Put (codeOf Try.f36) [false, true, false, true, true, true, true, true, true] spec_ref05_Table_Put_L1 := by
  intro c hc ih Q e w a hr h
  have hcc : sub (codeOf Try.f36) [false, false, true, false, true, true, true, true, true, true] = c := sub_of_codeAt hc
  obtain ⟨f, s, h, hrep⟩ := dec_ref05_Table_Put_L1_ok e a _ hr h
  obtain ⟨J, μ, hj, hround⟩ := h
  refine loop_rule_deep seat_ok seat_mixed ih lit_ref05_Table_Put_L1 dec_ref05_Table_Put_L1 dec_ref05_Table_Put_L1_ok hc f J μ (Kr := fun e w => dx_ref05_Table_Put_L1_ret e fun f1 t6 t7 => f1 = f ∧ Q .ret [⟨6, .int .i64 t6, none⟩, ⟨7, .int .i64 t7, none⟩] w) (Kx := fun id e w => match Nat.beq id 0 with | true => (dx_ref05_Table_Put_L1_0 e fun f1 => f1 = f ∧ Q (.exit 0) [⟨0, .pointer f.1, none⟩, ⟨11, .pointer (some f.2), none⟩] w) | false => False) ?_ ?_ ?_ s w a hj hrep
  · intro e a w hr h0
    unfold dx_ref05_Table_Put_L1_ret at h0
    obtain ⟨u1, g0, h1⟩ := onV_elim h0
    obtain ⟨t_1, rfl, h2⟩ := asP_elim h1
    obtain ⟨u2, g11, h3⟩ := onV_elim h2
    obtain ⟨sx, rfl, h4⟩ := asA_elim h3
    obtain ⟨u3, g6, h5⟩ := onV_elim h4
    obtain ⟨t6, rfl, h6⟩ := asI_elim h5
    obtain ⟨u4, g7, h7⟩ := onV_elim h6
    obtain ⟨t7, rfl, h8⟩ := asI_elim h7
    obtain ⟨hf, hq⟩ := h8
    subst hf
    exact ⟨_, rep_less hr (by simp [g6, g7]), hq⟩
  · intro id e a w hr h0
    (try dsimp only at h0)
    split at h0
    · rename_i hid
      obtain rfl := Nat.eq_of_beq_eq_true hid
      unfold dx_ref05_Table_Put_L1_0 at h0
      obtain ⟨u1, g0, h1⟩ := onV_elim h0
      obtain ⟨t_1, rfl, h2⟩ := asP_elim h1
      obtain ⟨u2, g11, h3⟩ := onV_elim h2
      obtain ⟨sx, rfl, h4⟩ := asA_elim h3
      obtain ⟨hf, hq⟩ := h4
      subst hf
      exact ⟨_, rep_less hr (by simp [g0, g11]), hq⟩
    · exact h0.elim
  · intro s w hj
    have hb := hround s w hj
    rw [← hcc]
    have e1 := body_ref05_Table_Put_L1 f s w (fun f1 s1 w1 => f1 = f ∧ J s1 w1 ∧ μ s1 w1 < μ s w) (fun f1 w1 => f1 = f ∧ Q (.exit 0) [⟨0, .pointer f.1, none⟩, ⟨11, .pointer (some f.2), none⟩] w1) (fun f1 t6 t7 w1 => f1 = f ∧ Q .ret [⟨6, .int .i64 t6, none⟩, ⟨7, .int .i64 t7, none⟩] w1)
    simp only [true_and] at e1
    exact cast e1 hb

theorem loops_ref05_Table_Put : LoopOk Try.prog Try.f36.ntmps G_ref05_Table_Put (codeOf Try.f36) := loopOk_list rfl ⟨ok_ref05_Table_Put_L1, trivial⟩

theorem den_ref05_Table_Put (t : Option Addr) (namex : ByteArray) (arity : Int) (w : World) (R : Value → World → Prop) :
    F_ref05_Table_Put t namex arity w (fun r0 r1 w1 => R (.tuple #[.int .i64 r0, .int .i64 r1]) w1) = den Try.prog Try.f36.ntmps G_ref05_Table_Put (codeOf Try.f36) [] (postD Try.prog Try.f36.results.toList R) (entry [.pointer t, .string namex, .int .i64 arity] 0) w := by kernel_rfl

theorem C_ref05_Table_Put.of {t : Option Addr} {namex : ByteArray} {arity : Int} {w : World} {R : Int → Int → World → Prop} (h : F_ref05_Table_Put t namex arity w R) : C_ref05_Table_Put t namex arity w R := by
  refine (calls_of_den (c := codeOf Try.f36) seat_ok seat_mixed Try.func36 (by kernel_rfl) loops_ref05_Table_Put (args := [.pointer t, .string namex, .int .i64 arity]) rfl (R := fun v w1 => ∃ (r0 : Int) (r1 : Int), v = (.tuple #[.int .i64 r0, .int .i64 r1] : Value) ∧ R r0 r1 w1) ?_).mono ?_
  · rw [← den_ref05_Table_Put]
    have e : (fun r0 r1 w1 => ∃ (r0' : Int) (r1' : Int), (.tuple #[.int .i64 r0, .int .i64 r1] : Value) = (.tuple #[.int .i64 r0', .int .i64 r1'] : Value) ∧ R r0' r1' w1) = R := by
      funext r0 r1 w1
      exact propext ⟨fun ⟨r0', r1', he, h⟩ => by simp at he; simp_all, fun h => ⟨_, _, rfl, h⟩⟩
    simpa only [e] using h
  · rintro en w1 ⟨v, he, r0, r1, rfl, h⟩
    exact ⟨_, _, he, h⟩

def F_ref05_Table_Find (t : Option Addr) (namex : ByteArray) (arity : Int) (w : World) (R : Int → World → Prop) : Prop :=
  NN t fun a =>
  ∃ A : Option Addr, w.cell? (a.add 2) = some (.pointer A) ∧
  C_ref04_Table_Find A namex w fun t13 w1 =>
  If (decide (t13 < (0 : Int)))
  (R (-1) w1)
  (C_ref05_Table_at t t13 arity w1 fun t19 w1_1 =>
  R t19 w1_1)

def G_ref05_Table_Find : Gen where
  loop := lookL []
  plan := fun _ => none

theorem loops_ref05_Table_Find : LoopOk Try.prog Try.f37.ntmps G_ref05_Table_Find (codeOf Try.f37) := loopOk_none fun _ => rfl

theorem den_ref05_Table_Find (t : Option Addr) (namex : ByteArray) (arity : Int) (w : World) (R : Value → World → Prop) :
    F_ref05_Table_Find t namex arity w (fun r w1 => R (.int .i64 r) w1) = den Try.prog Try.f37.ntmps G_ref05_Table_Find (codeOf Try.f37) [] (postD Try.prog Try.f37.results.toList R) (entry [.pointer t, .string namex, .int .i64 arity] 0) w := by kernel_rfl

theorem C_ref05_Table_Find.of {t : Option Addr} {namex : ByteArray} {arity : Int} {w : World} {R : Int → World → Prop} (h : F_ref05_Table_Find t namex arity w R) : C_ref05_Table_Find t namex arity w R := by
  refine (calls_of_den (c := codeOf Try.f37) seat_ok seat_mixed Try.func37 (by kernel_rfl) loops_ref05_Table_Find (args := [.pointer t, .string namex, .int .i64 arity]) rfl (R := fun v w1 => ∃ (r : Int), v = (.int .i64 r : Value) ∧ R r w1) ?_).mono ?_
  · rw [← den_ref05_Table_Find]
    have e : (fun r w1 => ∃ (r' : Int), (.int .i64 r : Value) = (.int .i64 r' : Value) ∧ R r' w1) = R := by
      funext r w1
      exact propext ⟨fun ⟨r', he, h⟩ => by simp at he; simp_all, fun h => ⟨_, rfl, h⟩⟩
    simpa only [e] using h
  · rintro en w1 ⟨v, he, r, rfl, h⟩
    exact ⟨_, he, h⟩

def F_ref05_Table_Get (t : Option Addr) (idx : Int) (w : World) (R : ByteArray → Int → Int → World → Prop) : Prop :=
  C_ref05_Table_Is t idx (drw w) fun t9 w1 =>
  If (!t9)
  (R ⟨#[]⟩ (0 : Int) (4 : Int) w1)
  (NN t fun a =>
  ∃ A : Option Addr, w1.cell? (a.add 2) = some (.pointer A) ∧
  NN t fun a_1 =>
  ∃ LP : Option Addr, ∃ LN : Nat, ∃ LC : Nat, w1.cell? (a_1.add 0) = some (.slice LP LN LC) ∧
  0 ≤ idx ∧ idx < (LN : Int) ∧ NN LP fun a_2 =>
  ∃ Name : Int, w1.cell? ((a_2.add (idx.toNat * 4)).add 0) = some (.int .i64 Name) ∧
  C_ref04_Table_Is A Name w1 fun t24 w1_1 =>
  If (!t24)
  (R ⟨#[]⟩ (0 : Int) (4 : Int) w1_1)
  (NN t fun a_3 =>
  ∃ A_1 : Option Addr, (drw w1_1).cell? (a_3.add 2) = some (.pointer A_1) ∧
  NN A_1 fun a_4 =>
  ∃ LP_1 : Option Addr, ∃ LN_1 : Nat, ∃ LC_1 : Nat, (drw w1_1).cell? (a_4.add 0) = some (.slice LP_1 LN_1 LC_1) ∧
  NN t fun a_5 =>
  ∃ LP_2 : Option Addr, ∃ LN_2 : Nat, ∃ LC_2 : Nat, (drw w1_1).cell? (a_5.add 0) = some (.slice LP_2 LN_2 LC_2) ∧
  0 ≤ idx ∧ idx < (LN_2 : Int) ∧ NN LP_2 fun a_6 =>
  ∃ Name_1 : Int, (drw w1_1).cell? ((a_6.add (idx.toNat * 4)).add 0) = some (.int .i64 Name_1) ∧
  0 ≤ Name_1 ∧ Name_1 < (LN_1 : Int) ∧ NN LP_1 fun a_7 =>
  ∃ Name_2 : ByteArray, (drw w1_1).cell? ((a_7.add (Name_1.toNat * 3)).add 0) = some (.string Name_2) ∧
  NN t fun a_8 =>
  ∃ LP_3 : Option Addr, ∃ LN_3 : Nat, ∃ LC_3 : Nat, (drw w1_1).cell? (a_8.add 0) = some (.slice LP_3 LN_3 LC_3) ∧
  0 ≤ idx ∧ idx < (LN_3 : Int) ∧ NN LP_3 fun a_9 =>
  ∃ Arity : Int, (drw w1_1).cell? ((a_9.add (idx.toNat * 4)).add 1) = some (.int .i64 Arity) ∧
  (drw w1_1).cell? ((a_9.add (idx.toNat * 4)).add 1) = (drw w1_1).cell? ((a_9.add (idx.toNat * 4)).add 1) ∧
  (drw w1_1).cell? (a_8.add 0) = (drw w1_1).cell? (a_8.add 0) ∧
  R Name_2 Arity (0 : Int) (drw w1_1)))

def G_ref05_Table_Get : Gen where
  loop := lookL []
  plan := fun id =>
    bif Nat.beq id 1 then some ([0, 0, 3, 7, 15, 31, 63, 127, 255, 31, 543, 1567, 3615, 31, 15903, 32287, 65055, 131071, 262143, 524287], .take 0 (.take 1 (.take 2 (.take 3 (.take 4 (.take 5 (.take 6 (.take 7 (.take 8 (.take 9 (.take 10 (.take 11 (.take 12 (.take 13 (.take 14 (.take 15 (.take 16 (.take 17 (.take 18 (.take 19 .done)))))))))))))))))))) else
    bif Nat.beq id 3 then some ([0, 1, 3, 7, 15, 31, 63, 0, 128, 384, 896, 0, 3968, 8064, 16256, 32767, 65535, 131071, 0, 262144, 786432, 1835008, 0, 8126464, 16515072, 33292288, 262143, 134217727, 268435455], .take 0 (.take 1 (.take 2 (.take 3 (.take 4 (.take 5 (.take 6 (.take 7 (.take 8 (.take 9 (.take 10 (.take 11 (.take 12 (.take 13 (.take 14 (.take 15 (.take 16 (.take 17 (.take 18 (.take 19 (.take 20 (.take 21 (.take 22 (.take 23 (.take 24 (.take 25 (.take 26 (.take 27 (.take 28 .done))))))))))))))))))))))))))))) else none

theorem loops_ref05_Table_Get : LoopOk Try.prog Try.f38.ntmps G_ref05_Table_Get (codeOf Try.f38) := loopOk_none fun _ => rfl

theorem den_ref05_Table_Get (t : Option Addr) (idx : Int) (w : World) (R : Value → World → Prop) :
    F_ref05_Table_Get t idx w (fun r0 r1 r2 w1 => R (.tuple #[.string r0, .int .i64 r1, .int .i64 r2]) w1) = den Try.prog Try.f38.ntmps G_ref05_Table_Get (codeOf Try.f38) [] (postD Try.prog Try.f38.results.toList R) (entry [.pointer t, .int .i64 idx] 0) w := by kernel_rfl

theorem C_ref05_Table_Get.of {t : Option Addr} {idx : Int} {w : World} {R : ByteArray → Int → Int → World → Prop} (h : F_ref05_Table_Get t idx w R) : C_ref05_Table_Get t idx w R := by
  refine (calls_of_den (c := codeOf Try.f38) seat_ok seat_mixed Try.func38 (by kernel_rfl) loops_ref05_Table_Get (args := [.pointer t, .int .i64 idx]) rfl (R := fun v w1 => ∃ (r0 : ByteArray) (r1 : Int) (r2 : Int), v = (.tuple #[.string r0, .int .i64 r1, .int .i64 r2] : Value) ∧ R r0 r1 r2 w1) ?_).mono ?_
  · rw [← den_ref05_Table_Get]
    have e : (fun r0 r1 r2 w1 => ∃ (r0' : ByteArray) (r1' : Int) (r2' : Int), (.tuple #[.string r0, .int .i64 r1, .int .i64 r2] : Value) = (.tuple #[.string r0', .int .i64 r1', .int .i64 r2'] : Value) ∧ R r0' r1' r2' w1) = R := by
      funext r0 r1 r2 w1
      exact propext ⟨fun ⟨r0', r1', r2', he, h⟩ => by simp at he; simp_all, fun h => ⟨_, _, _, rfl, h⟩⟩
    simpa only [e] using h
  · rintro en w1 ⟨v, he, r0, r1, r2, rfl, h⟩
    exact ⟨_, _, _, he, h⟩

def F_ref05_Table_Is_k1 (R : Bool → World → Prop) (w1 : World) : Prop :=
  R false w1

def F_ref05_Table_Is (t : Option Addr) (idx : Int) (w : World) (R : Bool → World → Prop) : Prop :=
  If (decide (idx ≥ (0 : Int)))
  (NN t fun a =>
  ∃ LP : Option Addr, ∃ LN : Nat, ∃ LC : Nat, w.cell? (a.add 0) = some (.slice LP LN LC) ∧
  If (decide (idx < (LN : Int)))
  (NN t fun a_1 =>
  ∃ LP_1 : Option Addr, ∃ LN_1 : Nat, ∃ LC_1 : Nat, w.cell? (a_1.add 0) = some (.slice LP_1 LN_1 LC_1) ∧
  0 ≤ idx ∧ idx < (LN_1 : Int) ∧ NN LP_1 fun a_2 =>
  ∃ Is : Bool, w.cell? ((a_2.add (idx.toNat * 4)).add 2) = some (.bool Is) ∧
  R Is w)
  (F_ref05_Table_Is_k1 R w))
  (F_ref05_Table_Is_k1 R w)

def G_ref05_Table_Is : Gen where
  loop := lookL []
  plan := fun _ => none

theorem loops_ref05_Table_Is : LoopOk Try.prog Try.f39.ntmps G_ref05_Table_Is (codeOf Try.f39) := loopOk_none fun _ => rfl

theorem den_ref05_Table_Is (t : Option Addr) (idx : Int) (w : World) (R : Value → World → Prop) :
    F_ref05_Table_Is t idx w (fun r w1 => R (.bool r) w1) = den Try.prog Try.f39.ntmps G_ref05_Table_Is (codeOf Try.f39) [] (postD Try.prog Try.f39.results.toList R) (entry [.pointer t, .int .i64 idx] 0) w := by kernel_rfl

theorem C_ref05_Table_Is.of {t : Option Addr} {idx : Int} {w : World} {R : Bool → World → Prop} (h : F_ref05_Table_Is t idx w R) : C_ref05_Table_Is t idx w R := by
  refine (calls_of_den (c := codeOf Try.f39) seat_ok seat_mixed Try.func39 (by kernel_rfl) loops_ref05_Table_Is (args := [.pointer t, .int .i64 idx]) rfl (R := fun v w1 => ∃ (r : Bool), v = (.bool r : Value) ∧ R r w1) ?_).mono ?_
  · rw [← den_ref05_Table_Is]
    have e : (fun r w1 => ∃ (r' : Bool), (.bool r : Value) = (.bool r' : Value) ∧ R r' w1) = R := by
      funext r w1
      exact propext ⟨fun ⟨r', he, h⟩ => by simp at he; simp_all, fun h => ⟨_, rfl, h⟩⟩
    simpa only [e] using h
  · rintro en w1 ⟨v, he, r, rfl, h⟩
    exact ⟨_, he, h⟩

structure S_ref05_Table_Sweep_L1 where
  n : Int
  i : Int

def F_ref05_Table_Sweep_k1 (t_1 : Option Addr) (s : S_ref05_Table_Sweep_L1) (Kn : S_ref05_Table_Sweep_L1 → World → Prop) (n_2 : Int) (w1_4 : World) : Prop :=
  NN t_1 fun a_7 =>
  ∃ LP_4 : Option Addr, ∃ LN_4 : Nat, ∃ LC_4 : Nat, w1_4.cell? (a_7.add 0) = some (.slice LP_4 LN_4 LC_4) ∧
  0 ≤ (s.i : Int) ∧ (s.i : Int) < (LN_4 : Int) ∧ NN LP_4 fun a_8 =>
  St w1_4 (((a_8.add ((s.i : Int).toNat * 4)).add 3).add 0) (.bool false) fun w1_5 =>
  Kn ⟨n_2, (IntKind.i64.wrap ((s.i : Int) + (1 : Int)))⟩ w1_5

/-- One round. -/
def B_ref05_Table_Sweep_L1 (t_1 : Option Addr) (s : S_ref05_Table_Sweep_L1) (w : World) (Kn : S_ref05_Table_Sweep_L1 → World → Prop) (Kx0 : Int → World → Prop) : Prop :=
  NN t_1 fun a =>
  ∃ LP : Option Addr, ∃ LN : Nat, ∃ LC : Nat, w.cell? (a.add 0) = some (.slice LP LN LC) ∧
  If (decide ((s.i : Int) < (LN : Int)))
  (NN t_1 fun a_1 =>
  ∃ LP_1 : Option Addr, ∃ LN_1 : Nat, ∃ LC_1 : Nat, w.cell? (a_1.add 0) = some (.slice LP_1 LN_1 LC_1) ∧
  0 ≤ (s.i : Int) ∧ (s.i : Int) < (LN_1 : Int) ∧ NN LP_1 fun a_2 =>
  ∃ Is : Bool, w.cell? ((a_2.add ((s.i : Int).toNat * 4)).add 2) = some (.bool Is) ∧
  If Is
  (NN t_1 fun a_3 =>
  ∃ LP_2 : Option Addr, ∃ LN_2 : Nat, ∃ LC_2 : Nat, w.cell? (a_3.add 0) = some (.slice LP_2 LN_2 LC_2) ∧
  0 ≤ (s.i : Int) ∧ (s.i : Int) < (LN_2 : Int) ∧ NN LP_2 fun a_4 =>
  ∃ Mark : Bool, w.cell? ((a_4.add ((s.i : Int).toNat * 4)).add 3) = some (.bool Mark) ∧
  If (!Mark)
  (NN t_1 fun a_5 =>
  ∃ LP_3 : Option Addr, ∃ LN_3 : Nat, ∃ LC_3 : Nat, w.cell? (a_5.add 0) = some (.slice LP_3 LN_3 LC_3) ∧
  0 ≤ (s.i : Int) ∧ (s.i : Int) < (LN_3 : Int) ∧ NN LP_3 fun a_6 =>
  St w ((a_6.add ((s.i : Int).toNat * 4)).add 0) (.int .i64 0) fun w1 =>
  St w1 ((a_6.add ((s.i : Int).toNat * 4)).add 1) (.int .i64 0) fun w1_1 =>
  St w1_1 ((a_6.add ((s.i : Int).toNat * 4)).add 2) (.bool false) fun w1_2 =>
  St w1_2 ((a_6.add ((s.i : Int).toNat * 4)).add 3) (.bool false) fun w1_3 =>
  F_ref05_Table_Sweep_k1 t_1 s Kn (IntKind.i64.wrap ((s.n : Int) + (1 : Int))) w1_3)
  (F_ref05_Table_Sweep_k1 t_1 s Kn (s.n : Int) w))
  (F_ref05_Table_Sweep_k1 t_1 s Kn (s.n : Int) w))
  (Kx0 (s.n : Int) w)

def F_ref05_Table_Sweep_L1 (t_1 : Option Addr) (s : S_ref05_Table_Sweep_L1) (w : World) (Kx0 : Int → World → Prop) : Prop :=
  LoopS (fun s w Kn => B_ref05_Table_Sweep_L1 t_1 s w Kn Kx0) s w

def F_ref05_Table_Sweep (t : Option Addr) (w : World) (R : Int → World → Prop) : Prop :=
  F_ref05_Table_Sweep_L1 t ⟨(0 : Int), (0 : Int)⟩ w
  (fun n_3 w1_6 =>
  R n_3 w1_6)

def lit_ref05_Table_Sweep_L1 (f : (Option Addr)) (s : S_ref05_Table_Sweep_L1) : Env := [⟨0, .pointer f, none⟩, ⟨3, .int .i64 s.n, none⟩, ⟨4, .int .i64 s.i, none⟩]

def dec_ref05_Table_Sweep_L1 (e : Env) (K : (Option Addr) → S_ref05_Table_Sweep_L1 → Prop) : Prop :=
  onV (getV e 0) fun u1 =>
  asP u1 fun t_1 =>
  onV (getV e 3) fun u2 =>
  asI .i64 u2 fun n =>
  onV (getV e 4) fun u3 =>
  asI .i64 u3 fun i =>
    K (t_1) ⟨n, i⟩

theorem dec_ref05_Table_Sweep_L1_ok {N : Nat} (e : Env) (a : Act) (K : (Option Addr) → S_ref05_Table_Sweep_L1 → Prop) (hr : Rep N a e) (h0 : dec_ref05_Table_Sweep_L1 e K) : ∃ f s, K f s ∧ Rep N a (lit_ref05_Table_Sweep_L1 f s) := by
  unfold dec_ref05_Table_Sweep_L1 at h0
  obtain ⟨u1, g0, h1⟩ := onV_elim h0
  obtain ⟨t_1, rfl, h2⟩ := asP_elim h1
  obtain ⟨u2, g3, h3⟩ := onV_elim h2
  obtain ⟨n, rfl, h4⟩ := asI_elim h3
  obtain ⟨u3, g4, h5⟩ := onV_elim h4
  obtain ⟨i, rfl, h6⟩ := asI_elim h5
  exact ⟨_, _, h6, rep_less hr (by simp [lit_ref05_Table_Sweep_L1, g0, g3, g4])⟩

def spec_ref05_Table_Sweep_L1 (Q : Post) (e : Env) (w : World) : Prop :=
  dec_ref05_Table_Sweep_L1 e fun f s => F_ref05_Table_Sweep_L1 f s w (fun n_1 w1 => Q (.exit 0) [⟨3, .int .i64 n_1, none⟩] w1)

def G_ref05_Table_Sweep : Gen where
  loop := lookL [([false, true, false, true, true], spec_ref05_Table_Sweep_L1)]
  plan := fun _ => none

def dx_ref05_Table_Sweep_L1_0 (e : Env) (K : (Option Addr) → Int → Prop) : Prop :=
  onV (getV e 0) fun u1 =>
  asP u1 fun t_1 =>
  onV (getV e 3) fun u2 =>
  asI .i64 u2 fun n_1 =>
    K (t_1) n_1

theorem body_ref05_Table_Sweep_L1 (f : (Option Addr)) (s : S_ref05_Table_Sweep_L1) (w : World) (Kn : (Option Addr) → S_ref05_Table_Sweep_L1 → World → Prop) (Kx0 : (Option Addr) → Int → World → Prop) :
    B_ref05_Table_Sweep_L1 f s w (fun s1 w1 => Kn f s1 w1) (fun n_1 w1 => Kx0 f n_1 w1) =
    den Try.prog Try.f40.ntmps G_ref05_Table_Sweep (sub (codeOf Try.f40) [false, false, true, false, true, true]) [false, false, true, false, true, true] (roundQ (fun e w => dec_ref05_Table_Sweep_L1 e fun f s => Kn f s w) (fun e w => False) (fun id e w => match Nat.beq id 0 with | true => dx_ref05_Table_Sweep_L1_0 e fun f n_1 => Kx0 f n_1 w | false => False)) (lit_ref05_Table_Sweep_L1 f s) w := by kernel_rfl

theorem ok_ref05_Table_Sweep_L1 : OneOk Try.prog Try.f40.ntmps G_ref05_Table_Sweep (codeOf Try.f40) [false, true, false, true, true] spec_ref05_Table_Sweep_L1 := by
  intro c hc ih Q e w a hr h
  have hcc : sub (codeOf Try.f40) [false, false, true, false, true, true] = c := sub_of_codeAt hc
  obtain ⟨f, s, h, hrep⟩ := dec_ref05_Table_Sweep_L1_ok e a _ hr h
  obtain ⟨J, μ, hj, hround⟩ := h
  refine loop_rule_deep seat_ok seat_mixed ih lit_ref05_Table_Sweep_L1 dec_ref05_Table_Sweep_L1 dec_ref05_Table_Sweep_L1_ok hc f J μ (Kr := fun e w => False) (Kx := fun id e w => match Nat.beq id 0 with | true => (dx_ref05_Table_Sweep_L1_0 e fun f1 n_1 => f1 = f ∧ Q (.exit 0) [⟨3, .int .i64 n_1, none⟩] w) | false => False) ?_ ?_ ?_ s w a hj hrep
  · intro e a w hr h
    exact h.elim
  · intro id e a w hr h0
    (try dsimp only at h0)
    split at h0
    · rename_i hid
      obtain rfl := Nat.eq_of_beq_eq_true hid
      unfold dx_ref05_Table_Sweep_L1_0 at h0
      obtain ⟨u1, g0, h1⟩ := onV_elim h0
      obtain ⟨t_1, rfl, h2⟩ := asP_elim h1
      obtain ⟨u2, g3, h3⟩ := onV_elim h2
      obtain ⟨n_1, rfl, h4⟩ := asI_elim h3
      obtain ⟨hf, hq⟩ := h4
      subst hf
      exact ⟨_, rep_less hr (by simp [g3]), hq⟩
    · exact h0.elim
  · intro s w hj
    have hb := hround s w hj
    rw [← hcc]
    have e1 := body_ref05_Table_Sweep_L1 f s w (fun f1 s1 w1 => f1 = f ∧ J s1 w1 ∧ μ s1 w1 < μ s w) (fun f1 n_1 w1 => f1 = f ∧ Q (.exit 0) [⟨3, .int .i64 n_1, none⟩] w1)
    simp only [true_and] at e1
    exact cast e1 hb

theorem loops_ref05_Table_Sweep : LoopOk Try.prog Try.f40.ntmps G_ref05_Table_Sweep (codeOf Try.f40) := loopOk_list rfl ⟨ok_ref05_Table_Sweep_L1, trivial⟩

theorem den_ref05_Table_Sweep (t : Option Addr) (w : World) (R : Value → World → Prop) :
    F_ref05_Table_Sweep t w (fun r w1 => R (.int .i64 r) w1) = den Try.prog Try.f40.ntmps G_ref05_Table_Sweep (codeOf Try.f40) [] (postD Try.prog Try.f40.results.toList R) (entry [.pointer t] 0) w := by kernel_rfl

theorem C_ref05_Table_Sweep.of {t : Option Addr} {w : World} {R : Int → World → Prop} (h : F_ref05_Table_Sweep t w R) : C_ref05_Table_Sweep t w R := by
  refine (calls_of_den (c := codeOf Try.f40) seat_ok seat_mixed Try.func40 (by kernel_rfl) loops_ref05_Table_Sweep (args := [.pointer t]) rfl (R := fun v w1 => ∃ (r : Int), v = (.int .i64 r : Value) ∧ R r w1) ?_).mono ?_
  · rw [← den_ref05_Table_Sweep]
    have e : (fun r w1 => ∃ (r' : Int), (.int .i64 r : Value) = (.int .i64 r' : Value) ∧ R r' w1) = R := by
      funext r w1
      exact propext ⟨fun ⟨r', he, h⟩ => by simp at he; simp_all, fun h => ⟨_, rfl, h⟩⟩
    simpa only [e] using h
  · rintro en w1 ⟨v, he, r, rfl, h⟩
    exact ⟨_, he, h⟩

end Go.Proofs.Ytlngmelfjiemlaa
