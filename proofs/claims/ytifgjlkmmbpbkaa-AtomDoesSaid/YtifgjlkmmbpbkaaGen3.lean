/- The formulas of this seat's functions, held against the loaded program by the kernel. Printed by a program. -/
import Derived.Test.YtifgjlkmmbpbkaaGenC
set_option maxRecDepth 100000
set_option linter.unusedVariables false
namespace Go.Proofs.Ytifgjlkmmbpbkaa
open Go Go.D Go.Proofs

def F_atom_Table_Intern_k1 (t : Option Addr) (namex : ByteArray) (R : Int → Int → World → Prop) (idx : Int) (w1_9 : World) : Prop :=
  NN t fun a_12 =>
  ∃ ids_1 : Option Nat, w1_9.cell? (a_12.add 6) = some (.map ids_1) ∧
  MUp Try.prog 71 (.map ids_1) (.string namex) (.int .i64 idx) w1_9 fun w1_10 =>
  NN t fun a_13 =>
  C_sync_atomic_Int64_Add (some (a_13.add 3)) (1 : Int) w1_10 fun t87 w1_11 =>
  R idx (0 : Int) w1_11

def F_atom_Table_Intern (t : Option Addr) (namex : ByteArray) (w : World) (R : Int → Int → World → Prop) : Prop :=
  C_atom_Table_ready t w fun t10 w1 =>
  If (!t10)
  (R (0 : Int) (6 : Int) w1)
  (If (decide ((namex.size : Int) > (64 : Int)))
  (R (0 : Int) (3 : Int) w1)
  (NN t fun a =>
  ∃ ids : Option Nat, w1.cell? (a.add 6) = some (.map ids) ∧
  Run Try.prog (Instr.lookup 71 (.map ids) (.string namex) true) w1 fun v w1_1 => ∃ t210 : Int, ∃ t211 : Bool, v = (.tuple #[.int .i64 t210, .bool t211]) ∧
  If t211
  (R t210 (0 : Int) w1_1)
  (NN t fun a_1 =>
  ∃ lP : Option Addr, ∃ lN : Nat, ∃ lC : Nat, w1_1.cell? (a_1.add 5) = some (.slice lP lN lC) ∧
  NN t fun a_2 =>
  ∃ freeP : Option Addr, ∃ freeN : Nat, ∃ freeC : Nat, w1_1.cell? (a_2.add 7) = some (.slice freeP freeN freeC) ∧
  If (decide ((freeN : Int) > (0 : Int)))
  (NN t fun a_3 =>
  ∃ freeP_1 : Option Addr, ∃ freeN_1 : Nat, ∃ freeC_1 : Nat, w1_1.cell? (a_3.add 7) = some (.slice freeP_1 freeN_1 freeC_1) ∧
  0 ≤ (0 : Int) ∧ (0 : Int) < (freeN_1 : Int) ∧ NN freeP_1 fun a_4 =>
  ∃ t54 : Int, w1_1.cell? (a_4.add ((0 : Int).toNat * 1)) = some (.int .i64 t54) ∧
  NN t fun a_5 =>
  ∃ freeP_2 : Option Addr, ∃ freeN_2 : Nat, ∃ freeC_2 : Nat, w1_1.cell? (a_5.add 7) = some (.slice freeP_2 freeN_2 freeC_2) ∧
  0 ≤ (1 : Int) ∧ (1 : Int) ≤ (freeN_2 : Int) ∧
  NN t fun a_6 =>
  St w1_1 ((a_6.add 7).add 0) (.slice (adv freeP_2 freeC_2 (1 : Int).toNat 1) (freeN_2 - (1 : Int).toNat) (freeC_2 - (1 : Int).toNat)) fun w1_2 =>
  NN t fun a_7 =>
  ∃ lP_1 : Option Addr, ∃ lN_1 : Nat, ∃ lC_1 : Nat, w1_2.cell? (a_7.add 5) = some (.slice lP_1 lN_1 lC_1) ∧
  0 ≤ t54 ∧ t54 < (lN_1 : Int) ∧ NN lP_1 fun a_8 =>
  St w1_2 ((a_8.add (t54.toNat * 3)).add 0) (.string namex) fun w1_3 =>
  St w1_3 ((a_8.add (t54.toNat * 3)).add 1) (.bool true) fun w1_4 =>
  St w1_4 ((a_8.add (t54.toNat * 3)).add 2) (.bool false) fun w1_5 =>
  F_atom_Table_Intern_k1 t namex R t54 w1_5)
  (NN t fun a_9 =>
  ∃ limitx : Int, w1_1.cell? (a_9.add 4) = some (.int .i64 limitx) ∧
  If (decide ((lN : Int) ≥ limitx))
  (R (0 : Int) (2 : Int) w1_1)
  (NN t fun a_10 =>
  ∃ lP_2 : Option Addr, ∃ lN_2 : Nat, ∃ lC_2 : Nat, w1_1.cell? (a_10.add 5) = some (.slice lP_2 lN_2 lC_2) ∧
  BSl Try.prog 70 1 [(0, .agg #[.string namex, .bool true, .bool false])] w1_1 fun t38P t38N t38C w1_6 =>
  App Try.prog #[70, 70] 70 #[.slice lP_2 lN_2 lC_2, .slice t38P t38N t38C] w1_6 fun t39P t39N t39C w1_7 =>
  NN t fun a_11 =>
  St w1_7 ((a_11.add 5).add 0) (.slice t39P t39N t39C) fun w1_8 =>
  F_atom_Table_Intern_k1 t namex R (lN : Int) w1_8)))))

def G_atom_Table_Intern : Gen where
  loop := lookL []
  plan := fun _ => none

theorem loops_atom_Table_Intern : LoopOk Try.prog Try.f18.ntmps G_atom_Table_Intern (codeOf Try.f18) := loopOk_none fun _ => rfl

theorem den_atom_Table_Intern (t : Option Addr) (namex : ByteArray) (w : World) (R : Value → World → Prop) :
    F_atom_Table_Intern t namex w (fun r0 r1 w1 => R (.tuple #[.int .i64 r0, .int .i64 r1]) w1) = den Try.prog Try.f18.ntmps G_atom_Table_Intern (codeOf Try.f18) [] (postD Try.prog Try.f18.results.toList R) (entry [.pointer t, .string namex] 0) w := by kernel_rfl

theorem C_atom_Table_Intern.of {t : Option Addr} {namex : ByteArray} {w : World} {R : Int → Int → World → Prop} (h : F_atom_Table_Intern t namex w R) : C_atom_Table_Intern t namex w R := by
  refine (calls_of_den (c := codeOf Try.f18) seat_ok seat_mixed Try.func18 (by kernel_rfl) loops_atom_Table_Intern (args := [.pointer t, .string namex]) rfl (R := fun v w1 => ∃ (r0 : Int) (r1 : Int), v = (.tuple #[.int .i64 r0, .int .i64 r1] : Value) ∧ R r0 r1 w1) ?_).mono ?_
  · rw [← den_atom_Table_Intern]
    have e : (fun r0 r1 w1 => ∃ (r0' : Int) (r1' : Int), (.tuple #[.int .i64 r0, .int .i64 r1] : Value) = (.tuple #[.int .i64 r0', .int .i64 r1'] : Value) ∧ R r0' r1' w1) = R := by
      funext r0 r1 w1
      exact propext ⟨fun ⟨r0', r1', he, h⟩ => by simp at he; simp_all, fun h => ⟨_, _, rfl, h⟩⟩
    simpa only [e] using h
  · rintro en w1 ⟨v, he, r0, r1, rfl, h⟩
    exact ⟨_, _, he, h⟩

def F_atom_Table_Mark (t : Option Addr) (idx : Int) (w : World) (R : Int → World → Prop) : Prop :=
  C_atom_Table_may t idx w fun t8 w1 =>
  If (t8 != (0 : Int))
  (R t8 w1)
  (NN t fun a =>
  ∃ lP : Option Addr, ∃ lN : Nat, ∃ lC : Nat, w1.cell? (a.add 5) = some (.slice lP lN lC) ∧
  0 ≤ idx ∧ idx < (lN : Int) ∧ NN lP fun a_1 =>
  St w1 (((a_1.add (idx.toNat * 3)).add 2).add 0) (.bool true) fun w1_1 =>
  R (0 : Int) w1_1)

def G_atom_Table_Mark : Gen where
  loop := lookL []
  plan := fun _ => none

theorem loops_atom_Table_Mark : LoopOk Try.prog Try.f19.ntmps G_atom_Table_Mark (codeOf Try.f19) := loopOk_none fun _ => rfl

theorem den_atom_Table_Mark (t : Option Addr) (idx : Int) (w : World) (R : Value → World → Prop) :
    F_atom_Table_Mark t idx w (fun r w1 => R (.int .i64 r) w1) = den Try.prog Try.f19.ntmps G_atom_Table_Mark (codeOf Try.f19) [] (postD Try.prog Try.f19.results.toList R) (entry [.pointer t, .int .i64 idx] 0) w := by kernel_rfl

theorem C_atom_Table_Mark.of {t : Option Addr} {idx : Int} {w : World} {R : Int → World → Prop} (h : F_atom_Table_Mark t idx w R) : C_atom_Table_Mark t idx w R := by
  refine (calls_of_den (c := codeOf Try.f19) seat_ok seat_mixed Try.func19 (by kernel_rfl) loops_atom_Table_Mark (args := [.pointer t, .int .i64 idx]) rfl (R := fun v w1 => ∃ (r : Int), v = (.int .i64 r : Value) ∧ R r w1) ?_).mono ?_
  · rw [← den_atom_Table_Mark]
    have e : (fun r w1 => ∃ (r' : Int), (.int .i64 r : Value) = (.int .i64 r' : Value) ∧ R r' w1) = R := by
      funext r w1
      exact propext ⟨fun ⟨r', he, h⟩ => by simp at he; simp_all, fun h => ⟨_, rfl, h⟩⟩
    simpa only [e] using h
  · rintro en w1 ⟨v, he, r, rfl, h⟩
    exact ⟨_, he, h⟩

structure S_atom_Table_Sweep_L1 where
  n : Int
  t14 : Int

def F_atom_Table_Sweep_k2 (s : S_atom_Table_Sweep_L1) (Kn : S_atom_Table_Sweep_L1 → World → Prop) (a_2 : Addr) (n_2 : Int) (w1_10 : World) : Prop :=
  NN (some (a_2.add ((s.t14 : Int).toNat * 3))) fun a_10 =>
  St w1_10 ((a_10.add 2).add 0) (.bool false) fun w1_11 =>
  Kn ⟨n_2, (IntKind.i64.wrap ((s.t14 : Int) + (1 : Int)))⟩ w1_11

def F_atom_Table_Sweep_k1 (s : S_atom_Table_Sweep_L1) (Kn : S_atom_Table_Sweep_L1 → World → Prop) (a_2 : Addr) (w1_9 : World) : Prop :=
  F_atom_Table_Sweep_k2 s Kn a_2 (s.n : Int) w1_9

/-- One round. -/
def B_atom_Table_Sweep_L1 (t_1 : Option Addr) (t13 : Int) (s : S_atom_Table_Sweep_L1) (w : World) (Kn : S_atom_Table_Sweep_L1 → World → Prop) (Kx0 : Int → World → Prop) : Prop :=
  If (decide ((s.t14 : Int) < t13))
  (NN t_1 fun a_1 =>
  ∃ lP_1 : Option Addr, ∃ lN_1 : Nat, ∃ lC_1 : Nat, w.cell? (a_1.add 5) = some (.slice lP_1 lN_1 lC_1) ∧
  0 ≤ (s.t14 : Int) ∧ (s.t14 : Int) < (lN_1 : Int) ∧ NN lP_1 fun a_2 =>
  NN (some (a_2.add ((s.t14 : Int).toNat * 3))) fun a_3 =>
  ∃ isx : Bool, w.cell? (a_3.add 1) = some (.bool isx) ∧
  If isx
  (NN (some (a_2.add ((s.t14 : Int).toNat * 3))) fun a_4 =>
  ∃ mark : Bool, w.cell? (a_4.add 2) = some (.bool mark) ∧
  If (!mark)
  (C_atom_Reserved  w fun t36P t36N t36C w1_1 =>
  If (decide ((s.t14 : Int) ≥ (t36N : Int)))
  (NN t_1 fun a_5 =>
  ∃ ids : Option Nat, (drw w1_1).cell? (a_5.add 6) = some (.map ids) ∧
  NN (some (a_2.add ((s.t14 : Int).toNat * 3))) fun a_6 =>
  ∃ namex : ByteArray, (drw w1_1).cell? (a_6.add 0) = some (.string namex) ∧
  Del Try.prog #[71, 9] 0 #[.map ids, .string namex] (drw w1_1) fun v w1_2 =>
  NN (some (a_2.add ((s.t14 : Int).toNat * 3))) fun a_7 =>
  St w1_2 (a_7.add 0) (.string ⟨#[]⟩) fun w1_3 =>
  St w1_3 (a_7.add 1) (.bool false) fun w1_4 =>
  St w1_4 (a_7.add 2) (.bool false) fun w1_5 =>
  NN t_1 fun a_8 =>
  ∃ freeP : Option Addr, ∃ freeN : Nat, ∃ freeC : Nat, w1_5.cell? (a_8.add 7) = some (.slice freeP freeN freeC) ∧
  BSl Try.prog 42 1 [(0, .int .i64 s.t14)] w1_5 fun t57P t57N t57C w1_6 =>
  App Try.prog #[42, 42] 42 #[.slice freeP freeN freeC, .slice t57P t57N t57C] w1_6 fun t58P t58N t58C w1_7 =>
  NN t_1 fun a_9 =>
  St w1_7 ((a_9.add 7).add 0) (.slice t58P t58N t58C) fun w1_8 =>
  F_atom_Table_Sweep_k2 s Kn a_2 (IntKind.i64.wrap ((s.n : Int) + (1 : Int))) w1_8)
  (F_atom_Table_Sweep_k2 s Kn a_2 (s.n : Int) w1_1))
  (F_atom_Table_Sweep_k1 s Kn a_2 w))
  (F_atom_Table_Sweep_k1 s Kn a_2 w))
  (Kx0 (s.n : Int) w)

def F_atom_Table_Sweep_L1 (t_1 : Option Addr) (t13 : Int) (s : S_atom_Table_Sweep_L1) (w : World) (Kx0 : Int → World → Prop) : Prop :=
  LoopS (fun s w Kn => B_atom_Table_Sweep_L1 t_1 t13 s w Kn Kx0) s w

def F_atom_Table_Sweep (t : Option Addr) (w : World) (R : Int → World → Prop) : Prop :=
  C_atom_Table_ready t w fun t7 w1 =>
  If (!t7)
  (R (0 : Int) w1)
  (NN t fun a =>
  ∃ lP : Option Addr, ∃ lN : Nat, ∃ lC : Nat, w1.cell? (a.add 5) = some (.slice lP lN lC) ∧
  F_atom_Table_Sweep_L1 t (lN : Int) ⟨(0 : Int), (0 : Int)⟩ w1
  (fun n_3 w1_12 =>
  NN t fun a_11 =>
  ∃ freeP_1 : Option Addr, ∃ freeN_1 : Nat, ∃ freeC_1 : Nat, w1_12.cell? (a_11.add 7) = some (.slice freeP_1 freeN_1 freeC_1) ∧
  C_slices_Sort freeP_1 freeN_1 freeC_1 w1_12 fun w1_13 =>
  R n_3 w1_13))

def lit_atom_Table_Sweep_L1 (f : (Option Addr) × Int) (s : S_atom_Table_Sweep_L1) : Env := [⟨0, .pointer f.1, none⟩, ⟨13, .int .i64 f.2, none⟩, ⟨3, .int .i64 s.n, none⟩, ⟨14, .int .i64 s.t14, none⟩]

def dec_atom_Table_Sweep_L1 (e : Env) (K : ((Option Addr) × Int) → S_atom_Table_Sweep_L1 → Prop) : Prop :=
  onV (getV e 0) fun u1 =>
  asP u1 fun t_1 =>
  onV (getV e 13) fun u2 =>
  asI .i64 u2 fun t13 =>
  onV (getV e 3) fun u3 =>
  asI .i64 u3 fun n =>
  onV (getV e 14) fun u4 =>
  asI .i64 u4 fun t14 =>
    K (t_1, t13) ⟨n, t14⟩

theorem dec_atom_Table_Sweep_L1_ok {N : Nat} (e : Env) (a : Act) (K : ((Option Addr) × Int) → S_atom_Table_Sweep_L1 → Prop) (hr : Rep N a e) (h0 : dec_atom_Table_Sweep_L1 e K) : ∃ f s, K f s ∧ Rep N a (lit_atom_Table_Sweep_L1 f s) := by
  unfold dec_atom_Table_Sweep_L1 at h0
  obtain ⟨u1, g0, h1⟩ := onV_elim h0
  obtain ⟨t_1, rfl, h2⟩ := asP_elim h1
  obtain ⟨u2, g13, h3⟩ := onV_elim h2
  obtain ⟨t13, rfl, h4⟩ := asI_elim h3
  obtain ⟨u3, g3, h5⟩ := onV_elim h4
  obtain ⟨n, rfl, h6⟩ := asI_elim h5
  obtain ⟨u4, g14, h7⟩ := onV_elim h6
  obtain ⟨t14, rfl, h8⟩ := asI_elim h7
  exact ⟨_, _, h8, rep_less hr (by simp [lit_atom_Table_Sweep_L1, g0, g13, g3, g14])⟩

def spec_atom_Table_Sweep_L1 (Q : Post) (e : Env) (w : World) : Prop :=
  dec_atom_Table_Sweep_L1 e fun f s => F_atom_Table_Sweep_L1 f.1 f.2 s w (fun n_1 w1 => Q (.exit 0) [⟨0, .pointer f.1, none⟩, ⟨3, .int .i64 n_1, none⟩] w1)

def G_atom_Table_Sweep : Gen where
  loop := lookL [([false, true, false, true, true, true], spec_atom_Table_Sweep_L1)]
  plan := fun id =>
    bif Nat.beq id 9 then some ([0, 1, 3, 7, 0, 16, 48, 112, 255], .take 0 (.take 1 (.take 2 (.take 3 (.take 4 (.take 5 (.take 6 (.take 7 (.take 8 .done))))))))) else none

def dx_atom_Table_Sweep_L1_0 (e : Env) (K : ((Option Addr) × Int) → Int → Prop) : Prop :=
  onV (getV e 0) fun u1 =>
  asP u1 fun t_1 =>
  onV (getV e 13) fun u2 =>
  asI .i64 u2 fun t13 =>
  onV (getV e 3) fun u3 =>
  asI .i64 u3 fun n_1 =>
    K (t_1, t13) n_1

theorem body_atom_Table_Sweep_L1 (f : (Option Addr) × Int) (s : S_atom_Table_Sweep_L1) (w : World) (Kn : ((Option Addr) × Int) → S_atom_Table_Sweep_L1 → World → Prop) (Kx0 : ((Option Addr) × Int) → Int → World → Prop) :
    B_atom_Table_Sweep_L1 f.1 f.2 s w (fun s1 w1 => Kn f s1 w1) (fun n_1 w1 => Kx0 f n_1 w1) =
    den Try.prog Try.f20.ntmps G_atom_Table_Sweep (sub (codeOf Try.f20) [false, false, true, false, true, true, true]) [false, false, true, false, true, true, true] (roundQ (fun e w => dec_atom_Table_Sweep_L1 e fun f s => Kn f s w) (fun e w => False) (fun id e w => match Nat.beq id 0 with | true => dx_atom_Table_Sweep_L1_0 e fun f n_1 => Kx0 f n_1 w | false => False)) (lit_atom_Table_Sweep_L1 f s) w := by kernel_rfl

theorem ok_atom_Table_Sweep_L1 : OneOk Try.prog Try.f20.ntmps G_atom_Table_Sweep (codeOf Try.f20) [false, true, false, true, true, true] spec_atom_Table_Sweep_L1 := by
  intro c hc ih Q e w a hr h
  have hcc : sub (codeOf Try.f20) [false, false, true, false, true, true, true] = c := sub_of_codeAt hc
  obtain ⟨f, s, h, hrep⟩ := dec_atom_Table_Sweep_L1_ok e a _ hr h
  obtain ⟨J, μ, hj, hround⟩ := h
  refine loop_rule_deep seat_ok seat_mixed ih lit_atom_Table_Sweep_L1 dec_atom_Table_Sweep_L1 dec_atom_Table_Sweep_L1_ok hc f J μ (Kr := fun e w => False) (Kx := fun id e w => match Nat.beq id 0 with | true => (dx_atom_Table_Sweep_L1_0 e fun f1 n_1 => f1 = f ∧ Q (.exit 0) [⟨0, .pointer f.1, none⟩, ⟨3, .int .i64 n_1, none⟩] w) | false => False) ?_ ?_ ?_ s w a hj hrep
  · intro e a w hr h
    exact h.elim
  · intro id e a w hr h0
    (try dsimp only at h0)
    split at h0
    · rename_i hid
      obtain rfl := Nat.eq_of_beq_eq_true hid
      unfold dx_atom_Table_Sweep_L1_0 at h0
      obtain ⟨u1, g0, h1⟩ := onV_elim h0
      obtain ⟨t_1, rfl, h2⟩ := asP_elim h1
      obtain ⟨u2, g13, h3⟩ := onV_elim h2
      obtain ⟨t13, rfl, h4⟩ := asI_elim h3
      obtain ⟨u3, g3, h5⟩ := onV_elim h4
      obtain ⟨n_1, rfl, h6⟩ := asI_elim h5
      obtain ⟨hf, hq⟩ := h6
      subst hf
      exact ⟨_, rep_less hr (by simp [g0, g3]), hq⟩
    · exact h0.elim
  · intro s w hj
    have hb := hround s w hj
    rw [← hcc]
    have e1 := body_atom_Table_Sweep_L1 f s w (fun f1 s1 w1 => f1 = f ∧ J s1 w1 ∧ μ s1 w1 < μ s w) (fun f1 n_1 w1 => f1 = f ∧ Q (.exit 0) [⟨0, .pointer f.1, none⟩, ⟨3, .int .i64 n_1, none⟩] w1)
    simp only [true_and] at e1
    exact cast e1 hb

theorem loops_atom_Table_Sweep : LoopOk Try.prog Try.f20.ntmps G_atom_Table_Sweep (codeOf Try.f20) := loopOk_list rfl ⟨ok_atom_Table_Sweep_L1, trivial⟩

theorem den_atom_Table_Sweep (t : Option Addr) (w : World) (R : Value → World → Prop) :
    F_atom_Table_Sweep t w (fun r w1 => R (.int .i64 r) w1) = den Try.prog Try.f20.ntmps G_atom_Table_Sweep (codeOf Try.f20) [] (postD Try.prog Try.f20.results.toList R) (entry [.pointer t] 0) w := by kernel_rfl

theorem C_atom_Table_Sweep.of {t : Option Addr} {w : World} {R : Int → World → Prop} (h : F_atom_Table_Sweep t w R) : C_atom_Table_Sweep t w R := by
  refine (calls_of_den (c := codeOf Try.f20) seat_ok seat_mixed Try.func20 (by kernel_rfl) loops_atom_Table_Sweep (args := [.pointer t]) rfl (R := fun v w1 => ∃ (r : Int), v = (.int .i64 r : Value) ∧ R r w1) ?_).mono ?_
  · rw [← den_atom_Table_Sweep]
    have e : (fun r w1 => ∃ (r' : Int), (.int .i64 r : Value) = (.int .i64 r' : Value) ∧ R r' w1) = R := by
      funext r w1
      exact propext ⟨fun ⟨r', he, h⟩ => by simp at he; simp_all, fun h => ⟨_, rfl, h⟩⟩
    simpa only [e] using h
  · rintro en w1 ⟨v, he, r, rfl, h⟩
    exact ⟨_, he, h⟩

def F_atom_Table_Name (t : Option Addr) (idx : Int) (w : World) (R : ByteArray → Int → World → Prop) : Prop :=
  C_atom_Table_may t idx w fun t9 w1 =>
  If (t9 != (0 : Int))
  (R ⟨#[]⟩ t9 w1)
  (NN t fun a =>
  ∃ lP : Option Addr, ∃ lN : Nat, ∃ lC : Nat, w1.cell? (a.add 5) = some (.slice lP lN lC) ∧
  0 ≤ idx ∧ idx < (lN : Int) ∧ NN lP fun a_1 =>
  ∃ namex : ByteArray, w1.cell? ((a_1.add (idx.toNat * 3)).add 0) = some (.string namex) ∧
  R namex (0 : Int) w1)

def G_atom_Table_Name : Gen where
  loop := lookL []
  plan := fun _ => none

theorem loops_atom_Table_Name : LoopOk Try.prog Try.f21.ntmps G_atom_Table_Name (codeOf Try.f21) := loopOk_none fun _ => rfl

theorem den_atom_Table_Name (t : Option Addr) (idx : Int) (w : World) (R : Value → World → Prop) :
    F_atom_Table_Name t idx w (fun r0 r1 w1 => R (.tuple #[.string r0, .int .i64 r1]) w1) = den Try.prog Try.f21.ntmps G_atom_Table_Name (codeOf Try.f21) [] (postD Try.prog Try.f21.results.toList R) (entry [.pointer t, .int .i64 idx] 0) w := by kernel_rfl

theorem C_atom_Table_Name.of {t : Option Addr} {idx : Int} {w : World} {R : ByteArray → Int → World → Prop} (h : F_atom_Table_Name t idx w R) : C_atom_Table_Name t idx w R := by
  refine (calls_of_den (c := codeOf Try.f21) seat_ok seat_mixed Try.func21 (by kernel_rfl) loops_atom_Table_Name (args := [.pointer t, .int .i64 idx]) rfl (R := fun v w1 => ∃ (r0 : ByteArray) (r1 : Int), v = (.tuple #[.string r0, .int .i64 r1] : Value) ∧ R r0 r1 w1) ?_).mono ?_
  · rw [← den_atom_Table_Name]
    have e : (fun r0 r1 w1 => ∃ (r0' : ByteArray) (r1' : Int), (.tuple #[.string r0, .int .i64 r1] : Value) = (.tuple #[.string r0', .int .i64 r1'] : Value) ∧ R r0' r1' w1) = R := by
      funext r0 r1 w1
      exact propext ⟨fun ⟨r0', r1', he, h⟩ => by simp at he; simp_all, fun h => ⟨_, _, rfl, h⟩⟩
    simpa only [e] using h
  · rintro en w1 ⟨v, he, r0, r1, rfl, h⟩
    exact ⟨_, _, he, h⟩

def F_atom_Table_Find (t : Option Addr) (namex : ByteArray) (w : World) (R : Int → Bool → World → Prop) : Prop :=
  C_atom_Table_ready t w fun t9 w1 =>
  If (!t9)
  (R (0 : Int) false w1)
  (NN t fun a =>
  ∃ ids : Option Nat, w1.cell? (a.add 6) = some (.map ids) ∧
  Run Try.prog (Instr.lookup 71 (.map ids) (.string namex) true) w1 fun v w1_1 => ∃ t170 : Int, ∃ t171 : Bool, v = (.tuple #[.int .i64 t170, .bool t171]) ∧
  R t170 t171 w1_1)

def G_atom_Table_Find : Gen where
  loop := lookL []
  plan := fun _ => none

theorem loops_atom_Table_Find : LoopOk Try.prog Try.f22.ntmps G_atom_Table_Find (codeOf Try.f22) := loopOk_none fun _ => rfl

theorem den_atom_Table_Find (t : Option Addr) (namex : ByteArray) (w : World) (R : Value → World → Prop) :
    F_atom_Table_Find t namex w (fun r0 r1 w1 => R (.tuple #[.int .i64 r0, .bool r1]) w1) = den Try.prog Try.f22.ntmps G_atom_Table_Find (codeOf Try.f22) [] (postD Try.prog Try.f22.results.toList R) (entry [.pointer t, .string namex] 0) w := by kernel_rfl

theorem C_atom_Table_Find.of {t : Option Addr} {namex : ByteArray} {w : World} {R : Int → Bool → World → Prop} (h : F_atom_Table_Find t namex w R) : C_atom_Table_Find t namex w R := by
  refine (calls_of_den (c := codeOf Try.f22) seat_ok seat_mixed Try.func22 (by kernel_rfl) loops_atom_Table_Find (args := [.pointer t, .string namex]) rfl (R := fun v w1 => ∃ (r0 : Int) (r1 : Bool), v = (.tuple #[.int .i64 r0, .bool r1] : Value) ∧ R r0 r1 w1) ?_).mono ?_
  · rw [← den_atom_Table_Find]
    have e : (fun r0 r1 w1 => ∃ (r0' : Int) (r1' : Bool), (.tuple #[.int .i64 r0, .bool r1] : Value) = (.tuple #[.int .i64 r0', .bool r1'] : Value) ∧ R r0' r1' w1) = R := by
      funext r0 r1 w1
      exact propext ⟨fun ⟨r0', r1', he, h⟩ => by simp at he; simp_all, fun h => ⟨_, _, rfl, h⟩⟩
    simpa only [e] using h
  · rintro en w1 ⟨v, he, r0, r1, rfl, h⟩
    exact ⟨_, _, he, h⟩

def F_atom_Reserved (w : World) (R : Option Addr → Nat → Nat → World → Prop) : Prop :=
  BSl Try.prog 41 15 [(0, .string ⟨#[91, 93]⟩), (1, .string ⟨#[46]⟩), (2, .string ⟨#[123, 125]⟩), (3, .string ⟨#[45]⟩), (4, .string ⟨#[44]⟩), (5, .string ⟨#[59]⟩), (6, .string ⟨#[45, 62]⟩), (7, .string ⟨#[58, 45]⟩), (8, .string ⟨#[124]⟩), (9, .string ⟨#[33]⟩), (10, .string ⟨#[92, 43]⟩), (11, .string ⟨#[116, 114, 117, 101]⟩), (12, .string ⟨#[102, 97, 105, 108]⟩), (13, .string ⟨#[99, 97, 108, 108]⟩), (14, .string ⟨#[101, 114, 114, 111, 114]⟩)] w fun t1P t1N t1C w1 =>
  R t1P t1N t1C w1

def G_atom_Reserved : Gen where
  loop := lookL []
  plan := fun _ => none

theorem loops_atom_Reserved : LoopOk Try.prog Try.f23.ntmps G_atom_Reserved (codeOf Try.f23) := loopOk_none fun _ => rfl

theorem den_atom_Reserved  (w : World) (R : Value → World → Prop) :
    F_atom_Reserved w (fun rP rN rC w1 => R (.slice rP rN rC) w1) = den Try.prog Try.f23.ntmps G_atom_Reserved (codeOf Try.f23) [] (postD Try.prog Try.f23.results.toList R) (entry [] 0) w := by kernel_rfl

theorem C_atom_Reserved.of {w : World} {R : Option Addr → Nat → Nat → World → Prop} (h : F_atom_Reserved w R) : C_atom_Reserved w R := by
  refine (calls_of_den (c := codeOf Try.f23) seat_ok seat_mixed Try.func23 (by kernel_rfl) loops_atom_Reserved (args := []) rfl (R := fun v w1 => ∃ (rP : Option Addr) (rN : Nat) (rC : Nat), v = (.slice rP rN rC : Value) ∧ R rP rN rC w1) ?_).mono ?_
  · rw [← den_atom_Reserved]
    have e : (fun rP rN rC w1 => ∃ (rP' : Option Addr) (rN' : Nat) (rC' : Nat), (.slice rP rN rC : Value) = (.slice rP' rN' rC' : Value) ∧ R rP' rN' rC' w1) = R := by
      funext rP rN rC w1
      exact propext ⟨fun ⟨rP', rN', rC', he, h⟩ => by simp at he; simp_all, fun h => ⟨_, _, _, rfl, h⟩⟩
    simpa only [e] using h
  · rintro en w1 ⟨v, he, rP, rN, rC, rfl, h⟩
    exact ⟨_, _, _, he, h⟩

def F_ref04_Reserved (w : World) (R : Option Addr → Nat → Nat → World → Prop) : Prop :=
  BSl Try.prog 41 15 [(0, .string ⟨#[91, 93]⟩), (1, .string ⟨#[46]⟩), (2, .string ⟨#[123, 125]⟩), (3, .string ⟨#[45]⟩), (4, .string ⟨#[44]⟩), (5, .string ⟨#[59]⟩), (6, .string ⟨#[45, 62]⟩), (7, .string ⟨#[58, 45]⟩), (8, .string ⟨#[124]⟩), (9, .string ⟨#[33]⟩), (10, .string ⟨#[92, 43]⟩), (11, .string ⟨#[116, 114, 117, 101]⟩), (12, .string ⟨#[102, 97, 105, 108]⟩), (13, .string ⟨#[99, 97, 108, 108]⟩), (14, .string ⟨#[101, 114, 114, 111, 114]⟩)] w fun t1P t1N t1C w1 =>
  R t1P t1N t1C w1

def G_ref04_Reserved : Gen where
  loop := lookL []
  plan := fun _ => none

theorem loops_ref04_Reserved : LoopOk Try.prog Try.f24.ntmps G_ref04_Reserved (codeOf Try.f24) := loopOk_none fun _ => rfl

theorem den_ref04_Reserved  (w : World) (R : Value → World → Prop) :
    F_ref04_Reserved w (fun rP rN rC w1 => R (.slice rP rN rC) w1) = den Try.prog Try.f24.ntmps G_ref04_Reserved (codeOf Try.f24) [] (postD Try.prog Try.f24.results.toList R) (entry [] 0) w := by kernel_rfl

theorem C_ref04_Reserved.of {w : World} {R : Option Addr → Nat → Nat → World → Prop} (h : F_ref04_Reserved w R) : C_ref04_Reserved w R := by
  refine (calls_of_den (c := codeOf Try.f24) seat_ok seat_mixed Try.func24 (by kernel_rfl) loops_ref04_Reserved (args := []) rfl (R := fun v w1 => ∃ (rP : Option Addr) (rN : Nat) (rC : Nat), v = (.slice rP rN rC : Value) ∧ R rP rN rC w1) ?_).mono ?_
  · rw [← den_ref04_Reserved]
    have e : (fun rP rN rC w1 => ∃ (rP' : Option Addr) (rN' : Nat) (rC' : Nat), (.slice rP rN rC : Value) = (.slice rP' rN' rC' : Value) ∧ R rP' rN' rC' w1) = R := by
      funext rP rN rC w1
      exact propext ⟨fun ⟨rP', rN', rC', he, h⟩ => by simp at he; simp_all, fun h => ⟨_, _, _, rfl, h⟩⟩
    simpa only [e] using h
  · rintro en w1 ⟨v, he, rP, rN, rC, rfl, h⟩
    exact ⟨_, _, _, he, h⟩

structure S_ref04_Table_Intern_L1 where
  i : Int

/-- One round. -/
def B_ref04_Table_Intern_L1 (t_1 : Option Addr) (namex_1 : ByteArray) (s : S_ref04_Table_Intern_L1) (w : World) (Kn : S_ref04_Table_Intern_L1 → World → Prop) (Kx0 : World → Prop) (Kr : Int → Int → World → Prop) : Prop :=
  NN t_1 fun a =>
  ∃ LP : Option Addr, ∃ LN : Nat, ∃ LC : Nat, w.cell? (a.add 0) = some (.slice LP LN LC) ∧
  If (decide ((s.i : Int) < (LN : Int)))
  (NN t_1 fun a_1 =>
  ∃ LP_1 : Option Addr, ∃ LN_1 : Nat, ∃ LC_1 : Nat, w.cell? (a_1.add 0) = some (.slice LP_1 LN_1 LC_1) ∧
  0 ≤ (s.i : Int) ∧ (s.i : Int) < (LN_1 : Int) ∧ NN LP_1 fun a_2 =>
  ∃ Is : Bool, w.cell? ((a_2.add ((s.i : Int).toNat * 3)).add 1) = some (.bool Is) ∧
  If (!Is)
  (NN t_1 fun a_3 =>
  ∃ LP_2 : Option Addr, ∃ LN_2 : Nat, ∃ LC_2 : Nat, w.cell? (a_3.add 0) = some (.slice LP_2 LN_2 LC_2) ∧
  0 ≤ (s.i : Int) ∧ (s.i : Int) < (LN_2 : Int) ∧ NN LP_2 fun a_4 =>
  St w ((a_4.add ((s.i : Int).toNat * 3)).add 0) (.string namex_1) fun w1_1 =>
  St w1_1 ((a_4.add ((s.i : Int).toNat * 3)).add 1) (.bool true) fun w1_2 =>
  St w1_2 ((a_4.add ((s.i : Int).toNat * 3)).add 2) (.bool false) fun w1_3 =>
  NN t_1 fun a_5 =>
  ∃ Made : Int, w1_3.cell? (a_5.add 2) = some (.int .i64 Made) ∧
  NN t_1 fun a_6 =>
  St w1_3 ((a_6.add 2).add 0) (.int .i64 (IntKind.i64.wrap (Made + (1 : Int)))) fun w1_4 =>
  Kr (s.i : Int) (0 : Int) w1_4)
  (Kn ⟨(IntKind.i64.wrap ((s.i : Int) + (1 : Int)))⟩ w))
  (Kx0 w)

def F_ref04_Table_Intern_L1 (t_1 : Option Addr) (namex_1 : ByteArray) (s : S_ref04_Table_Intern_L1) (w : World) (Kx0 : World → Prop) (Kr : Int → Int → World → Prop) : Prop :=
  LoopS (fun s w Kn => B_ref04_Table_Intern_L1 t_1 namex_1 s w Kn Kx0 Kr) s w

def F_ref04_Table_Intern (t : Option Addr) (namex : ByteArray) (w : World) (R : Int → Int → World → Prop) : Prop :=
  If (decide ((namex.size : Int) > (64 : Int)))
  (R (0 : Int) (3 : Int) w)
  (C_ref04_Table_Find t namex w fun t13 w1 =>
  If (decide (t13 ≥ (0 : Int)))
  (R t13 (0 : Int) w1)
  (F_ref04_Table_Intern_L1 t namex ⟨(0 : Int)⟩ w1
  (fun w1_5 =>
  NN t fun a_7 =>
  ∃ LP_3 : Option Addr, ∃ LN_3 : Nat, ∃ LC_3 : Nat, (drw w1_5).cell? (a_7.add 0) = some (.slice LP_3 LN_3 LC_3) ∧
  NN t fun a_8 =>
  ∃ Limit : Int, (drw w1_5).cell? (a_8.add 1) = some (.int .i64 Limit) ∧
  If (decide ((LN_3 : Int) ≥ Limit))
  (R (0 : Int) (2 : Int) (drw w1_5))
  (NN t fun a_9 =>
  ∃ LP_4 : Option Addr, ∃ LN_4 : Nat, ∃ LC_4 : Nat, (drw w1_5).cell? (a_9.add 0) = some (.slice LP_4 LN_4 LC_4) ∧
  BSl Try.prog 34 1 [(0, .agg #[.string namex, .bool true, .bool false])] (drw w1_5) fun t68P t68N t68C w1_7 =>
  App Try.prog #[34, 34] 34 #[.slice LP_4 LN_4 LC_4, .slice t68P t68N t68C] w1_7 fun t69P t69N t69C w1_8 =>
  NN t fun a_10 =>
  St w1_8 ((a_10.add 0).add 0) (.slice t69P t69N t69C) fun w1_9 =>
  NN t fun a_11 =>
  ∃ Made_1 : Int, w1_9.cell? (a_11.add 2) = some (.int .i64 Made_1) ∧
  NN t fun a_12 =>
  St w1_9 ((a_12.add 2).add 0) (.int .i64 (IntKind.i64.wrap (Made_1 + (1 : Int)))) fun w1_10 =>
  NN t fun a_13 =>
  ∃ LP_5 : Option Addr, ∃ LN_5 : Nat, ∃ LC_5 : Nat, w1_10.cell? (a_13.add 0) = some (.slice LP_5 LN_5 LC_5) ∧
  R (IntKind.i64.wrap ((LN_5 : Int) - (1 : Int))) (0 : Int) w1_10))
  (fun t4_1 t5_1 w1_6 =>
  R t4_1 t5_1 w1_6)))

def lit_ref04_Table_Intern_L1 (f : (Option Addr) × ByteArray) (s : S_ref04_Table_Intern_L1) : Env := [⟨0, .pointer f.1, none⟩, ⟨1, .string f.2, none⟩, ⟨7, .int .i64 s.i, none⟩]

def dec_ref04_Table_Intern_L1 (e : Env) (K : ((Option Addr) × ByteArray) → S_ref04_Table_Intern_L1 → Prop) : Prop :=
  onV (getV e 0) fun u1 =>
  asP u1 fun t_1 =>
  onV (getV e 1) fun u2 =>
  asT u2 fun namex_1 =>
  onV (getV e 7) fun u3 =>
  asI .i64 u3 fun i =>
    K (t_1, namex_1) ⟨i⟩

theorem dec_ref04_Table_Intern_L1_ok {N : Nat} (e : Env) (a : Act) (K : ((Option Addr) × ByteArray) → S_ref04_Table_Intern_L1 → Prop) (hr : Rep N a e) (h0 : dec_ref04_Table_Intern_L1 e K) : ∃ f s, K f s ∧ Rep N a (lit_ref04_Table_Intern_L1 f s) := by
  unfold dec_ref04_Table_Intern_L1 at h0
  obtain ⟨u1, g0, h1⟩ := onV_elim h0
  obtain ⟨t_1, rfl, h2⟩ := asP_elim h1
  obtain ⟨u2, g1, h3⟩ := onV_elim h2
  obtain ⟨namex_1, rfl, h4⟩ := asT_elim h3
  obtain ⟨u3, g7, h5⟩ := onV_elim h4
  obtain ⟨i, rfl, h6⟩ := asI_elim h5
  exact ⟨_, _, h6, rep_less hr (by simp [lit_ref04_Table_Intern_L1, g0, g1, g7])⟩

def spec_ref04_Table_Intern_L1 (Q : Post) (e : Env) (w : World) : Prop :=
  dec_ref04_Table_Intern_L1 e fun f s => F_ref04_Table_Intern_L1 f.1 f.2 s w (fun w1 => Q (.exit 0) [⟨0, .pointer f.1, none⟩, ⟨1, .string f.2, none⟩] w1) (fun t4 t5 w1 => Q .ret [⟨4, .int .i64 t4, none⟩, ⟨5, .int .i64 t5, none⟩] w1)

def G_ref04_Table_Intern : Gen where
  loop := lookL [([false, true, false, true, true, true], spec_ref04_Table_Intern_L1)]
  plan := fun id =>
    bif Nat.beq id 13 then some ([0, 1, 3, 7, 15, 0, 32, 96, 224, 511], .take 0 (.take 1 (.take 2 (.take 3 (.take 4 (.take 5 (.take 6 (.take 7 (.take 8 (.take 9 .done)))))))))) else none

def dx_ref04_Table_Intern_L1_0 (e : Env) (K : ((Option Addr) × ByteArray) → Prop) : Prop :=
  onV (getV e 0) fun u1 =>
  asP u1 fun t_1 =>
  onV (getV e 1) fun u2 =>
  asT u2 fun namex_1 =>
    K (t_1, namex_1)

def dx_ref04_Table_Intern_L1_ret (e : Env) (K : ((Option Addr) × ByteArray) → Int → Int → Prop) : Prop :=
  onV (getV e 0) fun u1 =>
  asP u1 fun t_1 =>
  onV (getV e 1) fun u2 =>
  asT u2 fun namex_1 =>
  onV (getV e 4) fun u3 =>
  asI .i64 u3 fun t4 =>
  onV (getV e 5) fun u4 =>
  asI .i64 u4 fun t5 =>
    K (t_1, namex_1) t4 t5

theorem body_ref04_Table_Intern_L1 (f : (Option Addr) × ByteArray) (s : S_ref04_Table_Intern_L1) (w : World) (Kn : ((Option Addr) × ByteArray) → S_ref04_Table_Intern_L1 → World → Prop) (Kx0 : ((Option Addr) × ByteArray) → World → Prop) (Kr : ((Option Addr) × ByteArray) → Int → Int → World → Prop) :
    B_ref04_Table_Intern_L1 f.1 f.2 s w (fun s1 w1 => Kn f s1 w1) (fun w1 => Kx0 f w1) (fun t4 t5 w1 => Kr f t4 t5 w1) =
    den Try.prog Try.f25.ntmps G_ref04_Table_Intern (sub (codeOf Try.f25) [false, false, true, false, true, true, true]) [false, false, true, false, true, true, true] (roundQ (fun e w => dec_ref04_Table_Intern_L1 e fun f s => Kn f s w) (fun e w => dx_ref04_Table_Intern_L1_ret e fun f t4 t5 => Kr f t4 t5 w) (fun id e w => match Nat.beq id 0 with | true => dx_ref04_Table_Intern_L1_0 e fun f => Kx0 f w | false => False)) (lit_ref04_Table_Intern_L1 f s) w := by kernel_rfl

theorem ok_ref04_Table_Intern_L1 : OneOk Try.prog Try.f25.ntmps G_ref04_Table_Intern (codeOf Try.f25) [false, true, false, true, true, true] spec_ref04_Table_Intern_L1 := by
  intro c hc ih Q e w a hr h
  have hcc : sub (codeOf Try.f25) [false, false, true, false, true, true, true] = c := sub_of_codeAt hc
  obtain ⟨f, s, h, hrep⟩ := dec_ref04_Table_Intern_L1_ok e a _ hr h
  obtain ⟨J, μ, hj, hround⟩ := h
  refine loop_rule_deep seat_ok seat_mixed ih lit_ref04_Table_Intern_L1 dec_ref04_Table_Intern_L1 dec_ref04_Table_Intern_L1_ok hc f J μ (Kr := fun e w => dx_ref04_Table_Intern_L1_ret e fun f1 t4 t5 => f1 = f ∧ Q .ret [⟨4, .int .i64 t4, none⟩, ⟨5, .int .i64 t5, none⟩] w) (Kx := fun id e w => match Nat.beq id 0 with | true => (dx_ref04_Table_Intern_L1_0 e fun f1 => f1 = f ∧ Q (.exit 0) [⟨0, .pointer f.1, none⟩, ⟨1, .string f.2, none⟩] w) | false => False) ?_ ?_ ?_ s w a hj hrep
  · intro e a w hr h0
    unfold dx_ref04_Table_Intern_L1_ret at h0
    obtain ⟨u1, g0, h1⟩ := onV_elim h0
    obtain ⟨t_1, rfl, h2⟩ := asP_elim h1
    obtain ⟨u2, g1, h3⟩ := onV_elim h2
    obtain ⟨namex_1, rfl, h4⟩ := asT_elim h3
    obtain ⟨u3, g4, h5⟩ := onV_elim h4
    obtain ⟨t4, rfl, h6⟩ := asI_elim h5
    obtain ⟨u4, g5, h7⟩ := onV_elim h6
    obtain ⟨t5, rfl, h8⟩ := asI_elim h7
    obtain ⟨hf, hq⟩ := h8
    subst hf
    exact ⟨_, rep_less hr (by simp [g4, g5]), hq⟩
  · intro id e a w hr h0
    (try dsimp only at h0)
    split at h0
    · rename_i hid
      obtain rfl := Nat.eq_of_beq_eq_true hid
      unfold dx_ref04_Table_Intern_L1_0 at h0
      obtain ⟨u1, g0, h1⟩ := onV_elim h0
      obtain ⟨t_1, rfl, h2⟩ := asP_elim h1
      obtain ⟨u2, g1, h3⟩ := onV_elim h2
      obtain ⟨namex_1, rfl, h4⟩ := asT_elim h3
      obtain ⟨hf, hq⟩ := h4
      subst hf
      exact ⟨_, rep_less hr (by simp [g0, g1]), hq⟩
    · exact h0.elim
  · intro s w hj
    have hb := hround s w hj
    rw [← hcc]
    have e1 := body_ref04_Table_Intern_L1 f s w (fun f1 s1 w1 => f1 = f ∧ J s1 w1 ∧ μ s1 w1 < μ s w) (fun f1 w1 => f1 = f ∧ Q (.exit 0) [⟨0, .pointer f.1, none⟩, ⟨1, .string f.2, none⟩] w1) (fun f1 t4 t5 w1 => f1 = f ∧ Q .ret [⟨4, .int .i64 t4, none⟩, ⟨5, .int .i64 t5, none⟩] w1)
    simp only [true_and] at e1
    exact cast e1 hb

theorem loops_ref04_Table_Intern : LoopOk Try.prog Try.f25.ntmps G_ref04_Table_Intern (codeOf Try.f25) := loopOk_list rfl ⟨ok_ref04_Table_Intern_L1, trivial⟩

theorem den_ref04_Table_Intern (t : Option Addr) (namex : ByteArray) (w : World) (R : Value → World → Prop) :
    F_ref04_Table_Intern t namex w (fun r0 r1 w1 => R (.tuple #[.int .i64 r0, .int .i64 r1]) w1) = den Try.prog Try.f25.ntmps G_ref04_Table_Intern (codeOf Try.f25) [] (postD Try.prog Try.f25.results.toList R) (entry [.pointer t, .string namex] 0) w := by kernel_rfl

theorem C_ref04_Table_Intern.of {t : Option Addr} {namex : ByteArray} {w : World} {R : Int → Int → World → Prop} (h : F_ref04_Table_Intern t namex w R) : C_ref04_Table_Intern t namex w R := by
  refine (calls_of_den (c := codeOf Try.f25) seat_ok seat_mixed Try.func25 (by kernel_rfl) loops_ref04_Table_Intern (args := [.pointer t, .string namex]) rfl (R := fun v w1 => ∃ (r0 : Int) (r1 : Int), v = (.tuple #[.int .i64 r0, .int .i64 r1] : Value) ∧ R r0 r1 w1) ?_).mono ?_
  · rw [← den_ref04_Table_Intern]
    have e : (fun r0 r1 w1 => ∃ (r0' : Int) (r1' : Int), (.tuple #[.int .i64 r0, .int .i64 r1] : Value) = (.tuple #[.int .i64 r0', .int .i64 r1'] : Value) ∧ R r0' r1' w1) = R := by
      funext r0 r1 w1
      exact propext ⟨fun ⟨r0', r1', he, h⟩ => by simp at he; simp_all, fun h => ⟨_, _, rfl, h⟩⟩
    simpa only [e] using h
  · rintro en w1 ⟨v, he, r0, r1, rfl, h⟩
    exact ⟨_, _, he, h⟩

structure S_ref04_Table_Find_L1 where
  i : Int

def F_ref04_Table_Find_k1 (s : S_ref04_Table_Find_L1) (Kn : S_ref04_Table_Find_L1 → World → Prop) (w1 : World) : Prop :=
  Kn ⟨(IntKind.i64.wrap ((s.i : Int) + (1 : Int)))⟩ w1

/-- One round. -/
def B_ref04_Table_Find_L1 (t_1 : Option Addr) (namex_1 : ByteArray) (s : S_ref04_Table_Find_L1) (w : World) (Kn : S_ref04_Table_Find_L1 → World → Prop) (Kx0 : World → Prop) (Kr : Int → World → Prop) : Prop :=
  NN t_1 fun a =>
  ∃ LP : Option Addr, ∃ LN : Nat, ∃ LC : Nat, w.cell? (a.add 0) = some (.slice LP LN LC) ∧
  If (decide ((s.i : Int) < (LN : Int)))
  (NN t_1 fun a_1 =>
  ∃ LP_1 : Option Addr, ∃ LN_1 : Nat, ∃ LC_1 : Nat, w.cell? (a_1.add 0) = some (.slice LP_1 LN_1 LC_1) ∧
  0 ≤ (s.i : Int) ∧ (s.i : Int) < (LN_1 : Int) ∧ NN LP_1 fun a_2 =>
  ∃ Is : Bool, w.cell? ((a_2.add ((s.i : Int).toNat * 3)).add 1) = some (.bool Is) ∧
  If Is
  (NN t_1 fun a_3 =>
  ∃ LP_2 : Option Addr, ∃ LN_2 : Nat, ∃ LC_2 : Nat, w.cell? (a_3.add 0) = some (.slice LP_2 LN_2 LC_2) ∧
  0 ≤ (s.i : Int) ∧ (s.i : Int) < (LN_2 : Int) ∧ NN LP_2 fun a_4 =>
  ∃ Name : ByteArray, w.cell? ((a_4.add ((s.i : Int).toNat * 3)).add 0) = some (.string Name) ∧
  If (Name.toList == namex_1.toList)
  (Kr (s.i : Int) w)
  (F_ref04_Table_Find_k1 s Kn w))
  (F_ref04_Table_Find_k1 s Kn w))
  (Kx0 w)

def F_ref04_Table_Find_L1 (t_1 : Option Addr) (namex_1 : ByteArray) (s : S_ref04_Table_Find_L1) (w : World) (Kx0 : World → Prop) (Kr : Int → World → Prop) : Prop :=
  LoopS (fun s w Kn => B_ref04_Table_Find_L1 t_1 namex_1 s w Kn Kx0 Kr) s w

def F_ref04_Table_Find (t : Option Addr) (namex : ByteArray) (w : World) (R : Int → World → Prop) : Prop :=
  F_ref04_Table_Find_L1 t namex ⟨(0 : Int)⟩ w
  (fun w1_1 =>
  R (-1) w1_1)
  (fun t4_1 w1_2 =>
  R t4_1 w1_2)

def lit_ref04_Table_Find_L1 (f : (Option Addr) × ByteArray) (s : S_ref04_Table_Find_L1) : Env := [⟨0, .pointer f.1, none⟩, ⟨1, .string f.2, none⟩, ⟨5, .int .i64 s.i, none⟩]

def dec_ref04_Table_Find_L1 (e : Env) (K : ((Option Addr) × ByteArray) → S_ref04_Table_Find_L1 → Prop) : Prop :=
  onV (getV e 0) fun u1 =>
  asP u1 fun t_1 =>
  onV (getV e 1) fun u2 =>
  asT u2 fun namex_1 =>
  onV (getV e 5) fun u3 =>
  asI .i64 u3 fun i =>
    K (t_1, namex_1) ⟨i⟩

theorem dec_ref04_Table_Find_L1_ok {N : Nat} (e : Env) (a : Act) (K : ((Option Addr) × ByteArray) → S_ref04_Table_Find_L1 → Prop) (hr : Rep N a e) (h0 : dec_ref04_Table_Find_L1 e K) : ∃ f s, K f s ∧ Rep N a (lit_ref04_Table_Find_L1 f s) := by
  unfold dec_ref04_Table_Find_L1 at h0
  obtain ⟨u1, g0, h1⟩ := onV_elim h0
  obtain ⟨t_1, rfl, h2⟩ := asP_elim h1
  obtain ⟨u2, g1, h3⟩ := onV_elim h2
  obtain ⟨namex_1, rfl, h4⟩ := asT_elim h3
  obtain ⟨u3, g5, h5⟩ := onV_elim h4
  obtain ⟨i, rfl, h6⟩ := asI_elim h5
  exact ⟨_, _, h6, rep_less hr (by simp [lit_ref04_Table_Find_L1, g0, g1, g5])⟩

def spec_ref04_Table_Find_L1 (Q : Post) (e : Env) (w : World) : Prop :=
  dec_ref04_Table_Find_L1 e fun f s => F_ref04_Table_Find_L1 f.1 f.2 s w (fun w1 => Q (.exit 0) [] w1) (fun t4 w1 => Q .ret [⟨4, .int .i64 t4, none⟩] w1)

def G_ref04_Table_Find : Gen where
  loop := lookL [([false, true, false, true], spec_ref04_Table_Find_L1)]
  plan := fun _ => none

def dx_ref04_Table_Find_L1_0 (e : Env) (K : ((Option Addr) × ByteArray) → Prop) : Prop :=
  onV (getV e 0) fun u1 =>
  asP u1 fun t_1 =>
  onV (getV e 1) fun u2 =>
  asT u2 fun namex_1 =>
    K (t_1, namex_1)

def dx_ref04_Table_Find_L1_ret (e : Env) (K : ((Option Addr) × ByteArray) → Int → Prop) : Prop :=
  onV (getV e 0) fun u1 =>
  asP u1 fun t_1 =>
  onV (getV e 1) fun u2 =>
  asT u2 fun namex_1 =>
  onV (getV e 4) fun u3 =>
  asI .i64 u3 fun t4 =>
    K (t_1, namex_1) t4

theorem body_ref04_Table_Find_L1 (f : (Option Addr) × ByteArray) (s : S_ref04_Table_Find_L1) (w : World) (Kn : ((Option Addr) × ByteArray) → S_ref04_Table_Find_L1 → World → Prop) (Kx0 : ((Option Addr) × ByteArray) → World → Prop) (Kr : ((Option Addr) × ByteArray) → Int → World → Prop) :
    B_ref04_Table_Find_L1 f.1 f.2 s w (fun s1 w1 => Kn f s1 w1) (fun w1 => Kx0 f w1) (fun t4 w1 => Kr f t4 w1) =
    den Try.prog Try.f26.ntmps G_ref04_Table_Find (sub (codeOf Try.f26) [false, false, true, false, true]) [false, false, true, false, true] (roundQ (fun e w => dec_ref04_Table_Find_L1 e fun f s => Kn f s w) (fun e w => dx_ref04_Table_Find_L1_ret e fun f t4 => Kr f t4 w) (fun id e w => match Nat.beq id 0 with | true => dx_ref04_Table_Find_L1_0 e fun f => Kx0 f w | false => False)) (lit_ref04_Table_Find_L1 f s) w := by kernel_rfl

theorem ok_ref04_Table_Find_L1 : OneOk Try.prog Try.f26.ntmps G_ref04_Table_Find (codeOf Try.f26) [false, true, false, true] spec_ref04_Table_Find_L1 := by
  intro c hc ih Q e w a hr h
  have hcc : sub (codeOf Try.f26) [false, false, true, false, true] = c := sub_of_codeAt hc
  obtain ⟨f, s, h, hrep⟩ := dec_ref04_Table_Find_L1_ok e a _ hr h
  obtain ⟨J, μ, hj, hround⟩ := h
  refine loop_rule_deep seat_ok seat_mixed ih lit_ref04_Table_Find_L1 dec_ref04_Table_Find_L1 dec_ref04_Table_Find_L1_ok hc f J μ (Kr := fun e w => dx_ref04_Table_Find_L1_ret e fun f1 t4 => f1 = f ∧ Q .ret [⟨4, .int .i64 t4, none⟩] w) (Kx := fun id e w => match Nat.beq id 0 with | true => (dx_ref04_Table_Find_L1_0 e fun f1 => f1 = f ∧ Q (.exit 0) [] w) | false => False) ?_ ?_ ?_ s w a hj hrep
  · intro e a w hr h0
    unfold dx_ref04_Table_Find_L1_ret at h0
    obtain ⟨u1, g0, h1⟩ := onV_elim h0
    obtain ⟨t_1, rfl, h2⟩ := asP_elim h1
    obtain ⟨u2, g1, h3⟩ := onV_elim h2
    obtain ⟨namex_1, rfl, h4⟩ := asT_elim h3
    obtain ⟨u3, g4, h5⟩ := onV_elim h4
    obtain ⟨t4, rfl, h6⟩ := asI_elim h5
    obtain ⟨hf, hq⟩ := h6
    subst hf
    exact ⟨_, rep_less hr (by simp [g4]), hq⟩
  · intro id e a w hr h0
    (try dsimp only at h0)
    split at h0
    · rename_i hid
      obtain rfl := Nat.eq_of_beq_eq_true hid
      unfold dx_ref04_Table_Find_L1_0 at h0
      obtain ⟨u1, g0, h1⟩ := onV_elim h0
      obtain ⟨t_1, rfl, h2⟩ := asP_elim h1
      obtain ⟨u2, g1, h3⟩ := onV_elim h2
      obtain ⟨namex_1, rfl, h4⟩ := asT_elim h3
      obtain ⟨hf, hq⟩ := h4
      subst hf
      exact ⟨_, rep_less hr (by simp), hq⟩
    · exact h0.elim
  · intro s w hj
    have hb := hround s w hj
    rw [← hcc]
    have e1 := body_ref04_Table_Find_L1 f s w (fun f1 s1 w1 => f1 = f ∧ J s1 w1 ∧ μ s1 w1 < μ s w) (fun f1 w1 => f1 = f ∧ Q (.exit 0) [] w1) (fun f1 t4 w1 => f1 = f ∧ Q .ret [⟨4, .int .i64 t4, none⟩] w1)
    simp only [true_and] at e1
    exact cast e1 hb

theorem loops_ref04_Table_Find : LoopOk Try.prog Try.f26.ntmps G_ref04_Table_Find (codeOf Try.f26) := loopOk_list rfl ⟨ok_ref04_Table_Find_L1, trivial⟩

theorem den_ref04_Table_Find (t : Option Addr) (namex : ByteArray) (w : World) (R : Value → World → Prop) :
    F_ref04_Table_Find t namex w (fun r w1 => R (.int .i64 r) w1) = den Try.prog Try.f26.ntmps G_ref04_Table_Find (codeOf Try.f26) [] (postD Try.prog Try.f26.results.toList R) (entry [.pointer t, .string namex] 0) w := by kernel_rfl

theorem C_ref04_Table_Find.of {t : Option Addr} {namex : ByteArray} {w : World} {R : Int → World → Prop} (h : F_ref04_Table_Find t namex w R) : C_ref04_Table_Find t namex w R := by
  refine (calls_of_den (c := codeOf Try.f26) seat_ok seat_mixed Try.func26 (by kernel_rfl) loops_ref04_Table_Find (args := [.pointer t, .string namex]) rfl (R := fun v w1 => ∃ (r : Int), v = (.int .i64 r : Value) ∧ R r w1) ?_).mono ?_
  · rw [← den_ref04_Table_Find]
    have e : (fun r w1 => ∃ (r' : Int), (.int .i64 r : Value) = (.int .i64 r' : Value) ∧ R r' w1) = R := by
      funext r w1
      exact propext ⟨fun ⟨r', he, h⟩ => by simp at he; simp_all, fun h => ⟨_, rfl, h⟩⟩
    simpa only [e] using h
  · rintro en w1 ⟨v, he, r, rfl, h⟩
    exact ⟨_, he, h⟩

structure S_ref04_Table_Sweep_L1 where
  n : Int
  i : Int

def F_ref04_Table_Sweep_k2 (t_1 : Option Addr) (s : S_ref04_Table_Sweep_L1) (Kn : S_ref04_Table_Sweep_L1 → World → Prop) (n_2 : Int) (w1_5 : World) : Prop :=
  NN t_1 fun a_7 =>
  ∃ LP_4 : Option Addr, ∃ LN_4 : Nat, ∃ LC_4 : Nat, w1_5.cell? (a_7.add 0) = some (.slice LP_4 LN_4 LC_4) ∧
  0 ≤ (s.i : Int) ∧ (s.i : Int) < (LN_4 : Int) ∧ NN LP_4 fun a_8 =>
  St w1_5 (((a_8.add ((s.i : Int).toNat * 3)).add 2).add 0) (.bool false) fun w1_6 =>
  Kn ⟨n_2, (IntKind.i64.wrap ((s.i : Int) + (1 : Int)))⟩ w1_6

def F_ref04_Table_Sweep_k1 (t_1 : Option Addr) (s : S_ref04_Table_Sweep_L1) (Kn : S_ref04_Table_Sweep_L1 → World → Prop) (w1_4 : World) : Prop :=
  F_ref04_Table_Sweep_k2 t_1 s Kn (s.n : Int) w1_4

/-- One round. -/
def B_ref04_Table_Sweep_L1 (t_1 : Option Addr) (s : S_ref04_Table_Sweep_L1) (w : World) (Kn : S_ref04_Table_Sweep_L1 → World → Prop) (Kx0 : Int → World → Prop) : Prop :=
  NN t_1 fun a =>
  ∃ LP : Option Addr, ∃ LN : Nat, ∃ LC : Nat, w.cell? (a.add 0) = some (.slice LP LN LC) ∧
  If (decide ((s.i : Int) < (LN : Int)))
  (NN t_1 fun a_1 =>
  ∃ LP_1 : Option Addr, ∃ LN_1 : Nat, ∃ LC_1 : Nat, w.cell? (a_1.add 0) = some (.slice LP_1 LN_1 LC_1) ∧
  0 ≤ (s.i : Int) ∧ (s.i : Int) < (LN_1 : Int) ∧ NN LP_1 fun a_2 =>
  ∃ Is : Bool, w.cell? ((a_2.add ((s.i : Int).toNat * 3)).add 1) = some (.bool Is) ∧
  If Is
  (NN t_1 fun a_3 =>
  ∃ LP_2 : Option Addr, ∃ LN_2 : Nat, ∃ LC_2 : Nat, w.cell? (a_3.add 0) = some (.slice LP_2 LN_2 LC_2) ∧
  0 ≤ (s.i : Int) ∧ (s.i : Int) < (LN_2 : Int) ∧ NN LP_2 fun a_4 =>
  ∃ Mark : Bool, w.cell? ((a_4.add ((s.i : Int).toNat * 3)).add 2) = some (.bool Mark) ∧
  If (!Mark)
  (C_ref04_Reserved  w fun t35P t35N t35C w1 =>
  If (decide ((s.i : Int) ≥ (t35N : Int)))
  (NN t_1 fun a_5 =>
  ∃ LP_3 : Option Addr, ∃ LN_3 : Nat, ∃ LC_3 : Nat, w1.cell? (a_5.add 0) = some (.slice LP_3 LN_3 LC_3) ∧
  0 ≤ (s.i : Int) ∧ (s.i : Int) < (LN_3 : Int) ∧ NN LP_3 fun a_6 =>
  St w1 ((a_6.add ((s.i : Int).toNat * 3)).add 0) (.string ⟨#[]⟩) fun w1_1 =>
  St w1_1 ((a_6.add ((s.i : Int).toNat * 3)).add 1) (.bool false) fun w1_2 =>
  St w1_2 ((a_6.add ((s.i : Int).toNat * 3)).add 2) (.bool false) fun w1_3 =>
  F_ref04_Table_Sweep_k2 t_1 s Kn (IntKind.i64.wrap ((s.n : Int) + (1 : Int))) w1_3)
  (F_ref04_Table_Sweep_k2 t_1 s Kn (s.n : Int) w1))
  (F_ref04_Table_Sweep_k1 t_1 s Kn w))
  (F_ref04_Table_Sweep_k1 t_1 s Kn w))
  (Kx0 (s.n : Int) w)

def F_ref04_Table_Sweep_L1 (t_1 : Option Addr) (s : S_ref04_Table_Sweep_L1) (w : World) (Kx0 : Int → World → Prop) : Prop :=
  LoopS (fun s w Kn => B_ref04_Table_Sweep_L1 t_1 s w Kn Kx0) s w

def F_ref04_Table_Sweep (t : Option Addr) (w : World) (R : Int → World → Prop) : Prop :=
  F_ref04_Table_Sweep_L1 t ⟨(0 : Int), (0 : Int)⟩ w
  (fun n_3 w1_7 =>
  R n_3 w1_7)

def lit_ref04_Table_Sweep_L1 (f : (Option Addr)) (s : S_ref04_Table_Sweep_L1) : Env := [⟨0, .pointer f, none⟩, ⟨3, .int .i64 s.n, none⟩, ⟨4, .int .i64 s.i, none⟩]

def dec_ref04_Table_Sweep_L1 (e : Env) (K : (Option Addr) → S_ref04_Table_Sweep_L1 → Prop) : Prop :=
  onV (getV e 0) fun u1 =>
  asP u1 fun t_1 =>
  onV (getV e 3) fun u2 =>
  asI .i64 u2 fun n =>
  onV (getV e 4) fun u3 =>
  asI .i64 u3 fun i =>
    K (t_1) ⟨n, i⟩

theorem dec_ref04_Table_Sweep_L1_ok {N : Nat} (e : Env) (a : Act) (K : (Option Addr) → S_ref04_Table_Sweep_L1 → Prop) (hr : Rep N a e) (h0 : dec_ref04_Table_Sweep_L1 e K) : ∃ f s, K f s ∧ Rep N a (lit_ref04_Table_Sweep_L1 f s) := by
  unfold dec_ref04_Table_Sweep_L1 at h0
  obtain ⟨u1, g0, h1⟩ := onV_elim h0
  obtain ⟨t_1, rfl, h2⟩ := asP_elim h1
  obtain ⟨u2, g3, h3⟩ := onV_elim h2
  obtain ⟨n, rfl, h4⟩ := asI_elim h3
  obtain ⟨u3, g4, h5⟩ := onV_elim h4
  obtain ⟨i, rfl, h6⟩ := asI_elim h5
  exact ⟨_, _, h6, rep_less hr (by simp [lit_ref04_Table_Sweep_L1, g0, g3, g4])⟩

def spec_ref04_Table_Sweep_L1 (Q : Post) (e : Env) (w : World) : Prop :=
  dec_ref04_Table_Sweep_L1 e fun f s => F_ref04_Table_Sweep_L1 f s w (fun n_1 w1 => Q (.exit 0) [⟨3, .int .i64 n_1, none⟩] w1)

def G_ref04_Table_Sweep : Gen where
  loop := lookL [([false, true, false, true, true], spec_ref04_Table_Sweep_L1)]
  plan := fun _ => none

def dx_ref04_Table_Sweep_L1_0 (e : Env) (K : (Option Addr) → Int → Prop) : Prop :=
  onV (getV e 0) fun u1 =>
  asP u1 fun t_1 =>
  onV (getV e 3) fun u2 =>
  asI .i64 u2 fun n_1 =>
    K (t_1) n_1

theorem body_ref04_Table_Sweep_L1 (f : (Option Addr)) (s : S_ref04_Table_Sweep_L1) (w : World) (Kn : (Option Addr) → S_ref04_Table_Sweep_L1 → World → Prop) (Kx0 : (Option Addr) → Int → World → Prop) :
    B_ref04_Table_Sweep_L1 f s w (fun s1 w1 => Kn f s1 w1) (fun n_1 w1 => Kx0 f n_1 w1) =
    den Try.prog Try.f27.ntmps G_ref04_Table_Sweep (sub (codeOf Try.f27) [false, false, true, false, true, true]) [false, false, true, false, true, true] (roundQ (fun e w => dec_ref04_Table_Sweep_L1 e fun f s => Kn f s w) (fun e w => False) (fun id e w => match Nat.beq id 0 with | true => dx_ref04_Table_Sweep_L1_0 e fun f n_1 => Kx0 f n_1 w | false => False)) (lit_ref04_Table_Sweep_L1 f s) w := by kernel_rfl

theorem ok_ref04_Table_Sweep_L1 : OneOk Try.prog Try.f27.ntmps G_ref04_Table_Sweep (codeOf Try.f27) [false, true, false, true, true] spec_ref04_Table_Sweep_L1 := by
  intro c hc ih Q e w a hr h
  have hcc : sub (codeOf Try.f27) [false, false, true, false, true, true] = c := sub_of_codeAt hc
  obtain ⟨f, s, h, hrep⟩ := dec_ref04_Table_Sweep_L1_ok e a _ hr h
  obtain ⟨J, μ, hj, hround⟩ := h
  refine loop_rule_deep seat_ok seat_mixed ih lit_ref04_Table_Sweep_L1 dec_ref04_Table_Sweep_L1 dec_ref04_Table_Sweep_L1_ok hc f J μ (Kr := fun e w => False) (Kx := fun id e w => match Nat.beq id 0 with | true => (dx_ref04_Table_Sweep_L1_0 e fun f1 n_1 => f1 = f ∧ Q (.exit 0) [⟨3, .int .i64 n_1, none⟩] w) | false => False) ?_ ?_ ?_ s w a hj hrep
  · intro e a w hr h
    exact h.elim
  · intro id e a w hr h0
    (try dsimp only at h0)
    split at h0
    · rename_i hid
      obtain rfl := Nat.eq_of_beq_eq_true hid
      unfold dx_ref04_Table_Sweep_L1_0 at h0
      obtain ⟨u1, g0, h1⟩ := onV_elim h0
      obtain ⟨t_1, rfl, h2⟩ := asP_elim h1
      obtain ⟨u2, g3, h3⟩ := onV_elim h2
      obtain ⟨n_1, rfl, h4⟩ := asI_elim h3
      obtain ⟨hf, hq⟩ := h4
      subst hf
      exact ⟨_, rep_less hr (by simp [g3]), hq⟩
    · exact h0.elim
  · intro s w hj
    have hb := hround s w hj
    rw [← hcc]
    have e1 := body_ref04_Table_Sweep_L1 f s w (fun f1 s1 w1 => f1 = f ∧ J s1 w1 ∧ μ s1 w1 < μ s w) (fun f1 n_1 w1 => f1 = f ∧ Q (.exit 0) [⟨3, .int .i64 n_1, none⟩] w1)
    simp only [true_and] at e1
    exact cast e1 hb

theorem loops_ref04_Table_Sweep : LoopOk Try.prog Try.f27.ntmps G_ref04_Table_Sweep (codeOf Try.f27) := loopOk_list rfl ⟨ok_ref04_Table_Sweep_L1, trivial⟩

theorem den_ref04_Table_Sweep (t : Option Addr) (w : World) (R : Value → World → Prop) :
    F_ref04_Table_Sweep t w (fun r w1 => R (.int .i64 r) w1) = den Try.prog Try.f27.ntmps G_ref04_Table_Sweep (codeOf Try.f27) [] (postD Try.prog Try.f27.results.toList R) (entry [.pointer t] 0) w := by kernel_rfl

theorem C_ref04_Table_Sweep.of {t : Option Addr} {w : World} {R : Int → World → Prop} (h : F_ref04_Table_Sweep t w R) : C_ref04_Table_Sweep t w R := by
  refine (calls_of_den (c := codeOf Try.f27) seat_ok seat_mixed Try.func27 (by kernel_rfl) loops_ref04_Table_Sweep (args := [.pointer t]) rfl (R := fun v w1 => ∃ (r : Int), v = (.int .i64 r : Value) ∧ R r w1) ?_).mono ?_
  · rw [← den_ref04_Table_Sweep]
    have e : (fun r w1 => ∃ (r' : Int), (.int .i64 r : Value) = (.int .i64 r' : Value) ∧ R r' w1) = R := by
      funext r w1
      exact propext ⟨fun ⟨r', he, h⟩ => by simp at he; simp_all, fun h => ⟨_, rfl, h⟩⟩
    simpa only [e] using h
  · rintro en w1 ⟨v, he, r, rfl, h⟩
    exact ⟨_, he, h⟩

def F_atom_Table_ready (t : Option Addr) (w : World) (R : Bool → World → Prop) : Prop :=
  If t.isNone
  (R false w)
  (NN t fun a =>
  ∃ limitx : Int, w.cell? (a.add 4) = some (.int .i64 limitx) ∧
  If (limitx == (0 : Int))
  (R false w)
  (NN t fun a_1 =>
  C_sync_Once_Do (some (a_1.add 0)) (.func (.func 35) #[.pointer t] #[]) w fun w1 =>
  R true w1))

def G_atom_Table_ready : Gen where
  loop := lookL []
  plan := fun _ => none

theorem loops_atom_Table_ready : LoopOk Try.prog Try.f28.ntmps G_atom_Table_ready (codeOf Try.f28) := loopOk_none fun _ => rfl

theorem den_atom_Table_ready (t : Option Addr) (w : World) (R : Value → World → Prop) :
    F_atom_Table_ready t w (fun r w1 => R (.bool r) w1) = den Try.prog Try.f28.ntmps G_atom_Table_ready (codeOf Try.f28) [] (postD Try.prog Try.f28.results.toList R) (entry [.pointer t] 0) w := by kernel_rfl

theorem C_atom_Table_ready.of {t : Option Addr} {w : World} {R : Bool → World → Prop} (h : F_atom_Table_ready t w R) : C_atom_Table_ready t w R := by
  refine (calls_of_den (c := codeOf Try.f28) seat_ok seat_mixed Try.func28 (by kernel_rfl) loops_atom_Table_ready (args := [.pointer t]) rfl (R := fun v w1 => ∃ (r : Bool), v = (.bool r : Value) ∧ R r w1) ?_).mono ?_
  · rw [← den_atom_Table_ready]
    have e : (fun r w1 => ∃ (r' : Bool), (.bool r : Value) = (.bool r' : Value) ∧ R r' w1) = R := by
      funext r w1
      exact propext ⟨fun ⟨r', he, h⟩ => by simp at he; simp_all, fun h => ⟨_, rfl, h⟩⟩
    simpa only [e] using h
  · rintro en w1 ⟨v, he, r, rfl, h⟩
    exact ⟨_, he, h⟩

def F_sync_atomic_Int64_Load (x : Option Addr) (w : World) (R : Int → World → Prop) : Prop :=
  NN x fun a =>
  CallX Try.prog 36 [.pointer (some (a.add 0))] w fun v w1 => ∃ t6 : Int, v = (.int .i64 t6) ∧
  R t6 w1

def G_sync_atomic_Int64_Load : Gen where
  loop := lookL []
  plan := fun _ => none

theorem loops_sync_atomic_Int64_Load : LoopOk Try.prog Try.f29.ntmps G_sync_atomic_Int64_Load (codeOf Try.f29) := loopOk_none fun _ => rfl

theorem den_sync_atomic_Int64_Load (x : Option Addr) (w : World) (R : Value → World → Prop) :
    F_sync_atomic_Int64_Load x w (fun r w1 => R (.int .i64 r) w1) = den Try.prog Try.f29.ntmps G_sync_atomic_Int64_Load (codeOf Try.f29) [] (postD Try.prog Try.f29.results.toList R) (entry [.pointer x] 0) w := by kernel_rfl

theorem C_sync_atomic_Int64_Load.of {x : Option Addr} {w : World} {R : Int → World → Prop} (h : F_sync_atomic_Int64_Load x w R) : C_sync_atomic_Int64_Load x w R := by
  refine (calls_of_den (c := codeOf Try.f29) seat_ok seat_mixed Try.func29 (by kernel_rfl) loops_sync_atomic_Int64_Load (args := [.pointer x]) rfl (R := fun v w1 => ∃ (r : Int), v = (.int .i64 r : Value) ∧ R r w1) ?_).mono ?_
  · rw [← den_sync_atomic_Int64_Load]
    have e : (fun r w1 => ∃ (r' : Int), (.int .i64 r : Value) = (.int .i64 r' : Value) ∧ R r' w1) = R := by
      funext r w1
      exact propext ⟨fun ⟨r', he, h⟩ => by simp at he; simp_all, fun h => ⟨_, rfl, h⟩⟩
    simpa only [e] using h
  · rintro en w1 ⟨v, he, r, rfl, h⟩
    exact ⟨_, he, h⟩

def F_atom_Table_has_k1 (R : Bool → World → Prop) (w1_1 : World) : Prop :=
  R false w1_1

def F_atom_Table_has (t : Option Addr) (idx : Int) (w : World) (R : Bool → World → Prop) : Prop :=
  C_atom_Table_ready t w fun t6 w1 =>
  If t6
  (If (decide (idx ≥ (0 : Int)))
  (NN t fun a =>
  ∃ lP : Option Addr, ∃ lN : Nat, ∃ lC : Nat, w1.cell? (a.add 5) = some (.slice lP lN lC) ∧
  If (decide (idx < (lN : Int)))
  (NN t fun a_1 =>
  ∃ lP_1 : Option Addr, ∃ lN_1 : Nat, ∃ lC_1 : Nat, w1.cell? (a_1.add 5) = some (.slice lP_1 lN_1 lC_1) ∧
  0 ≤ idx ∧ idx < (lN_1 : Int) ∧ NN lP_1 fun a_2 =>
  ∃ isx : Bool, w1.cell? ((a_2.add (idx.toNat * 3)).add 1) = some (.bool isx) ∧
  R isx w1)
  (F_atom_Table_has_k1 R w1))
  (F_atom_Table_has_k1 R w1))
  (F_atom_Table_has_k1 R w1)

def G_atom_Table_has : Gen where
  loop := lookL []
  plan := fun _ => none

theorem loops_atom_Table_has : LoopOk Try.prog Try.f30.ntmps G_atom_Table_has (codeOf Try.f30) := loopOk_none fun _ => rfl

theorem den_atom_Table_has (t : Option Addr) (idx : Int) (w : World) (R : Value → World → Prop) :
    F_atom_Table_has t idx w (fun r w1 => R (.bool r) w1) = den Try.prog Try.f30.ntmps G_atom_Table_has (codeOf Try.f30) [] (postD Try.prog Try.f30.results.toList R) (entry [.pointer t, .int .i64 idx] 0) w := by kernel_rfl

theorem C_atom_Table_has.of {t : Option Addr} {idx : Int} {w : World} {R : Bool → World → Prop} (h : F_atom_Table_has t idx w R) : C_atom_Table_has t idx w R := by
  refine (calls_of_den (c := codeOf Try.f30) seat_ok seat_mixed Try.func30 (by kernel_rfl) loops_atom_Table_has (args := [.pointer t, .int .i64 idx]) rfl (R := fun v w1 => ∃ (r : Bool), v = (.bool r : Value) ∧ R r w1) ?_).mono ?_
  · rw [← den_atom_Table_has]
    have e : (fun r w1 => ∃ (r' : Bool), (.bool r : Value) = (.bool r' : Value) ∧ R r' w1) = R := by
      funext r w1
      exact propext ⟨fun ⟨r', he, h⟩ => by simp at he; simp_all, fun h => ⟨_, rfl, h⟩⟩
    simpa only [e] using h
  · rintro en w1 ⟨v, he, r, rfl, h⟩
    exact ⟨_, he, h⟩

def F_sync_atomic_Int64_Add (x : Option Addr) (delta : Int) (w : World) (R : Int → World → Prop) : Prop :=
  NN x fun a =>
  CallX Try.prog 37 [.pointer (some (a.add 0)), .int .i64 delta] w fun v w1 => ∃ t9 : Int, v = (.int .i64 t9) ∧
  R t9 w1

def G_sync_atomic_Int64_Add : Gen where
  loop := lookL []
  plan := fun _ => none

theorem loops_sync_atomic_Int64_Add : LoopOk Try.prog Try.f31.ntmps G_sync_atomic_Int64_Add (codeOf Try.f31) := loopOk_none fun _ => rfl

theorem den_sync_atomic_Int64_Add (x : Option Addr) (delta : Int) (w : World) (R : Value → World → Prop) :
    F_sync_atomic_Int64_Add x delta w (fun r w1 => R (.int .i64 r) w1) = den Try.prog Try.f31.ntmps G_sync_atomic_Int64_Add (codeOf Try.f31) [] (postD Try.prog Try.f31.results.toList R) (entry [.pointer x, .int .i64 delta] 0) w := by kernel_rfl

theorem C_sync_atomic_Int64_Add.of {x : Option Addr} {delta : Int} {w : World} {R : Int → World → Prop} (h : F_sync_atomic_Int64_Add x delta w R) : C_sync_atomic_Int64_Add x delta w R := by
  refine (calls_of_den (c := codeOf Try.f31) seat_ok seat_mixed Try.func31 (by kernel_rfl) loops_sync_atomic_Int64_Add (args := [.pointer x, .int .i64 delta]) rfl (R := fun v w1 => ∃ (r : Int), v = (.int .i64 r : Value) ∧ R r w1) ?_).mono ?_
  · rw [← den_sync_atomic_Int64_Add]
    have e : (fun r w1 => ∃ (r' : Int), (.int .i64 r : Value) = (.int .i64 r' : Value) ∧ R r' w1) = R := by
      funext r w1
      exact propext ⟨fun ⟨r', he, h⟩ => by simp at he; simp_all, fun h => ⟨_, rfl, h⟩⟩
    simpa only [e] using h
  · rintro en w1 ⟨v, he, r, rfl, h⟩
    exact ⟨_, he, h⟩

def F_atom_Table_may (t : Option Addr) (idx : Int) (w : World) (R : Int → World → Prop) : Prop :=
  C_atom_Table_ready t w fun t7 w1 =>
  If (!t7)
  (R (6 : Int) w1)
  (C_atom_Table_has t idx w1 fun t12 w1_1 =>
  If (!t12)
  (R (4 : Int) w1_1)
  (R (0 : Int) w1_1))

def G_atom_Table_may : Gen where
  loop := lookL []
  plan := fun _ => none

theorem loops_atom_Table_may : LoopOk Try.prog Try.f32.ntmps G_atom_Table_may (codeOf Try.f32) := loopOk_none fun _ => rfl

theorem den_atom_Table_may (t : Option Addr) (idx : Int) (w : World) (R : Value → World → Prop) :
    F_atom_Table_may t idx w (fun r w1 => R (.int .i64 r) w1) = den Try.prog Try.f32.ntmps G_atom_Table_may (codeOf Try.f32) [] (postD Try.prog Try.f32.results.toList R) (entry [.pointer t, .int .i64 idx] 0) w := by kernel_rfl

theorem C_atom_Table_may.of {t : Option Addr} {idx : Int} {w : World} {R : Int → World → Prop} (h : F_atom_Table_may t idx w R) : C_atom_Table_may t idx w R := by
  refine (calls_of_den (c := codeOf Try.f32) seat_ok seat_mixed Try.func32 (by kernel_rfl) loops_atom_Table_may (args := [.pointer t, .int .i64 idx]) rfl (R := fun v w1 => ∃ (r : Int), v = (.int .i64 r : Value) ∧ R r w1) ?_).mono ?_
  · rw [← den_atom_Table_may]
    have e : (fun r w1 => ∃ (r' : Int), (.int .i64 r : Value) = (.int .i64 r' : Value) ∧ R r' w1) = R := by
      funext r w1
      exact propext ⟨fun ⟨r', he, h⟩ => by simp at he; simp_all, fun h => ⟨_, rfl, h⟩⟩
    simpa only [e] using h
  · rintro en w1 ⟨v, he, r, rfl, h⟩
    exact ⟨_, he, h⟩

def F_slices_Sort (xP : Option Addr) (xN : Nat) (xC : Nat) (w : World) (R : World → Prop) : Prop :=
  C_math_bits_Len (IntKind.u64.wrap (xN : Int)) w fun t9 w1 =>
  C_slices_pdqsortOrdered xP xN xC (0 : Int) (xN : Int) t9 w1 fun w1_1 =>
  R w1_1

def G_slices_Sort : Gen where
  loop := lookL []
  plan := fun _ => none

theorem loops_slices_Sort : LoopOk Try.prog Try.f33.ntmps G_slices_Sort (codeOf Try.f33) := loopOk_none fun _ => rfl

theorem den_slices_Sort (xP : Option Addr) (xN : Nat) (xC : Nat) (w : World) (R : Value → World → Prop) :
    F_slices_Sort xP xN xC w (fun w1 => R (.tuple #[]) w1) = den Try.prog Try.f33.ntmps G_slices_Sort (codeOf Try.f33) [] (postD Try.prog Try.f33.results.toList R) (entry [.slice xP xN xC] 0) w := by kernel_rfl

theorem C_slices_Sort.of {xP : Option Addr} {xN : Nat} {xC : Nat} {w : World} {R : World → Prop} (h : F_slices_Sort xP xN xC w R) : C_slices_Sort xP xN xC w R := by
  refine (calls_of_den (c := codeOf Try.f33) seat_ok seat_mixed Try.func33 (by kernel_rfl) loops_slices_Sort (args := [.slice xP xN xC]) rfl (R := fun v w1 => v = (.tuple #[] : Value) ∧ R w1) ?_).mono ?_
  · rw [← den_slices_Sort]
    simpa using h
  · rintro en w1 ⟨v, he, rfl, h⟩
    exact ⟨he, h⟩

def F_sync_Once_Do (o : Option Addr) (fx : Value) (w : World) (R : World → Prop) : Prop :=
  NN o fun a =>
  C_sync_atomic_Bool_Load (some (a.add 0)) w fun t7 w1 =>
  If (!t7)
  (C_sync_Once_doSlow o fx w1 fun w1_1 =>
  R w1_1)
  (R w1)

def G_sync_Once_Do : Gen where
  loop := lookL []
  plan := fun _ => none

theorem loops_sync_Once_Do : LoopOk Try.prog Try.f34.ntmps G_sync_Once_Do (codeOf Try.f34) := loopOk_none fun _ => rfl

theorem den_sync_Once_Do (o : Option Addr) (fx : Value) (w : World) (R : Value → World → Prop) :
    F_sync_Once_Do o fx w (fun w1 => R (.tuple #[]) w1) = den Try.prog Try.f34.ntmps G_sync_Once_Do (codeOf Try.f34) [] (postD Try.prog Try.f34.results.toList R) (entry [.pointer o, fx] 0) w := by kernel_rfl

theorem C_sync_Once_Do.of {o : Option Addr} {fx : Value} {w : World} {R : World → Prop} (h : F_sync_Once_Do o fx w R) : C_sync_Once_Do o fx w R := by
  refine (calls_of_den (c := codeOf Try.f34) seat_ok seat_mixed Try.func34 (by kernel_rfl) loops_sync_Once_Do (args := [.pointer o, fx]) rfl (R := fun v w1 => v = (.tuple #[] : Value) ∧ R w1) ?_).mono ?_
  · rw [← den_sync_Once_Do]
    simpa using h
  · rintro en w1 ⟨v, he, rfl, h⟩
    exact ⟨he, h⟩

end Go.Proofs.Ytifgjlkmmbpbkaa
