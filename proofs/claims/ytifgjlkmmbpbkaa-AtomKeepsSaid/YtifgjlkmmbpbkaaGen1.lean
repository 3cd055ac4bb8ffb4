/- The formulas of this seat's functions, held against the loaded program by the kernel. Printed by a program. -/
import Derived.Test.YtifgjlkmmbpbkaaGenC
set_option maxRecDepth 100000
set_option linter.unusedVariables false
namespace Go.Proofs.Ytifgjlkmmbpbkaa
open Go Go.D Go.Proofs

def F_gosem_cut_init (w : World) (R : World → Prop) : Prop :=
  CallX Try.prog 1 [] w fun v w1 => v = (.tuple #[]) ∧
  R w1

def G_gosem_cut_init : Gen where
  loop := lookL []
  plan := fun _ => none

theorem loops_gosem_cut_init : LoopOk Try.prog Try.f2.ntmps G_gosem_cut_init (codeOf Try.f2) := loopOk_none fun _ => rfl

theorem den_gosem_cut_init  (w : World) (R : Value → World → Prop) :
    F_gosem_cut_init w (fun w1 => R (.tuple #[]) w1) = den Try.prog Try.f2.ntmps G_gosem_cut_init (codeOf Try.f2) [] (postD Try.prog Try.f2.results.toList R) (entry [] 0) w := by kernel_rfl

theorem C_gosem_cut_init.of {w : World} {R : World → Prop} (h : F_gosem_cut_init w R) : C_gosem_cut_init w R := by
  refine (calls_of_den (c := codeOf Try.f2) seat_ok seat_mixed Try.func2 (by kernel_rfl) loops_gosem_cut_init (args := []) rfl (R := fun v w1 => v = (.tuple #[] : Value) ∧ R w1) ?_).mono ?_
  · rw [← den_gosem_cut_init]
    simpa using h
  · rintro en w1 ⟨v, he, rfl, h⟩
    exact ⟨he, h⟩

structure S_law04_AtomDoes_L1 where
  i : Int

def F_law04_AtomDoes_k1 (R : Bool → World → Prop) (w1_3 : World) : Prop :=
  R false w1_3

def F_law04_AtomDoes_k2 (Kx0 : World → Prop) (w1_5 : World) : Prop :=
  Kx0 w1_5

def F_law04_AtomDoes_k3 (Kr : Bool → World → Prop) (w1_13 : World) : Prop :=
  Kr false w1_13

def F_law04_AtomDoes_k5 (s : S_law04_AtomDoes_L1) (Kn : S_law04_AtomDoes_L1 → World → Prop) (w1_15 : World) : Prop :=
  Kn ⟨(IntKind.i64.wrap ((s.i : Int) + (1 : Int)))⟩ w1_15

def F_law04_AtomDoes_k4 (s : S_law04_AtomDoes_L1) (Kn : S_law04_AtomDoes_L1 → World → Prop) (Kr : Bool → World → Prop) (t125 : Bool) (w1_14 : World) : Prop :=
  If t125
  (Kr false w1_14)
  (F_law04_AtomDoes_k5 s Kn w1_14)

/-- One round. -/
def B_law04_AtomDoes_L1 (lP_1 : Option Addr) (lN_1 : Nat) (lC_1 : Nat) (t : Option Addr) (x : Option Addr) (s : S_law04_AtomDoes_L1) (w : World) (Kn : S_law04_AtomDoes_L1 → World → Prop) (Kx0 : World → Prop) (Kr : Bool → World → Prop) : Prop :=
  If (decide ((s.i : Int) < (lN_1 : Int)))
  (If (decide ((s.i : Int) < (60 : Int)))
  (If (!x.isNone)
  (0 ≤ (s.i : Int) ∧ (s.i : Int) < (lN_1 : Int) ∧ NN lP_1 fun a =>
  ∃ Name : ByteArray, w.cell? ((a.add ((s.i : Int).toNat * 3)).add 1) = some (.string Name) ∧
  If (decide ((Name.size : Int) > (1000 : Int)))
  (F_law04_AtomDoes_k5 s Kn w)
  (0 ≤ (s.i : Int) ∧ (s.i : Int) < (lN_1 : Int) ∧ NN lP_1 fun a_1 =>
  ∃ t660 : Int, (drw w).cell? ((a_1.add ((s.i : Int).toNat * 3)).add 0) = some (.int .i64 t660) ∧
  ∃ t661 : ByteArray, (drw w).cell? ((a_1.add ((s.i : Int).toNat * 3)).add 1) = some (.string t661) ∧
  ∃ t662 : Int, (drw w).cell? ((a_1.add ((s.i : Int).toNat * 3)).add 2) = some (.int .i64 t662) ∧
  C_law04_do t x t660 t661 t662 (drw w) fun t67 w1_6 =>
  If (!t67)
  (F_law04_AtomDoes_k3 Kr w1_6)
  (C_atom_Table_Len t w1_6 fun t71 w1_7 =>
  C_ref04_Table_Len x w1_7 fun t73 w1_8 =>
  If (t71 != t73)
  (F_law04_AtomDoes_k3 Kr w1_8)
  (NN x fun a_2 =>
  ∃ LP : Option Addr, ∃ LN : Nat, ∃ LC : Nat, w1_8.cell? (a_2.add 0) = some (.slice LP LN LC) ∧
  C_atom_Table_Slots t w1_8 fun t78 w1_9 =>
  w1_9.cell? (a_2.add 0) = w1_8.cell? (a_2.add 0) ∧
  If (t78 != (LN : Int))
  (F_law04_AtomDoes_k3 Kr w1_9)
  (NN x fun a_3 =>
  ∃ Made : Int, w1_9.cell? (a_3.add 2) = some (.int .i64 Made) ∧
  C_atom_Table_Made t w1_9 fun t88 w1_10 =>
  w1_10.cell? (a_3.add 2) = w1_9.cell? (a_3.add 2) ∧
  If (t88 != Made)
  (F_law04_AtomDoes_k3 Kr w1_10)
  (0 ≤ (s.i : Int) ∧ (s.i : Int) < (lN_1 : Int) ∧ NN lP_1 fun a_4 =>
  ∃ Id : Int, w1_10.cell? ((a_4.add ((s.i : Int).toNat * 3)).add 2) = some (.int .i64 Id) ∧
  0 ≤ (s.i : Int) ∧ (s.i : Int) < (lN_1 : Int) ∧ NN lP_1 fun a_5 =>
  ∃ Id_1 : Int, w1_10.cell? ((a_5.add ((s.i : Int).toNat * 3)).add 2) = some (.int .i64 Id_1) ∧
  C_atom_Table_Marked t Id w1_10 fun t102 w1_11 =>
  w1_11.cell? ((a_5.add ((s.i : Int).toNat * 3)).add 2) = w1_10.cell? ((a_5.add ((s.i : Int).toNat * 3)).add 2) ∧
  C_ref04_Table_Is x Id_1 w1_11 fun t109 w1_12 =>
  If t109
  (NN x fun a_6 =>
  ∃ LP_1 : Option Addr, ∃ LN_1 : Nat, ∃ LC_1 : Nat, w1_12.cell? (a_6.add 0) = some (.slice LP_1 LN_1 LC_1) ∧
  0 ≤ (s.i : Int) ∧ (s.i : Int) < (lN_1 : Int) ∧ NN lP_1 fun a_7 =>
  ∃ Id_2 : Int, w1_12.cell? ((a_7.add ((s.i : Int).toNat * 3)).add 2) = some (.int .i64 Id_2) ∧
  0 ≤ Id_2 ∧ Id_2 < (LN_1 : Int) ∧ NN LP_1 fun a_8 =>
  ∃ Mark : Bool, w1_12.cell? ((a_8.add (Id_2.toNat * 3)).add 2) = some (.bool Mark) ∧
  F_law04_AtomDoes_k4 s Kn Kr (!(t102 == Mark)) w1_12)
  (F_law04_AtomDoes_k4 s Kn Kr (!(t102 == false)) w1_12)))))))
  (Kx0 w))
  (F_law04_AtomDoes_k2 Kx0 w))
  (F_law04_AtomDoes_k2 Kx0 w)

def F_law04_AtomDoes_L1 (lP_1 : Option Addr) (lN_1 : Nat) (lC_1 : Nat) (t : Option Addr) (x : Option Addr) (s : S_law04_AtomDoes_L1) (w : World) (Kx0 : World → Prop) (Kr : Bool → World → Prop) : Prop :=
  LoopS (fun s w Kn => B_law04_AtomDoes_L1 lP_1 lN_1 lC_1 t x s w Kn Kx0 Kr) s w

def F_law04_AtomDoes_k6 (lP : Option Addr) (lN : Nat) (lC : Nat) (R : Bool → World → Prop) (t110 : Option Addr) (t15 : Option Addr) (w1_4 : World) : Prop :=
  F_law04_AtomDoes_L1 lP lN lC t110 t15 ⟨(0 : Int)⟩ w1_4
  (fun w1_16 =>
  R true w1_16)
  (fun t4_1 w1_17 =>
  R t4_1 w1_17)

def F_law04_AtomDoes (limitx : Int) (lP : Option Addr) (lN : Nat) (lC : Nat) (w : World) (R : Bool → World → Prop) : Prop :=
  C_atom_New limitx w fun t110 t111 w1 =>
  C_ref04_New limitx w1 fun t15 w1_1 =>
  C_law04_lives  w1_1 fun t16 w1_2 =>
  If (!t16)
  (F_law04_AtomDoes_k1 R w1_2)
  (If (!((!t110.isNone) == (!t15.isNone)))
  (F_law04_AtomDoes_k1 R w1_2)
  (If (!((t111 == (0 : Int)) == (!t15.isNone)))
  (F_law04_AtomDoes_k1 R w1_2)
  (If t15.isNone
  (If (t111 != (1 : Int))
  (R false w1_2)
  (F_law04_AtomDoes_k6 lP lN lC R t110 t15 w1_2))
  (F_law04_AtomDoes_k6 lP lN lC R t110 t15 w1_2))))

def lit_law04_AtomDoes_L1 (f : (Option Addr) × Nat × Nat × (Option Addr) × (Option Addr)) (s : S_law04_AtomDoes_L1) : Env := [⟨1, .slice f.1 f.2.1 f.2.2.1, none⟩, ⟨5, .pointer f.2.2.2.1, none⟩, ⟨7, .pointer f.2.2.2.2, none⟩, ⟨8, .int .i64 s.i, none⟩]

def dec_law04_AtomDoes_L1 (e : Env) (K : ((Option Addr) × Nat × Nat × (Option Addr) × (Option Addr)) → S_law04_AtomDoes_L1 → Prop) : Prop :=
  onV (getV e 1) fun u1 =>
  asS u1 fun lP_1 lN_1 lC_1 =>
  onV (getV e 5) fun u2 =>
  asP u2 fun t =>
  onV (getV e 7) fun u3 =>
  asP u3 fun x =>
  onV (getV e 8) fun u4 =>
  asI .i64 u4 fun i =>
    K (lP_1, lN_1, lC_1, t, x) ⟨i⟩

theorem dec_law04_AtomDoes_L1_ok {N : Nat} (e : Env) (a : Act) (K : ((Option Addr) × Nat × Nat × (Option Addr) × (Option Addr)) → S_law04_AtomDoes_L1 → Prop) (hr : Rep N a e) (h0 : dec_law04_AtomDoes_L1 e K) : ∃ f s, K f s ∧ Rep N a (lit_law04_AtomDoes_L1 f s) := by
  unfold dec_law04_AtomDoes_L1 at h0
  obtain ⟨u1, g1, h1⟩ := onV_elim h0
  obtain ⟨lP_1, lN_1, lC_1, rfl, h2⟩ := asS_elim h1
  obtain ⟨u2, g5, h3⟩ := onV_elim h2
  obtain ⟨t, rfl, h4⟩ := asP_elim h3
  obtain ⟨u3, g7, h5⟩ := onV_elim h4
  obtain ⟨x, rfl, h6⟩ := asP_elim h5
  obtain ⟨u4, g8, h7⟩ := onV_elim h6
  obtain ⟨i, rfl, h8⟩ := asI_elim h7
  exact ⟨_, _, h8, rep_less hr (by simp [lit_law04_AtomDoes_L1, g1, g5, g7, g8])⟩

def spec_law04_AtomDoes_L1 (Q : Post) (e : Env) (w : World) : Prop :=
  dec_law04_AtomDoes_L1 e fun f s => F_law04_AtomDoes_L1 f.1 f.2.1 f.2.2.1 f.2.2.2.1 f.2.2.2.2 s w (fun w1 => Q (.exit 0) [] w1) (fun t4 w1 => Q .ret [⟨4, .bool t4, none⟩] w1)

def G_law04_AtomDoes : Gen where
  loop := lookL [([false, true, false, true, true, true, true], spec_law04_AtomDoes_L1)]
  plan := fun id =>
    bif Nat.beq id 9 then some ([0, 0, 0, 0, 12, 28, 63, 127, 255, 511, 1023, 511, 4095, 8191, 16383, 32767, 65535, 131071, 65535, 327679, 851967, 1900543, 3997695, 8388607, 16777215, 33554431, 67108863, 134217727, 67108863, 335544319, 872415231, 1946157055, 4294967295, 8589934591, 17179869183, 34359738367, 34359738367, 34359738367, 240518168575, 515396075519, 1065151889407, 2199023255551, 34359738367, 34359738367, 34359738367, 26422638804991, 61607010893823, 131975755071487, 281474976710655, 562949953421311, 1125899906842623, 2251799813685247, 4503599627370495, 9007199254740991, 1125899906842623, 1125899906842623, 55169095435288575, 127226689473216511, 271341877549072383, 576460752303423487, 1152921504606846975, 2305843009213693951, 4611686018427387903, 9223372036854775807, 18446744073709551615], .take 0 (.take 1 (.take 2 (.take 3 (.take 4 (.take 5 (.take 6 (.take 7 (.take 8 (.take 9 (.take 11 (.take 10 (.take 12 (.take 13 (.take 14 (.take 15 (.take 16 (.take 18 (.take 19 (.take 20 (.take 21 (.take 22 (.take 17 (.take 23 (.take 24 (.take 25 (.take 26 (.take 28 (.take 29 (.take 30 (.take 31 (.take 27 (.take 32 (.take 33 (.take 34 (.take 35 (.take 36 (.take 37 (.take 38 (.take 39 (.take 40 (.take 42 (.take 43 (.take 44 (.take 45 (.take 46 (.take 47 (.take 41 (.take 48 (.take 49 (.take 50 (.take 51 (.take 52 (.take 53 (.take 54 (.take 55 (.take 56 (.take 57 (.take 58 (.take 59 (.take 60 (.take 61 (.take 62 (.take 63 (.take 64 .done))))))))))))))))))))))))))))))))))))))))))))))))))))))))))))))))) else none

def dx_law04_AtomDoes_L1_0 (e : Env) (K : ((Option Addr) × Nat × Nat × (Option Addr) × (Option Addr)) → Prop) : Prop :=
  onV (getV e 1) fun u1 =>
  asS u1 fun lP_1 lN_1 lC_1 =>
  onV (getV e 5) fun u2 =>
  asP u2 fun t =>
  onV (getV e 7) fun u3 =>
  asP u3 fun x =>
    K (lP_1, lN_1, lC_1, t, x)

def dx_law04_AtomDoes_L1_ret (e : Env) (K : ((Option Addr) × Nat × Nat × (Option Addr) × (Option Addr)) → Bool → Prop) : Prop :=
  onV (getV e 1) fun u1 =>
  asS u1 fun lP_1 lN_1 lC_1 =>
  onV (getV e 5) fun u2 =>
  asP u2 fun t =>
  onV (getV e 7) fun u3 =>
  asP u3 fun x =>
  onV (getV e 4) fun u4 =>
  asB u4 fun t4 =>
    K (lP_1, lN_1, lC_1, t, x) t4

theorem body_law04_AtomDoes_L1 (f : (Option Addr) × Nat × Nat × (Option Addr) × (Option Addr)) (s : S_law04_AtomDoes_L1) (w : World) (Kn : ((Option Addr) × Nat × Nat × (Option Addr) × (Option Addr)) → S_law04_AtomDoes_L1 → World → Prop) (Kx0 : ((Option Addr) × Nat × Nat × (Option Addr) × (Option Addr)) → World → Prop) (Kr : ((Option Addr) × Nat × Nat × (Option Addr) × (Option Addr)) → Bool → World → Prop) :
    B_law04_AtomDoes_L1 f.1 f.2.1 f.2.2.1 f.2.2.2.1 f.2.2.2.2 s w (fun s1 w1 => Kn f s1 w1) (fun w1 => Kx0 f w1) (fun t4 w1 => Kr f t4 w1) =
    den Try.prog Try.f3.ntmps G_law04_AtomDoes (sub (codeOf Try.f3) [false, false, true, false, true, true, true, true]) [false, false, true, false, true, true, true, true] (roundQ (fun e w => dec_law04_AtomDoes_L1 e fun f s => Kn f s w) (fun e w => dx_law04_AtomDoes_L1_ret e fun f t4 => Kr f t4 w) (fun id e w => match Nat.beq id 0 with | true => dx_law04_AtomDoes_L1_0 e fun f => Kx0 f w | false => False)) (lit_law04_AtomDoes_L1 f s) w := by kernel_rfl

theorem ok_law04_AtomDoes_L1 : OneOk Try.prog Try.f3.ntmps G_law04_AtomDoes (codeOf Try.f3) [false, true, false, true, true, true, true] spec_law04_AtomDoes_L1 := by
  intro c hc ih Q e w a hr h
  have hcc : sub (codeOf Try.f3) [false, false, true, false, true, true, true, true] = c := sub_of_codeAt hc
  obtain ⟨f, s, h, hrep⟩ := dec_law04_AtomDoes_L1_ok e a _ hr h
  obtain ⟨J, μ, hj, hround⟩ := h
  refine loop_rule_deep seat_ok seat_mixed ih lit_law04_AtomDoes_L1 dec_law04_AtomDoes_L1 dec_law04_AtomDoes_L1_ok hc f J μ (Kr := fun e w => dx_law04_AtomDoes_L1_ret e fun f1 t4 => f1 = f ∧ Q .ret [⟨4, .bool t4, none⟩] w) (Kx := fun id e w => match Nat.beq id 0 with | true => (dx_law04_AtomDoes_L1_0 e fun f1 => f1 = f ∧ Q (.exit 0) [] w) | false => False) ?_ ?_ ?_ s w a hj hrep
  · intro e a w hr h0
    unfold dx_law04_AtomDoes_L1_ret at h0
    obtain ⟨u1, g1, h1⟩ := onV_elim h0
    obtain ⟨lP_1, lN_1, lC_1, rfl, h2⟩ := asS_elim h1
    obtain ⟨u2, g5, h3⟩ := onV_elim h2
    obtain ⟨t, rfl, h4⟩ := asP_elim h3
    obtain ⟨u3, g7, h5⟩ := onV_elim h4
    obtain ⟨x, rfl, h6⟩ := asP_elim h5
    obtain ⟨u4, g4, h7⟩ := onV_elim h6
    obtain ⟨t4, rfl, h8⟩ := asB_elim h7
    obtain ⟨hf, hq⟩ := h8
    subst hf
    exact ⟨_, rep_less hr (by simp [g4]), hq⟩
  · intro id e a w hr h0
    (try dsimp only at h0)
    split at h0
    · rename_i hid
      obtain rfl := Nat.eq_of_beq_eq_true hid
      unfold dx_law04_AtomDoes_L1_0 at h0
      obtain ⟨u1, g1, h1⟩ := onV_elim h0
      obtain ⟨lP_1, lN_1, lC_1, rfl, h2⟩ := asS_elim h1
      obtain ⟨u2, g5, h3⟩ := onV_elim h2
      obtain ⟨t, rfl, h4⟩ := asP_elim h3
      obtain ⟨u3, g7, h5⟩ := onV_elim h4
      obtain ⟨x, rfl, h6⟩ := asP_elim h5
      obtain ⟨hf, hq⟩ := h6
      subst hf
      exact ⟨_, rep_less hr (by simp), hq⟩
    · exact h0.elim
  · intro s w hj
    have hb := hround s w hj
    rw [← hcc]
    have e1 := body_law04_AtomDoes_L1 f s w (fun f1 s1 w1 => f1 = f ∧ J s1 w1 ∧ μ s1 w1 < μ s w) (fun f1 w1 => f1 = f ∧ Q (.exit 0) [] w1) (fun f1 t4 w1 => f1 = f ∧ Q .ret [⟨4, .bool t4, none⟩] w1)
    simp only [true_and] at e1
    exact cast e1 hb

theorem loops_law04_AtomDoes : LoopOk Try.prog Try.f3.ntmps G_law04_AtomDoes (codeOf Try.f3) := loopOk_list rfl ⟨ok_law04_AtomDoes_L1, trivial⟩

theorem den_law04_AtomDoes (limitx : Int) (lP : Option Addr) (lN : Nat) (lC : Nat) (w : World) (R : Value → World → Prop) :
    F_law04_AtomDoes limitx lP lN lC w (fun r w1 => R (.bool r) w1) = den Try.prog Try.f3.ntmps G_law04_AtomDoes (codeOf Try.f3) [] (postD Try.prog Try.f3.results.toList R) (entry [.int .i64 limitx, .slice lP lN lC] 0) w := by kernel_rfl

theorem C_law04_AtomDoes.of {limitx : Int} {lP : Option Addr} {lN : Nat} {lC : Nat} {w : World} {R : Bool → World → Prop} (h : F_law04_AtomDoes limitx lP lN lC w R) : C_law04_AtomDoes limitx lP lN lC w R := by
  refine (calls_of_den (c := codeOf Try.f3) seat_ok seat_mixed Try.func3 (by kernel_rfl) loops_law04_AtomDoes (args := [.int .i64 limitx, .slice lP lN lC]) rfl (R := fun v w1 => ∃ (r : Bool), v = (.bool r : Value) ∧ R r w1) ?_).mono ?_
  · rw [← den_law04_AtomDoes]
    have e : (fun r w1 => ∃ (r' : Bool), (.bool r : Value) = (.bool r' : Value) ∧ R r' w1) = R := by
      funext r w1
      exact propext ⟨fun ⟨r', he, h⟩ => by simp at he; simp_all, fun h => ⟨_, rfl, h⟩⟩
    simpa only [e] using h
  · rintro en w1 ⟨v, he, r, rfl, h⟩
    exact ⟨_, he, h⟩

structure S_law04_AtomKeeps_L1 where
  idsP : Option Addr
  idsN : Nat
  idsC : Nat
  i : Int

structure S_law04_AtomKeeps_L2 where
  i_1 : Int

structure S_law04_AtomKeeps_L3 where
  i_2 : Int

structure S_law04_AtomKeeps_L5 where
  k : Int

structure S_law04_AtomKeeps_L4 where
  i_3 : Int

def F_law04_AtomKeeps_k1 (R : Bool → World → Prop) (t201 : Int) (w1_2 : World) : Prop :=
  C_law04_lives  w1_2 fun t43 w1_3 =>
  If t43
  (R (t201 == (0 : Int)) w1_3)
  (R false w1_3)

def F_law04_AtomKeeps_k2 (s : S_law04_AtomKeeps_L1) (Kn : S_law04_AtomKeeps_L1 → World → Prop) (idsP_2 : Option Addr) (idsN_2 : Nat) (idsC_2 : Nat) (w1_9 : World) : Prop :=
  Kn ⟨idsP_2, idsN_2, idsC_2, (IntKind.i64.wrap ((s.i : Int) + (1 : Int)))⟩ w1_9

def F_law04_AtomKeeps_k3 (Kr : Bool → World → Prop) (w1_17 : World) : Prop :=
  Kr false w1_17

def F_law04_AtomKeeps_k4 (s : S_law04_AtomKeeps_L3) (Kn : S_law04_AtomKeeps_L3 → World → Prop) (w1_18 : World) : Prop :=
  Kn ⟨(IntKind.i64.wrap ((s.i_2 : Int) + (2 : Int)))⟩ w1_18

def F_law04_AtomKeeps_k6 (s : S_law04_AtomKeeps_L5) (Kn : S_law04_AtomKeeps_L5 → World → Prop) (w1_22 : World) : Prop :=
  Kn ⟨(IntKind.i64.wrap ((s.k : Int) + (1 : Int)))⟩ w1_22

def F_law04_AtomKeeps_k5 (s : S_law04_AtomKeeps_L5) (Kn : S_law04_AtomKeeps_L5 → World → Prop) (w1_21 : World) : Prop :=
  F_law04_AtomKeeps_k6 s Kn w1_21

/-- One round. -/
def B_law04_AtomKeeps_L1 (lP_1 : Option Addr) (lN_1 : Nat) (lC_1 : Nat) (moreP_1 : Option Addr) (moreN_1 : Nat) (moreC_1 : Nat) (t : Option Addr) (s : S_law04_AtomKeeps_L1) (w : World) (Kn : S_law04_AtomKeeps_L1 → World → Prop) (Kx0 : Option Addr → Nat → Nat → World → Prop) (Kr : Bool → World → Prop) : Prop :=
  If (decide ((s.i : Int) < (lN_1 : Int)))
  (0 ≤ (s.i : Int) ∧ (s.i : Int) < (lN_1 : Int) ∧ NN lP_1 fun a =>
  ∃ t59 : ByteArray, w.cell? (a.add ((s.i : Int).toNat * 1)) = some (.string t59) ∧
  C_atom_Table_Intern t t59 w fun t600 t601 w1_5 =>
  0 ≤ (s.i : Int) ∧ (s.i : Int) < (lN_1 : Int) ∧ NN lP_1 fun a_1 =>
  ∃ t68 : ByteArray, w1_5.cell? (a_1.add ((s.i : Int).toNat * 1)) = some (.string t68) ∧
  If (!((t601 == (0 : Int)) == (decide ((t68.size : Int) ≤ (64 : Int)))))
  (Kr false w1_5)
  (BSl Try.prog 42 1 [(0, .int .i64 t600)] w1_5 fun t74P t74N t74C w1_6 =>
  App Try.prog #[42, 42] 42 #[.slice s.idsP s.idsN s.idsC, .slice t74P t74N t74C] w1_6 fun t75P t75N t75C w1_7 =>
  If (t601 == (0 : Int))
  ((2 : Int) ≠ 0 ∧
  If (((s.i : Int).tmod (2 : Int)) == (0 : Int))
  (C_atom_Table_Mark t t600 w1_7 fun t85 w1_8 =>
  F_law04_AtomKeeps_k2 s Kn t75P t75N t75C w1_8)
  (F_law04_AtomKeeps_k2 s Kn t75P t75N t75C w1_7))
  (F_law04_AtomKeeps_k2 s Kn t75P t75N t75C w1_7)))
  (Kx0 s.idsP s.idsN s.idsC w)

def F_law04_AtomKeeps_L1 (lP_1 : Option Addr) (lN_1 : Nat) (lC_1 : Nat) (moreP_1 : Option Addr) (moreN_1 : Nat) (moreC_1 : Nat) (t : Option Addr) (s : S_law04_AtomKeeps_L1) (w : World) (Kx0 : Option Addr → Nat → Nat → World → Prop) (Kr : Bool → World → Prop) : Prop :=
  LoopS (fun s w Kn => B_law04_AtomKeeps_L1 lP_1 lN_1 lC_1 moreP_1 moreN_1 moreC_1 t s w Kn Kx0 Kr) s w

/-- One round. -/
def B_law04_AtomKeeps_L2 (lP_2 : Option Addr) (lN_2 : Nat) (lC_2 : Nat) (moreP_2 : Option Addr) (moreN_2 : Nat) (moreC_2 : Nat) (t_1 : Option Addr) (idsP_4 : Option Addr) (idsN_4 : Nat) (idsC_4 : Nat) (s : S_law04_AtomKeeps_L2) (w : World) (Kn : S_law04_AtomKeeps_L2 → World → Prop) (Kx2 : World → Prop) : Prop :=
  If (decide ((s.i_1 : Int) < (moreN_2 : Int)))
  (0 ≤ (s.i_1 : Int) ∧ (s.i_1 : Int) < (moreN_2 : Int) ∧ NN moreP_2 fun a_2 =>
  ∃ t98 : ByteArray, w.cell? (a_2.add ((s.i_1 : Int).toNat * 1)) = some (.string t98) ∧
  C_atom_Table_Intern t_1 t98 w fun t990 t991 w1_13 =>
  Kn ⟨(IntKind.i64.wrap ((s.i_1 : Int) + (1 : Int)))⟩ w1_13)
  (Kx2 w)

def F_law04_AtomKeeps_L2 (lP_2 : Option Addr) (lN_2 : Nat) (lC_2 : Nat) (moreP_2 : Option Addr) (moreN_2 : Nat) (moreC_2 : Nat) (t_1 : Option Addr) (idsP_4 : Option Addr) (idsN_4 : Nat) (idsC_4 : Nat) (s : S_law04_AtomKeeps_L2) (w : World) (Kx2 : World → Prop) : Prop :=
  LoopS (fun s w Kn => B_law04_AtomKeeps_L2 lP_2 lN_2 lC_2 moreP_2 moreN_2 moreC_2 t_1 idsP_4 idsN_4 idsC_4 s w Kn Kx2) s w

/-- One round. -/
def B_law04_AtomKeeps_L3 (lP_3 : Option Addr) (lN_3 : Nat) (lC_3 : Nat) (t_2 : Option Addr) (idsP_5 : Option Addr) (idsN_5 : Nat) (idsC_5 : Nat) (s : S_law04_AtomKeeps_L3) (w : World) (Kn : S_law04_AtomKeeps_L3 → World → Prop) (Kx4 : World → Prop) (Kr : Bool → World → Prop) : Prop :=
  If (decide ((s.i_2 : Int) < (lN_3 : Int)))
  (0 ≤ (s.i_2 : Int) ∧ (s.i_2 : Int) < (lN_3 : Int) ∧ NN lP_3 fun a_3 =>
  ∃ t109 : ByteArray, w.cell? (a_3.add ((s.i_2 : Int).toNat * 1)) = some (.string t109) ∧
  If (decide ((t109.size : Int) > (64 : Int)))
  (F_law04_AtomKeeps_k4 s Kn w)
  (0 ≤ (s.i_2 : Int) ∧ (s.i_2 : Int) < (idsN_5 : Int) ∧ NN idsP_5 fun a_4 =>
  ∃ t117 : Int, w.cell? (a_4.add ((s.i_2 : Int).toNat * 1)) = some (.int .i64 t117) ∧
  C_atom_Table_Name t_2 t117 w fun t1180 t1181 w1_15 =>
  0 ≤ (s.i_2 : Int) ∧ (s.i_2 : Int) < (lN_3 : Int) ∧ NN lP_3 fun a_5 =>
  ∃ t126 : ByteArray, w1_15.cell? (a_5.add ((s.i_2 : Int).toNat * 1)) = some (.string t126) ∧
  C_atom_Table_Find t_2 t126 w1_15 fun t1270 t1271 w1_16 =>
  If (t1181 != (0 : Int))
  (F_law04_AtomKeeps_k3 Kr w1_16)
  (0 ≤ (s.i_2 : Int) ∧ (s.i_2 : Int) < (lN_3 : Int) ∧ NN lP_3 fun a_6 =>
  ∃ t137 : ByteArray, w1_16.cell? (a_6.add ((s.i_2 : Int).toNat * 1)) = some (.string t137) ∧
  If (!(t1180.toList == t137.toList))
  (F_law04_AtomKeeps_k3 Kr w1_16)
  (If (!t1271)
  (F_law04_AtomKeeps_k3 Kr w1_16)
  (0 ≤ (s.i_2 : Int) ∧ (s.i_2 : Int) < (idsN_5 : Int) ∧ NN idsP_5 fun a_7 =>
  ∃ t149 : Int, w1_16.cell? (a_7.add ((s.i_2 : Int).toNat * 1)) = some (.int .i64 t149) ∧
  If (t1270 != t149)
  (Kr false w1_16)
  (F_law04_AtomKeeps_k4 s Kn w1_16))))))
  (Kx4 w)

def F_law04_AtomKeeps_L3 (lP_3 : Option Addr) (lN_3 : Nat) (lC_3 : Nat) (t_2 : Option Addr) (idsP_5 : Option Addr) (idsN_5 : Nat) (idsC_5 : Nat) (s : S_law04_AtomKeeps_L3) (w : World) (Kx4 : World → Prop) (Kr : Bool → World → Prop) : Prop :=
  LoopS (fun s w Kn => B_law04_AtomKeeps_L3 lP_3 lN_3 lC_3 t_2 idsP_5 idsN_5 idsC_5 s w Kn Kx4 Kr) s w

/-- One round. -/
def B_law04_AtomKeeps_L5 (lP_5 : Option Addr) (lN_5 : Nat) (lC_5 : Nat) (idsP_7 : Option Addr) (idsN_7 : Nat) (idsC_7 : Nat) (i_4 : Int) (s : S_law04_AtomKeeps_L5) (w : World) (Kn : S_law04_AtomKeeps_L5 → World → Prop) (Kx8 : World → Prop) (Kr : Bool → World → Prop) : Prop :=
  If (decide ((s.k : Int) < i_4))
  (0 ≤ i_4 ∧ i_4 < (lN_5 : Int) ∧ NN lP_5 fun a_8 =>
  ∃ t166 : ByteArray, (drw w).cell? (a_8.add (i_4.toNat * 1)) = some (.string t166) ∧
  If (decide ((t166.size : Int) ≤ (64 : Int)))
  (0 ≤ (s.k : Int) ∧ (s.k : Int) < (lN_5 : Int) ∧ NN lP_5 fun a_9 =>
  ∃ t173 : ByteArray, (drw w).cell? (a_9.add ((s.k : Int).toNat * 1)) = some (.string t173) ∧
  If (decide ((t173.size : Int) ≤ (64 : Int)))
  (0 ≤ i_4 ∧ i_4 < (idsN_7 : Int) ∧ NN idsP_7 fun a_10 =>
  ∃ t181 : Int, (drw w).cell? (a_10.add (i_4.toNat * 1)) = some (.int .i64 t181) ∧
  0 ≤ (s.k : Int) ∧ (s.k : Int) < (idsN_7 : Int) ∧ NN idsP_7 fun a_11 =>
  ∃ t185 : Int, (drw w).cell? (a_11.add ((s.k : Int).toNat * 1)) = some (.int .i64 t185) ∧
  0 ≤ i_4 ∧ i_4 < (lN_5 : Int) ∧ NN lP_5 fun a_12 =>
  ∃ t190 : ByteArray, (drw w).cell? (a_12.add (i_4.toNat * 1)) = some (.string t190) ∧
  0 ≤ (s.k : Int) ∧ (s.k : Int) < (lN_5 : Int) ∧ NN lP_5 fun a_13 =>
  ∃ t194 : ByteArray, (drw w).cell? (a_13.add ((s.k : Int).toNat * 1)) = some (.string t194) ∧
  If (!((t181 == t185) == (t190.toList == t194.toList)))
  (Kr false (drw w))
  (F_law04_AtomKeeps_k6 s Kn (drw w)))
  (F_law04_AtomKeeps_k5 s Kn (drw w)))
  (F_law04_AtomKeeps_k5 s Kn (drw w)))
  (Kx8 w)

def F_law04_AtomKeeps_L5 (lP_5 : Option Addr) (lN_5 : Nat) (lC_5 : Nat) (idsP_7 : Option Addr) (idsN_7 : Nat) (idsC_7 : Nat) (i_4 : Int) (s : S_law04_AtomKeeps_L5) (w : World) (Kx8 : World → Prop) (Kr : Bool → World → Prop) : Prop :=
  LoopS (fun s w Kn => B_law04_AtomKeeps_L5 lP_5 lN_5 lC_5 idsP_7 idsN_7 idsC_7 i_4 s w Kn Kx8 Kr) s w

/-- One round. -/
def B_law04_AtomKeeps_L4 (lP_4 : Option Addr) (lN_4 : Nat) (lC_4 : Nat) (idsP_6 : Option Addr) (idsN_6 : Nat) (idsC_6 : Nat) (s : S_law04_AtomKeeps_L4) (w : World) (Kn : S_law04_AtomKeeps_L4 → World → Prop) (Kx6 : World → Prop) (Kr : Bool → World → Prop) : Prop :=
  If (decide ((s.i_3 : Int) < (lN_4 : Int)))
  (F_law04_AtomKeeps_L5 lP_4 lN_4 lC_4 idsP_6 idsN_6 idsC_6 (s.i_3 : Int) ⟨(0 : Int)⟩ w
  (fun w1_23 =>
  Kn ⟨(IntKind.i64.wrap ((s.i_3 : Int) + (1 : Int)))⟩ w1_23)
  (fun t4_6 w1_24 =>
  Kr t4_6 w1_24))
  (Kx6 w)

def F_law04_AtomKeeps_L4 (lP_4 : Option Addr) (lN_4 : Nat) (lC_4 : Nat) (idsP_6 : Option Addr) (idsN_6 : Nat) (idsC_6 : Nat) (s : S_law04_AtomKeeps_L4) (w : World) (Kx6 : World → Prop) (Kr : Bool → World → Prop) : Prop :=
  LoopS (fun s w Kn => B_law04_AtomKeeps_L4 lP_4 lN_4 lC_4 idsP_6 idsN_6 idsC_6 s w Kn Kx6 Kr) s w

def F_law04_AtomKeeps (lP : Option Addr) (lN : Nat) (lC : Nat) (moreP : Option Addr) (moreN : Nat) (moreC : Nat) (w : World) (R : Bool → World → Prop) : Prop :=
  C_atom_New (16384 : Int) w fun t200 t201 w1 =>
  C_law04_lives  w1 fun t23 w1_1 =>
  If (!t23)
  (F_law04_AtomKeeps_k1 R t201 w1_1)
  (If (t201 != (0 : Int))
  (F_law04_AtomKeeps_k1 R t201 w1_1)
  (If t200.isNone
  (F_law04_AtomKeeps_k1 R t201 w1_1)
  (If (decide ((lN : Int) > (50 : Int)))
  (F_law04_AtomKeeps_k1 R t201 w1_1)
  (If (decide ((moreN : Int) > (50 : Int)))
  (C_law04_lives  w1_1 fun t43_1 w1_4 =>
  If t43_1
  (R (t201 == (0 : Int)) w1_4)
  (R false w1_4))
  (F_law04_AtomKeeps_L1 lP lN lC moreP moreN moreC t200 ⟨none, 0, 0, (0 : Int)⟩ w1_1
  (fun idsP_3 idsN_3 idsC_3 w1_10 =>
  C_atom_Table_Sweep t200 w1_10 fun t87 w1_12 =>
  F_law04_AtomKeeps_L2 lP lN lC moreP moreN moreC t200 idsP_3 idsN_3 idsC_3 ⟨(0 : Int)⟩ w1_12
  (fun w1_14 =>
  F_law04_AtomKeeps_L3 lP lN lC t200 idsP_3 idsN_3 idsC_3 ⟨(0 : Int)⟩ w1_14
  (fun w1_19 =>
  F_law04_AtomKeeps_L4 lP lN lC idsP_3 idsN_3 idsC_3 ⟨(0 : Int)⟩ w1_19
  (fun w1_25 =>
  R true w1_25)
  (fun t4_7 w1_26 =>
  R t4_7 w1_26))
  (fun t4_3 w1_20 =>
  R t4_3 w1_20)))
  (fun t4_1 w1_11 =>
  R t4_1 w1_11))))))

def lit_law04_AtomKeeps_L1 (f : (Option Addr) × Nat × Nat × (Option Addr) × Nat × Nat × (Option Addr)) (s : S_law04_AtomKeeps_L1) : Env := [⟨0, .slice f.1 f.2.1 f.2.2.1, none⟩, ⟨1, .slice f.2.2.2.1 f.2.2.2.2.1 f.2.2.2.2.2.1, none⟩, ⟨5, .pointer f.2.2.2.2.2.2, none⟩, ⟨7, .slice s.idsP s.idsN s.idsC, none⟩, ⟨8, .int .i64 s.i, none⟩]

def dec_law04_AtomKeeps_L1 (e : Env) (K : ((Option Addr) × Nat × Nat × (Option Addr) × Nat × Nat × (Option Addr)) → S_law04_AtomKeeps_L1 → Prop) : Prop :=
  onV (getV e 0) fun u1 =>
  asS u1 fun lP_1 lN_1 lC_1 =>
  onV (getV e 1) fun u2 =>
  asS u2 fun moreP_1 moreN_1 moreC_1 =>
  onV (getV e 5) fun u3 =>
  asP u3 fun t =>
  onV (getV e 7) fun u4 =>
  asS u4 fun idsP idsN idsC =>
  onV (getV e 8) fun u5 =>
  asI .i64 u5 fun i =>
    K (lP_1, lN_1, lC_1, moreP_1, moreN_1, moreC_1, t) ⟨idsP, idsN, idsC, i⟩

theorem dec_law04_AtomKeeps_L1_ok {N : Nat} (e : Env) (a : Act) (K : ((Option Addr) × Nat × Nat × (Option Addr) × Nat × Nat × (Option Addr)) → S_law04_AtomKeeps_L1 → Prop) (hr : Rep N a e) (h0 : dec_law04_AtomKeeps_L1 e K) : ∃ f s, K f s ∧ Rep N a (lit_law04_AtomKeeps_L1 f s) := by
  unfold dec_law04_AtomKeeps_L1 at h0
  obtain ⟨u1, g0, h1⟩ := onV_elim h0
  obtain ⟨lP_1, lN_1, lC_1, rfl, h2⟩ := asS_elim h1
  obtain ⟨u2, g1, h3⟩ := onV_elim h2
  obtain ⟨moreP_1, moreN_1, moreC_1, rfl, h4⟩ := asS_elim h3
  obtain ⟨u3, g5, h5⟩ := onV_elim h4
  obtain ⟨t, rfl, h6⟩ := asP_elim h5
  obtain ⟨u4, g7, h7⟩ := onV_elim h6
  obtain ⟨idsP, idsN, idsC, rfl, h8⟩ := asS_elim h7
  obtain ⟨u5, g8, h9⟩ := onV_elim h8
  obtain ⟨i, rfl, h10⟩ := asI_elim h9
  exact ⟨_, _, h10, rep_less hr (by simp [lit_law04_AtomKeeps_L1, g0, g1, g5, g7, g8])⟩

def spec_law04_AtomKeeps_L1 (Q : Post) (e : Env) (w : World) : Prop :=
  dec_law04_AtomKeeps_L1 e fun f s => F_law04_AtomKeeps_L1 f.1 f.2.1 f.2.2.1 f.2.2.2.1 f.2.2.2.2.1 f.2.2.2.2.2.1 f.2.2.2.2.2.2 s w (fun idsP_1 idsN_1 idsC_1 w1 => Q (.exit 0) [⟨0, .slice f.1 f.2.1 f.2.2.1, none⟩, ⟨1, .slice f.2.2.2.1 f.2.2.2.2.1 f.2.2.2.2.2.1, none⟩, ⟨5, .pointer f.2.2.2.2.2.2, none⟩, ⟨7, .slice idsP_1 idsN_1 idsC_1, none⟩] w1) (fun t4 w1 => Q .ret [⟨4, .bool t4, none⟩] w1)

def lit_law04_AtomKeeps_L2 (f : (Option Addr) × Nat × Nat × (Option Addr) × Nat × Nat × (Option Addr) × (Option Addr) × Nat × Nat) (s : S_law04_AtomKeeps_L2) : Env := [⟨0, .slice f.1 f.2.1 f.2.2.1, none⟩, ⟨1, .slice f.2.2.2.1 f.2.2.2.2.1 f.2.2.2.2.2.1, none⟩, ⟨5, .pointer f.2.2.2.2.2.2.1, none⟩, ⟨7, .slice f.2.2.2.2.2.2.2.1 f.2.2.2.2.2.2.2.2.1 f.2.2.2.2.2.2.2.2.2, none⟩, ⟨11, .int .i64 s.i_1, none⟩]

def dec_law04_AtomKeeps_L2 (e : Env) (K : ((Option Addr) × Nat × Nat × (Option Addr) × Nat × Nat × (Option Addr) × (Option Addr) × Nat × Nat) → S_law04_AtomKeeps_L2 → Prop) : Prop :=
  onV (getV e 0) fun u1 =>
  asS u1 fun lP_2 lN_2 lC_2 =>
  onV (getV e 1) fun u2 =>
  asS u2 fun moreP_2 moreN_2 moreC_2 =>
  onV (getV e 5) fun u3 =>
  asP u3 fun t_1 =>
  onV (getV e 7) fun u4 =>
  asS u4 fun idsP_4 idsN_4 idsC_4 =>
  onV (getV e 11) fun u5 =>
  asI .i64 u5 fun i_1 =>
    K (lP_2, lN_2, lC_2, moreP_2, moreN_2, moreC_2, t_1, idsP_4, idsN_4, idsC_4) ⟨i_1⟩

theorem dec_law04_AtomKeeps_L2_ok {N : Nat} (e : Env) (a : Act) (K : ((Option Addr) × Nat × Nat × (Option Addr) × Nat × Nat × (Option Addr) × (Option Addr) × Nat × Nat) → S_law04_AtomKeeps_L2 → Prop) (hr : Rep N a e) (h0 : dec_law04_AtomKeeps_L2 e K) : ∃ f s, K f s ∧ Rep N a (lit_law04_AtomKeeps_L2 f s) := by
  unfold dec_law04_AtomKeeps_L2 at h0
  obtain ⟨u1, g0, h1⟩ := onV_elim h0
  obtain ⟨lP_2, lN_2, lC_2, rfl, h2⟩ := asS_elim h1
  obtain ⟨u2, g1, h3⟩ := onV_elim h2
  obtain ⟨moreP_2, moreN_2, moreC_2, rfl, h4⟩ := asS_elim h3
  obtain ⟨u3, g5, h5⟩ := onV_elim h4
  obtain ⟨t_1, rfl, h6⟩ := asP_elim h5
  obtain ⟨u4, g7, h7⟩ := onV_elim h6
  obtain ⟨idsP_4, idsN_4, idsC_4, rfl, h8⟩ := asS_elim h7
  obtain ⟨u5, g11, h9⟩ := onV_elim h8
  obtain ⟨i_1, rfl, h10⟩ := asI_elim h9
  exact ⟨_, _, h10, rep_less hr (by simp [lit_law04_AtomKeeps_L2, g0, g1, g5, g7, g11])⟩

def spec_law04_AtomKeeps_L2 (Q : Post) (e : Env) (w : World) : Prop :=
  dec_law04_AtomKeeps_L2 e fun f s => F_law04_AtomKeeps_L2 f.1 f.2.1 f.2.2.1 f.2.2.2.1 f.2.2.2.2.1 f.2.2.2.2.2.1 f.2.2.2.2.2.2.1 f.2.2.2.2.2.2.2.1 f.2.2.2.2.2.2.2.2.1 f.2.2.2.2.2.2.2.2.2 s w (fun w1 => Q (.exit 2) [⟨0, .slice f.1 f.2.1 f.2.2.1, none⟩, ⟨5, .pointer f.2.2.2.2.2.2.1, none⟩, ⟨7, .slice f.2.2.2.2.2.2.2.1 f.2.2.2.2.2.2.2.2.1 f.2.2.2.2.2.2.2.2.2, none⟩] w1)

def lit_law04_AtomKeeps_L3 (f : (Option Addr) × Nat × Nat × (Option Addr) × (Option Addr) × Nat × Nat) (s : S_law04_AtomKeeps_L3) : Env := [⟨0, .slice f.1 f.2.1 f.2.2.1, none⟩, ⟨5, .pointer f.2.2.2.1, none⟩, ⟨7, .slice f.2.2.2.2.1 f.2.2.2.2.2.1 f.2.2.2.2.2.2, none⟩, ⟨12, .int .i64 s.i_2, none⟩]

def dec_law04_AtomKeeps_L3 (e : Env) (K : ((Option Addr) × Nat × Nat × (Option Addr) × (Option Addr) × Nat × Nat) → S_law04_AtomKeeps_L3 → Prop) : Prop :=
  onV (getV e 0) fun u1 =>
  asS u1 fun lP_3 lN_3 lC_3 =>
  onV (getV e 5) fun u2 =>
  asP u2 fun t_2 =>
  onV (getV e 7) fun u3 =>
  asS u3 fun idsP_5 idsN_5 idsC_5 =>
  onV (getV e 12) fun u4 =>
  asI .i64 u4 fun i_2 =>
    K (lP_3, lN_3, lC_3, t_2, idsP_5, idsN_5, idsC_5) ⟨i_2⟩

theorem dec_law04_AtomKeeps_L3_ok {N : Nat} (e : Env) (a : Act) (K : ((Option Addr) × Nat × Nat × (Option Addr) × (Option Addr) × Nat × Nat) → S_law04_AtomKeeps_L3 → Prop) (hr : Rep N a e) (h0 : dec_law04_AtomKeeps_L3 e K) : ∃ f s, K f s ∧ Rep N a (lit_law04_AtomKeeps_L3 f s) := by
  unfold dec_law04_AtomKeeps_L3 at h0
  obtain ⟨u1, g0, h1⟩ := onV_elim h0
  obtain ⟨lP_3, lN_3, lC_3, rfl, h2⟩ := asS_elim h1
  obtain ⟨u2, g5, h3⟩ := onV_elim h2
  obtain ⟨t_2, rfl, h4⟩ := asP_elim h3
  obtain ⟨u3, g7, h5⟩ := onV_elim h4
  obtain ⟨idsP_5, idsN_5, idsC_5, rfl, h6⟩ := asS_elim h5
  obtain ⟨u4, g12, h7⟩ := onV_elim h6
  obtain ⟨i_2, rfl, h8⟩ := asI_elim h7
  exact ⟨_, _, h8, rep_less hr (by simp [lit_law04_AtomKeeps_L3, g0, g5, g7, g12])⟩

def spec_law04_AtomKeeps_L3 (Q : Post) (e : Env) (w : World) : Prop :=
  dec_law04_AtomKeeps_L3 e fun f s => F_law04_AtomKeeps_L3 f.1 f.2.1 f.2.2.1 f.2.2.2.1 f.2.2.2.2.1 f.2.2.2.2.2.1 f.2.2.2.2.2.2 s w (fun w1 => Q (.exit 4) [⟨0, .slice f.1 f.2.1 f.2.2.1, none⟩, ⟨7, .slice f.2.2.2.2.1 f.2.2.2.2.2.1 f.2.2.2.2.2.2, none⟩] w1) (fun t4_2 w1 => Q .ret [⟨4, .bool t4_2, none⟩] w1)

def lit_law04_AtomKeeps_L4 (f : (Option Addr) × Nat × Nat × (Option Addr) × Nat × Nat) (s : S_law04_AtomKeeps_L4) : Env := [⟨0, .slice f.1 f.2.1 f.2.2.1, none⟩, ⟨7, .slice f.2.2.2.1 f.2.2.2.2.1 f.2.2.2.2.2, none⟩, ⟨17, .int .i64 s.i_3, none⟩]

def dec_law04_AtomKeeps_L4 (e : Env) (K : ((Option Addr) × Nat × Nat × (Option Addr) × Nat × Nat) → S_law04_AtomKeeps_L4 → Prop) : Prop :=
  onV (getV e 0) fun u1 =>
  asS u1 fun lP_4 lN_4 lC_4 =>
  onV (getV e 7) fun u2 =>
  asS u2 fun idsP_6 idsN_6 idsC_6 =>
  onV (getV e 17) fun u3 =>
  asI .i64 u3 fun i_3 =>
    K (lP_4, lN_4, lC_4, idsP_6, idsN_6, idsC_6) ⟨i_3⟩

theorem dec_law04_AtomKeeps_L4_ok {N : Nat} (e : Env) (a : Act) (K : ((Option Addr) × Nat × Nat × (Option Addr) × Nat × Nat) → S_law04_AtomKeeps_L4 → Prop) (hr : Rep N a e) (h0 : dec_law04_AtomKeeps_L4 e K) : ∃ f s, K f s ∧ Rep N a (lit_law04_AtomKeeps_L4 f s) := by
  unfold dec_law04_AtomKeeps_L4 at h0
  obtain ⟨u1, g0, h1⟩ := onV_elim h0
  obtain ⟨lP_4, lN_4, lC_4, rfl, h2⟩ := asS_elim h1
  obtain ⟨u2, g7, h3⟩ := onV_elim h2
  obtain ⟨idsP_6, idsN_6, idsC_6, rfl, h4⟩ := asS_elim h3
  obtain ⟨u3, g17, h5⟩ := onV_elim h4
  obtain ⟨i_3, rfl, h6⟩ := asI_elim h5
  exact ⟨_, _, h6, rep_less hr (by simp [lit_law04_AtomKeeps_L4, g0, g7, g17])⟩

def spec_law04_AtomKeeps_L4 (Q : Post) (e : Env) (w : World) : Prop :=
  dec_law04_AtomKeeps_L4 e fun f s => F_law04_AtomKeeps_L4 f.1 f.2.1 f.2.2.1 f.2.2.2.1 f.2.2.2.2.1 f.2.2.2.2.2 s w (fun w1 => Q (.exit 6) [] w1) (fun t4_4 w1 => Q .ret [⟨4, .bool t4_4, none⟩] w1)

def lit_law04_AtomKeeps_L5 (f : (Option Addr) × Nat × Nat × (Option Addr) × Nat × Nat × Int) (s : S_law04_AtomKeeps_L5) : Env := [⟨0, .slice f.1 f.2.1 f.2.2.1, none⟩, ⟨7, .slice f.2.2.2.1 f.2.2.2.2.1 f.2.2.2.2.2.1, none⟩, ⟨17, .int .i64 f.2.2.2.2.2.2, none⟩, ⟨18, .int .i64 s.k, none⟩]

def dec_law04_AtomKeeps_L5 (e : Env) (K : ((Option Addr) × Nat × Nat × (Option Addr) × Nat × Nat × Int) → S_law04_AtomKeeps_L5 → Prop) : Prop :=
  onV (getV e 0) fun u1 =>
  asS u1 fun lP_5 lN_5 lC_5 =>
  onV (getV e 7) fun u2 =>
  asS u2 fun idsP_7 idsN_7 idsC_7 =>
  onV (getV e 17) fun u3 =>
  asI .i64 u3 fun i_4 =>
  onV (getV e 18) fun u4 =>
  asI .i64 u4 fun k =>
    K (lP_5, lN_5, lC_5, idsP_7, idsN_7, idsC_7, i_4) ⟨k⟩

theorem dec_law04_AtomKeeps_L5_ok {N : Nat} (e : Env) (a : Act) (K : ((Option Addr) × Nat × Nat × (Option Addr) × Nat × Nat × Int) → S_law04_AtomKeeps_L5 → Prop) (hr : Rep N a e) (h0 : dec_law04_AtomKeeps_L5 e K) : ∃ f s, K f s ∧ Rep N a (lit_law04_AtomKeeps_L5 f s) := by
  unfold dec_law04_AtomKeeps_L5 at h0
  obtain ⟨u1, g0, h1⟩ := onV_elim h0
  obtain ⟨lP_5, lN_5, lC_5, rfl, h2⟩ := asS_elim h1
  obtain ⟨u2, g7, h3⟩ := onV_elim h2
  obtain ⟨idsP_7, idsN_7, idsC_7, rfl, h4⟩ := asS_elim h3
  obtain ⟨u3, g17, h5⟩ := onV_elim h4
  obtain ⟨i_4, rfl, h6⟩ := asI_elim h5
  obtain ⟨u4, g18, h7⟩ := onV_elim h6
  obtain ⟨k, rfl, h8⟩ := asI_elim h7
  exact ⟨_, _, h8, rep_less hr (by simp [lit_law04_AtomKeeps_L5, g0, g7, g17, g18])⟩

def spec_law04_AtomKeeps_L5 (Q : Post) (e : Env) (w : World) : Prop :=
  dec_law04_AtomKeeps_L5 e fun f s => F_law04_AtomKeeps_L5 f.1 f.2.1 f.2.2.1 f.2.2.2.1 f.2.2.2.2.1 f.2.2.2.2.2.1 f.2.2.2.2.2.2 s w (fun w1 => Q (.exit 8) [⟨0, .slice f.1 f.2.1 f.2.2.1, none⟩, ⟨7, .slice f.2.2.2.1 f.2.2.2.2.1 f.2.2.2.2.2.1, none⟩, ⟨17, .int .i64 f.2.2.2.2.2.2, none⟩] w1) (fun t4_5 w1 => Q .ret [⟨0, .slice f.1 f.2.1 f.2.2.1, none⟩, ⟨7, .slice f.2.2.2.1 f.2.2.2.2.1 f.2.2.2.2.2.1, none⟩, ⟨4, .bool t4_5, none⟩] w1)

def G_law04_AtomKeeps : Gen where
  loop := lookL [([false, true, false, true, true, true, true], spec_law04_AtomKeeps_L1), ([false, true, false, true, true, true, true, true, true], spec_law04_AtomKeeps_L2), ([false, true, false, true, true, true, true, true, true, true], spec_law04_AtomKeeps_L3), ([false, true, false, true, true, true, true, true, true, true, true], spec_law04_AtomKeeps_L4), ([false, true, false, false, true, false, false, true, false, true, true, true, true, true, true, true, true], spec_law04_AtomKeeps_L5)]
  plan := fun id =>
    bif Nat.beq id 33 then some ([0, 0, 3, 7, 15, 31, 63, 127, 127, 511, 1023, 2047, 4095, 8191, 16383, 32767, 32767, 131071, 262143, 32767, 32767, 1605631, 3702783, 8388607, 32767, 32767, 50364415, 117473279, 32767, 32767, 805339135, 1879080959, 4278222847, 8589934591, 17179869183], .take 0 (.take 1 (.take 2 (.take 3 (.take 4 (.take 5 (.take 6 (.take 7 (.take 8 (.take 9 (.take 10 (.take 11 (.take 12 (.take 13 (.take 14 (.take 15 (.take 16 (.take 17 (.take 18 (.take 19 (.take 20 (.take 21 (.take 22 (.take 23 (.take 24 (.take 25 (.take 26 (.take 27 (.take 28 (.take 29 (.take 30 (.take 31 (.take 32 (.take 33 (.take 34 .done))))))))))))))))))))))))))))))))))) else none

def dx_law04_AtomKeeps_L1_0 (e : Env) (K : ((Option Addr) × Nat × Nat × (Option Addr) × Nat × Nat × (Option Addr)) → Option Addr → Nat → Nat → Prop) : Prop :=
  onV (getV e 0) fun u1 =>
  asS u1 fun lP_1 lN_1 lC_1 =>
  onV (getV e 1) fun u2 =>
  asS u2 fun moreP_1 moreN_1 moreC_1 =>
  onV (getV e 5) fun u3 =>
  asP u3 fun t =>
  onV (getV e 7) fun u4 =>
  asS u4 fun idsP_1 idsN_1 idsC_1 =>
    K (lP_1, lN_1, lC_1, moreP_1, moreN_1, moreC_1, t) idsP_1 idsN_1 idsC_1

def dx_law04_AtomKeeps_L1_ret (e : Env) (K : ((Option Addr) × Nat × Nat × (Option Addr) × Nat × Nat × (Option Addr)) → Bool → Prop) : Prop :=
  onV (getV e 0) fun u1 =>
  asS u1 fun lP_1 lN_1 lC_1 =>
  onV (getV e 1) fun u2 =>
  asS u2 fun moreP_1 moreN_1 moreC_1 =>
  onV (getV e 5) fun u3 =>
  asP u3 fun t =>
  onV (getV e 4) fun u4 =>
  asB u4 fun t4 =>
    K (lP_1, lN_1, lC_1, moreP_1, moreN_1, moreC_1, t) t4

theorem body_law04_AtomKeeps_L1 (f : (Option Addr) × Nat × Nat × (Option Addr) × Nat × Nat × (Option Addr)) (s : S_law04_AtomKeeps_L1) (w : World) (Kn : ((Option Addr) × Nat × Nat × (Option Addr) × Nat × Nat × (Option Addr)) → S_law04_AtomKeeps_L1 → World → Prop) (Kx0 : ((Option Addr) × Nat × Nat × (Option Addr) × Nat × Nat × (Option Addr)) → Option Addr → Nat → Nat → World → Prop) (Kr : ((Option Addr) × Nat × Nat × (Option Addr) × Nat × Nat × (Option Addr)) → Bool → World → Prop) :
    B_law04_AtomKeeps_L1 f.1 f.2.1 f.2.2.1 f.2.2.2.1 f.2.2.2.2.1 f.2.2.2.2.2.1 f.2.2.2.2.2.2 s w (fun s1 w1 => Kn f s1 w1) (fun idsP_1 idsN_1 idsC_1 w1 => Kx0 f idsP_1 idsN_1 idsC_1 w1) (fun t4 w1 => Kr f t4 w1) =
    den Try.prog Try.f4.ntmps G_law04_AtomKeeps (sub (codeOf Try.f4) [false, false, true, false, true, true, true, true]) [false, false, true, false, true, true, true, true] (roundQ (fun e w => dec_law04_AtomKeeps_L1 e fun f s => Kn f s w) (fun e w => dx_law04_AtomKeeps_L1_ret e fun f t4 => Kr f t4 w) (fun id e w => match Nat.beq id 0 with | true => dx_law04_AtomKeeps_L1_0 e fun f idsP_1 idsN_1 idsC_1 => Kx0 f idsP_1 idsN_1 idsC_1 w | false => False)) (lit_law04_AtomKeeps_L1 f s) w := by kernel_rfl

def dx_law04_AtomKeeps_L2_2 (e : Env) (K : ((Option Addr) × Nat × Nat × (Option Addr) × Nat × Nat × (Option Addr) × (Option Addr) × Nat × Nat) → Prop) : Prop :=
  onV (getV e 0) fun u1 =>
  asS u1 fun lP_2 lN_2 lC_2 =>
  onV (getV e 1) fun u2 =>
  asS u2 fun moreP_2 moreN_2 moreC_2 =>
  onV (getV e 5) fun u3 =>
  asP u3 fun t_1 =>
  onV (getV e 7) fun u4 =>
  asS u4 fun idsP_4 idsN_4 idsC_4 =>
    K (lP_2, lN_2, lC_2, moreP_2, moreN_2, moreC_2, t_1, idsP_4, idsN_4, idsC_4)

theorem body_law04_AtomKeeps_L2 (f : (Option Addr) × Nat × Nat × (Option Addr) × Nat × Nat × (Option Addr) × (Option Addr) × Nat × Nat) (s : S_law04_AtomKeeps_L2) (w : World) (Kn : ((Option Addr) × Nat × Nat × (Option Addr) × Nat × Nat × (Option Addr) × (Option Addr) × Nat × Nat) → S_law04_AtomKeeps_L2 → World → Prop) (Kx2 : ((Option Addr) × Nat × Nat × (Option Addr) × Nat × Nat × (Option Addr) × (Option Addr) × Nat × Nat) → World → Prop) :
    B_law04_AtomKeeps_L2 f.1 f.2.1 f.2.2.1 f.2.2.2.1 f.2.2.2.2.1 f.2.2.2.2.2.1 f.2.2.2.2.2.2.1 f.2.2.2.2.2.2.2.1 f.2.2.2.2.2.2.2.2.1 f.2.2.2.2.2.2.2.2.2 s w (fun s1 w1 => Kn f s1 w1) (fun w1 => Kx2 f w1) =
    den Try.prog Try.f4.ntmps G_law04_AtomKeeps (sub (codeOf Try.f4) [false, false, true, false, true, true, true, true, true, true]) [false, false, true, false, true, true, true, true, true, true] (roundQ (fun e w => dec_law04_AtomKeeps_L2 e fun f s => Kn f s w) (fun e w => False) (fun id e w => match Nat.beq id 2 with | true => dx_law04_AtomKeeps_L2_2 e fun f => Kx2 f w | false => False)) (lit_law04_AtomKeeps_L2 f s) w := by kernel_rfl

def dx_law04_AtomKeeps_L3_4 (e : Env) (K : ((Option Addr) × Nat × Nat × (Option Addr) × (Option Addr) × Nat × Nat) → Prop) : Prop :=
  onV (getV e 0) fun u1 =>
  asS u1 fun lP_3 lN_3 lC_3 =>
  onV (getV e 5) fun u2 =>
  asP u2 fun t_2 =>
  onV (getV e 7) fun u3 =>
  asS u3 fun idsP_5 idsN_5 idsC_5 =>
    K (lP_3, lN_3, lC_3, t_2, idsP_5, idsN_5, idsC_5)

def dx_law04_AtomKeeps_L3_ret (e : Env) (K : ((Option Addr) × Nat × Nat × (Option Addr) × (Option Addr) × Nat × Nat) → Bool → Prop) : Prop :=
  onV (getV e 0) fun u1 =>
  asS u1 fun lP_3 lN_3 lC_3 =>
  onV (getV e 5) fun u2 =>
  asP u2 fun t_2 =>
  onV (getV e 7) fun u3 =>
  asS u3 fun idsP_5 idsN_5 idsC_5 =>
  onV (getV e 4) fun u4 =>
  asB u4 fun t4_2 =>
    K (lP_3, lN_3, lC_3, t_2, idsP_5, idsN_5, idsC_5) t4_2

theorem body_law04_AtomKeeps_L3 (f : (Option Addr) × Nat × Nat × (Option Addr) × (Option Addr) × Nat × Nat) (s : S_law04_AtomKeeps_L3) (w : World) (Kn : ((Option Addr) × Nat × Nat × (Option Addr) × (Option Addr) × Nat × Nat) → S_law04_AtomKeeps_L3 → World → Prop) (Kx4 : ((Option Addr) × Nat × Nat × (Option Addr) × (Option Addr) × Nat × Nat) → World → Prop) (Kr : ((Option Addr) × Nat × Nat × (Option Addr) × (Option Addr) × Nat × Nat) → Bool → World → Prop) :
    B_law04_AtomKeeps_L3 f.1 f.2.1 f.2.2.1 f.2.2.2.1 f.2.2.2.2.1 f.2.2.2.2.2.1 f.2.2.2.2.2.2 s w (fun s1 w1 => Kn f s1 w1) (fun w1 => Kx4 f w1) (fun t4_2 w1 => Kr f t4_2 w1) =
    den Try.prog Try.f4.ntmps G_law04_AtomKeeps (sub (codeOf Try.f4) [false, false, true, false, true, true, true, true, true, true, true]) [false, false, true, false, true, true, true, true, true, true, true] (roundQ (fun e w => dec_law04_AtomKeeps_L3 e fun f s => Kn f s w) (fun e w => dx_law04_AtomKeeps_L3_ret e fun f t4_2 => Kr f t4_2 w) (fun id e w => match Nat.beq id 4 with | true => dx_law04_AtomKeeps_L3_4 e fun f => Kx4 f w | false => False)) (lit_law04_AtomKeeps_L3 f s) w := by kernel_rfl

def dx_law04_AtomKeeps_L4_6 (e : Env) (K : ((Option Addr) × Nat × Nat × (Option Addr) × Nat × Nat) → Prop) : Prop :=
  onV (getV e 0) fun u1 =>
  asS u1 fun lP_4 lN_4 lC_4 =>
  onV (getV e 7) fun u2 =>
  asS u2 fun idsP_6 idsN_6 idsC_6 =>
    K (lP_4, lN_4, lC_4, idsP_6, idsN_6, idsC_6)

def dx_law04_AtomKeeps_L4_ret (e : Env) (K : ((Option Addr) × Nat × Nat × (Option Addr) × Nat × Nat) → Bool → Prop) : Prop :=
  onV (getV e 0) fun u1 =>
  asS u1 fun lP_4 lN_4 lC_4 =>
  onV (getV e 7) fun u2 =>
  asS u2 fun idsP_6 idsN_6 idsC_6 =>
  onV (getV e 4) fun u3 =>
  asB u3 fun t4_4 =>
    K (lP_4, lN_4, lC_4, idsP_6, idsN_6, idsC_6) t4_4

theorem body_law04_AtomKeeps_L4 (f : (Option Addr) × Nat × Nat × (Option Addr) × Nat × Nat) (s : S_law04_AtomKeeps_L4) (w : World) (Kn : ((Option Addr) × Nat × Nat × (Option Addr) × Nat × Nat) → S_law04_AtomKeeps_L4 → World → Prop) (Kx6 : ((Option Addr) × Nat × Nat × (Option Addr) × Nat × Nat) → World → Prop) (Kr : ((Option Addr) × Nat × Nat × (Option Addr) × Nat × Nat) → Bool → World → Prop) :
    B_law04_AtomKeeps_L4 f.1 f.2.1 f.2.2.1 f.2.2.2.1 f.2.2.2.2.1 f.2.2.2.2.2 s w (fun s1 w1 => Kn f s1 w1) (fun w1 => Kx6 f w1) (fun t4_4 w1 => Kr f t4_4 w1) =
    den Try.prog Try.f4.ntmps G_law04_AtomKeeps (sub (codeOf Try.f4) [false, false, true, false, true, true, true, true, true, true, true, true]) [false, false, true, false, true, true, true, true, true, true, true, true] (roundQ (fun e w => dec_law04_AtomKeeps_L4 e fun f s => Kn f s w) (fun e w => dx_law04_AtomKeeps_L4_ret e fun f t4_4 => Kr f t4_4 w) (fun id e w => match Nat.beq id 6 with | true => dx_law04_AtomKeeps_L4_6 e fun f => Kx6 f w | false => False)) (lit_law04_AtomKeeps_L4 f s) w := by kernel_rfl

def dx_law04_AtomKeeps_L5_8 (e : Env) (K : ((Option Addr) × Nat × Nat × (Option Addr) × Nat × Nat × Int) → Prop) : Prop :=
  onV (getV e 0) fun u1 =>
  asS u1 fun lP_5 lN_5 lC_5 =>
  onV (getV e 7) fun u2 =>
  asS u2 fun idsP_7 idsN_7 idsC_7 =>
  onV (getV e 17) fun u3 =>
  asI .i64 u3 fun i_4 =>
    K (lP_5, lN_5, lC_5, idsP_7, idsN_7, idsC_7, i_4)

def dx_law04_AtomKeeps_L5_ret (e : Env) (K : ((Option Addr) × Nat × Nat × (Option Addr) × Nat × Nat × Int) → Bool → Prop) : Prop :=
  onV (getV e 0) fun u1 =>
  asS u1 fun lP_5 lN_5 lC_5 =>
  onV (getV e 7) fun u2 =>
  asS u2 fun idsP_7 idsN_7 idsC_7 =>
  onV (getV e 17) fun u3 =>
  asI .i64 u3 fun i_4 =>
  onV (getV e 4) fun u4 =>
  asB u4 fun t4_5 =>
    K (lP_5, lN_5, lC_5, idsP_7, idsN_7, idsC_7, i_4) t4_5

theorem body_law04_AtomKeeps_L5 (f : (Option Addr) × Nat × Nat × (Option Addr) × Nat × Nat × Int) (s : S_law04_AtomKeeps_L5) (w : World) (Kn : ((Option Addr) × Nat × Nat × (Option Addr) × Nat × Nat × Int) → S_law04_AtomKeeps_L5 → World → Prop) (Kx8 : ((Option Addr) × Nat × Nat × (Option Addr) × Nat × Nat × Int) → World → Prop) (Kr : ((Option Addr) × Nat × Nat × (Option Addr) × Nat × Nat × Int) → Bool → World → Prop) :
    B_law04_AtomKeeps_L5 f.1 f.2.1 f.2.2.1 f.2.2.2.1 f.2.2.2.2.1 f.2.2.2.2.2.1 f.2.2.2.2.2.2 s w (fun s1 w1 => Kn f s1 w1) (fun w1 => Kx8 f w1) (fun t4_5 w1 => Kr f t4_5 w1) =
    den Try.prog Try.f4.ntmps G_law04_AtomKeeps (sub (codeOf Try.f4) [false, false, true, false, false, true, false, false, true, false, true, true, true, true, true, true, true, true]) [false, false, true, false, false, true, false, false, true, false, true, true, true, true, true, true, true, true] (roundQ (fun e w => dec_law04_AtomKeeps_L5 e fun f s => Kn f s w) (fun e w => dx_law04_AtomKeeps_L5_ret e fun f t4_5 => Kr f t4_5 w) (fun id e w => match Nat.beq id 8 with | true => dx_law04_AtomKeeps_L5_8 e fun f => Kx8 f w | false => False)) (lit_law04_AtomKeeps_L5 f s) w := by kernel_rfl

theorem ok_law04_AtomKeeps_L1 : OneOk Try.prog Try.f4.ntmps G_law04_AtomKeeps (codeOf Try.f4) [false, true, false, true, true, true, true] spec_law04_AtomKeeps_L1 := by
  intro c hc ih Q e w a hr h
  have hcc : sub (codeOf Try.f4) [false, false, true, false, true, true, true, true] = c := sub_of_codeAt hc
  obtain ⟨f, s, h, hrep⟩ := dec_law04_AtomKeeps_L1_ok e a _ hr h
  obtain ⟨J, μ, hj, hround⟩ := h
  refine loop_rule_deep seat_ok seat_mixed ih lit_law04_AtomKeeps_L1 dec_law04_AtomKeeps_L1 dec_law04_AtomKeeps_L1_ok hc f J μ (Kr := fun e w => dx_law04_AtomKeeps_L1_ret e fun f1 t4 => f1 = f ∧ Q .ret [⟨4, .bool t4, none⟩] w) (Kx := fun id e w => match Nat.beq id 0 with | true => (dx_law04_AtomKeeps_L1_0 e fun f1 idsP_1 idsN_1 idsC_1 => f1 = f ∧ Q (.exit 0) [⟨0, .slice f.1 f.2.1 f.2.2.1, none⟩, ⟨1, .slice f.2.2.2.1 f.2.2.2.2.1 f.2.2.2.2.2.1, none⟩, ⟨5, .pointer f.2.2.2.2.2.2, none⟩, ⟨7, .slice idsP_1 idsN_1 idsC_1, none⟩] w) | false => False) ?_ ?_ ?_ s w a hj hrep
  · intro e a w hr h0
    unfold dx_law04_AtomKeeps_L1_ret at h0
    obtain ⟨u1, g0, h1⟩ := onV_elim h0
    obtain ⟨lP_1, lN_1, lC_1, rfl, h2⟩ := asS_elim h1
    obtain ⟨u2, g1, h3⟩ := onV_elim h2
    obtain ⟨moreP_1, moreN_1, moreC_1, rfl, h4⟩ := asS_elim h3
    obtain ⟨u3, g5, h5⟩ := onV_elim h4
    obtain ⟨t, rfl, h6⟩ := asP_elim h5
    obtain ⟨u4, g4, h7⟩ := onV_elim h6
    obtain ⟨t4, rfl, h8⟩ := asB_elim h7
    obtain ⟨hf, hq⟩ := h8
    subst hf
    exact ⟨_, rep_less hr (by simp [g4]), hq⟩
  · intro id e a w hr h0
    (try dsimp only at h0)
    split at h0
    · rename_i hid
      obtain rfl := Nat.eq_of_beq_eq_true hid
      unfold dx_law04_AtomKeeps_L1_0 at h0
      obtain ⟨u1, g0, h1⟩ := onV_elim h0
      obtain ⟨lP_1, lN_1, lC_1, rfl, h2⟩ := asS_elim h1
      obtain ⟨u2, g1, h3⟩ := onV_elim h2
      obtain ⟨moreP_1, moreN_1, moreC_1, rfl, h4⟩ := asS_elim h3
      obtain ⟨u3, g5, h5⟩ := onV_elim h4
      obtain ⟨t, rfl, h6⟩ := asP_elim h5
      obtain ⟨u4, g7, h7⟩ := onV_elim h6
      obtain ⟨idsP_1, idsN_1, idsC_1, rfl, h8⟩ := asS_elim h7
      obtain ⟨hf, hq⟩ := h8
      subst hf
      exact ⟨_, rep_less hr (by simp [g0, g1, g5, g7]), hq⟩
    · exact h0.elim
  · intro s w hj
    have hb := hround s w hj
    rw [← hcc]
    have e1 := body_law04_AtomKeeps_L1 f s w (fun f1 s1 w1 => f1 = f ∧ J s1 w1 ∧ μ s1 w1 < μ s w) (fun f1 idsP_1 idsN_1 idsC_1 w1 => f1 = f ∧ Q (.exit 0) [⟨0, .slice f.1 f.2.1 f.2.2.1, none⟩, ⟨1, .slice f.2.2.2.1 f.2.2.2.2.1 f.2.2.2.2.2.1, none⟩, ⟨5, .pointer f.2.2.2.2.2.2, none⟩, ⟨7, .slice idsP_1 idsN_1 idsC_1, none⟩] w1) (fun f1 t4 w1 => f1 = f ∧ Q .ret [⟨4, .bool t4, none⟩] w1)
    simp only [true_and] at e1
    exact cast e1 hb

theorem ok_law04_AtomKeeps_L2 : OneOk Try.prog Try.f4.ntmps G_law04_AtomKeeps (codeOf Try.f4) [false, true, false, true, true, true, true, true, true] spec_law04_AtomKeeps_L2 := by
  intro c hc ih Q e w a hr h
  have hcc : sub (codeOf Try.f4) [false, false, true, false, true, true, true, true, true, true] = c := sub_of_codeAt hc
  obtain ⟨f, s, h, hrep⟩ := dec_law04_AtomKeeps_L2_ok e a _ hr h
  obtain ⟨J, μ, hj, hround⟩ := h
  refine loop_rule_deep seat_ok seat_mixed ih lit_law04_AtomKeeps_L2 dec_law04_AtomKeeps_L2 dec_law04_AtomKeeps_L2_ok hc f J μ (Kr := fun e w => False) (Kx := fun id e w => match Nat.beq id 2 with | true => (dx_law04_AtomKeeps_L2_2 e fun f1 => f1 = f ∧ Q (.exit 2) [⟨0, .slice f.1 f.2.1 f.2.2.1, none⟩, ⟨5, .pointer f.2.2.2.2.2.2.1, none⟩, ⟨7, .slice f.2.2.2.2.2.2.2.1 f.2.2.2.2.2.2.2.2.1 f.2.2.2.2.2.2.2.2.2, none⟩] w) | false => False) ?_ ?_ ?_ s w a hj hrep
  · intro e a w hr h
    exact h.elim
  · intro id e a w hr h0
    (try dsimp only at h0)
    split at h0
    · rename_i hid
      obtain rfl := Nat.eq_of_beq_eq_true hid
      unfold dx_law04_AtomKeeps_L2_2 at h0
      obtain ⟨u1, g0, h1⟩ := onV_elim h0
      obtain ⟨lP_2, lN_2, lC_2, rfl, h2⟩ := asS_elim h1
      obtain ⟨u2, g1, h3⟩ := onV_elim h2
      obtain ⟨moreP_2, moreN_2, moreC_2, rfl, h4⟩ := asS_elim h3
      obtain ⟨u3, g5, h5⟩ := onV_elim h4
      obtain ⟨t_1, rfl, h6⟩ := asP_elim h5
      obtain ⟨u4, g7, h7⟩ := onV_elim h6
      obtain ⟨idsP_4, idsN_4, idsC_4, rfl, h8⟩ := asS_elim h7
      obtain ⟨hf, hq⟩ := h8
      subst hf
      exact ⟨_, rep_less hr (by simp [g0, g5, g7]), hq⟩
    · exact h0.elim
  · intro s w hj
    have hb := hround s w hj
    rw [← hcc]
    have e1 := body_law04_AtomKeeps_L2 f s w (fun f1 s1 w1 => f1 = f ∧ J s1 w1 ∧ μ s1 w1 < μ s w) (fun f1 w1 => f1 = f ∧ Q (.exit 2) [⟨0, .slice f.1 f.2.1 f.2.2.1, none⟩, ⟨5, .pointer f.2.2.2.2.2.2.1, none⟩, ⟨7, .slice f.2.2.2.2.2.2.2.1 f.2.2.2.2.2.2.2.2.1 f.2.2.2.2.2.2.2.2.2, none⟩] w1)
    simp only [true_and] at e1
    exact cast e1 hb

theorem ok_law04_AtomKeeps_L3 : OneOk Try.prog Try.f4.ntmps G_law04_AtomKeeps (codeOf Try.f4) [false, true, false, true, true, true, true, true, true, true] spec_law04_AtomKeeps_L3 := by
  intro c hc ih Q e w a hr h
  have hcc : sub (codeOf Try.f4) [false, false, true, false, true, true, true, true, true, true, true] = c := sub_of_codeAt hc
  obtain ⟨f, s, h, hrep⟩ := dec_law04_AtomKeeps_L3_ok e a _ hr h
  obtain ⟨J, μ, hj, hround⟩ := h
  refine loop_rule_deep seat_ok seat_mixed ih lit_law04_AtomKeeps_L3 dec_law04_AtomKeeps_L3 dec_law04_AtomKeeps_L3_ok hc f J μ (Kr := fun e w => dx_law04_AtomKeeps_L3_ret e fun f1 t4_2 => f1 = f ∧ Q .ret [⟨4, .bool t4_2, none⟩] w) (Kx := fun id e w => match Nat.beq id 4 with | true => (dx_law04_AtomKeeps_L3_4 e fun f1 => f1 = f ∧ Q (.exit 4) [⟨0, .slice f.1 f.2.1 f.2.2.1, none⟩, ⟨7, .slice f.2.2.2.2.1 f.2.2.2.2.2.1 f.2.2.2.2.2.2, none⟩] w) | false => False) ?_ ?_ ?_ s w a hj hrep
  · intro e a w hr h0
    unfold dx_law04_AtomKeeps_L3_ret at h0
    obtain ⟨u1, g0, h1⟩ := onV_elim h0
    obtain ⟨lP_3, lN_3, lC_3, rfl, h2⟩ := asS_elim h1
    obtain ⟨u2, g5, h3⟩ := onV_elim h2
    obtain ⟨t_2, rfl, h4⟩ := asP_elim h3
    obtain ⟨u3, g7, h5⟩ := onV_elim h4
    obtain ⟨idsP_5, idsN_5, idsC_5, rfl, h6⟩ := asS_elim h5
    obtain ⟨u4, g4, h7⟩ := onV_elim h6
    obtain ⟨t4_2, rfl, h8⟩ := asB_elim h7
    obtain ⟨hf, hq⟩ := h8
    subst hf
    exact ⟨_, rep_less hr (by simp [g4]), hq⟩
  · intro id e a w hr h0
    (try dsimp only at h0)
    split at h0
    · rename_i hid
      obtain rfl := Nat.eq_of_beq_eq_true hid
      unfold dx_law04_AtomKeeps_L3_4 at h0
      obtain ⟨u1, g0, h1⟩ := onV_elim h0
      obtain ⟨lP_3, lN_3, lC_3, rfl, h2⟩ := asS_elim h1
      obtain ⟨u2, g5, h3⟩ := onV_elim h2
      obtain ⟨t_2, rfl, h4⟩ := asP_elim h3
      obtain ⟨u3, g7, h5⟩ := onV_elim h4
      obtain ⟨idsP_5, idsN_5, idsC_5, rfl, h6⟩ := asS_elim h5
      obtain ⟨hf, hq⟩ := h6
      subst hf
      exact ⟨_, rep_less hr (by simp [g0, g7]), hq⟩
    · exact h0.elim
  · intro s w hj
    have hb := hround s w hj
    rw [← hcc]
    have e1 := body_law04_AtomKeeps_L3 f s w (fun f1 s1 w1 => f1 = f ∧ J s1 w1 ∧ μ s1 w1 < μ s w) (fun f1 w1 => f1 = f ∧ Q (.exit 4) [⟨0, .slice f.1 f.2.1 f.2.2.1, none⟩, ⟨7, .slice f.2.2.2.2.1 f.2.2.2.2.2.1 f.2.2.2.2.2.2, none⟩] w1) (fun f1 t4_2 w1 => f1 = f ∧ Q .ret [⟨4, .bool t4_2, none⟩] w1)
    simp only [true_and] at e1
    exact cast e1 hb

theorem ok_law04_AtomKeeps_L4 : OneOk Try.prog Try.f4.ntmps G_law04_AtomKeeps (codeOf Try.f4) [false, true, false, true, true, true, true, true, true, true, true] spec_law04_AtomKeeps_L4 := by
  intro c hc ih Q e w a hr h
  have hcc : sub (codeOf Try.f4) [false, false, true, false, true, true, true, true, true, true, true, true] = c := sub_of_codeAt hc
  obtain ⟨f, s, h, hrep⟩ := dec_law04_AtomKeeps_L4_ok e a _ hr h
  obtain ⟨J, μ, hj, hround⟩ := h
  refine loop_rule_deep seat_ok seat_mixed ih lit_law04_AtomKeeps_L4 dec_law04_AtomKeeps_L4 dec_law04_AtomKeeps_L4_ok hc f J μ (Kr := fun e w => dx_law04_AtomKeeps_L4_ret e fun f1 t4_4 => f1 = f ∧ Q .ret [⟨4, .bool t4_4, none⟩] w) (Kx := fun id e w => match Nat.beq id 6 with | true => (dx_law04_AtomKeeps_L4_6 e fun f1 => f1 = f ∧ Q (.exit 6) [] w) | false => False) ?_ ?_ ?_ s w a hj hrep
  · intro e a w hr h0
    unfold dx_law04_AtomKeeps_L4_ret at h0
    obtain ⟨u1, g0, h1⟩ := onV_elim h0
    obtain ⟨lP_4, lN_4, lC_4, rfl, h2⟩ := asS_elim h1
    obtain ⟨u2, g7, h3⟩ := onV_elim h2
    obtain ⟨idsP_6, idsN_6, idsC_6, rfl, h4⟩ := asS_elim h3
    obtain ⟨u3, g4, h5⟩ := onV_elim h4
    obtain ⟨t4_4, rfl, h6⟩ := asB_elim h5
    obtain ⟨hf, hq⟩ := h6
    subst hf
    exact ⟨_, rep_less hr (by simp [g4]), hq⟩
  · intro id e a w hr h0
    (try dsimp only at h0)
    split at h0
    · rename_i hid
      obtain rfl := Nat.eq_of_beq_eq_true hid
      unfold dx_law04_AtomKeeps_L4_6 at h0
      obtain ⟨u1, g0, h1⟩ := onV_elim h0
      obtain ⟨lP_4, lN_4, lC_4, rfl, h2⟩ := asS_elim h1
      obtain ⟨u2, g7, h3⟩ := onV_elim h2
      obtain ⟨idsP_6, idsN_6, idsC_6, rfl, h4⟩ := asS_elim h3
      obtain ⟨hf, hq⟩ := h4
      subst hf
      exact ⟨_, rep_less hr (by simp), hq⟩
    · exact h0.elim
  · intro s w hj
    have hb := hround s w hj
    rw [← hcc]
    have e1 := body_law04_AtomKeeps_L4 f s w (fun f1 s1 w1 => f1 = f ∧ J s1 w1 ∧ μ s1 w1 < μ s w) (fun f1 w1 => f1 = f ∧ Q (.exit 6) [] w1) (fun f1 t4_4 w1 => f1 = f ∧ Q .ret [⟨4, .bool t4_4, none⟩] w1)
    simp only [true_and] at e1
    exact cast e1 hb

theorem ok_law04_AtomKeeps_L5 : OneOk Try.prog Try.f4.ntmps G_law04_AtomKeeps (codeOf Try.f4) [false, true, false, false, true, false, false, true, false, true, true, true, true, true, true, true, true] spec_law04_AtomKeeps_L5 := by
  intro c hc ih Q e w a hr h
  have hcc : sub (codeOf Try.f4) [false, false, true, false, false, true, false, false, true, false, true, true, true, true, true, true, true, true] = c := sub_of_codeAt hc
  obtain ⟨f, s, h, hrep⟩ := dec_law04_AtomKeeps_L5_ok e a _ hr h
  obtain ⟨J, μ, hj, hround⟩ := h
  refine loop_rule_deep seat_ok seat_mixed ih lit_law04_AtomKeeps_L5 dec_law04_AtomKeeps_L5 dec_law04_AtomKeeps_L5_ok hc f J μ (Kr := fun e w => dx_law04_AtomKeeps_L5_ret e fun f1 t4_5 => f1 = f ∧ Q .ret [⟨0, .slice f.1 f.2.1 f.2.2.1, none⟩, ⟨7, .slice f.2.2.2.1 f.2.2.2.2.1 f.2.2.2.2.2.1, none⟩, ⟨4, .bool t4_5, none⟩] w) (Kx := fun id e w => match Nat.beq id 8 with | true => (dx_law04_AtomKeeps_L5_8 e fun f1 => f1 = f ∧ Q (.exit 8) [⟨0, .slice f.1 f.2.1 f.2.2.1, none⟩, ⟨7, .slice f.2.2.2.1 f.2.2.2.2.1 f.2.2.2.2.2.1, none⟩, ⟨17, .int .i64 f.2.2.2.2.2.2, none⟩] w) | false => False) ?_ ?_ ?_ s w a hj hrep
  · intro e a w hr h0
    unfold dx_law04_AtomKeeps_L5_ret at h0
    obtain ⟨u1, g0, h1⟩ := onV_elim h0
    obtain ⟨lP_5, lN_5, lC_5, rfl, h2⟩ := asS_elim h1
    obtain ⟨u2, g7, h3⟩ := onV_elim h2
    obtain ⟨idsP_7, idsN_7, idsC_7, rfl, h4⟩ := asS_elim h3
    obtain ⟨u3, g17, h5⟩ := onV_elim h4
    obtain ⟨i_4, rfl, h6⟩ := asI_elim h5
    obtain ⟨u4, g4, h7⟩ := onV_elim h6
    obtain ⟨t4_5, rfl, h8⟩ := asB_elim h7
    obtain ⟨hf, hq⟩ := h8
    subst hf
    exact ⟨_, rep_less hr (by simp [g0, g7, g4]), hq⟩
  · intro id e a w hr h0
    (try dsimp only at h0)
    split at h0
    · rename_i hid
      obtain rfl := Nat.eq_of_beq_eq_true hid
      unfold dx_law04_AtomKeeps_L5_8 at h0
      obtain ⟨u1, g0, h1⟩ := onV_elim h0
      obtain ⟨lP_5, lN_5, lC_5, rfl, h2⟩ := asS_elim h1
      obtain ⟨u2, g7, h3⟩ := onV_elim h2
      obtain ⟨idsP_7, idsN_7, idsC_7, rfl, h4⟩ := asS_elim h3
      obtain ⟨u3, g17, h5⟩ := onV_elim h4
      obtain ⟨i_4, rfl, h6⟩ := asI_elim h5
      obtain ⟨hf, hq⟩ := h6
      subst hf
      exact ⟨_, rep_less hr (by simp [g0, g7, g17]), hq⟩
    · exact h0.elim
  · intro s w hj
    have hb := hround s w hj
    rw [← hcc]
    have e1 := body_law04_AtomKeeps_L5 f s w (fun f1 s1 w1 => f1 = f ∧ J s1 w1 ∧ μ s1 w1 < μ s w) (fun f1 w1 => f1 = f ∧ Q (.exit 8) [⟨0, .slice f.1 f.2.1 f.2.2.1, none⟩, ⟨7, .slice f.2.2.2.1 f.2.2.2.2.1 f.2.2.2.2.2.1, none⟩, ⟨17, .int .i64 f.2.2.2.2.2.2, none⟩] w1) (fun f1 t4_5 w1 => f1 = f ∧ Q .ret [⟨0, .slice f.1 f.2.1 f.2.2.1, none⟩, ⟨7, .slice f.2.2.2.1 f.2.2.2.2.1 f.2.2.2.2.2.1, none⟩, ⟨4, .bool t4_5, none⟩] w1)
    simp only [true_and] at e1
    exact cast e1 hb

theorem loops_law04_AtomKeeps : LoopOk Try.prog Try.f4.ntmps G_law04_AtomKeeps (codeOf Try.f4) := loopOk_list rfl ⟨ok_law04_AtomKeeps_L1, ⟨ok_law04_AtomKeeps_L2, ⟨ok_law04_AtomKeeps_L3, ⟨ok_law04_AtomKeeps_L4, ⟨ok_law04_AtomKeeps_L5, trivial⟩⟩⟩⟩⟩

theorem den_law04_AtomKeeps (lP : Option Addr) (lN : Nat) (lC : Nat) (moreP : Option Addr) (moreN : Nat) (moreC : Nat) (w : World) (R : Value → World → Prop) :
    F_law04_AtomKeeps lP lN lC moreP moreN moreC w (fun r w1 => R (.bool r) w1) = den Try.prog Try.f4.ntmps G_law04_AtomKeeps (codeOf Try.f4) [] (postD Try.prog Try.f4.results.toList R) (entry [.slice lP lN lC, .slice moreP moreN moreC] 0) w := by kernel_rfl

theorem C_law04_AtomKeeps.of {lP : Option Addr} {lN : Nat} {lC : Nat} {moreP : Option Addr} {moreN : Nat} {moreC : Nat} {w : World} {R : Bool → World → Prop} (h : F_law04_AtomKeeps lP lN lC moreP moreN moreC w R) : C_law04_AtomKeeps lP lN lC moreP moreN moreC w R := by
  refine (calls_of_den (c := codeOf Try.f4) seat_ok seat_mixed Try.func4 (by kernel_rfl) loops_law04_AtomKeeps (args := [.slice lP lN lC, .slice moreP moreN moreC]) rfl (R := fun v w1 => ∃ (r : Bool), v = (.bool r : Value) ∧ R r w1) ?_).mono ?_
  · rw [← den_law04_AtomKeeps]
    have e : (fun r w1 => ∃ (r' : Bool), (.bool r : Value) = (.bool r' : Value) ∧ R r' w1) = R := by
      funext r w1
      exact propext ⟨fun ⟨r', he, h⟩ => by simp at he; simp_all, fun h => ⟨_, rfl, h⟩⟩
    simpa only [e] using h
  · rintro en w1 ⟨v, he, r, rfl, h⟩
    exact ⟨_, he, h⟩

end Go.Proofs.Ytifgjlkmmbpbkaa
