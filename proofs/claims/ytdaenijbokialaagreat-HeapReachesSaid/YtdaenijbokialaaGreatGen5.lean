/- The formulas of this seat's functions, held against the loaded program by the kernel. Printed by a program. -/
import Derived.Test.YtdaenijbokialaaGreatGenC
set_option maxRecDepth 100000
set_option linter.unusedVariables false
namespace Go.Proofs.YtdaenijbokialaaGreat
open Go Go.D Go.Proofs

def F_heap_Heap_Atom (hx : Option Addr) (namex : ByteArray) (w : World) (R : Int → Int → World → Prop) : Prop :=
  C_heap_Heap_made hx w fun t9 w1 =>
  If (!t9)
  (R (0 : Int) (6 : Int) w1)
  (NN hx fun a =>
  ∃ atoms : Option Addr, w1.cell? (a.add 2) = some (.pointer atoms) ∧
  C_atom_Table_Intern atoms namex w1 fun t170 t171 w1_1 =>
  If (t171 != (0 : Int))
  (R (0 : Int) t171 w1_1)
  (C_heap_word (3 : Int) t170 w1_1 fun t24 w1_2 =>
  R t24 (0 : Int) w1_2))

def G_heap_Heap_Atom : Gen where
  loop := lookL []
  plan := fun _ => none

theorem loops_heap_Heap_Atom : LoopOk Tryz.prog Tryz.f51.ntmps G_heap_Heap_Atom (codeOf Tryz.f51) := loopOk_none fun _ => rfl

theorem C_heap_Heap_Atom.of {hx : Option Addr} {namex : ByteArray} {w : World} {R : Int → Int → World → Prop} (h : F_heap_Heap_Atom hx namex w R) : C_heap_Heap_Atom hx namex w R := ofS5 (Fm := F_heap_Heap_Atom hx namex w) Tryz.func51 (by kernel_rfl) loops_heap_Heap_Atom rfl (fun _ => by kernel_rfl) h

def F_heap_Heap_Int (hx : Option Addr) (n : Int) (w : World) (R : Int → Int → World → Prop) : Prop :=
  C_heap_Heap_made hx w fun t8 w1 =>
  If (!t8)
  (R (0 : Int) (6 : Int) w1)
  (If (decide (n < (-9007199254740991)))
  (R (0 : Int) (1 : Int) w1)
  (If (decide (n > (9007199254740991 : Int)))
  (R (0 : Int) (1 : Int) w1)
  (C_heap_word (4 : Int) n w1 fun t18 w1_1 =>
  R t18 (0 : Int) w1_1)))

def G_heap_Heap_Int : Gen where
  loop := lookL []
  plan := fun _ => none

theorem loops_heap_Heap_Int : LoopOk Tryz.prog Tryz.f52.ntmps G_heap_Heap_Int (codeOf Tryz.f52) := loopOk_none fun _ => rfl

theorem C_heap_Heap_Int.of {hx : Option Addr} {n : Int} {w : World} {R : Int → Int → World → Prop} (h : F_heap_Heap_Int hx n w R) : C_heap_Heap_Int hx n w R := ofS5 (Fm := F_heap_Heap_Int hx n w) Tryz.func52 (by kernel_rfl) loops_heap_Heap_Int rfl (fun _ => by kernel_rfl) h

def F_heap_Heap_Trail (hx : Option Addr) (w : World) (R : Option Addr → World → Prop) : Prop :=
  C_heap_Heap_made hx w fun t4 w1 =>
  If (!t4)
  (R none w1)
  (NN hx fun a =>
  ∃ trail : Option Addr, w1.cell? (a.add 1) = some (.pointer trail) ∧
  R trail w1)

def G_heap_Heap_Trail : Gen where
  loop := lookL []
  plan := fun _ => none

theorem loops_heap_Heap_Trail : LoopOk Tryz.prog Tryz.f54.ntmps G_heap_Heap_Trail (codeOf Tryz.f54) := loopOk_none fun _ => rfl

theorem C_heap_Heap_Trail.of {hx : Option Addr} {w : World} {R : Option Addr → World → Prop} (h : F_heap_Heap_Trail hx w R) : C_heap_Heap_Trail hx w R := ofS13 (Fm := F_heap_Heap_Trail hx w) Tryz.func54 (by kernel_rfl) loops_heap_Heap_Trail rfl (fun _ => by kernel_rfl) h

def F_heap_Heap_Atoms (hx : Option Addr) (w : World) (R : Option Addr → World → Prop) : Prop :=
  C_heap_Heap_made hx w fun t4 w1 =>
  If (!t4)
  (R none w1)
  (NN hx fun a =>
  ∃ atoms : Option Addr, w1.cell? (a.add 2) = some (.pointer atoms) ∧
  R atoms w1)

def G_heap_Heap_Atoms : Gen where
  loop := lookL []
  plan := fun _ => none

theorem loops_heap_Heap_Atoms : LoopOk Tryz.prog Tryz.f55.ntmps G_heap_Heap_Atoms (codeOf Tryz.f55) := loopOk_none fun _ => rfl

theorem C_heap_Heap_Atoms.of {hx : Option Addr} {w : World} {R : Option Addr → World → Prop} (h : F_heap_Heap_Atoms hx w R) : C_heap_Heap_Atoms hx w R := ofS13 (Fm := F_heap_Heap_Atoms hx w) Tryz.func55 (by kernel_rfl) loops_heap_Heap_Atoms rfl (fun _ => by kernel_rfl) h

def F_heap_Heap_Functors (hx : Option Addr) (w : World) (R : Option Addr → World → Prop) : Prop :=
  C_heap_Heap_made hx w fun t4 w1 =>
  If (!t4)
  (R none w1)
  (NN hx fun a =>
  ∃ funs : Option Addr, w1.cell? (a.add 3) = some (.pointer funs) ∧
  R funs w1)

def G_heap_Heap_Functors : Gen where
  loop := lookL []
  plan := fun _ => none

theorem loops_heap_Heap_Functors : LoopOk Tryz.prog Tryz.f56.ntmps G_heap_Heap_Functors (codeOf Tryz.f56) := loopOk_none fun _ => rfl

theorem C_heap_Heap_Functors.of {hx : Option Addr} {w : World} {R : Option Addr → World → Prop} (h : F_heap_Heap_Functors hx w R) : C_heap_Heap_Functors hx w R := ofS13 (Fm := F_heap_Heap_Functors hx w) Tryz.func56 (by kernel_rfl) loops_heap_Heap_Functors rfl (fun _ => by kernel_rfl) h

structure S_ref06_Size_L1 where
  n : Int
  i : Int

/-- One round. -/
def B_ref06_Size_L1 (t : Addr) (s : S_ref06_Size_L1) (w : World) (Kn : S_ref06_Size_L1 → World → Prop) (Kx0 : Int → World → Prop) : Prop :=
  ∃ LP : Option Addr, ∃ LN : Nat, ∃ LC : Nat, w.cell? (t.add 3) = some (.slice LP LN LC) ∧
  If (decide ((s.i : Int) < (LN : Int)))
  (∃ LP_1 : Option Addr, ∃ LN_1 : Nat, ∃ LC_1 : Nat, w.cell? (t.add 3) = some (.slice LP_1 LN_1 LC_1) ∧
  0 ≤ (s.i : Int) ∧ (s.i : Int) < (LN_1 : Int) ∧ NN LP_1 fun a =>
  ∃ t170 : Int, w.cell? ((a.add ((s.i : Int).toNat * 4)).add 0) = some (.int .i64 t170) ∧
  ∃ t171 : Int, w.cell? ((a.add ((s.i : Int).toNat * 4)).add 1) = some (.int .i64 t171) ∧
  ∃ t172 : ByteArray, w.cell? ((a.add ((s.i : Int).toNat * 4)).add 2) = some (.string t172) ∧
  ∃ t173P : Option Addr, ∃ t173N : Nat, ∃ t173C : Nat, w.cell? ((a.add ((s.i : Int).toNat * 4)).add 3) = some (.slice t173P t173N t173C) ∧
  C_ref06_Size t170 t171 t172 t173P t173N t173C w fun t18 w1_1 =>
  Kn ⟨(IntKind.i64.wrap ((s.n : Int) + t18)), (IntKind.i64.wrap ((s.i : Int) + (1 : Int)))⟩ w1_1)
  (Kx0 (s.n : Int) w)

def F_ref06_Size_L1 (t : Addr) (s : S_ref06_Size_L1) (w : World) (Kx0 : Int → World → Prop) : Prop :=
  LoopS (fun s w Kn => B_ref06_Size_L1 t s w Kn Kx0) s w

def F_ref06_Size (t0 : Int) (t1 : Int) (t2 : ByteArray) (t3P : Option Addr) (t3N : Nat) (t3C : Nat) (w : World) (R : Int → World → Prop) : Prop :=
  New w (.cells #[.int .i64 t0, .int .i64 t1, .string t2, .slice t3P t3N t3C] 31) fun r w1 =>
  F_ref06_Size_L1 ⟨r, 0, none⟩ ⟨(1 : Int), (0 : Int)⟩ w1
  (fun n_2 w1_2 =>
  R n_2 w1_2)

def lit_ref06_Size_L1 (f : Addr) (s : S_ref06_Size_L1) : Env := [⟨1, .pointer (some f), none⟩, ⟨3, .int .i64 s.n, none⟩, ⟨4, .int .i64 s.i, none⟩]

def dec_ref06_Size_L1 (e : Env) (K : Addr → S_ref06_Size_L1 → Prop) : Prop :=
  oA e 1 fun t =>
  oI e 3 .i64 fun n =>
  oI e 4 .i64 fun i =>
    K (t) ⟨n, i⟩

theorem dec_ref06_Size_L1_ok {N : Nat} (e : Env) (a : Act) (K : Addr → S_ref06_Size_L1 → Prop) (hr : Rep N a e) (h0 : dec_ref06_Size_L1 e K) : ∃ f s, K f s ∧ Rep N a (lit_ref06_Size_L1 f s) := by
  unfold dec_ref06_Size_L1 at h0
  obtain ⟨t, g1, h1⟩ := oA_elim h0
  obtain ⟨n, g3, h2⟩ := oI_elim h1
  obtain ⟨i, g4, h3⟩ := oI_elim h2
  exact ⟨_, _, h3, rep_less hr (by simp [lit_ref06_Size_L1, g1, g3, g4])⟩

def spec_ref06_Size_L1 (Q : Post) (e : Env) (w : World) : Prop :=
  dec_ref06_Size_L1 e fun f s => F_ref06_Size_L1 f s w (fun n_1 w1 => Q (.exit 0) [⟨3, .int .i64 n_1, none⟩] w1)

def G_ref06_Size : Gen where
  loop := lookL [([false, true, false, true, true], spec_ref06_Size_L1)]
  plan := fun _ => none

def dx_ref06_Size_L1_0 (e : Env) (K : Addr → Int → Prop) : Prop :=
  oA e 1 fun t =>
  oI e 3 .i64 fun n_1 =>
    K (t) n_1

theorem body_ref06_Size_L1 (f : Addr) (s : S_ref06_Size_L1) (w : World) (Kn : Addr → S_ref06_Size_L1 → World → Prop) (Kx0 : Addr → Int → World → Prop) :
    B_ref06_Size_L1 f s w (fun s1 w1 => Kn f s1 w1) (fun n_1 w1 => Kx0 f n_1 w1) =
    den Tryz.prog Tryz.f64.ntmps G_ref06_Size (sub (codeOf Tryz.f64) [false, false, true, false, true, true]) [false, false, true, false, true, true] (roundQ (fun e w => dec_ref06_Size_L1 e fun f s => Kn f s w) (fun e w => False) (fun id e w => match Nat.beq id 0 with | true => dx_ref06_Size_L1_0 e fun f n_1 => Kx0 f n_1 w | false => False)) (lit_ref06_Size_L1 f s) w := by kernel_rfl

theorem ok_ref06_Size_L1 : OneOk Tryz.prog Tryz.f64.ntmps G_ref06_Size (codeOf Tryz.f64) [false, true, false, true, true] spec_ref06_Size_L1 := by
  intro c hc ih Q e w a hr h
  have hcc : sub (codeOf Tryz.f64) [false, false, true, false, true, true] = c := sub_of_codeAt hc
  obtain ⟨f, s, h, hrep⟩ := dec_ref06_Size_L1_ok e a _ hr h
  obtain ⟨J, μ, hj, hround⟩ := h
  refine loop_rule_deep seat_ok seat_mixed ih lit_ref06_Size_L1 dec_ref06_Size_L1 dec_ref06_Size_L1_ok hc f J μ (Kr := fun e w => False) (Kx := fun id e w => match Nat.beq id 0 with | true => (dx_ref06_Size_L1_0 e fun f1 n_1 => f1 = f ∧ Q (.exit 0) [⟨3, .int .i64 n_1, none⟩] w) | false => False) ?_ ?_ ?_ s w a hj hrep
  · intro e a w hr h
    exact h.elim
  · intro id e a w hr h0
    (try dsimp only at h0)
    split at h0
    · rename_i hid
      obtain rfl := Nat.eq_of_beq_eq_true hid
      unfold dx_ref06_Size_L1_0 at h0
      obtain ⟨t, g1, h1⟩ := oA_elim h0
      obtain ⟨n_1, g3, h2⟩ := oI_elim h1
      obtain ⟨hf, hq⟩ := h2
      subst hf
      exact ⟨_, rep_less hr (by simp [g3]), hq⟩
    · exact h0.elim
  · intro s w hj
    have hb := hround s w hj
    rw [← hcc]
    have e1 := body_ref06_Size_L1 f s w (fun f1 s1 w1 => f1 = f ∧ J s1 w1 ∧ μ s1 w1 < μ s w) (fun f1 n_1 w1 => f1 = f ∧ Q (.exit 0) [⟨3, .int .i64 n_1, none⟩] w1)
    simp only [true_and] at e1
    exact cast e1 hb

theorem loops_ref06_Size : LoopOk Tryz.prog Tryz.f64.ntmps G_ref06_Size (codeOf Tryz.f64) := loopOk_list rfl ⟨ok_ref06_Size_L1, trivial⟩

theorem C_ref06_Size.of {t0 : Int} {t1 : Int} {t2 : ByteArray} {t3P : Option Addr} {t3N : Nat} {t3C : Nat} {w : World} {R : Int → World → Prop} (h : F_ref06_Size t0 t1 t2 t3P t3N t3C w R) : C_ref06_Size t0 t1 t2 t3P t3N t3C w R := ofS4 (Fm := F_ref06_Size t0 t1 t2 t3P t3N t3C w) Tryz.func64 (by kernel_rfl) loops_ref06_Size rfl (fun _ => by kernel_rfl) h

end Go.Proofs.YtdaenijbokialaaGreat
