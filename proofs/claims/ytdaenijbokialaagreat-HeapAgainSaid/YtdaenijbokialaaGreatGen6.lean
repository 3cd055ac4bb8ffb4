/- The formulas of this seat's functions, held against the loaded program by the kernel. Printed by a program. -/
import Derived.Test.YtdaenijbokialaaGreatGenC
set_option maxRecDepth 100000
set_option linter.unusedVariables false
namespace Go.Proofs.YtdaenijbokialaaGreat
open Go Go.D Go.Proofs

def F_heap_Heap_Atom (hx : Option Addr) (namex : ByteArray) (w : World) (R : Int → Int → World → Prop) : Prop :=
  C_heap_Heap_made hx w fun t9 w1 =>
  If (!t9)
  (R (0 : Int) (6 : Int) w1)
  (NN hx fun a =>
  ∃ atoms : Option Addr, w1.cell? (a.add 2) = some (.pointer atoms) ∧
  C_atom_Table_Intern atoms namex w1 fun t170 t171 w1_1 =>
  If (t171 != (0 : Int))
  (R (0 : Int) t171 w1_1)
  (C_heap_word (3 : Int) t170 w1_1 fun t24 w1_2 =>
  R t24 (0 : Int) w1_2))

def G_heap_Heap_Atom : Gen where
  loop := lookL []
  plan := fun _ => none

theorem loops_heap_Heap_Atom : LoopOk Tryz.prog Tryz.f51.ntmps G_heap_Heap_Atom (codeOf Tryz.f51) := loopOk_none fun _ => rfl

theorem den_heap_Heap_Atom (hx : Option Addr) (namex : ByteArray) (w : World) (R : Value → World → Prop) :
    F_heap_Heap_Atom hx namex w (fun r0 r1 w1 => R (.tuple #[.int .u64 r0, .int .i64 r1]) w1) = den Tryz.prog Tryz.f51.ntmps G_heap_Heap_Atom (codeOf Tryz.f51) [] (postD Tryz.prog Tryz.f51.results.toList R) (entry [.pointer hx, .string namex] 0) w := by kernel_rfl

theorem C_heap_Heap_Atom.of {hx : Option Addr} {namex : ByteArray} {w : World} {R : Int → Int → World → Prop} (h : F_heap_Heap_Atom hx namex w R) : C_heap_Heap_Atom hx namex w R := by
  refine (calls_of_den (c := codeOf Tryz.f51) seat_ok seat_mixed Tryz.func51 (by kernel_rfl) loops_heap_Heap_Atom (args := [.pointer hx, .string namex]) rfl (R := fun v w1 => ∃ (r0 : Int) (r1 : Int), v = (.tuple #[.int .u64 r0, .int .i64 r1] : Value) ∧ R r0 r1 w1) ?_).mono ?_
  · rw [← den_heap_Heap_Atom]
    have e : (fun r0 r1 w1 => ∃ (r0' : Int) (r1' : Int), (.tuple #[.int .u64 r0, .int .i64 r1] : Value) = (.tuple #[.int .u64 r0', .int .i64 r1'] : Value) ∧ R r0' r1' w1) = R := by
      funext r0 r1 w1
      exact propext ⟨fun ⟨r0', r1', he, h⟩ => by first | (simp at he; simp_all) | (cases he; exact h), fun h => ⟨_, _, rfl, h⟩⟩
    simpa only [e] using h
  · rintro en w1 ⟨v, he, r0, r1, rfl, h⟩
    exact ⟨_, _, he, h⟩

def F_heap_Heap_Int (hx : Option Addr) (n : Int) (w : World) (R : Int → Int → World → Prop) : Prop :=
  C_heap_Heap_made hx w fun t8 w1 =>
  If (!t8)
  (R (0 : Int) (6 : Int) w1)
  (If (decide (n < (-9007199254740991)))
  (R (0 : Int) (1 : Int) w1)
  (If (decide (n > (9007199254740991 : Int)))
  (R (0 : Int) (1 : Int) w1)
  (C_heap_word (4 : Int) n w1 fun t18 w1_1 =>
  R t18 (0 : Int) w1_1)))

def G_heap_Heap_Int : Gen where
  loop := lookL []
  plan := fun _ => none

theorem loops_heap_Heap_Int : LoopOk Tryz.prog Tryz.f52.ntmps G_heap_Heap_Int (codeOf Tryz.f52) := loopOk_none fun _ => rfl

theorem den_heap_Heap_Int (hx : Option Addr) (n : Int) (w : World) (R : Value → World → Prop) :
    F_heap_Heap_Int hx n w (fun r0 r1 w1 => R (.tuple #[.int .u64 r0, .int .i64 r1]) w1) = den Tryz.prog Tryz.f52.ntmps G_heap_Heap_Int (codeOf Tryz.f52) [] (postD Tryz.prog Tryz.f52.results.toList R) (entry [.pointer hx, .int .i64 n] 0) w := by kernel_rfl

theorem C_heap_Heap_Int.of {hx : Option Addr} {n : Int} {w : World} {R : Int → Int → World → Prop} (h : F_heap_Heap_Int hx n w R) : C_heap_Heap_Int hx n w R := by
  refine (calls_of_den (c := codeOf Tryz.f52) seat_ok seat_mixed Tryz.func52 (by kernel_rfl) loops_heap_Heap_Int (args := [.pointer hx, .int .i64 n]) rfl (R := fun v w1 => ∃ (r0 : Int) (r1 : Int), v = (.tuple #[.int .u64 r0, .int .i64 r1] : Value) ∧ R r0 r1 w1) ?_).mono ?_
  · rw [← den_heap_Heap_Int]
    have e : (fun r0 r1 w1 => ∃ (r0' : Int) (r1' : Int), (.tuple #[.int .u64 r0, .int .i64 r1] : Value) = (.tuple #[.int .u64 r0', .int .i64 r1'] : Value) ∧ R r0' r1' w1) = R := by
      funext r0 r1 w1
      exact propext ⟨fun ⟨r0', r1', he, h⟩ => by first | (simp at he; simp_all) | (cases he; exact h), fun h => ⟨_, _, rfl, h⟩⟩
    simpa only [e] using h
  · rintro en w1 ⟨v, he, r0, r1, rfl, h⟩
    exact ⟨_, _, he, h⟩

structure S_heap_Heap_Undo_L1 where
  mk ::

/-- One round. -/
def B_heap_Heap_Undo_L1 (hx_1 : Option Addr) (mark_1 : Int) (s : S_heap_Heap_Undo_L1) (w : World) (Kn : S_heap_Heap_Undo_L1 → World → Prop) (Kx1 : World → Prop) : Prop :=
  NN hx_1 fun a_1 =>
  ∃ trail_1 : Option Addr, w.cell? (a_1.add 1) = some (.pointer trail_1) ∧
  C_room_Room_Len trail_1 w fun t27 w1_2 =>
  If (decide (t27 > mark_1))
  (NN hx_1 fun a_2 =>
  ∃ trail_2 : Option Addr, w1_2.cell? (a_2.add 1) = some (.pointer trail_2) ∧
  C_room_Room_Pop trail_2 w1_2 fun t350 t351 w1_3 =>
  NN hx_1 fun a_3 =>
  ∃ cellsP : Option Addr, ∃ cellsN : Nat, ∃ cellsC : Nat, (drw w1_3).cell? (a_3.add 4) = some (.slice cellsP cellsN cellsC) ∧
  C_heap_ref (IntKind.i64.wrap t350) (drw w1_3) fun t45 w1_4 =>
  w1_4.cell? (a_3.add 4) = (drw w1_3).cell? (a_3.add 4) ∧
  0 ≤ t350 ∧ t350 < (cellsN : Int) ∧ NN cellsP fun a_4 =>
  St w1_4 ((a_4.add (t350.toNat * 1)).add 0) (.int .u64 t45) fun w1_5 =>
  Kn ⟨⟩ w1_5)
  (Kx1 w1_2)

def F_heap_Heap_Undo_L1 (hx_1 : Option Addr) (mark_1 : Int) (s : S_heap_Heap_Undo_L1) (w : World) (Kx1 : World → Prop) : Prop :=
  LoopS (fun s w Kn => B_heap_Heap_Undo_L1 hx_1 mark_1 s w Kn Kx1) s w

def F_heap_Heap_Undo (hx : Option Addr) (mark : Int) (w : World) (R : Int → World → Prop) : Prop :=
  C_heap_Heap_made hx w fun t9 w1 =>
  If (!t9)
  (R (6 : Int) w1)
  (If (decide (mark < (0 : Int)))
  (R (1 : Int) w1)
  (NN hx fun a =>
  ∃ trail : Option Addr, w1.cell? (a.add 1) = some (.pointer trail) ∧
  C_room_Room_Len trail w1 fun t20 w1_1 =>
  If (decide (mark > t20))
  (R (1 : Int) w1_1)
  (F_heap_Heap_Undo_L1 hx mark ⟨⟩ w1_1
  (fun w1_6 =>
  R (0 : Int) w1_6))))

def lit_heap_Heap_Undo_L1 (f : (Option Addr) × Int) (s : S_heap_Heap_Undo_L1) : Env := [⟨0, .pointer f.1, none⟩, ⟨1, .int .i64 f.2, none⟩]

def dec_heap_Heap_Undo_L1 (e : Env) (K : ((Option Addr) × Int) → S_heap_Heap_Undo_L1 → Prop) : Prop :=
  onV (getV e 0) fun u1 =>
  asP u1 fun hx_1 =>
  onV (getV e 1) fun u2 =>
  asI .i64 u2 fun mark_1 =>
    K (hx_1, mark_1) ⟨⟩

theorem dec_heap_Heap_Undo_L1_ok {N : Nat} (e : Env) (a : Act) (K : ((Option Addr) × Int) → S_heap_Heap_Undo_L1 → Prop) (hr : Rep N a e) (h0 : dec_heap_Heap_Undo_L1 e K) : ∃ f s, K f s ∧ Rep N a (lit_heap_Heap_Undo_L1 f s) := by
  unfold dec_heap_Heap_Undo_L1 at h0
  obtain ⟨u1, g0, h1⟩ := onV_elim h0
  obtain ⟨hx_1, rfl, h2⟩ := asP_elim h1
  obtain ⟨u2, g1, h3⟩ := onV_elim h2
  obtain ⟨mark_1, rfl, h4⟩ := asI_elim h3
  exact ⟨_, _, h4, rep_less hr (by simp [lit_heap_Heap_Undo_L1, g0, g1])⟩

def spec_heap_Heap_Undo_L1 (Q : Post) (e : Env) (w : World) : Prop :=
  dec_heap_Heap_Undo_L1 e fun f s => F_heap_Heap_Undo_L1 f.1 f.2 s w (fun w1 => Q (.exit 1) [] w1)

def G_heap_Heap_Undo : Gen where
  loop := lookL [([false, false, true, true], spec_heap_Heap_Undo_L1)]
  plan := fun id =>
    bif Nat.beq id 7 then some ([0, 1, 3, 7, 0, 0, 32, 96, 255, 511], .take 0 (.take 1 (.take 2 (.take 3 (.take 4 (.take 5 (.take 6 (.take 7 (.take 8 (.take 9 .done)))))))))) else none

def dx_heap_Heap_Undo_L1_1 (e : Env) (K : ((Option Addr) × Int) → Prop) : Prop :=
  onV (getV e 0) fun u1 =>
  asP u1 fun hx_1 =>
  onV (getV e 1) fun u2 =>
  asI .i64 u2 fun mark_1 =>
    K (hx_1, mark_1)

theorem body_heap_Heap_Undo_L1 (f : (Option Addr) × Int) (s : S_heap_Heap_Undo_L1) (w : World) (Kn : ((Option Addr) × Int) → S_heap_Heap_Undo_L1 → World → Prop) (Kx1 : ((Option Addr) × Int) → World → Prop) :
    B_heap_Heap_Undo_L1 f.1 f.2 s w (fun s1 w1 => Kn f s1 w1) (fun w1 => Kx1 f w1) =
    den Tryz.prog Tryz.f53.ntmps G_heap_Heap_Undo (sub (codeOf Tryz.f53) [false, false, false, true, true]) [false, false, false, true, true] (roundQ (fun e w => dec_heap_Heap_Undo_L1 e fun f s => Kn f s w) (fun e w => False) (fun id e w => match Nat.beq id 1 with | true => dx_heap_Heap_Undo_L1_1 e fun f => Kx1 f w | false => False)) (lit_heap_Heap_Undo_L1 f s) w := by kernel_rfl

theorem ok_heap_Heap_Undo_L1 : OneOk Tryz.prog Tryz.f53.ntmps G_heap_Heap_Undo (codeOf Tryz.f53) [false, false, true, true] spec_heap_Heap_Undo_L1 := by
  intro c hc ih Q e w a hr h
  have hcc : sub (codeOf Tryz.f53) [false, false, false, true, true] = c := sub_of_codeAt hc
  obtain ⟨f, s, h, hrep⟩ := dec_heap_Heap_Undo_L1_ok e a _ hr h
  obtain ⟨J, μ, hj, hround⟩ := h
  refine loop_rule_deep seat_ok seat_mixed ih lit_heap_Heap_Undo_L1 dec_heap_Heap_Undo_L1 dec_heap_Heap_Undo_L1_ok hc f J μ (Kr := fun e w => False) (Kx := fun id e w => match Nat.beq id 1 with | true => (dx_heap_Heap_Undo_L1_1 e fun f1 => f1 = f ∧ Q (.exit 1) [] w) | false => False) ?_ ?_ ?_ s w a hj hrep
  · intro e a w hr h
    exact h.elim
  · intro id e a w hr h0
    (try dsimp only at h0)
    split at h0
    · rename_i hid
      obtain rfl := Nat.eq_of_beq_eq_true hid
      unfold dx_heap_Heap_Undo_L1_1 at h0
      obtain ⟨u1, g0, h1⟩ := onV_elim h0
      obtain ⟨hx_1, rfl, h2⟩ := asP_elim h1
      obtain ⟨u2, g1, h3⟩ := onV_elim h2
      obtain ⟨mark_1, rfl, h4⟩ := asI_elim h3
      obtain ⟨hf, hq⟩ := h4
      subst hf
      exact ⟨_, rep_less hr (by simp), hq⟩
    · exact h0.elim
  · intro s w hj
    have hb := hround s w hj
    rw [← hcc]
    have e1 := body_heap_Heap_Undo_L1 f s w (fun f1 s1 w1 => f1 = f ∧ J s1 w1 ∧ μ s1 w1 < μ s w) (fun f1 w1 => f1 = f ∧ Q (.exit 1) [] w1)
    simp only [true_and] at e1
    exact cast e1 hb

theorem loops_heap_Heap_Undo : LoopOk Tryz.prog Tryz.f53.ntmps G_heap_Heap_Undo (codeOf Tryz.f53) := loopOk_list rfl ⟨ok_heap_Heap_Undo_L1, trivial⟩

theorem den_heap_Heap_Undo (hx : Option Addr) (mark : Int) (w : World) (R : Value → World → Prop) :
    F_heap_Heap_Undo hx mark w (fun r w1 => R (.int .i64 r) w1) = den Tryz.prog Tryz.f53.ntmps G_heap_Heap_Undo (codeOf Tryz.f53) [] (postD Tryz.prog Tryz.f53.results.toList R) (entry [.pointer hx, .int .i64 mark] 0) w := by kernel_rfl

theorem C_heap_Heap_Undo.of {hx : Option Addr} {mark : Int} {w : World} {R : Int → World → Prop} (h : F_heap_Heap_Undo hx mark w R) : C_heap_Heap_Undo hx mark w R := by
  refine (calls_of_den (c := codeOf Tryz.f53) seat_ok seat_mixed Tryz.func53 (by kernel_rfl) loops_heap_Heap_Undo (args := [.pointer hx, .int .i64 mark]) rfl (R := fun v w1 => ∃ (r : Int), v = (.int .i64 r : Value) ∧ R r w1) ?_).mono ?_
  · rw [← den_heap_Heap_Undo]
    have e : (fun r w1 => ∃ (r' : Int), (.int .i64 r : Value) = (.int .i64 r' : Value) ∧ R r' w1) = R := by
      funext r w1
      exact propext ⟨fun ⟨r', he, h⟩ => by first | (simp at he; simp_all) | (cases he; exact h), fun h => ⟨_, rfl, h⟩⟩
    simpa only [e] using h
  · rintro en w1 ⟨v, he, r, rfl, h⟩
    exact ⟨_, he, h⟩

def F_heap_Heap_Trail (hx : Option Addr) (w : World) (R : Option Addr → World → Prop) : Prop :=
  C_heap_Heap_made hx w fun t4 w1 =>
  If (!t4)
  (R none w1)
  (NN hx fun a =>
  ∃ trail : Option Addr, w1.cell? (a.add 1) = some (.pointer trail) ∧
  R trail w1)

def G_heap_Heap_Trail : Gen where
  loop := lookL []
  plan := fun _ => none

theorem loops_heap_Heap_Trail : LoopOk Tryz.prog Tryz.f54.ntmps G_heap_Heap_Trail (codeOf Tryz.f54) := loopOk_none fun _ => rfl

theorem den_heap_Heap_Trail (hx : Option Addr) (w : World) (R : Value → World → Prop) :
    F_heap_Heap_Trail hx w (fun r w1 => R (.pointer r) w1) = den Tryz.prog Tryz.f54.ntmps G_heap_Heap_Trail (codeOf Tryz.f54) [] (postD Tryz.prog Tryz.f54.results.toList R) (entry [.pointer hx] 0) w := by kernel_rfl

theorem C_heap_Heap_Trail.of {hx : Option Addr} {w : World} {R : Option Addr → World → Prop} (h : F_heap_Heap_Trail hx w R) : C_heap_Heap_Trail hx w R := by
  refine (calls_of_den (c := codeOf Tryz.f54) seat_ok seat_mixed Tryz.func54 (by kernel_rfl) loops_heap_Heap_Trail (args := [.pointer hx]) rfl (R := fun v w1 => ∃ (r : Option Addr), v = (.pointer r : Value) ∧ R r w1) ?_).mono ?_
  · rw [← den_heap_Heap_Trail]
    have e : (fun r w1 => ∃ (r' : Option Addr), (.pointer r : Value) = (.pointer r' : Value) ∧ R r' w1) = R := by
      funext r w1
      exact propext ⟨fun ⟨r', he, h⟩ => by first | (simp at he; simp_all) | (cases he; exact h), fun h => ⟨_, rfl, h⟩⟩
    simpa only [e] using h
  · rintro en w1 ⟨v, he, r, rfl, h⟩
    exact ⟨_, he, h⟩

def F_heap_Heap_Atoms (hx : Option Addr) (w : World) (R : Option Addr → World → Prop) : Prop :=
  C_heap_Heap_made hx w fun t4 w1 =>
  If (!t4)
  (R none w1)
  (NN hx fun a =>
  ∃ atoms : Option Addr, w1.cell? (a.add 2) = some (.pointer atoms) ∧
  R atoms w1)

def G_heap_Heap_Atoms : Gen where
  loop := lookL []
  plan := fun _ => none

theorem loops_heap_Heap_Atoms : LoopOk Tryz.prog Tryz.f55.ntmps G_heap_Heap_Atoms (codeOf Tryz.f55) := loopOk_none fun _ => rfl

theorem den_heap_Heap_Atoms (hx : Option Addr) (w : World) (R : Value → World → Prop) :
    F_heap_Heap_Atoms hx w (fun r w1 => R (.pointer r) w1) = den Tryz.prog Tryz.f55.ntmps G_heap_Heap_Atoms (codeOf Tryz.f55) [] (postD Tryz.prog Tryz.f55.results.toList R) (entry [.pointer hx] 0) w := by kernel_rfl

theorem C_heap_Heap_Atoms.of {hx : Option Addr} {w : World} {R : Option Addr → World → Prop} (h : F_heap_Heap_Atoms hx w R) : C_heap_Heap_Atoms hx w R := by
  refine (calls_of_den (c := codeOf Tryz.f55) seat_ok seat_mixed Tryz.func55 (by kernel_rfl) loops_heap_Heap_Atoms (args := [.pointer hx]) rfl (R := fun v w1 => ∃ (r : Option Addr), v = (.pointer r : Value) ∧ R r w1) ?_).mono ?_
  · rw [← den_heap_Heap_Atoms]
    have e : (fun r w1 => ∃ (r' : Option Addr), (.pointer r : Value) = (.pointer r' : Value) ∧ R r' w1) = R := by
      funext r w1
      exact propext ⟨fun ⟨r', he, h⟩ => by first | (simp at he; simp_all) | (cases he; exact h), fun h => ⟨_, rfl, h⟩⟩
    simpa only [e] using h
  · rintro en w1 ⟨v, he, r, rfl, h⟩
    exact ⟨_, he, h⟩

def F_heap_Heap_Functors (hx : Option Addr) (w : World) (R : Option Addr → World → Prop) : Prop :=
  C_heap_Heap_made hx w fun t4 w1 =>
  If (!t4)
  (R none w1)
  (NN hx fun a =>
  ∃ funs : Option Addr, w1.cell? (a.add 3) = some (.pointer funs) ∧
  R funs w1)

def G_heap_Heap_Functors : Gen where
  loop := lookL []
  plan := fun _ => none

theorem loops_heap_Heap_Functors : LoopOk Tryz.prog Tryz.f56.ntmps G_heap_Heap_Functors (codeOf Tryz.f56) := loopOk_none fun _ => rfl

theorem den_heap_Heap_Functors (hx : Option Addr) (w : World) (R : Value → World → Prop) :
    F_heap_Heap_Functors hx w (fun r w1 => R (.pointer r) w1) = den Tryz.prog Tryz.f56.ntmps G_heap_Heap_Functors (codeOf Tryz.f56) [] (postD Tryz.prog Tryz.f56.results.toList R) (entry [.pointer hx] 0) w := by kernel_rfl

theorem C_heap_Heap_Functors.of {hx : Option Addr} {w : World} {R : Option Addr → World → Prop} (h : F_heap_Heap_Functors hx w R) : C_heap_Heap_Functors hx w R := by
  refine (calls_of_den (c := codeOf Tryz.f56) seat_ok seat_mixed Tryz.func56 (by kernel_rfl) loops_heap_Heap_Functors (args := [.pointer hx]) rfl (R := fun v w1 => ∃ (r : Option Addr), v = (.pointer r : Value) ∧ R r w1) ?_).mono ?_
  · rw [← den_heap_Heap_Functors]
    have e : (fun r w1 => ∃ (r' : Option Addr), (.pointer r : Value) = (.pointer r' : Value) ∧ R r' w1) = R := by
      funext r w1
      exact propext ⟨fun ⟨r', he, h⟩ => by first | (simp at he; simp_all) | (cases he; exact h), fun h => ⟨_, rfl, h⟩⟩
    simpa only [e] using h
  · rintro en w1 ⟨v, he, r, rfl, h⟩
    exact ⟨_, he, h⟩

end Go.Proofs.YtdaenijbokialaaGreat
