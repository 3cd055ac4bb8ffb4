import Derived.Test.YtdaenijbokialaaGreatGenC
set_option maxRecDepth 100000
set_option linter.unusedVariables false
namespace Go.Proofs.YtdaenijbokialaaGreat
open Go Go.D Go.Proofs
def F_heap_Heap_Atom (hx : Option Addr) (namex : ByteArray) (w : World) (R : Int → Int → World → Prop) : Prop :=
 C_heap_Heap_made hx w fun t9 w1 =>
 If (!t9)
 (R (0 : Int) (6 : Int) w1)
 (NN hx fun a =>
 ∃ atoms, w1.cell? (a.add 2) = some (.pointer atoms) ∧
 C_atom_Table_Intern atoms namex w1 fun t170 t171 w1_1 =>
 If (t171 != (0 : Int))
 (R (0 : Int) t171 w1_1)
 (C_heap_word (3 : Int) t170 w1_1 fun t24 w1_2 =>
 R t24 (0 : Int) w1_2))
theorem C_heap_Heap_Atom.of {hx : Option Addr} {namex : ByteArray} {w : World} {R : Int → Int → World → Prop} (h : F_heap_Heap_Atom hx namex w R) : C_heap_Heap_Atom hx namex w R := ofS5 (Fm := F_heap_Heap_Atom hx namex w) Tryz.func51 (by kernel_rfl) (L0 Tryz.f51) rfl (fun _ => by kernel_rfl) h
def F_heap_Heap_Int (hx : Option Addr) (n : Int) (w : World) (R : Int → Int → World → Prop) : Prop :=
 C_heap_Heap_made hx w fun t8 w1 =>
 If (!t8)
 (R (0 : Int) (6 : Int) w1)
 (If (decide (n < (-9007199254740991)))
 (R (0 : Int) (1 : Int) w1)
 (If (decide (n > (9007199254740991 : Int)))
 (R (0 : Int) (1 : Int) w1)
 (C_heap_word (4 : Int) n w1 fun t18 w1_1 =>
 R t18 (0 : Int) w1_1)))
theorem C_heap_Heap_Int.of {hx : Option Addr} {n : Int} {w : World} {R : Int → Int → World → Prop} (h : F_heap_Heap_Int hx n w R) : C_heap_Heap_Int hx n w R := ofS5 (Fm := F_heap_Heap_Int hx n w) Tryz.func52 (by kernel_rfl) (L0 Tryz.f52) rfl (fun _ => by kernel_rfl) h
structure S_heap_Heap_Undo_L1 where
 mk ::
def B_heap_Heap_Undo_L1 (hx_1 : Option Addr) (mark_1 : Int) (s : S_heap_Heap_Undo_L1) (w : World) (Kn : S_heap_Heap_Undo_L1 → World → Prop) (Kx1 : World → Prop) : Prop :=
 NN hx_1 fun a_1 =>
 ∃ trail_1, w.cell? (a_1.add 1) = some (.pointer trail_1) ∧
 C_room_Room_Len trail_1 w fun t27 w1_2 =>
 If (decide (t27 > mark_1))
 (NN hx_1 fun a_2 =>
 ∃ trail_2, w1_2.cell? (a_2.add 1) = some (.pointer trail_2) ∧
 C_room_Room_Pop trail_2 w1_2 fun t350 t351 w1_3 =>
 NN hx_1 fun a_3 =>
 ∃ cellsP cellsN cellsC, (drw w1_3).cell? (a_3.add 4) = some (.slice cellsP cellsN cellsC) ∧
 C_heap_ref (IntKind.i64.wrap t350) (drw w1_3) fun t45 w1_4 =>
 w1_4.cell? (a_3.add 4) = (drw w1_3).cell? (a_3.add 4) ∧
 0 ≤ t350 ∧ t350 < (cellsN : Int) ∧ NN cellsP fun a_4 =>
 St w1_4 ((a_4.add (t350.toNat * 1)).add 0) (.int .u64 t45) fun w1_5 =>
 Kn ⟨⟩ w1_5)
 (Kx1 w1_2)
def F_heap_Heap_Undo_L1 (hx_1 : Option Addr) (mark_1 : Int) (s : S_heap_Heap_Undo_L1) (w : World) (Kx1 : World → Prop) : Prop :=
 LoopS (fun s w Kn => B_heap_Heap_Undo_L1 hx_1 mark_1 s w Kn Kx1) s w
def F_heap_Heap_Undo (hx : Option Addr) (mark : Int) (w : World) (R : Int → World → Prop) : Prop :=
 C_heap_Heap_made hx w fun t9 w1 =>
 If (!t9)
 (R (6 : Int) w1)
 (If (decide (mark < (0 : Int)))
 (R (1 : Int) w1)
 (NN hx fun a =>
 ∃ trail, w1.cell? (a.add 1) = some (.pointer trail) ∧
 C_room_Room_Len trail w1 fun t20 w1_1 =>
 If (decide (mark > t20))
 (R (1 : Int) w1_1)
 (F_heap_Heap_Undo_L1 hx mark ⟨⟩ w1_1
 (fun w1_6 =>
 R (0 : Int) w1_6))))
def lit_heap_Heap_Undo_L1 (f : (Option Addr) × Int) (s : S_heap_Heap_Undo_L1) : Env := [⟨0, .pointer f.1, none⟩, ⟨1, .int .i64 f.2, none⟩]
def dec_heap_Heap_Undo_L1 (e : Env) (K : ((Option Addr) × Int) → S_heap_Heap_Undo_L1 → Prop) : Prop :=
 oP e 0 fun hx_1 =>
 oI e 1 .i64 fun mark_1 =>
  K (hx_1, mark_1) ⟨⟩
theorem dec_heap_Heap_Undo_L1_ok {N : Nat} (e : Env) (a : Act) (K : ((Option Addr) × Int) → S_heap_Heap_Undo_L1 → Prop) (hr : Rep N a e) (h0 : dec_heap_Heap_Undo_L1 e K) : ∃ f s, K f s ∧ Rep N a (lit_heap_Heap_Undo_L1 f s) := by
 unfold dec_heap_Heap_Undo_L1 at h0
 obtain ⟨hx_1, g0, h1⟩ := oP_elim h0
 obtain ⟨mark_1, g1, h2⟩ := oI_elim h1
 exact ⟨_, _, h2, rep_less hr (by simp [lit_heap_Heap_Undo_L1, g0, g1])⟩
def spec_heap_Heap_Undo_L1 (Q : Post) (e : Env) (w : World) : Prop :=
 dec_heap_Heap_Undo_L1 e fun f s => F_heap_Heap_Undo_L1 f.1 f.2 s w (fun w1 => Q (.exit 1) [] w1)
def G_heap_Heap_Undo : Gen where
 loop := lookL [([false, false, true, true], spec_heap_Heap_Undo_L1)]
 plan := fun id =>
  bif Nat.beq id 7 then some ([0, 1, 3, 7, 0, 0, 32, 96, 255, 511], .take 0 (.take 1 (.take 2 (.take 3 (.take 4 (.take 5 (.take 6 (.take 7 (.take 8 (.take 9 .done)))))))))) else none
def dx_heap_Heap_Undo_L1_1 (e : Env) (K : ((Option Addr) × Int) → Prop) : Prop :=
 oP e 0 fun hx_1 =>
 oI e 1 .i64 fun mark_1 =>
  K (hx_1, mark_1)
theorem body_heap_Heap_Undo_L1 (f : (Option Addr) × Int) (s : S_heap_Heap_Undo_L1) (w : World) (Kn : ((Option Addr) × Int) → S_heap_Heap_Undo_L1 → World → Prop) (Kx1 : ((Option Addr) × Int) → World → Prop) :
  B_heap_Heap_Undo_L1 f.1 f.2 s w (fun s1 w1 => Kn f s1 w1) (fun w1 => Kx1 f w1) =
  den Tryz.prog Tryz.f53.ntmps G_heap_Heap_Undo (sub (codeOf Tryz.f53) [false, false, false, true, true]) [false, false, false, true, true] (roundQ (fun e w => dec_heap_Heap_Undo_L1 e fun f s => Kn f s w) (fun e w => False) (fun id e w => match Nat.beq id 1 with | true => dx_heap_Heap_Undo_L1_1 e fun f => Kx1 f w | false => False)) (lit_heap_Heap_Undo_L1 f s) w := by kernel_rfl
theorem ok_heap_Heap_Undo_L1 : OneOk Tryz.prog Tryz.f53.ntmps G_heap_Heap_Undo (codeOf Tryz.f53) [false, false, true, true] spec_heap_Heap_Undo_L1 := by
 intro c hc ih Q e w a hr h
 have hcc : sub (codeOf Tryz.f53) [false, false, false, true, true] = c := sub_of_codeAt hc
 obtain ⟨f, s, h, hrep⟩ := dec_heap_Heap_Undo_L1_ok e a _ hr h
 obtain ⟨J, μ, hj, hround⟩ := h
 refine loop_rule_deep seat_ok seat_mixed ih lit_heap_Heap_Undo_L1 dec_heap_Heap_Undo_L1 dec_heap_Heap_Undo_L1_ok hc f J μ (Kr := fun e w => False) (Kx := fun id e w => match Nat.beq id 1 with | true => (dx_heap_Heap_Undo_L1_1 e fun f1 => f1 = f ∧ Q (.exit 1) [] w) | false => False) ?_ ?_ ?_ s w a hj hrep
 ·intro e a w hr h
  exact h.elim
 ·intro id e a w hr h0
  (try dsimp only at h0)
  split at h0
  ·rename_i hid
   obtain rfl := Nat.eq_of_beq_eq_true hid
   unfold dx_heap_Heap_Undo_L1_1 at h0
   obtain ⟨hx_1, g0, h1⟩ := oP_elim h0
   obtain ⟨mark_1, g1, h2⟩ := oI_elim h1
   obtain ⟨hf, hq⟩ := h2
   subst hf
   exact ⟨_, rep_less hr (by simp), hq⟩
  ·exact h0.elim
 ·intro s w hj
  have hb := hround s w hj
  rw [← hcc]
  have e1 := body_heap_Heap_Undo_L1 f s w (fun f1 s1 w1 => f1 = f ∧ J s1 w1 ∧ μ s1 w1 < μ s w) (fun f1 w1 => f1 = f ∧ Q (.exit 1) [] w1)
  simp only [true_and] at e1
  exact cast e1 hb
theorem loops_heap_Heap_Undo : LoopOk Tryz.prog Tryz.f53.ntmps G_heap_Heap_Undo (codeOf Tryz.f53) := loopOk_list rfl ⟨ok_heap_Heap_Undo_L1, trivial⟩
theorem C_heap_Heap_Undo.of {hx : Option Addr} {mark : Int} {w : World} {R : Int → World → Prop} (h : F_heap_Heap_Undo hx mark w R) : C_heap_Heap_Undo hx mark w R := ofS4 (Fm := F_heap_Heap_Undo hx mark w) Tryz.func53 (by kernel_rfl) loops_heap_Heap_Undo rfl (fun _ => by kernel_rfl) h
def F_heap_Heap_Trail (hx : Option Addr) (w : World) (R : Option Addr → World → Prop) : Prop :=
 C_heap_Heap_made hx w fun t4 w1 =>
 If (!t4)
 (R none w1)
 (NN hx fun a =>
 ∃ trail, w1.cell? (a.add 1) = some (.pointer trail) ∧
 R trail w1)
theorem C_heap_Heap_Trail.of {hx : Option Addr} {w : World} {R : Option Addr → World → Prop} (h : F_heap_Heap_Trail hx w R) : C_heap_Heap_Trail hx w R := ofS13 (Fm := F_heap_Heap_Trail hx w) Tryz.func54 (by kernel_rfl) (L0 Tryz.f54) rfl (fun _ => by kernel_rfl) h
def F_heap_Heap_Atoms (hx : Option Addr) (w : World) (R : Option Addr → World → Prop) : Prop :=
 C_heap_Heap_made hx w fun t4 w1 =>
 If (!t4)
 (R none w1)
 (NN hx fun a =>
 ∃ atoms, w1.cell? (a.add 2) = some (.pointer atoms) ∧
 R atoms w1)
theorem C_heap_Heap_Atoms.of {hx : Option Addr} {w : World} {R : Option Addr → World → Prop} (h : F_heap_Heap_Atoms hx w R) : C_heap_Heap_Atoms hx w R := ofS13 (Fm := F_heap_Heap_Atoms hx w) Tryz.func55 (by kernel_rfl) (L0 Tryz.f55) rfl (fun _ => by kernel_rfl) h
def F_heap_Heap_Functors (hx : Option Addr) (w : World) (R : Option Addr → World → Prop) : Prop :=
 C_heap_Heap_made hx w fun t4 w1 =>
 If (!t4)
 (R none w1)
 (NN hx fun a =>
 ∃ funs, w1.cell? (a.add 3) = some (.pointer funs) ∧
 R funs w1)
theorem C_heap_Heap_Functors.of {hx : Option Addr} {w : World} {R : Option Addr → World → Prop} (h : F_heap_Heap_Functors hx w R) : C_heap_Heap_Functors hx w R := ofS13 (Fm := F_heap_Heap_Functors hx w) Tryz.func56 (by kernel_rfl) (L0 Tryz.f56) rfl (fun _ => by kernel_rfl) h
def F_room_Room_Words (m : Option Addr) (w : World) (R : Option Addr → Nat → Nat → World → Prop) : Prop :=
 If m.isNone
 (R none 0 0 w)
 (NN m fun a =>
 ∃ lP lN lC, w.cell? (a.add 0) = some (.slice lP lN lC) ∧
 C_slices_Clone lP lN lC w fun t9P t9N t9C w1 =>
 R t9P t9N t9C w1)
theorem C_room_Room_Words.of {m : Option Addr} {w : World} {R : Option Addr → Nat → Nat → World → Prop} (h : F_room_Room_Words m w R) : C_room_Room_Words m w R := ofS6 (Fm := F_room_Room_Words m w) Tryz.func57 (by kernel_rfl) (L0 Tryz.f57) rfl (fun _ => by kernel_rfl) h
def F_heap_Heap_Marks (hx : Option Addr) (w : World) (R : Option Addr → Nat → Nat → World → Prop) : Prop :=
 C_heap_Heap_made hx w fun t4 w1 =>
 If (!t4)
 (R none 0 0 w1)
 (NN hx fun a =>
 ∃ marksP marksN marksC, w1.cell? (a.add 6) = some (.slice marksP marksN marksC) ∧
 0 ≤ (1 : Int) ∧ (1 : Int) ≤ (marksN : Int) ∧
 C_slices_Clone__2 (adv marksP marksC (1 : Int).toNat 1) (marksN - (1 : Int).toNat) (marksC - (1 : Int).toNat) w1 fun t11P t11N t11C w1_1 =>
 R t11P t11N t11C w1_1)
theorem C_heap_Heap_Marks.of {hx : Option Addr} {w : World} {R : Option Addr → Nat → Nat → World → Prop} (h : F_heap_Heap_Marks hx w R) : C_heap_Heap_Marks hx w R := ofS6 (Fm := F_heap_Heap_Marks hx w) Tryz.func58 (by kernel_rfl) (L0 Tryz.f58) rfl (fun _ => by kernel_rfl) h
structure S_heap_Heap_Forget_L1 where
 t25 : Int
def B_heap_Heap_Forget_L1 (hx_1 : Option Addr) (gone : Addr) (n : Int) (t23P : Option Addr) (t23N : Nat) (t23C : Nat) (t24 : Int) (s : S_heap_Heap_Forget_L1) (w : World) (Kn : S_heap_Heap_Forget_L1 → World → Prop) (Kx0 : World → Prop) : Prop :=
 If (decide (s.t25 < t24))
 (0 ≤ s.t25 ∧ s.t25 < (t23N : Int) ∧ NN t23P fun a_2 =>
 ∃ t29, w.cell? (a_2.add (s.t25.toNat * 1)) = some (.int .i64 t29) ∧
 ∃ t31P t31N t31C, w.cell? gone = some (.slice t31P t31N t31C) ∧
 C_slices_BinarySearch t31P t31N t31C t29 w fun t330 t331 w1_4 =>
 NN hx_1 fun a_3 =>
 ∃ marksP_1 marksN_1 marksC_1, w1_4.cell? (a_3.add 6) = some (.slice marksP_1 marksN_1 marksC_1) ∧
 0 ≤ s.t25 ∧ s.t25 < (marksN_1 : Int) ∧ NN marksP_1 fun a_4 =>
 ∃ t42, w1_4.cell? (a_4.add (s.t25.toNat * 1)) = some (.int .i64 t42) ∧
 0 ≤ s.t25 ∧ s.t25 < (marksN_1 : Int) ∧ NN marksP_1 fun a_5 =>
 St w1_4 ((a_5.add (s.t25.toNat * 1)).add 0) (.int .i64 (IntKind.i64.wrap (t42 - t330))) fun w1_5 =>
 Kn ⟨(IntKind.i64.wrap (s.t25 + (1 : Int)))⟩ w1_5)
 (Kx0 w)
def F_heap_Heap_Forget_L1 (hx_1 : Option Addr) (gone : Addr) (n : Int) (t23P : Option Addr) (t23N : Nat) (t23C : Nat) (t24 : Int) (s : S_heap_Heap_Forget_L1) (w : World) (Kx0 : World → Prop) : Prop :=
 LoopS (fun s w Kn => B_heap_Heap_Forget_L1 hx_1 gone n t23P t23N t23C t24 s w Kn Kx0) s w
def F_heap_Heap_Forget (hx : Option Addr) (keepx : Value) (w : World) (R : Int → World → Prop) : Prop :=
 New w (.cells (Value.cells keepx) 101) fun r w1 =>
 C_heap_Heap_made hx w1 fun t12 w1_1 =>
 If (!t12)
 (R (0 : Int) w1_1)
 (New w1_1 (.cells #[.slice none 0 0] 55) fun r_1 w1_2 =>
 NN hx fun a =>
 ∃ trail, w1_2.cell? (a.add 1) = some (.pointer trail) ∧
 C_room_Room_Keep trail (.func (.func 113) #[] #[.pointer (some ⟨r, 0, none⟩), .pointer (some ⟨r_1, 0, none⟩)]) w1_2 fun t19 w1_3 =>
 NN hx fun a_1 =>
 ∃ marksP marksN marksC, w1_3.cell? (a_1.add 6) = some (.slice marksP marksN marksC) ∧
 F_heap_Heap_Forget_L1 hx ⟨r_1, 0, none⟩ t19 marksP marksN marksC (marksN : Int) ⟨(0 : Int)⟩ w1_3
 (fun w1_6 =>
 R t19 w1_6))
def lit_heap_Heap_Forget_L1 (f : (Option Addr) × Addr × Int × (Option Addr) × Nat × Nat × Int) (s : S_heap_Heap_Forget_L1) : Env := [⟨0, .pointer f.1, none⟩, ⟨5, .pointer (some f.2.1), none⟩, ⟨6, .int .i64 f.2.2.1, none⟩, ⟨23, .slice f.2.2.2.1 f.2.2.2.2.1 f.2.2.2.2.2.1, none⟩, ⟨24, .int .i64 f.2.2.2.2.2.2, none⟩, ⟨25, .int .i64 s.t25, none⟩]
def dec_heap_Heap_Forget_L1 (e : Env) (K : ((Option Addr) × Addr × Int × (Option Addr) × Nat × Nat × Int) → S_heap_Heap_Forget_L1 → Prop) : Prop :=
 oP e 0 fun hx_1 =>
 oA e 5 fun gone =>
 oI e 6 .i64 fun n =>
 oS e 23 fun t23P t23N t23C =>
 oI e 24 .i64 fun t24 =>
 oI e 25 .i64 fun t25 =>
  K (hx_1, gone, n, t23P, t23N, t23C, t24) ⟨t25⟩
theorem dec_heap_Heap_Forget_L1_ok {N : Nat} (e : Env) (a : Act) (K : ((Option Addr) × Addr × Int × (Option Addr) × Nat × Nat × Int) → S_heap_Heap_Forget_L1 → Prop) (hr : Rep N a e) (h0 : dec_heap_Heap_Forget_L1 e K) : ∃ f s, K f s ∧ Rep N a (lit_heap_Heap_Forget_L1 f s) := by
 unfold dec_heap_Heap_Forget_L1 at h0
 obtain ⟨hx_1, g0, h1⟩ := oP_elim h0
 obtain ⟨gone, g5, h2⟩ := oA_elim h1
 obtain ⟨n, g6, h3⟩ := oI_elim h2
 obtain ⟨t23P, t23N, t23C, g23, h4⟩ := oS_elim h3
 obtain ⟨t24, g24, h5⟩ := oI_elim h4
 obtain ⟨t25, g25, h6⟩ := oI_elim h5
 exact ⟨_, _, h6, rep_less hr (by simp [lit_heap_Heap_Forget_L1, g0, g5, g6, g23, g24, g25])⟩
def spec_heap_Heap_Forget_L1 (Q : Post) (e : Env) (w : World) : Prop :=
 dec_heap_Heap_Forget_L1 e fun f s => F_heap_Heap_Forget_L1 f.1 f.2.1 f.2.2.1 f.2.2.2.1 f.2.2.2.2.1 f.2.2.2.2.2.1 f.2.2.2.2.2.2 s w (fun w1 => Q (.exit 0) [⟨6, .int .i64 f.2.2.1, none⟩] w1)
def G_heap_Heap_Forget : Gen where
 loop := lookL [([false, true, false, true, true, true, true], spec_heap_Heap_Forget_L1)]
 plan := fun _ => none
def dx_heap_Heap_Forget_L1_0 (e : Env) (K : ((Option Addr) × Addr × Int × (Option Addr) × Nat × Nat × Int) → Prop) : Prop :=
 oP e 0 fun hx_1 =>
 oA e 5 fun gone =>
 oI e 6 .i64 fun n =>
 oS e 23 fun t23P t23N t23C =>
 oI e 24 .i64 fun t24 =>
  K (hx_1, gone, n, t23P, t23N, t23C, t24)
theorem body_heap_Heap_Forget_L1 (f : (Option Addr) × Addr × Int × (Option Addr) × Nat × Nat × Int) (s : S_heap_Heap_Forget_L1) (w : World) (Kn : ((Option Addr) × Addr × Int × (Option Addr) × Nat × Nat × Int) → S_heap_Heap_Forget_L1 → World → Prop) (Kx0 : ((Option Addr) × Addr × Int × (Option Addr) × Nat × Nat × Int) → World → Prop) :
  B_heap_Heap_Forget_L1 f.1 f.2.1 f.2.2.1 f.2.2.2.1 f.2.2.2.2.1 f.2.2.2.2.2.1 f.2.2.2.2.2.2 s w (fun s1 w1 => Kn f s1 w1) (fun w1 => Kx0 f w1) =
  den Tryz.prog Tryz.f59.ntmps G_heap_Heap_Forget (sub (codeOf Tryz.f59) [false, false, true, false, true, true, true, true]) [false, false, true, false, true, true, true, true] (roundQ (fun e w => dec_heap_Heap_Forget_L1 e fun f s => Kn f s w) (fun e w => False) (fun id e w => match Nat.beq id 0 with | true => dx_heap_Heap_Forget_L1_0 e fun f => Kx0 f w | false => False)) (lit_heap_Heap_Forget_L1 f s) w := by kernel_rfl
theorem ok_heap_Heap_Forget_L1 : OneOk Tryz.prog Tryz.f59.ntmps G_heap_Heap_Forget (codeOf Tryz.f59) [false, true, false, true, true, true, true] spec_heap_Heap_Forget_L1 := by
 intro c hc ih Q e w a hr h
 have hcc : sub (codeOf Tryz.f59) [false, false, true, false, true, true, true, true] = c := sub_of_codeAt hc
 obtain ⟨f, s, h, hrep⟩ := dec_heap_Heap_Forget_L1_ok e a _ hr h
 obtain ⟨J, μ, hj, hround⟩ := h
 refine loop_rule_deep seat_ok seat_mixed ih lit_heap_Heap_Forget_L1 dec_heap_Heap_Forget_L1 dec_heap_Heap_Forget_L1_ok hc f J μ (Kr := fun e w => False) (Kx := fun id e w => match Nat.beq id 0 with | true => (dx_heap_Heap_Forget_L1_0 e fun f1 => f1 = f ∧ Q (.exit 0) [⟨6, .int .i64 f.2.2.1, none⟩] w) | false => False) ?_ ?_ ?_ s w a hj hrep
 ·intro e a w hr h
  exact h.elim
 ·intro id e a w hr h0
  (try dsimp only at h0)
  split at h0
  ·rename_i hid
   obtain rfl := Nat.eq_of_beq_eq_true hid
   unfold dx_heap_Heap_Forget_L1_0 at h0
   obtain ⟨hx_1, g0, h1⟩ := oP_elim h0
   obtain ⟨gone, g5, h2⟩ := oA_elim h1
   obtain ⟨n, g6, h3⟩ := oI_elim h2
   obtain ⟨t23P, t23N, t23C, g23, h4⟩ := oS_elim h3
   obtain ⟨t24, g24, h5⟩ := oI_elim h4
   obtain ⟨hf, hq⟩ := h5
   subst hf
   exact ⟨_, rep_less hr (by simp [g6]), hq⟩
  ·exact h0.elim
 ·intro s w hj
  have hb := hround s w hj
  rw [← hcc]
  have e1 := body_heap_Heap_Forget_L1 f s w (fun f1 s1 w1 => f1 = f ∧ J s1 w1 ∧ μ s1 w1 < μ s w) (fun f1 w1 => f1 = f ∧ Q (.exit 0) [⟨6, .int .i64 f.2.2.1, none⟩] w1)
  simp only [true_and] at e1
  exact cast e1 hb
theorem loops_heap_Heap_Forget : LoopOk Tryz.prog Tryz.f59.ntmps G_heap_Heap_Forget (codeOf Tryz.f59) := loopOk_list rfl ⟨ok_heap_Heap_Forget_L1, trivial⟩
theorem C_heap_Heap_Forget.of {hx : Option Addr} {keepx : Value} {w : World} {R : Int → World → Prop} (h : F_heap_Heap_Forget hx keepx w R) : C_heap_Heap_Forget hx keepx w R := ofS4 (Fm := F_heap_Heap_Forget hx keepx w) Tryz.func59 (by kernel_rfl) loops_heap_Heap_Forget rfl (fun _ => by kernel_rfl) h
def F_law20_keeper_keep_k1 (k : Option Addr) (i : Int) (atx : Int) (R : Bool → World → Prop) (w1_4 : World) : Prop :=
 NN k fun a_9 =>
 ∃ next_1, w1_4.cell? (a_9.add 4) = some (.int .i64 next_1) ∧
 NN k fun a_10 =>
 St w1_4 ((a_10.add 4).add 0) (.int .i64 (IntKind.i64.wrap (next_1 + (1 : Int)))) fun w1_5 =>
 NN k fun a_11 =>
 ∃ n, w1_5.cell? (a_11.add 0) = some (.int .i64 n) ∧
 n ≠ 0 ∧
 If ((i.tmod n) == (0 : Int))
 (R false w1_5)
 (NN k fun a_12 =>
 ∃ leftP leftN leftC, w1_5.cell? (a_12.add 2) = some (.slice leftP leftN leftC) ∧
 BSl Tryz.prog 36 1 [(0, .int .u64 (IntKind.u64.wrap atx))] w1_5 fun t64P t64N t64C w1_6 =>
 App Tryz.prog #[36, 36] 36 #[.slice leftP leftN leftC, .slice t64P t64N t64C] w1_6 fun t65P t65N t65C w1_7 =>
 NN k fun a_13 =>
 St w1_7 ((a_13.add 2).add 0) (.slice t65P t65N t65C) fun w1_8 =>
 R true w1_8)
def F_law20_keeper_keep (k : Option Addr) (i : Int) (atx : Int) (w : World) (R : Bool → World → Prop) : Prop :=
 NN k fun a =>
 ∃ ok, w.cell? (a.add 3) = some (.bool ok) ∧
 If ok
 (NN k fun a_1 =>
 ∃ next, w.cell? (a_1.add 4) = some (.int .i64 next) ∧
 If (i == next)
 (NN k fun a_2 =>
 ∃ wasP wasN wasC, w.cell? (a_2.add 1) = some (.slice wasP wasN wasC) ∧
 If (decide (i < (wasN : Int)))
 (NN k fun a_3 =>
 ∃ wasP_1 wasN_1 wasC_1, w.cell? (a_3.add 1) = some (.slice wasP_1 wasN_1 wasC_1) ∧
 0 ≤ i ∧ i < (wasN_1 : Int) ∧ NN wasP_1 fun a_4 =>
 ∃ t38, w.cell? (a_4.add (i.toNat * 1)) = some (.int .u64 t38) ∧
 NN k fun a_5 =>
 St w ((a_5.add 3).add 0) (.bool ((IntKind.u64.wrap atx) == t38)) fun w1 =>
 F_law20_keeper_keep_k1 k i atx R w1)
 (NN k fun a_6 =>
 St w ((a_6.add 3).add 0) (.bool false) fun w1_1 =>
 F_law20_keeper_keep_k1 k i atx R w1_1))
 (NN k fun a_7 =>
 St w ((a_7.add 3).add 0) (.bool false) fun w1_2 =>
 F_law20_keeper_keep_k1 k i atx R w1_2))
 (NN k fun a_8 =>
 St w ((a_8.add 3).add 0) (.bool false) fun w1_3 =>
 F_law20_keeper_keep_k1 k i atx R w1_3)
theorem C_law20_keeper_keep.of {k : Option Addr} {i : Int} {atx : Int} {w : World} {R : Bool → World → Prop} (h : F_law20_keeper_keep k i atx w R) : C_law20_keeper_keep k i atx w R := ofS2 (Fm := F_law20_keeper_keep k i atx w) Tryz.func60 (by kernel_rfl) (L0 Tryz.f60) rfl (fun _ => by kernel_rfl) h
structure S_ref02_Same_L1 where
 i : Int
def B_ref02_Same_L1 (aP_1 : Option Addr) (aN_1 : Nat) (aC_1 : Nat) (bP_1 : Option Addr) (bN_1 : Nat) (bC_1 : Nat) (s : S_ref02_Same_L1) (w : World) (Kn : S_ref02_Same_L1 → World → Prop) (Kx0 : World → Prop) (Kr : Bool → World → Prop) : Prop :=
 If (decide (s.i < (aN_1 : Int)))
 (0 ≤ s.i ∧ s.i < (aN_1 : Int) ∧ NN aP_1 fun a =>
 ∃ t20, (drw w).cell? (a.add (s.i.toNat * 1)) = some (.int .u64 t20) ∧
 0 ≤ s.i ∧ s.i < (bN_1 : Int) ∧ NN bP_1 fun a_1 =>
 ∃ t24, (drw w).cell? (a_1.add (s.i.toNat * 1)) = some (.int .u64 t24) ∧
 If (t20 != t24)
 (Kr false (drw w))
 (Kn ⟨(IntKind.i64.wrap (s.i + (1 : Int)))⟩ (drw w)))
 (Kx0 w)
def F_ref02_Same_L1 (aP_1 : Option Addr) (aN_1 : Nat) (aC_1 : Nat) (bP_1 : Option Addr) (bN_1 : Nat) (bC_1 : Nat) (s : S_ref02_Same_L1) (w : World) (Kx0 : World → Prop) (Kr : Bool → World → Prop) : Prop :=
 LoopS (fun s w Kn => B_ref02_Same_L1 aP_1 aN_1 aC_1 bP_1 bN_1 bC_1 s w Kn Kx0 Kr) s w
def F_ref02_Same (aP : Option Addr) (aN : Nat) (aC : Nat) (bP : Option Addr) (bN : Nat) (bC : Nat) (w : World) (R : Bool → World → Prop) : Prop :=
 If ((aN : Int) != (bN : Int))
 (R false w)
 (F_ref02_Same_L1 aP aN aC bP bN bC ⟨(0 : Int)⟩ w
 (fun w1 =>
 R true w1)
 (fun t4_1 w1_1 =>
 R t4_1 w1_1))
def lit_ref02_Same_L1 (f : (Option Addr) × Nat × Nat × (Option Addr) × Nat × Nat) (s : S_ref02_Same_L1) : Env := [⟨0, .slice f.1 f.2.1 f.2.2.1, none⟩, ⟨1, .slice f.2.2.2.1 f.2.2.2.2.1 f.2.2.2.2.2, none⟩, ⟨5, .int .i64 s.i, none⟩]
def dec_ref02_Same_L1 (e : Env) (K : ((Option Addr) × Nat × Nat × (Option Addr) × Nat × Nat) → S_ref02_Same_L1 → Prop) : Prop :=
 oS e 0 fun aP_1 aN_1 aC_1 =>
 oS e 1 fun bP_1 bN_1 bC_1 =>
 oI e 5 .i64 fun i =>
  K (aP_1, aN_1, aC_1, bP_1, bN_1, bC_1) ⟨i⟩
theorem dec_ref02_Same_L1_ok {N : Nat} (e : Env) (a : Act) (K : ((Option Addr) × Nat × Nat × (Option Addr) × Nat × Nat) → S_ref02_Same_L1 → Prop) (hr : Rep N a e) (h0 : dec_ref02_Same_L1 e K) : ∃ f s, K f s ∧ Rep N a (lit_ref02_Same_L1 f s) := by
 unfold dec_ref02_Same_L1 at h0
 obtain ⟨aP_1, aN_1, aC_1, g0, h1⟩ := oS_elim h0
 obtain ⟨bP_1, bN_1, bC_1, g1, h2⟩ := oS_elim h1
 obtain ⟨i, g5, h3⟩ := oI_elim h2
 exact ⟨_, _, h3, rep_less hr (by simp [lit_ref02_Same_L1, g0, g1, g5])⟩
def spec_ref02_Same_L1 (Q : Post) (e : Env) (w : World) : Prop :=
 dec_ref02_Same_L1 e fun f s => F_ref02_Same_L1 f.1 f.2.1 f.2.2.1 f.2.2.2.1 f.2.2.2.2.1 f.2.2.2.2.2 s w (fun w1 => Q (.exit 0) [] w1) (fun t4 w1 => Q .ret [⟨4, .bool t4, none⟩] w1)
def G_ref02_Same : Gen where
 loop := lookL [([false, true, false, true, true], spec_ref02_Same_L1)]
 plan := fun id =>
  bif Nat.beq id 6 then some ([0, 0, 3, 7, 0, 0, 48, 112, 255], .take 0 (.take 1 (.take 2 (.take 3 (.take 4 (.take 5 (.take 6 (.take 7 (.take 8 .done))))))))) else none
def dx_ref02_Same_L1_0 (e : Env) (K : ((Option Addr) × Nat × Nat × (Option Addr) × Nat × Nat) → Prop) : Prop :=
 oS e 0 fun aP_1 aN_1 aC_1 =>
 oS e 1 fun bP_1 bN_1 bC_1 =>
  K (aP_1, aN_1, aC_1, bP_1, bN_1, bC_1)
def dx_ref02_Same_L1_ret (e : Env) (K : ((Option Addr) × Nat × Nat × (Option Addr) × Nat × Nat) → Bool → Prop) : Prop :=
 oS e 0 fun aP_1 aN_1 aC_1 =>
 oS e 1 fun bP_1 bN_1 bC_1 =>
 oB e 4 fun t4 =>
  K (aP_1, aN_1, aC_1, bP_1, bN_1, bC_1) t4
theorem body_ref02_Same_L1 (f : (Option Addr) × Nat × Nat × (Option Addr) × Nat × Nat) (s : S_ref02_Same_L1) (w : World) (Kn : ((Option Addr) × Nat × Nat × (Option Addr) × Nat × Nat) → S_ref02_Same_L1 → World → Prop) (Kx0 : ((Option Addr) × Nat × Nat × (Option Addr) × Nat × Nat) → World → Prop) (Kr : ((Option Addr) × Nat × Nat × (Option Addr) × Nat × Nat) → Bool → World → Prop) :
  B_ref02_Same_L1 f.1 f.2.1 f.2.2.1 f.2.2.2.1 f.2.2.2.2.1 f.2.2.2.2.2 s w (fun s1 w1 => Kn f s1 w1) (fun w1 => Kx0 f w1) (fun t4 w1 => Kr f t4 w1) =
  den Tryz.prog Tryz.f61.ntmps G_ref02_Same (sub (codeOf Tryz.f61) [false, false, true, false, true, true]) [false, false, true, false, true, true] (roundQ (fun e w => dec_ref02_Same_L1 e fun f s => Kn f s w) (fun e w => dx_ref02_Same_L1_ret e fun f t4 => Kr f t4 w) (fun id e w => match Nat.beq id 0 with | true => dx_ref02_Same_L1_0 e fun f => Kx0 f w | false => False)) (lit_ref02_Same_L1 f s) w := by kernel_rfl
theorem ok_ref02_Same_L1 : OneOk Tryz.prog Tryz.f61.ntmps G_ref02_Same (codeOf Tryz.f61) [false, true, false, true, true] spec_ref02_Same_L1 := by
 intro c hc ih Q e w a hr h
 have hcc : sub (codeOf Tryz.f61) [false, false, true, false, true, true] = c := sub_of_codeAt hc
 obtain ⟨f, s, h, hrep⟩ := dec_ref02_Same_L1_ok e a _ hr h
 obtain ⟨J, μ, hj, hround⟩ := h
 refine loop_rule_deep seat_ok seat_mixed ih lit_ref02_Same_L1 dec_ref02_Same_L1 dec_ref02_Same_L1_ok hc f J μ (Kr := fun e w => dx_ref02_Same_L1_ret e fun f1 t4 => f1 = f ∧ Q .ret [⟨4, .bool t4, none⟩] w) (Kx := fun id e w => match Nat.beq id 0 with | true => (dx_ref02_Same_L1_0 e fun f1 => f1 = f ∧ Q (.exit 0) [] w) | false => False) ?_ ?_ ?_ s w a hj hrep
 ·intro e a w hr h0
  unfold dx_ref02_Same_L1_ret at h0
  obtain ⟨aP_1, aN_1, aC_1, g0, h1⟩ := oS_elim h0
  obtain ⟨bP_1, bN_1, bC_1, g1, h2⟩ := oS_elim h1
  obtain ⟨t4, g4, h3⟩ := oB_elim h2
  obtain ⟨hf, hq⟩ := h3
  subst hf
  exact ⟨_, rep_less hr (by simp [g4]), hq⟩
 ·intro id e a w hr h0
  (try dsimp only at h0)
  split at h0
  ·rename_i hid
   obtain rfl := Nat.eq_of_beq_eq_true hid
   unfold dx_ref02_Same_L1_0 at h0
   obtain ⟨aP_1, aN_1, aC_1, g0, h1⟩ := oS_elim h0
   obtain ⟨bP_1, bN_1, bC_1, g1, h2⟩ := oS_elim h1
   obtain ⟨hf, hq⟩ := h2
   subst hf
   exact ⟨_, rep_less hr (by simp), hq⟩
  ·exact h0.elim
 ·intro s w hj
  have hb := hround s w hj
  rw [← hcc]
  have e1 := body_ref02_Same_L1 f s w (fun f1 s1 w1 => f1 = f ∧ J s1 w1 ∧ μ s1 w1 < μ s w) (fun f1 w1 => f1 = f ∧ Q (.exit 0) [] w1) (fun f1 t4 w1 => f1 = f ∧ Q .ret [⟨4, .bool t4, none⟩] w1)
  simp only [true_and] at e1
  exact cast e1 hb
theorem loops_ref02_Same : LoopOk Tryz.prog Tryz.f61.ntmps G_ref02_Same (codeOf Tryz.f61) := loopOk_list rfl ⟨ok_ref02_Same_L1, trivial⟩
theorem C_ref02_Same.of {aP : Option Addr} {aN : Nat} {aC : Nat} {bP : Option Addr} {bN : Nat} {bC : Nat} {w : World} {R : Bool → World → Prop} (h : F_ref02_Same aP aN aC bP bN bC w R) : C_ref02_Same aP aN aC bP bN bC w R := ofS2 (Fm := F_ref02_Same aP aN aC bP bN bC w) Tryz.func61 (by kernel_rfl) loops_ref02_Same rfl (fun _ => by kernel_rfl) h
def F_heap_Heap_Loose (hx : Option Addr) (atx : Int) (w : World) (R : Int → World → Prop) : Prop :=
 C_heap_Heap_made hx w fun t7 w1 =>
 If (!t7)
 (R (6 : Int) w1)
 (C_heap_Heap_taken hx atx w1 fun t12 w1_1 =>
 If (!t12)
 (R (1 : Int) w1_1)
 (NN hx fun a =>
 ∃ cellsP cellsN cellsC, (drw w1_1).cell? (a.add 4) = some (.slice cellsP cellsN cellsC) ∧
 C_heap_ref atx (drw w1_1) fun t20 w1_2 =>
 w1_2.cell? (a.add 4) = (drw w1_1).cell? (a.add 4) ∧
 0 ≤ atx ∧ atx < (cellsN : Int) ∧ NN cellsP fun a_1 =>
 St w1_2 ((a_1.add (atx.toNat * 1)).add 0) (.int .u64 t20) fun w1_3 =>
 R (0 : Int) w1_3))
def G_heap_Heap_Loose : Gen where
 loop := lookL []
 plan := fun id =>
  bif Nat.beq id 5 then some ([0, 1, 3, 7, 0, 0, 32, 127, 255], .take 0 (.take 1 (.take 2 (.take 3 (.take 4 (.take 5 (.take 6 (.take 7 (.take 8 .done))))))))) else none
theorem C_heap_Heap_Loose.of {hx : Option Addr} {atx : Int} {w : World} {R : Int → World → Prop} (h : F_heap_Heap_Loose hx atx w R) : C_heap_Heap_Loose hx atx w R := ofS4 (Fm := F_heap_Heap_Loose hx atx w) Tryz.func62 (by kernel_rfl) (L1 G_heap_Heap_Loose Tryz.f62 fun _ => rfl) rfl (fun _ => by kernel_rfl) h
structure S_ref07_Large_L1 where
 n : Int
 i : Int
def B_ref07_Large_L1 (lP_1 : Option Addr) (lN_1 : Nat) (lC_1 : Nat) (s : S_ref07_Large_L1) (w : World) (Kn : S_ref07_Large_L1 → World → Prop) (Kx0 : World → Prop) (Kr : Bool → World → Prop) : Prop :=
 If (decide (s.i < (lN_1 : Int)))
 (If (decide (s.i < (400 : Int)))
 (0 ≤ s.i ∧ s.i < (lN_1 : Int) ∧ NN lP_1 fun a =>
 ∃ t180, w.cell? ((a.add (s.i.toNat * 4)).add 0) = some (.int .i64 t180) ∧
 ∃ t181, w.cell? ((a.add (s.i.toNat * 4)).add 1) = some (.int .i64 t181) ∧
 ∃ t182, w.cell? ((a.add (s.i.toNat * 4)).add 2) = some (.string t182) ∧
 ∃ t183P t183N t183C, w.cell? ((a.add (s.i.toNat * 4)).add 3) = some (.slice t183P t183N t183C) ∧
 C_ref06_Large t180 t181 t182 t183P t183N t183C w fun t19 w1 =>
 If t19
 (Kr true w1)
 (0 ≤ s.i ∧ s.i < (lN_1 : Int) ∧ NN lP_1 fun a_1 =>
 ∃ t240, w1.cell? ((a_1.add (s.i.toNat * 4)).add 0) = some (.int .i64 t240) ∧
 ∃ t241, w1.cell? ((a_1.add (s.i.toNat * 4)).add 1) = some (.int .i64 t241) ∧
 ∃ t242, w1.cell? ((a_1.add (s.i.toNat * 4)).add 2) = some (.string t242) ∧
 ∃ t243P t243N t243C, w1.cell? ((a_1.add (s.i.toNat * 4)).add 3) = some (.slice t243P t243N t243C) ∧
 C_ref06_Size t240 t241 t242 t243P t243N t243C w1 fun t25 w1_1 =>
 If (decide ((IntKind.i64.wrap (s.n + t25)) > (20000 : Int)))
 (Kr true w1_1)
 (Kn ⟨(IntKind.i64.wrap (s.n + t25)), (IntKind.i64.wrap (s.i + (1 : Int)))⟩ w1_1)))
 (Kx0 w))
 (Kx0 w)
def F_ref07_Large_L1 (lP_1 : Option Addr) (lN_1 : Nat) (lC_1 : Nat) (s : S_ref07_Large_L1) (w : World) (Kx0 : World → Prop) (Kr : Bool → World → Prop) : Prop :=
 LoopS (fun s w Kn => B_ref07_Large_L1 lP_1 lN_1 lC_1 s w Kn Kx0 Kr) s w
def F_ref07_Large (lP : Option Addr) (lN : Nat) (lC : Nat) (w : World) (R : Bool → World → Prop) : Prop :=
 F_ref07_Large_L1 lP lN lC ⟨(0 : Int), (0 : Int)⟩ w
 (fun w1_2 =>
 R (decide ((lN : Int) > (300 : Int))) w1_2)
 (fun t2_1 w1_3 =>
 R t2_1 w1_3)
def lit_ref07_Large_L1 (f : (Option Addr) × Nat × Nat) (s : S_ref07_Large_L1) : Env := [⟨0, .slice f.1 f.2.1 f.2.2, none⟩, ⟨3, .int .i64 s.n, none⟩, ⟨4, .int .i64 s.i, none⟩]
def dec_ref07_Large_L1 (e : Env) (K : ((Option Addr) × Nat × Nat) → S_ref07_Large_L1 → Prop) : Prop :=
 oS e 0 fun lP_1 lN_1 lC_1 =>
 oI e 3 .i64 fun n =>
 oI e 4 .i64 fun i =>
  K (lP_1, lN_1, lC_1) ⟨n, i⟩
theorem dec_ref07_Large_L1_ok {N : Nat} (e : Env) (a : Act) (K : ((Option Addr) × Nat × Nat) → S_ref07_Large_L1 → Prop) (hr : Rep N a e) (h0 : dec_ref07_Large_L1 e K) : ∃ f s, K f s ∧ Rep N a (lit_ref07_Large_L1 f s) := by
 unfold dec_ref07_Large_L1 at h0
 obtain ⟨lP_1, lN_1, lC_1, g0, h1⟩ := oS_elim h0
 obtain ⟨n, g3, h2⟩ := oI_elim h1
 obtain ⟨i, g4, h3⟩ := oI_elim h2
 exact ⟨_, _, h3, rep_less hr (by simp [lit_ref07_Large_L1, g0, g3, g4])⟩
def spec_ref07_Large_L1 (Q : Post) (e : Env) (w : World) : Prop :=
 dec_ref07_Large_L1 e fun f s => F_ref07_Large_L1 f.1 f.2.1 f.2.2 s w (fun w1 => Q (.exit 0) [⟨0, .slice f.1 f.2.1 f.2.2, none⟩] w1) (fun t2 w1 => Q .ret [⟨2, .bool t2, none⟩] w1)
def G_ref07_Large : Gen where
 loop := lookL [([false, true, false, true, true], spec_ref07_Large_L1)]
 plan := fun _ => none
def dx_ref07_Large_L1_0 (e : Env) (K : ((Option Addr) × Nat × Nat) → Prop) : Prop :=
 oS e 0 fun lP_1 lN_1 lC_1 =>
  K (lP_1, lN_1, lC_1)
def dx_ref07_Large_L1_ret (e : Env) (K : ((Option Addr) × Nat × Nat) → Bool → Prop) : Prop :=
 oS e 0 fun lP_1 lN_1 lC_1 =>
 oB e 2 fun t2 =>
  K (lP_1, lN_1, lC_1) t2
theorem body_ref07_Large_L1 (f : (Option Addr) × Nat × Nat) (s : S_ref07_Large_L1) (w : World) (Kn : ((Option Addr) × Nat × Nat) → S_ref07_Large_L1 → World → Prop) (Kx0 : ((Option Addr) × Nat × Nat) → World → Prop) (Kr : ((Option Addr) × Nat × Nat) → Bool → World → Prop) :
  B_ref07_Large_L1 f.1 f.2.1 f.2.2 s w (fun s1 w1 => Kn f s1 w1) (fun w1 => Kx0 f w1) (fun t2 w1 => Kr f t2 w1) =
  den Tryz.prog Tryz.f63.ntmps G_ref07_Large (sub (codeOf Tryz.f63) [false, false, true, false, true, true]) [false, false, true, false, true, true] (roundQ (fun e w => dec_ref07_Large_L1 e fun f s => Kn f s w) (fun e w => dx_ref07_Large_L1_ret e fun f t2 => Kr f t2 w) (fun id e w => match Nat.beq id 0 with | true => dx_ref07_Large_L1_0 e fun f => Kx0 f w | false => False)) (lit_ref07_Large_L1 f s) w := by kernel_rfl
theorem ok_ref07_Large_L1 : OneOk Tryz.prog Tryz.f63.ntmps G_ref07_Large (codeOf Tryz.f63) [false, true, false, true, true] spec_ref07_Large_L1 := by
 intro c hc ih Q e w a hr h
 have hcc : sub (codeOf Tryz.f63) [false, false, true, false, true, true] = c := sub_of_codeAt hc
 obtain ⟨f, s, h, hrep⟩ := dec_ref07_Large_L1_ok e a _ hr h
 obtain ⟨J, μ, hj, hround⟩ := h
 refine loop_rule_deep seat_ok seat_mixed ih lit_ref07_Large_L1 dec_ref07_Large_L1 dec_ref07_Large_L1_ok hc f J μ (Kr := fun e w => dx_ref07_Large_L1_ret e fun f1 t2 => f1 = f ∧ Q .ret [⟨2, .bool t2, none⟩] w) (Kx := fun id e w => match Nat.beq id 0 with | true => (dx_ref07_Large_L1_0 e fun f1 => f1 = f ∧ Q (.exit 0) [⟨0, .slice f.1 f.2.1 f.2.2, none⟩] w) | false => False) ?_ ?_ ?_ s w a hj hrep
 ·intro e a w hr h0
  unfold dx_ref07_Large_L1_ret at h0
  obtain ⟨lP_1, lN_1, lC_1, g0, h1⟩ := oS_elim h0
  obtain ⟨t2, g2, h2⟩ := oB_elim h1
  obtain ⟨hf, hq⟩ := h2
  subst hf
  exact ⟨_, rep_less hr (by simp [g2]), hq⟩
 ·intro id e a w hr h0
  (try dsimp only at h0)
  split at h0
  ·rename_i hid
   obtain rfl := Nat.eq_of_beq_eq_true hid
   unfold dx_ref07_Large_L1_0 at h0
   obtain ⟨lP_1, lN_1, lC_1, g0, h1⟩ := oS_elim h0
   obtain ⟨hf, hq⟩ := h1
   subst hf
   exact ⟨_, rep_less hr (by simp [g0]), hq⟩
  ·exact h0.elim
 ·intro s w hj
  have hb := hround s w hj
  rw [← hcc]
  have e1 := body_ref07_Large_L1 f s w (fun f1 s1 w1 => f1 = f ∧ J s1 w1 ∧ μ s1 w1 < μ s w) (fun f1 w1 => f1 = f ∧ Q (.exit 0) [⟨0, .slice f.1 f.2.1 f.2.2, none⟩] w1) (fun f1 t2 w1 => f1 = f ∧ Q .ret [⟨2, .bool t2, none⟩] w1)
  simp only [true_and] at e1
  exact cast e1 hb
theorem loops_ref07_Large : LoopOk Tryz.prog Tryz.f63.ntmps G_ref07_Large (codeOf Tryz.f63) := loopOk_list rfl ⟨ok_ref07_Large_L1, trivial⟩
theorem C_ref07_Large.of {lP : Option Addr} {lN : Nat} {lC : Nat} {w : World} {R : Bool → World → Prop} (h : F_ref07_Large lP lN lC w R) : C_ref07_Large lP lN lC w R := ofS2 (Fm := F_ref07_Large lP lN lC w) Tryz.func63 (by kernel_rfl) loops_ref07_Large rfl (fun _ => by kernel_rfl) h
structure S_ref06_Size_L1 where
 n : Int
 i : Int
def B_ref06_Size_L1 (t : Addr) (s : S_ref06_Size_L1) (w : World) (Kn : S_ref06_Size_L1 → World → Prop) (Kx0 : Int → World → Prop) : Prop :=
 ∃ LP LN LC, w.cell? (t.add 3) = some (.slice LP LN LC) ∧
 If (decide (s.i < (LN : Int)))
 (∃ LP_1 LN_1 LC_1, w.cell? (t.add 3) = some (.slice LP_1 LN_1 LC_1) ∧
 0 ≤ s.i ∧ s.i < (LN_1 : Int) ∧ NN LP_1 fun a =>
 ∃ t170, w.cell? ((a.add (s.i.toNat * 4)).add 0) = some (.int .i64 t170) ∧
 ∃ t171, w.cell? ((a.add (s.i.toNat * 4)).add 1) = some (.int .i64 t171) ∧
 ∃ t172, w.cell? ((a.add (s.i.toNat * 4)).add 2) = some (.string t172) ∧
 ∃ t173P t173N t173C, w.cell? ((a.add (s.i.toNat * 4)).add 3) = some (.slice t173P t173N t173C) ∧
 C_ref06_Size t170 t171 t172 t173P t173N t173C w fun t18 w1_1 =>
 Kn ⟨(IntKind.i64.wrap (s.n + t18)), (IntKind.i64.wrap (s.i + (1 : Int)))⟩ w1_1)
 (Kx0 s.n w)
def F_ref06_Size_L1 (t : Addr) (s : S_ref06_Size_L1) (w : World) (Kx0 : Int → World → Prop) : Prop :=
 LoopS (fun s w Kn => B_ref06_Size_L1 t s w Kn Kx0) s w
def F_ref06_Size (t0 : Int) (t1 : Int) (t2 : ByteArray) (t3P : Option Addr) (t3N : Nat) (t3C : Nat) (w : World) (R : Int → World → Prop) : Prop :=
 New w (.cells #[.int .i64 t0, .int .i64 t1, .string t2, .slice t3P t3N t3C] 31) fun r w1 =>
 F_ref06_Size_L1 ⟨r, 0, none⟩ ⟨(1 : Int), (0 : Int)⟩ w1
 (fun n_2 w1_2 =>
 R n_2 w1_2)
def lit_ref06_Size_L1 (f : Addr) (s : S_ref06_Size_L1) : Env := [⟨1, .pointer (some f), none⟩, ⟨3, .int .i64 s.n, none⟩, ⟨4, .int .i64 s.i, none⟩]
def dec_ref06_Size_L1 (e : Env) (K : Addr → S_ref06_Size_L1 → Prop) : Prop :=
 oA e 1 fun t =>
 oI e 3 .i64 fun n =>
 oI e 4 .i64 fun i =>
  K (t) ⟨n, i⟩
theorem dec_ref06_Size_L1_ok {N : Nat} (e : Env) (a : Act) (K : Addr → S_ref06_Size_L1 → Prop) (hr : Rep N a e) (h0 : dec_ref06_Size_L1 e K) : ∃ f s, K f s ∧ Rep N a (lit_ref06_Size_L1 f s) := by
 unfold dec_ref06_Size_L1 at h0
 obtain ⟨t, g1, h1⟩ := oA_elim h0
 obtain ⟨n, g3, h2⟩ := oI_elim h1
 obtain ⟨i, g4, h3⟩ := oI_elim h2
 exact ⟨_, _, h3, rep_less hr (by simp [lit_ref06_Size_L1, g1, g3, g4])⟩
def spec_ref06_Size_L1 (Q : Post) (e : Env) (w : World) : Prop :=
 dec_ref06_Size_L1 e fun f s => F_ref06_Size_L1 f s w (fun n_1 w1 => Q (.exit 0) [⟨3, .int .i64 n_1, none⟩] w1)
def G_ref06_Size : Gen where
 loop := lookL [([false, true, false, true, true], spec_ref06_Size_L1)]
 plan := fun _ => none
def dx_ref06_Size_L1_0 (e : Env) (K : Addr → Int → Prop) : Prop :=
 oA e 1 fun t =>
 oI e 3 .i64 fun n_1 =>
  K (t) n_1
theorem body_ref06_Size_L1 (f : Addr) (s : S_ref06_Size_L1) (w : World) (Kn : Addr → S_ref06_Size_L1 → World → Prop) (Kx0 : Addr → Int → World → Prop) :
  B_ref06_Size_L1 f s w (fun s1 w1 => Kn f s1 w1) (fun n_1 w1 => Kx0 f n_1 w1) =
  den Tryz.prog Tryz.f64.ntmps G_ref06_Size (sub (codeOf Tryz.f64) [false, false, true, false, true, true]) [false, false, true, false, true, true] (roundQ (fun e w => dec_ref06_Size_L1 e fun f s => Kn f s w) (fun e w => False) (fun id e w => match Nat.beq id 0 with | true => dx_ref06_Size_L1_0 e fun f n_1 => Kx0 f n_1 w | false => False)) (lit_ref06_Size_L1 f s) w := by kernel_rfl
theorem ok_ref06_Size_L1 : OneOk Tryz.prog Tryz.f64.ntmps G_ref06_Size (codeOf Tryz.f64) [false, true, false, true, true] spec_ref06_Size_L1 := by
 intro c hc ih Q e w a hr h
 have hcc : sub (codeOf Tryz.f64) [false, false, true, false, true, true] = c := sub_of_codeAt hc
 obtain ⟨f, s, h, hrep⟩ := dec_ref06_Size_L1_ok e a _ hr h
 obtain ⟨J, μ, hj, hround⟩ := h
 refine loop_rule_deep seat_ok seat_mixed ih lit_ref06_Size_L1 dec_ref06_Size_L1 dec_ref06_Size_L1_ok hc f J μ (Kr := fun e w => False) (Kx := fun id e w => match Nat.beq id 0 with | true => (dx_ref06_Size_L1_0 e fun f1 n_1 => f1 = f ∧ Q (.exit 0) [⟨3, .int .i64 n_1, none⟩] w) | false => False) ?_ ?_ ?_ s w a hj hrep
 ·intro e a w hr h
  exact h.elim
 ·intro id e a w hr h0
  (try dsimp only at h0)
  split at h0
  ·rename_i hid
   obtain rfl := Nat.eq_of_beq_eq_true hid
   unfold dx_ref06_Size_L1_0 at h0
   obtain ⟨t, g1, h1⟩ := oA_elim h0
   obtain ⟨n_1, g3, h2⟩ := oI_elim h1
   obtain ⟨hf, hq⟩ := h2
   subst hf
   exact ⟨_, rep_less hr (by simp [g3]), hq⟩
  ·exact h0.elim
 ·intro s w hj
  have hb := hround s w hj
  rw [← hcc]
  have e1 := body_ref06_Size_L1 f s w (fun f1 s1 w1 => f1 = f ∧ J s1 w1 ∧ μ s1 w1 < μ s w) (fun f1 n_1 w1 => f1 = f ∧ Q (.exit 0) [⟨3, .int .i64 n_1, none⟩] w1)
  simp only [true_and] at e1
  exact cast e1 hb
theorem loops_ref06_Size : LoopOk Tryz.prog Tryz.f64.ntmps G_ref06_Size (codeOf Tryz.f64) := loopOk_list rfl ⟨ok_ref06_Size_L1, trivial⟩
theorem C_ref06_Size.of {t0 : Int} {t1 : Int} {t2 : ByteArray} {t3P : Option Addr} {t3N : Nat} {t3C : Nat} {w : World} {R : Int → World → Prop} (h : F_ref06_Size t0 t1 t2 t3P t3N t3C w R) : C_ref06_Size t0 t1 t2 t3P t3N t3C w R := ofS4 (Fm := F_ref06_Size t0 t1 t2 t3P t3N t3C w) Tryz.func64 (by kernel_rfl) loops_ref06_Size rfl (fun _ => by kernel_rfl) h
end Go.Proofs.YtdaenijbokialaaGreat
