/- The formulas of this seat's functions, held against the loaded program by the kernel. Printed by a program. -/
import Derived.Test.YtdkkkomcolklbaaGenC
set_option maxRecDepth 100000
set_option linter.unusedVariables false
namespace Go.Proofs.Ytdkkkomcolklbaa
open Go Go.D Go.Proofs

def F_slices_Clone (sP : Option Addr) (sN : Nat) (sC : Nat) (w : World) (R : Option Addr → Nat → Nat → World → Prop) : Prop :=
  If sP.isNone
  (R none 0 0 w)
  (BSl Try.prog 22 0 [] w fun t5P t5N t5C w1 =>
  App Try.prog #[22, 22] 22 #[.slice t5P t5N t5C, .slice sP sN sC] w1 fun t7P t7N t7C w1_1 =>
  R t7P t7N t7C w1_1)

def G_slices_Clone : Gen where
  loop := lookL []
  plan := fun _ => none

theorem loops_slices_Clone : LoopOk Try.prog Try.f32.ntmps G_slices_Clone (codeOf Try.f32) := loopOk_none fun _ => rfl

theorem den_slices_Clone (sP : Option Addr) (sN : Nat) (sC : Nat) (w : World) (R : Value → World → Prop) :
    F_slices_Clone sP sN sC w (fun rP rN rC w1 => R (.slice rP rN rC) w1) = den Try.prog Try.f32.ntmps G_slices_Clone (codeOf Try.f32) [] (postD Try.prog Try.f32.results.toList R) (entry [.slice sP sN sC] 0) w := by kernel_rfl

theorem C_slices_Clone.of {sP : Option Addr} {sN : Nat} {sC : Nat} {w : World} {R : Option Addr → Nat → Nat → World → Prop} (h : F_slices_Clone sP sN sC w R) : C_slices_Clone sP sN sC w R := by
  refine (calls_of_den (c := codeOf Try.f32) seat_ok seat_mixed Try.func32 (by kernel_rfl) loops_slices_Clone (args := [.slice sP sN sC]) rfl (R := fun v w1 => ∃ (rP : Option Addr) (rN : Nat) (rC : Nat), v = (.slice rP rN rC : Value) ∧ R rP rN rC w1) ?_).mono ?_
  · rw [← den_slices_Clone]
    have e : (fun rP rN rC w1 => ∃ (rP' : Option Addr) (rN' : Nat) (rC' : Nat), (.slice rP rN rC : Value) = (.slice rP' rN' rC' : Value) ∧ R rP' rN' rC' w1) = R := by
      funext rP rN rC w1
      exact propext ⟨fun ⟨rP', rN', rC', he, h⟩ => by simp at he; simp_all, fun h => ⟨_, _, _, rfl, h⟩⟩
    simpa only [e] using h
  · rintro en w1 ⟨v, he, rP, rN, rC, rfl, h⟩
    exact ⟨_, _, _, he, h⟩

def F_room_Room_has (m : Option Addr) (i : Int) (w : World) (R : Int → World → Prop) : Prop :=
  If m.isNone
  (R (6 : Int) w)
  (If (decide (i < (0 : Int)))
  (R (4 : Int) w)
  (NN m fun a =>
  ∃ lP : Option Addr, ∃ lN : Nat, ∃ lC : Nat, w.cell? (a.add 0) = some (.slice lP lN lC) ∧
  If (decide (i ≥ (lN : Int)))
  (R (4 : Int) w)
  (R (0 : Int) w)))

def G_room_Room_has : Gen where
  loop := lookL []
  plan := fun _ => none

theorem loops_room_Room_has : LoopOk Try.prog Try.f33.ntmps G_room_Room_has (codeOf Try.f33) := loopOk_none fun _ => rfl

theorem den_room_Room_has (m : Option Addr) (i : Int) (w : World) (R : Value → World → Prop) :
    F_room_Room_has m i w (fun r w1 => R (.int .i64 r) w1) = den Try.prog Try.f33.ntmps G_room_Room_has (codeOf Try.f33) [] (postD Try.prog Try.f33.results.toList R) (entry [.pointer m, .int .i64 i] 0) w := by kernel_rfl

theorem C_room_Room_has.of {m : Option Addr} {i : Int} {w : World} {R : Int → World → Prop} (h : F_room_Room_has m i w R) : C_room_Room_has m i w R := by
  refine (calls_of_den (c := codeOf Try.f33) seat_ok seat_mixed Try.func33 (by kernel_rfl) loops_room_Room_has (args := [.pointer m, .int .i64 i]) rfl (R := fun v w1 => ∃ (r : Int), v = (.int .i64 r : Value) ∧ R r w1) ?_).mono ?_
  · rw [← den_room_Room_has]
    have e : (fun r w1 => ∃ (r' : Int), (.int .i64 r : Value) = (.int .i64 r' : Value) ∧ R r' w1) = R := by
      funext r w1
      exact propext ⟨fun ⟨r', he, h⟩ => by simp at he; simp_all, fun h => ⟨_, rfl, h⟩⟩
    simpa only [e] using h
  · rintro en w1 ⟨v, he, r, rfl, h⟩
    exact ⟨_, he, h⟩

structure S_slices_DeleteFunc_L1 where
  i : Int
  j : Int

def F_slices_DeleteFunc_k1 (s : S_slices_DeleteFunc_L1) (Kn : S_slices_DeleteFunc_L1 → World → Prop) (i_2 : Int) (w1_3 : World) : Prop :=
  Kn ⟨i_2, (IntKind.i64.wrap ((s.j : Int) + (1 : Int)))⟩ w1_3

/-- One round. -/
def B_slices_DeleteFunc_L1 (sP_1 : Option Addr) (sN_1 : Nat) (sC_1 : Nat) (del_1 : Value) (s : S_slices_DeleteFunc_L1) (w : World) (Kn : S_slices_DeleteFunc_L1 → World → Prop) (Kx0 : Int → World → Prop) : Prop :=
  If (decide ((s.j : Int) < (sN_1 : Int)))
  (0 ≤ (s.j : Int) ∧ (s.j : Int) < (sN_1 : Int) ∧ NN sP_1 fun a =>
  ∃ t25 : Int, w.cell? (a.add ((s.j : Int).toNat * 1)) = some (.int .u64 t25) ∧
  CallV Try.prog del_1 [.int .u64 t25] w fun v w1_1 => ∃ t28 : Bool, v = (.bool t28) ∧
  If (!t28)
  (0 ≤ (s.i : Int) ∧ (s.i : Int) < (sN_1 : Int) ∧ NN sP_1 fun a_1 =>
  St w1_1 ((a_1.add ((s.i : Int).toNat * 1)).add 0) (.int .u64 t25) fun w1_2 =>
  F_slices_DeleteFunc_k1 s Kn (IntKind.i64.wrap ((s.i : Int) + (1 : Int))) w1_2)
  (F_slices_DeleteFunc_k1 s Kn (s.i : Int) w1_1))
  (Kx0 (s.i : Int) w)

def F_slices_DeleteFunc_L1 (sP_1 : Option Addr) (sN_1 : Nat) (sC_1 : Nat) (del_1 : Value) (s : S_slices_DeleteFunc_L1) (w : World) (Kx0 : Int → World → Prop) : Prop :=
  LoopS (fun s w Kn => B_slices_DeleteFunc_L1 sP_1 sN_1 sC_1 del_1 s w Kn Kx0) s w

def F_slices_DeleteFunc (sP : Option Addr) (sN : Nat) (sC : Nat) (del : Value) (w : World) (R : Option Addr → Nat → Nat → World → Prop) : Prop :=
  C_slices_IndexFunc sP sN sC del w fun t10 w1 =>
  If (t10 == (-1))
  (R sP sN sC w1)
  (F_slices_DeleteFunc_L1 sP sN sC del ⟨t10, (IntKind.i64.wrap (t10 + (1 : Int)))⟩ w1
  (fun i_3 w1_4 =>
  0 ≤ i_3 ∧ i_3 ≤ (sN : Int) ∧
  Clr Try.prog #[22] 0 #[.slice (adv sP sC i_3.toNat 1) (sN - i_3.toNat) (sC - i_3.toNat)] w1_4 fun v_1 w1_5 =>
  0 ≤ i_3 ∧ i_3 ≤ (sC : Int) ∧
  R sP i_3.toNat sC w1_5))

def lit_slices_DeleteFunc_L1 (f : (Option Addr) × Nat × Nat × Value) (s : S_slices_DeleteFunc_L1) : Env := [⟨0, .slice f.1 f.2.1 f.2.2.1, none⟩, ⟨1, f.2.2.2, none⟩, ⟨5, .int .i64 s.i, none⟩, ⟨6, .int .i64 s.j, none⟩]

def dec_slices_DeleteFunc_L1 (e : Env) (K : ((Option Addr) × Nat × Nat × Value) → S_slices_DeleteFunc_L1 → Prop) : Prop :=
  onV (getV e 0) fun u1 =>
  asS u1 fun sP_1 sN_1 sC_1 =>
  onV (getV e 1) fun u2 =>
  asV u2 fun del_1 =>
  onV (getV e 5) fun u3 =>
  asI .i64 u3 fun i =>
  onV (getV e 6) fun u4 =>
  asI .i64 u4 fun j =>
    K (sP_1, sN_1, sC_1, del_1) ⟨i, j⟩

theorem dec_slices_DeleteFunc_L1_ok {N : Nat} (e : Env) (a : Act) (K : ((Option Addr) × Nat × Nat × Value) → S_slices_DeleteFunc_L1 → Prop) (hr : Rep N a e) (h0 : dec_slices_DeleteFunc_L1 e K) : ∃ f s, K f s ∧ Rep N a (lit_slices_DeleteFunc_L1 f s) := by
  unfold dec_slices_DeleteFunc_L1 at h0
  obtain ⟨u1, g0, h1⟩ := onV_elim h0
  obtain ⟨sP_1, sN_1, sC_1, rfl, h2⟩ := asS_elim h1
  obtain ⟨u2, g1, h3⟩ := onV_elim h2
  obtain ⟨del_1, rfl, h4⟩ := asV_elim h3
  obtain ⟨u3, g5, h5⟩ := onV_elim h4
  obtain ⟨i, rfl, h6⟩ := asI_elim h5
  obtain ⟨u4, g6, h7⟩ := onV_elim h6
  obtain ⟨j, rfl, h8⟩ := asI_elim h7
  exact ⟨_, _, h8, rep_less hr (by simp [lit_slices_DeleteFunc_L1, g0, g1, g5, g6])⟩

def spec_slices_DeleteFunc_L1 (Q : Post) (e : Env) (w : World) : Prop :=
  dec_slices_DeleteFunc_L1 e fun f s => F_slices_DeleteFunc_L1 f.1 f.2.1 f.2.2.1 f.2.2.2 s w (fun i_1 w1 => Q (.exit 0) [⟨0, .slice f.1 f.2.1 f.2.2.1, none⟩, ⟨5, .int .i64 i_1, none⟩] w1)

def G_slices_DeleteFunc : Gen where
  loop := lookL [([false, true, false, true, true, true], spec_slices_DeleteFunc_L1)]
  plan := fun _ => none

def dx_slices_DeleteFunc_L1_0 (e : Env) (K : ((Option Addr) × Nat × Nat × Value) → Int → Prop) : Prop :=
  onV (getV e 0) fun u1 =>
  asS u1 fun sP_1 sN_1 sC_1 =>
  onV (getV e 1) fun u2 =>
  asV u2 fun del_1 =>
  onV (getV e 5) fun u3 =>
  asI .i64 u3 fun i_1 =>
    K (sP_1, sN_1, sC_1, del_1) i_1

theorem body_slices_DeleteFunc_L1 (f : (Option Addr) × Nat × Nat × Value) (s : S_slices_DeleteFunc_L1) (w : World) (Kn : ((Option Addr) × Nat × Nat × Value) → S_slices_DeleteFunc_L1 → World → Prop) (Kx0 : ((Option Addr) × Nat × Nat × Value) → Int → World → Prop) :
    B_slices_DeleteFunc_L1 f.1 f.2.1 f.2.2.1 f.2.2.2 s w (fun s1 w1 => Kn f s1 w1) (fun i_1 w1 => Kx0 f i_1 w1) =
    den Try.prog Try.f34.ntmps G_slices_DeleteFunc (sub (codeOf Try.f34) [false, false, true, false, true, true, true]) [false, false, true, false, true, true, true] (roundQ (fun e w => dec_slices_DeleteFunc_L1 e fun f s => Kn f s w) (fun e w => False) (fun id e w => match Nat.beq id 0 with | true => dx_slices_DeleteFunc_L1_0 e fun f i_1 => Kx0 f i_1 w | false => False)) (lit_slices_DeleteFunc_L1 f s) w := by kernel_rfl

theorem ok_slices_DeleteFunc_L1 : OneOk Try.prog Try.f34.ntmps G_slices_DeleteFunc (codeOf Try.f34) [false, true, false, true, true, true] spec_slices_DeleteFunc_L1 := by
  intro c hc ih Q e w a hr h
  have hcc : sub (codeOf Try.f34) [false, false, true, false, true, true, true] = c := sub_of_codeAt hc
  obtain ⟨f, s, h, hrep⟩ := dec_slices_DeleteFunc_L1_ok e a _ hr h
  obtain ⟨J, μ, hj, hround⟩ := h
  refine loop_rule_deep seat_ok seat_mixed ih lit_slices_DeleteFunc_L1 dec_slices_DeleteFunc_L1 dec_slices_DeleteFunc_L1_ok hc f J μ (Kr := fun e w => False) (Kx := fun id e w => match Nat.beq id 0 with | true => (dx_slices_DeleteFunc_L1_0 e fun f1 i_1 => f1 = f ∧ Q (.exit 0) [⟨0, .slice f.1 f.2.1 f.2.2.1, none⟩, ⟨5, .int .i64 i_1, none⟩] w) | false => False) ?_ ?_ ?_ s w a hj hrep
  · intro e a w hr h
    exact h.elim
  · intro id e a w hr h0
    (try dsimp only at h0)
    split at h0
    · rename_i hid
      obtain rfl := Nat.eq_of_beq_eq_true hid
      unfold dx_slices_DeleteFunc_L1_0 at h0
      obtain ⟨u1, g0, h1⟩ := onV_elim h0
      obtain ⟨sP_1, sN_1, sC_1, rfl, h2⟩ := asS_elim h1
      obtain ⟨u2, g1, h3⟩ := onV_elim h2
      obtain ⟨del_1, rfl, h4⟩ := asV_elim h3
      obtain ⟨u3, g5, h5⟩ := onV_elim h4
      obtain ⟨i_1, rfl, h6⟩ := asI_elim h5
      obtain ⟨hf, hq⟩ := h6
      subst hf
      exact ⟨_, rep_less hr (by simp [g0, g5]), hq⟩
    · exact h0.elim
  · intro s w hj
    have hb := hround s w hj
    rw [← hcc]
    have e1 := body_slices_DeleteFunc_L1 f s w (fun f1 s1 w1 => f1 = f ∧ J s1 w1 ∧ μ s1 w1 < μ s w) (fun f1 i_1 w1 => f1 = f ∧ Q (.exit 0) [⟨0, .slice f.1 f.2.1 f.2.2.1, none⟩, ⟨5, .int .i64 i_1, none⟩] w1)
    simp only [true_and] at e1
    exact cast e1 hb

theorem loops_slices_DeleteFunc : LoopOk Try.prog Try.f34.ntmps G_slices_DeleteFunc (codeOf Try.f34) := loopOk_list rfl ⟨ok_slices_DeleteFunc_L1, trivial⟩

theorem den_slices_DeleteFunc (sP : Option Addr) (sN : Nat) (sC : Nat) (del : Value) (w : World) (R : Value → World → Prop) :
    F_slices_DeleteFunc sP sN sC del w (fun rP rN rC w1 => R (.slice rP rN rC) w1) = den Try.prog Try.f34.ntmps G_slices_DeleteFunc (codeOf Try.f34) [] (postD Try.prog Try.f34.results.toList R) (entry [.slice sP sN sC, del] 0) w := by kernel_rfl

theorem C_slices_DeleteFunc.of {sP : Option Addr} {sN : Nat} {sC : Nat} {del : Value} {w : World} {R : Option Addr → Nat → Nat → World → Prop} (h : F_slices_DeleteFunc sP sN sC del w R) : C_slices_DeleteFunc sP sN sC del w R := by
  refine (calls_of_den (c := codeOf Try.f34) seat_ok seat_mixed Try.func34 (by kernel_rfl) loops_slices_DeleteFunc (args := [.slice sP sN sC, del]) rfl (R := fun v w1 => ∃ (rP : Option Addr) (rN : Nat) (rC : Nat), v = (.slice rP rN rC : Value) ∧ R rP rN rC w1) ?_).mono ?_
  · rw [← den_slices_DeleteFunc]
    have e : (fun rP rN rC w1 => ∃ (rP' : Option Addr) (rN' : Nat) (rC' : Nat), (.slice rP rN rC : Value) = (.slice rP' rN' rC' : Value) ∧ R rP' rN' rC' w1) = R := by
      funext rP rN rC w1
      exact propext ⟨fun ⟨rP', rN', rC', he, h⟩ => by simp at he; simp_all, fun h => ⟨_, _, _, rfl, h⟩⟩
    simpa only [e] using h
  · rintro en w1 ⟨v, he, rP, rN, rC, rfl, h⟩
    exact ⟨_, _, _, he, h⟩

def F_room_Room_Keep_1 (wx : Int) (c0 : Addr) (c1 : Addr) (w : World) (R : Bool → World → Prop) : Prop :=
  ∃ t5 : Int, w.cell? c0 = some (.int .i64 t5) ∧
  St w (c0.add 0) (.int .i64 (IntKind.i64.wrap (t5 + (1 : Int)))) fun w1 =>
  ∃ t7 : Value, w1.cell? c1 = some (t7) ∧
  ∃ t8 : Int, w1.cell? c0 = some (.int .i64 t8) ∧
  CallV Try.prog t7 [.int .i64 t8, .int .u64 wx] w1 fun v w1_1 => ∃ t10 : Bool, v = (.bool t10) ∧
  R (!t10) w1_1

def G_room_Room_Keep_1 : Gen where
  loop := lookL []
  plan := fun _ => none

theorem loops_room_Room_Keep_1 : LoopOk Try.prog Try.f35.ntmps G_room_Room_Keep_1 (codeOf Try.f35) := loopOk_none fun _ => rfl

theorem den_room_Room_Keep_1 (wx : Int) (c0 : Addr) (c1 : Addr) (w : World) (R : Value → World → Prop) :
    F_room_Room_Keep_1 wx c0 c1 w (fun r w1 => R (.bool r) w1) = den Try.prog Try.f35.ntmps G_room_Room_Keep_1 (codeOf Try.f35) [] (postD Try.prog Try.f35.results.toList R) (entry [.int .u64 wx, .pointer (some c0), .pointer (some c1)] 0) w := by kernel_rfl

theorem C_room_Room_Keep_1.of {wx : Int} {c0 : Addr} {c1 : Addr} {w : World} {R : Bool → World → Prop} (h : F_room_Room_Keep_1 wx c0 c1 w R) : C_room_Room_Keep_1 wx c0 c1 w R := by
  refine (calls_of_den (c := codeOf Try.f35) seat_ok seat_mixed Try.func35 (by kernel_rfl) loops_room_Room_Keep_1 (args := [.int .u64 wx, .pointer (some c0), .pointer (some c1)]) rfl (R := fun v w1 => ∃ (r : Bool), v = (.bool r : Value) ∧ R r w1) ?_).mono ?_
  · rw [← den_room_Room_Keep_1]
    have e : (fun r w1 => ∃ (r' : Bool), (.bool r : Value) = (.bool r' : Value) ∧ R r' w1) = R := by
      funext r w1
      exact propext ⟨fun ⟨r', he, h⟩ => by simp at he; simp_all, fun h => ⟨_, rfl, h⟩⟩
    simpa only [e] using h
  · rintro en w1 ⟨v, he, r, rfl, h⟩
    exact ⟨_, he, h⟩

def F_ref02_Room_note (m : Option Addr) (w : World) (R : World → Prop) : Prop :=
  NN m fun a =>
  ∃ LP : Option Addr, ∃ LN : Nat, ∃ LC : Nat, (drw w).cell? (a.add 0) = some (.slice LP LN LC) ∧
  NN m fun a_1 =>
  ∃ Most : Int, (drw w).cell? (a_1.add 2) = some (.int .i64 Most) ∧
  If (decide ((LN : Int) > Most))
  (NN m fun a_2 =>
  ∃ LP_1 : Option Addr, ∃ LN_1 : Nat, ∃ LC_1 : Nat, (drw w).cell? (a_2.add 0) = some (.slice LP_1 LN_1 LC_1) ∧
  NN m fun a_3 =>
  St (drw w) ((a_3.add 2).add 0) (.int .i64 (LN_1 : Int)) fun w1 =>
  R w1)
  (R (drw w))

def G_ref02_Room_note : Gen where
  loop := lookL []
  plan := fun id =>
    bif Nat.beq id 0 then some ([0, 1, 3, 7, 15, 0, 32, 96, 224, 511], .take 0 (.take 1 (.take 2 (.take 3 (.take 4 (.take 5 (.take 6 (.take 7 (.take 8 (.take 9 .done)))))))))) else none

theorem loops_ref02_Room_note : LoopOk Try.prog Try.f36.ntmps G_ref02_Room_note (codeOf Try.f36) := loopOk_none fun _ => rfl

theorem den_ref02_Room_note (m : Option Addr) (w : World) (R : Value → World → Prop) :
    F_ref02_Room_note m w (fun w1 => R (.tuple #[]) w1) = den Try.prog Try.f36.ntmps G_ref02_Room_note (codeOf Try.f36) [] (postD Try.prog Try.f36.results.toList R) (entry [.pointer m] 0) w := by kernel_rfl

theorem C_ref02_Room_note.of {m : Option Addr} {w : World} {R : World → Prop} (h : F_ref02_Room_note m w R) : C_ref02_Room_note m w R := by
  refine (calls_of_den (c := codeOf Try.f36) seat_ok seat_mixed Try.func36 (by kernel_rfl) loops_ref02_Room_note (args := [.pointer m]) rfl (R := fun v w1 => v = (.tuple #[] : Value) ∧ R w1) ?_).mono ?_
  · rw [← den_ref02_Room_note]
    simpa using h
  · rintro en w1 ⟨v, he, rfl, h⟩
    exact ⟨he, h⟩

def F_law02_keeper_keep_k1 (k : Option Addr) (wx : Int) (R : Bool → World → Prop) (w1_2 : World) : Prop :=
  NN k fun a_4 =>
  ∃ next_1 : Int, w1_2.cell? (a_4.add 2) = some (.int .i64 next_1) ∧
  NN k fun a_5 =>
  St w1_2 ((a_5.add 2).add 0) (.int .i64 (IntKind.i64.wrap (next_1 + (1 : Int)))) fun w1_3 =>
  NN k fun a_6 =>
  ∃ askedP : Option Addr, ∃ askedN : Nat, ∃ askedC : Nat, w1_3.cell? (a_6.add 1) = some (.slice askedP askedN askedC) ∧
  BSl Try.prog 22 1 [(0, .int .u64 wx)] w1_3 fun t35P t35N t35C w1_4 =>
  App Try.prog #[22, 22] 22 #[.slice askedP askedN askedC, .slice t35P t35N t35C] w1_4 fun t36P t36N t36C w1_5 =>
  NN k fun a_7 =>
  St w1_5 ((a_7.add 1).add 0) (.slice t36P t36N t36C) fun w1_6 =>
  NN k fun a_8 =>
  ∃ n : Int, w1_6.cell? (a_8.add 0) = some (.int .u64 n) ∧
  n ≠ 0 ∧
  R ((wx.tmod n) != (0 : Int)) w1_6

def F_law02_keeper_keep (k : Option Addr) (i : Int) (wx : Int) (w : World) (R : Bool → World → Prop) : Prop :=
  NN k fun a =>
  ∃ ok : Bool, w.cell? (a.add 3) = some (.bool ok) ∧
  If ok
  (NN k fun a_1 =>
  ∃ next : Int, w.cell? (a_1.add 2) = some (.int .i64 next) ∧
  NN k fun a_2 =>
  St w ((a_2.add 3).add 0) (.bool (i == next)) fun w1 =>
  F_law02_keeper_keep_k1 k wx R w1)
  (NN k fun a_3 =>
  St w ((a_3.add 3).add 0) (.bool false) fun w1_1 =>
  F_law02_keeper_keep_k1 k wx R w1_1)

def G_law02_keeper_keep : Gen where
  loop := lookL []
  plan := fun _ => none

theorem loops_law02_keeper_keep : LoopOk Try.prog Try.f37.ntmps G_law02_keeper_keep (codeOf Try.f37) := loopOk_none fun _ => rfl

theorem den_law02_keeper_keep (k : Option Addr) (i : Int) (wx : Int) (w : World) (R : Value → World → Prop) :
    F_law02_keeper_keep k i wx w (fun r w1 => R (.bool r) w1) = den Try.prog Try.f37.ntmps G_law02_keeper_keep (codeOf Try.f37) [] (postD Try.prog Try.f37.results.toList R) (entry [.pointer k, .int .i64 i, .int .u64 wx] 0) w := by kernel_rfl

theorem C_law02_keeper_keep.of {k : Option Addr} {i : Int} {wx : Int} {w : World} {R : Bool → World → Prop} (h : F_law02_keeper_keep k i wx w R) : C_law02_keeper_keep k i wx w R := by
  refine (calls_of_den (c := codeOf Try.f37) seat_ok seat_mixed Try.func37 (by kernel_rfl) loops_law02_keeper_keep (args := [.pointer k, .int .i64 i, .int .u64 wx]) rfl (R := fun v w1 => ∃ (r : Bool), v = (.bool r : Value) ∧ R r w1) ?_).mono ?_
  · rw [← den_law02_keeper_keep]
    have e : (fun r w1 => ∃ (r' : Bool), (.bool r : Value) = (.bool r' : Value) ∧ R r' w1) = R := by
      funext r w1
      exact propext ⟨fun ⟨r', he, h⟩ => by simp at he; simp_all, fun h => ⟨_, rfl, h⟩⟩
    simpa only [e] using h
  · rintro en w1 ⟨v, he, r, rfl, h⟩
    exact ⟨_, he, h⟩

structure S_slices_IndexFunc_L1 where
  t8 : Int

/-- One round. -/
def B_slices_IndexFunc_L1 (sP_1 : Option Addr) (sN_1 : Nat) (sC_1 : Nat) (f_1 : Value) (t7 : Int) (s : S_slices_IndexFunc_L1) (w : World) (Kn : S_slices_IndexFunc_L1 → World → Prop) (Kx0 : World → Prop) (Kr : Int → World → Prop) : Prop :=
  If (decide ((s.t8 : Int) < t7))
  (0 ≤ (s.t8 : Int) ∧ (s.t8 : Int) < (sN_1 : Int) ∧ NN sP_1 fun a =>
  ∃ t15 : Int, w.cell? (a.add ((s.t8 : Int).toNat * 1)) = some (.int .u64 t15) ∧
  CallV Try.prog f_1 [.int .u64 t15] w fun v w1 => ∃ t16 : Bool, v = (.bool t16) ∧
  If t16
  (Kr (s.t8 : Int) w1)
  (Kn ⟨(IntKind.i64.wrap ((s.t8 : Int) + (1 : Int)))⟩ w1))
  (Kx0 w)

def F_slices_IndexFunc_L1 (sP_1 : Option Addr) (sN_1 : Nat) (sC_1 : Nat) (f_1 : Value) (t7 : Int) (s : S_slices_IndexFunc_L1) (w : World) (Kx0 : World → Prop) (Kr : Int → World → Prop) : Prop :=
  LoopS (fun s w Kn => B_slices_IndexFunc_L1 sP_1 sN_1 sC_1 f_1 t7 s w Kn Kx0 Kr) s w

def F_slices_IndexFunc (sP : Option Addr) (sN : Nat) (sC : Nat) (f : Value) (w : World) (R : Int → World → Prop) : Prop :=
  F_slices_IndexFunc_L1 sP sN sC f (sN : Int) ⟨(0 : Int)⟩ w
  (fun w1_1 =>
  R (-1) w1_1)
  (fun t4_1 w1_2 =>
  R t4_1 w1_2)

def lit_slices_IndexFunc_L1 (f : (Option Addr) × Nat × Nat × Value × Int) (s : S_slices_IndexFunc_L1) : Env := [⟨0, .slice f.1 f.2.1 f.2.2.1, none⟩, ⟨1, f.2.2.2.1, none⟩, ⟨7, .int .i64 f.2.2.2.2, none⟩, ⟨8, .int .i64 s.t8, none⟩]

def dec_slices_IndexFunc_L1 (e : Env) (K : ((Option Addr) × Nat × Nat × Value × Int) → S_slices_IndexFunc_L1 → Prop) : Prop :=
  onV (getV e 0) fun u1 =>
  asS u1 fun sP_1 sN_1 sC_1 =>
  onV (getV e 1) fun u2 =>
  asV u2 fun f_1 =>
  onV (getV e 7) fun u3 =>
  asI .i64 u3 fun t7 =>
  onV (getV e 8) fun u4 =>
  asI .i64 u4 fun t8 =>
    K (sP_1, sN_1, sC_1, f_1, t7) ⟨t8⟩

theorem dec_slices_IndexFunc_L1_ok {N : Nat} (e : Env) (a : Act) (K : ((Option Addr) × Nat × Nat × Value × Int) → S_slices_IndexFunc_L1 → Prop) (hr : Rep N a e) (h0 : dec_slices_IndexFunc_L1 e K) : ∃ f s, K f s ∧ Rep N a (lit_slices_IndexFunc_L1 f s) := by
  unfold dec_slices_IndexFunc_L1 at h0
  obtain ⟨u1, g0, h1⟩ := onV_elim h0
  obtain ⟨sP_1, sN_1, sC_1, rfl, h2⟩ := asS_elim h1
  obtain ⟨u2, g1, h3⟩ := onV_elim h2
  obtain ⟨f_1, rfl, h4⟩ := asV_elim h3
  obtain ⟨u3, g7, h5⟩ := onV_elim h4
  obtain ⟨t7, rfl, h6⟩ := asI_elim h5
  obtain ⟨u4, g8, h7⟩ := onV_elim h6
  obtain ⟨t8, rfl, h8⟩ := asI_elim h7
  exact ⟨_, _, h8, rep_less hr (by simp [lit_slices_IndexFunc_L1, g0, g1, g7, g8])⟩

def spec_slices_IndexFunc_L1 (Q : Post) (e : Env) (w : World) : Prop :=
  dec_slices_IndexFunc_L1 e fun f s => F_slices_IndexFunc_L1 f.1 f.2.1 f.2.2.1 f.2.2.2.1 f.2.2.2.2 s w (fun w1 => Q (.exit 0) [] w1) (fun t4 w1 => Q .ret [⟨4, .int .i64 t4, none⟩] w1)

def G_slices_IndexFunc : Gen where
  loop := lookL [([false, true, false, true], spec_slices_IndexFunc_L1)]
  plan := fun _ => none

def dx_slices_IndexFunc_L1_0 (e : Env) (K : ((Option Addr) × Nat × Nat × Value × Int) → Prop) : Prop :=
  onV (getV e 0) fun u1 =>
  asS u1 fun sP_1 sN_1 sC_1 =>
  onV (getV e 1) fun u2 =>
  asV u2 fun f_1 =>
  onV (getV e 7) fun u3 =>
  asI .i64 u3 fun t7 =>
    K (sP_1, sN_1, sC_1, f_1, t7)

def dx_slices_IndexFunc_L1_ret (e : Env) (K : ((Option Addr) × Nat × Nat × Value × Int) → Int → Prop) : Prop :=
  onV (getV e 0) fun u1 =>
  asS u1 fun sP_1 sN_1 sC_1 =>
  onV (getV e 1) fun u2 =>
  asV u2 fun f_1 =>
  onV (getV e 7) fun u3 =>
  asI .i64 u3 fun t7 =>
  onV (getV e 4) fun u4 =>
  asI .i64 u4 fun t4 =>
    K (sP_1, sN_1, sC_1, f_1, t7) t4

theorem body_slices_IndexFunc_L1 (f : (Option Addr) × Nat × Nat × Value × Int) (s : S_slices_IndexFunc_L1) (w : World) (Kn : ((Option Addr) × Nat × Nat × Value × Int) → S_slices_IndexFunc_L1 → World → Prop) (Kx0 : ((Option Addr) × Nat × Nat × Value × Int) → World → Prop) (Kr : ((Option Addr) × Nat × Nat × Value × Int) → Int → World → Prop) :
    B_slices_IndexFunc_L1 f.1 f.2.1 f.2.2.1 f.2.2.2.1 f.2.2.2.2 s w (fun s1 w1 => Kn f s1 w1) (fun w1 => Kx0 f w1) (fun t4 w1 => Kr f t4 w1) =
    den Try.prog Try.f38.ntmps G_slices_IndexFunc (sub (codeOf Try.f38) [false, false, true, false, true]) [false, false, true, false, true] (roundQ (fun e w => dec_slices_IndexFunc_L1 e fun f s => Kn f s w) (fun e w => dx_slices_IndexFunc_L1_ret e fun f t4 => Kr f t4 w) (fun id e w => match Nat.beq id 0 with | true => dx_slices_IndexFunc_L1_0 e fun f => Kx0 f w | false => False)) (lit_slices_IndexFunc_L1 f s) w := by kernel_rfl

theorem ok_slices_IndexFunc_L1 : OneOk Try.prog Try.f38.ntmps G_slices_IndexFunc (codeOf Try.f38) [false, true, false, true] spec_slices_IndexFunc_L1 := by
  intro c hc ih Q e w a hr h
  have hcc : sub (codeOf Try.f38) [false, false, true, false, true] = c := sub_of_codeAt hc
  obtain ⟨f, s, h, hrep⟩ := dec_slices_IndexFunc_L1_ok e a _ hr h
  obtain ⟨J, μ, hj, hround⟩ := h
  refine loop_rule_deep seat_ok seat_mixed ih lit_slices_IndexFunc_L1 dec_slices_IndexFunc_L1 dec_slices_IndexFunc_L1_ok hc f J μ (Kr := fun e w => dx_slices_IndexFunc_L1_ret e fun f1 t4 => f1 = f ∧ Q .ret [⟨4, .int .i64 t4, none⟩] w) (Kx := fun id e w => match Nat.beq id 0 with | true => (dx_slices_IndexFunc_L1_0 e fun f1 => f1 = f ∧ Q (.exit 0) [] w) | false => False) ?_ ?_ ?_ s w a hj hrep
  · intro e a w hr h0
    unfold dx_slices_IndexFunc_L1_ret at h0
    obtain ⟨u1, g0, h1⟩ := onV_elim h0
    obtain ⟨sP_1, sN_1, sC_1, rfl, h2⟩ := asS_elim h1
    obtain ⟨u2, g1, h3⟩ := onV_elim h2
    obtain ⟨f_1, rfl, h4⟩ := asV_elim h3
    obtain ⟨u3, g7, h5⟩ := onV_elim h4
    obtain ⟨t7, rfl, h6⟩ := asI_elim h5
    obtain ⟨u4, g4, h7⟩ := onV_elim h6
    obtain ⟨t4, rfl, h8⟩ := asI_elim h7
    obtain ⟨hf, hq⟩ := h8
    subst hf
    exact ⟨_, rep_less hr (by simp [g4]), hq⟩
  · intro id e a w hr h0
    (try dsimp only at h0)
    split at h0
    · rename_i hid
      obtain rfl := Nat.eq_of_beq_eq_true hid
      unfold dx_slices_IndexFunc_L1_0 at h0
      obtain ⟨u1, g0, h1⟩ := onV_elim h0
      obtain ⟨sP_1, sN_1, sC_1, rfl, h2⟩ := asS_elim h1
      obtain ⟨u2, g1, h3⟩ := onV_elim h2
      obtain ⟨f_1, rfl, h4⟩ := asV_elim h3
      obtain ⟨u3, g7, h5⟩ := onV_elim h4
      obtain ⟨t7, rfl, h6⟩ := asI_elim h5
      obtain ⟨hf, hq⟩ := h6
      subst hf
      exact ⟨_, rep_less hr (by simp), hq⟩
    · exact h0.elim
  · intro s w hj
    have hb := hround s w hj
    rw [← hcc]
    have e1 := body_slices_IndexFunc_L1 f s w (fun f1 s1 w1 => f1 = f ∧ J s1 w1 ∧ μ s1 w1 < μ s w) (fun f1 w1 => f1 = f ∧ Q (.exit 0) [] w1) (fun f1 t4 w1 => f1 = f ∧ Q .ret [⟨4, .int .i64 t4, none⟩] w1)
    simp only [true_and] at e1
    exact cast e1 hb

theorem loops_slices_IndexFunc : LoopOk Try.prog Try.f38.ntmps G_slices_IndexFunc (codeOf Try.f38) := loopOk_list rfl ⟨ok_slices_IndexFunc_L1, trivial⟩

theorem den_slices_IndexFunc (sP : Option Addr) (sN : Nat) (sC : Nat) (f : Value) (w : World) (R : Value → World → Prop) :
    F_slices_IndexFunc sP sN sC f w (fun r w1 => R (.int .i64 r) w1) = den Try.prog Try.f38.ntmps G_slices_IndexFunc (codeOf Try.f38) [] (postD Try.prog Try.f38.results.toList R) (entry [.slice sP sN sC, f] 0) w := by kernel_rfl

theorem C_slices_IndexFunc.of {sP : Option Addr} {sN : Nat} {sC : Nat} {f : Value} {w : World} {R : Int → World → Prop} (h : F_slices_IndexFunc sP sN sC f w R) : C_slices_IndexFunc sP sN sC f w R := by
  refine (calls_of_den (c := codeOf Try.f38) seat_ok seat_mixed Try.func38 (by kernel_rfl) loops_slices_IndexFunc (args := [.slice sP sN sC, f]) rfl (R := fun v w1 => ∃ (r : Int), v = (.int .i64 r : Value) ∧ R r w1) ?_).mono ?_
  · rw [← den_slices_IndexFunc]
    have e : (fun r w1 => ∃ (r' : Int), (.int .i64 r : Value) = (.int .i64 r' : Value) ∧ R r' w1) = R := by
      funext r w1
      exact propext ⟨fun ⟨r', he, h⟩ => by simp at he; simp_all, fun h => ⟨_, rfl, h⟩⟩
    simpa only [e] using h
  · rintro en w1 ⟨v, he, r, rfl, h⟩
    exact ⟨_, he, h⟩

end Go.Proofs.Ytdkkkomcolklbaa
