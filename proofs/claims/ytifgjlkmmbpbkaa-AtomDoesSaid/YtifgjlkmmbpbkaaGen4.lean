/- The formulas of this seat's functions, held against the loaded program by the kernel. Printed by a program. -/
import Derived.Test.YtifgjlkmmbpbkaaGenC
set_option maxRecDepth 100000
set_option linter.unusedVariables false
namespace Go.Proofs.Ytifgjlkmmbpbkaa
open Go Go.D Go.Proofs

structure S_atom_Table_begin_L1 where
  t10 : Int

/-- One round. -/
def B_atom_Table_begin_L1 (t_1 : Option Addr) (t8P_1 : Option Addr) (t8N_1 : Nat) (t8C_1 : Nat) (t9 : Int) (s : S_atom_Table_begin_L1) (w : World) (Kn : S_atom_Table_begin_L1 → World → Prop) (Kx0 : World → Prop) : Prop :=
  If (decide ((s.t10 : Int) < t9))
  (0 ≤ (s.t10 : Int) ∧ (s.t10 : Int) < (t8N_1 : Int) ∧ NN t8P_1 fun a_1 =>
  ∃ t14 : ByteArray, w.cell? (a_1.add ((s.t10 : Int).toNat * 1)) = some (.string t14) ∧
  NN t_1 fun a_2 =>
  ∃ lP : Option Addr, ∃ lN : Nat, ∃ lC : Nat, w.cell? (a_2.add 5) = some (.slice lP lN lC) ∧
  BSl Try.prog 70 1 [(0, .agg #[.string t14, .bool true, .bool false])] w fun t22P t22N t22C w1_3 =>
  App Try.prog #[70, 70] 70 #[.slice lP lN lC, .slice t22P t22N t22C] w1_3 fun t23P t23N t23C w1_4 =>
  NN t_1 fun a_3 =>
  St w1_4 ((a_3.add 5).add 0) (.slice t23P t23N t23C) fun w1_5 =>
  NN t_1 fun a_4 =>
  ∃ ids : Option Nat, w1_5.cell? (a_4.add 6) = some (.map ids) ∧
  MUp Try.prog 71 (.map ids) (.string t14) (.int .i64 s.t10) w1_5 fun w1_6 =>
  Kn ⟨(IntKind.i64.wrap ((s.t10 : Int) + (1 : Int)))⟩ w1_6)
  (Kx0 w)

def F_atom_Table_begin_L1 (t_1 : Option Addr) (t8P_1 : Option Addr) (t8N_1 : Nat) (t8C_1 : Nat) (t9 : Int) (s : S_atom_Table_begin_L1) (w : World) (Kx0 : World → Prop) : Prop :=
  LoopS (fun s w Kn => B_atom_Table_begin_L1 t_1 t8P_1 t8N_1 t8C_1 t9 s w Kn Kx0) s w

def F_atom_Table_begin (t : Option Addr) (w : World) (R : World → Prop) : Prop :=
  New w (.map #[] 0) fun r w1 =>
  NN t fun a =>
  St w1 ((a.add 6).add 0) (.map (some r)) fun w1_1 =>
  C_atom_Reserved  w1_1 fun t8P t8N t8C w1_2 =>
  F_atom_Table_begin_L1 t t8P t8N t8C (t8N : Int) ⟨(0 : Int)⟩ w1_2
  (fun w1_7 =>
  R w1_7)

def lit_atom_Table_begin_L1 (f : (Option Addr) × (Option Addr) × Nat × Nat × Int) (s : S_atom_Table_begin_L1) : Env := [⟨0, .pointer f.1, none⟩, ⟨8, .slice f.2.1 f.2.2.1 f.2.2.2.1, none⟩, ⟨9, .int .i64 f.2.2.2.2, none⟩, ⟨10, .int .i64 s.t10, none⟩]

def dec_atom_Table_begin_L1 (e : Env) (K : ((Option Addr) × (Option Addr) × Nat × Nat × Int) → S_atom_Table_begin_L1 → Prop) : Prop :=
  onV (getV e 0) fun u1 =>
  asP u1 fun t_1 =>
  onV (getV e 8) fun u2 =>
  asS u2 fun t8P_1 t8N_1 t8C_1 =>
  onV (getV e 9) fun u3 =>
  asI .i64 u3 fun t9 =>
  onV (getV e 10) fun u4 =>
  asI .i64 u4 fun t10 =>
    K (t_1, t8P_1, t8N_1, t8C_1, t9) ⟨t10⟩

theorem dec_atom_Table_begin_L1_ok {N : Nat} (e : Env) (a : Act) (K : ((Option Addr) × (Option Addr) × Nat × Nat × Int) → S_atom_Table_begin_L1 → Prop) (hr : Rep N a e) (h0 : dec_atom_Table_begin_L1 e K) : ∃ f s, K f s ∧ Rep N a (lit_atom_Table_begin_L1 f s) := by
  unfold dec_atom_Table_begin_L1 at h0
  obtain ⟨u1, g0, h1⟩ := onV_elim h0
  obtain ⟨t_1, rfl, h2⟩ := asP_elim h1
  obtain ⟨u2, g8, h3⟩ := onV_elim h2
  obtain ⟨t8P_1, t8N_1, t8C_1, rfl, h4⟩ := asS_elim h3
  obtain ⟨u3, g9, h5⟩ := onV_elim h4
  obtain ⟨t9, rfl, h6⟩ := asI_elim h5
  obtain ⟨u4, g10, h7⟩ := onV_elim h6
  obtain ⟨t10, rfl, h8⟩ := asI_elim h7
  exact ⟨_, _, h8, rep_less hr (by simp [lit_atom_Table_begin_L1, g0, g8, g9, g10])⟩

def spec_atom_Table_begin_L1 (Q : Post) (e : Env) (w : World) : Prop :=
  dec_atom_Table_begin_L1 e fun f s => F_atom_Table_begin_L1 f.1 f.2.1 f.2.2.1 f.2.2.2.1 f.2.2.2.2 s w (fun w1 => Q (.exit 0) [] w1)

def G_atom_Table_begin : Gen where
  loop := lookL [([false, true, true], spec_atom_Table_begin_L1)]
  plan := fun _ => none

def dx_atom_Table_begin_L1_0 (e : Env) (K : ((Option Addr) × (Option Addr) × Nat × Nat × Int) → Prop) : Prop :=
  onV (getV e 0) fun u1 =>
  asP u1 fun t_1 =>
  onV (getV e 8) fun u2 =>
  asS u2 fun t8P_1 t8N_1 t8C_1 =>
  onV (getV e 9) fun u3 =>
  asI .i64 u3 fun t9 =>
    K (t_1, t8P_1, t8N_1, t8C_1, t9)

theorem body_atom_Table_begin_L1 (f : (Option Addr) × (Option Addr) × Nat × Nat × Int) (s : S_atom_Table_begin_L1) (w : World) (Kn : ((Option Addr) × (Option Addr) × Nat × Nat × Int) → S_atom_Table_begin_L1 → World → Prop) (Kx0 : ((Option Addr) × (Option Addr) × Nat × Nat × Int) → World → Prop) :
    B_atom_Table_begin_L1 f.1 f.2.1 f.2.2.1 f.2.2.2.1 f.2.2.2.2 s w (fun s1 w1 => Kn f s1 w1) (fun w1 => Kx0 f w1) =
    den Try.prog Try.f35.ntmps G_atom_Table_begin (sub (codeOf Try.f35) [false, false, true, true]) [false, false, true, true] (roundQ (fun e w => dec_atom_Table_begin_L1 e fun f s => Kn f s w) (fun e w => False) (fun id e w => match Nat.beq id 0 with | true => dx_atom_Table_begin_L1_0 e fun f => Kx0 f w | false => False)) (lit_atom_Table_begin_L1 f s) w := by kernel_rfl

theorem ok_atom_Table_begin_L1 : OneOk Try.prog Try.f35.ntmps G_atom_Table_begin (codeOf Try.f35) [false, true, true] spec_atom_Table_begin_L1 := by
  intro c hc ih Q e w a hr h
  have hcc : sub (codeOf Try.f35) [false, false, true, true] = c := sub_of_codeAt hc
  obtain ⟨f, s, h, hrep⟩ := dec_atom_Table_begin_L1_ok e a _ hr h
  obtain ⟨J, μ, hj, hround⟩ := h
  refine loop_rule_deep seat_ok seat_mixed ih lit_atom_Table_begin_L1 dec_atom_Table_begin_L1 dec_atom_Table_begin_L1_ok hc f J μ (Kr := fun e w => False) (Kx := fun id e w => match Nat.beq id 0 with | true => (dx_atom_Table_begin_L1_0 e fun f1 => f1 = f ∧ Q (.exit 0) [] w) | false => False) ?_ ?_ ?_ s w a hj hrep
  · intro e a w hr h
    exact h.elim
  · intro id e a w hr h0
    (try dsimp only at h0)
    split at h0
    · rename_i hid
      obtain rfl := Nat.eq_of_beq_eq_true hid
      unfold dx_atom_Table_begin_L1_0 at h0
      obtain ⟨u1, g0, h1⟩ := onV_elim h0
      obtain ⟨t_1, rfl, h2⟩ := asP_elim h1
      obtain ⟨u2, g8, h3⟩ := onV_elim h2
      obtain ⟨t8P_1, t8N_1, t8C_1, rfl, h4⟩ := asS_elim h3
      obtain ⟨u3, g9, h5⟩ := onV_elim h4
      obtain ⟨t9, rfl, h6⟩ := asI_elim h5
      obtain ⟨hf, hq⟩ := h6
      subst hf
      exact ⟨_, rep_less hr (by simp), hq⟩
    · exact h0.elim
  · intro s w hj
    have hb := hround s w hj
    rw [← hcc]
    have e1 := body_atom_Table_begin_L1 f s w (fun f1 s1 w1 => f1 = f ∧ J s1 w1 ∧ μ s1 w1 < μ s w) (fun f1 w1 => f1 = f ∧ Q (.exit 0) [] w1)
    simp only [true_and] at e1
    exact cast e1 hb

theorem loops_atom_Table_begin : LoopOk Try.prog Try.f35.ntmps G_atom_Table_begin (codeOf Try.f35) := loopOk_list rfl ⟨ok_atom_Table_begin_L1, trivial⟩

theorem den_atom_Table_begin (t : Option Addr) (w : World) (R : Value → World → Prop) :
    F_atom_Table_begin t w (fun w1 => R (.tuple #[]) w1) = den Try.prog Try.f35.ntmps G_atom_Table_begin (codeOf Try.f35) [] (postD Try.prog Try.f35.results.toList R) (entry [.pointer t] 0) w := by kernel_rfl

theorem C_atom_Table_begin.of {t : Option Addr} {w : World} {R : World → Prop} (h : F_atom_Table_begin t w R) : C_atom_Table_begin t w R := by
  refine (calls_of_den (c := codeOf Try.f35) seat_ok seat_mixed Try.func35 (by kernel_rfl) loops_atom_Table_begin (args := [.pointer t]) rfl (R := fun v w1 => v = (.tuple #[] : Value) ∧ R w1) ?_).mono ?_
  · rw [← den_atom_Table_begin]
    simpa using h
  · rintro en w1 ⟨v, he, rfl, h⟩
    exact ⟨he, h⟩

def F_sync_atomic_Bool_Load (x : Option Addr) (w : World) (R : Bool → World → Prop) : Prop :=
  NN x fun a =>
  CallX Try.prog 53 [.pointer (some (a.add 0))] w fun v w1 => ∃ t6 : Int, v = (.int .u32 t6) ∧
  R (t6 != (0 : Int)) w1

def G_sync_atomic_Bool_Load : Gen where
  loop := lookL []
  plan := fun _ => none

theorem loops_sync_atomic_Bool_Load : LoopOk Try.prog Try.f40.ntmps G_sync_atomic_Bool_Load (codeOf Try.f40) := loopOk_none fun _ => rfl

theorem den_sync_atomic_Bool_Load (x : Option Addr) (w : World) (R : Value → World → Prop) :
    F_sync_atomic_Bool_Load x w (fun r w1 => R (.bool r) w1) = den Try.prog Try.f40.ntmps G_sync_atomic_Bool_Load (codeOf Try.f40) [] (postD Try.prog Try.f40.results.toList R) (entry [.pointer x] 0) w := by kernel_rfl

theorem C_sync_atomic_Bool_Load.of {x : Option Addr} {w : World} {R : Bool → World → Prop} (h : F_sync_atomic_Bool_Load x w R) : C_sync_atomic_Bool_Load x w R := by
  refine (calls_of_den (c := codeOf Try.f40) seat_ok seat_mixed Try.func40 (by kernel_rfl) loops_sync_atomic_Bool_Load (args := [.pointer x]) rfl (R := fun v w1 => ∃ (r : Bool), v = (.bool r : Value) ∧ R r w1) ?_).mono ?_
  · rw [← den_sync_atomic_Bool_Load]
    have e : (fun r w1 => ∃ (r' : Bool), (.bool r : Value) = (.bool r' : Value) ∧ R r' w1) = R := by
      funext r w1
      exact propext ⟨fun ⟨r', he, h⟩ => by simp at he; simp_all, fun h => ⟨_, rfl, h⟩⟩
    simpa only [e] using h
  · rintro en w1 ⟨v, he, r, rfl, h⟩
    exact ⟨_, he, h⟩

def F_cmp_Less_k1 (x : Int) (y : Int) (R : Bool → World → Prop) (w1_2 : World) : Prop :=
  R (decide (x < y)) w1_2

def F_cmp_Less (x : Int) (y : Int) (w : World) (R : Bool → World → Prop) : Prop :=
  C_cmp_isNaN x w fun t6 w1 =>
  If t6
  (C_cmp_isNaN y w1 fun t9 w1_1 =>
  If (!t9)
  (R true w1_1)
  (F_cmp_Less_k1 x y R w1_1))
  (F_cmp_Less_k1 x y R w1)

def G_cmp_Less : Gen where
  loop := lookL []
  plan := fun _ => none

theorem loops_cmp_Less : LoopOk Try.prog Try.f48.ntmps G_cmp_Less (codeOf Try.f48) := loopOk_none fun _ => rfl

theorem den_cmp_Less (x : Int) (y : Int) (w : World) (R : Value → World → Prop) :
    F_cmp_Less x y w (fun r w1 => R (.bool r) w1) = den Try.prog Try.f48.ntmps G_cmp_Less (codeOf Try.f48) [] (postD Try.prog Try.f48.results.toList R) (entry [.int .i64 x, .int .i64 y] 0) w := by kernel_rfl

theorem C_cmp_Less.of {x : Int} {y : Int} {w : World} {R : Bool → World → Prop} (h : F_cmp_Less x y w R) : C_cmp_Less x y w R := by
  refine (calls_of_den (c := codeOf Try.f48) seat_ok seat_mixed Try.func48 (by kernel_rfl) loops_cmp_Less (args := [.int .i64 x, .int .i64 y]) rfl (R := fun v w1 => ∃ (r : Bool), v = (.bool r : Value) ∧ R r w1) ?_).mono ?_
  · rw [← den_cmp_Less]
    have e : (fun r w1 => ∃ (r' : Bool), (.bool r : Value) = (.bool r' : Value) ∧ R r' w1) = R := by
      funext r w1
      exact propext ⟨fun ⟨r', he, h⟩ => by simp at he; simp_all, fun h => ⟨_, rfl, h⟩⟩
    simpa only [e] using h
  · rintro en w1 ⟨v, he, r, rfl, h⟩
    exact ⟨_, he, h⟩

def F_sync_Mutex_Lock (m : Option Addr) (w : World) (R : World → Prop) : Prop :=
  NN m fun a =>
  C_internal_sync_Mutex_Lock (some (a.add 0)) w fun w1 =>
  R w1

def G_sync_Mutex_Lock : Gen where
  loop := lookL []
  plan := fun _ => none

theorem loops_sync_Mutex_Lock : LoopOk Try.prog Try.f54.ntmps G_sync_Mutex_Lock (codeOf Try.f54) := loopOk_none fun _ => rfl

theorem den_sync_Mutex_Lock (m : Option Addr) (w : World) (R : Value → World → Prop) :
    F_sync_Mutex_Lock m w (fun w1 => R (.tuple #[]) w1) = den Try.prog Try.f54.ntmps G_sync_Mutex_Lock (codeOf Try.f54) [] (postD Try.prog Try.f54.results.toList R) (entry [.pointer m] 0) w := by kernel_rfl

theorem C_sync_Mutex_Lock.of {m : Option Addr} {w : World} {R : World → Prop} (h : F_sync_Mutex_Lock m w R) : C_sync_Mutex_Lock m w R := by
  refine (calls_of_den (c := codeOf Try.f54) seat_ok seat_mixed Try.func54 (by kernel_rfl) loops_sync_Mutex_Lock (args := [.pointer m]) rfl (R := fun v w1 => v = (.tuple #[] : Value) ∧ R w1) ?_).mono ?_
  · rw [← den_sync_Mutex_Lock]
    simpa using h
  · rintro en w1 ⟨v, he, rfl, h⟩
    exact ⟨he, h⟩

def F_sync_Mutex_Unlock (m : Option Addr) (w : World) (R : World → Prop) : Prop :=
  NN m fun a =>
  C_internal_sync_Mutex_Unlock (some (a.add 0)) w fun w1 =>
  R w1

def G_sync_Mutex_Unlock : Gen where
  loop := lookL []
  plan := fun _ => none

theorem loops_sync_Mutex_Unlock : LoopOk Try.prog Try.f55.ntmps G_sync_Mutex_Unlock (codeOf Try.f55) := loopOk_none fun _ => rfl

theorem den_sync_Mutex_Unlock (m : Option Addr) (w : World) (R : Value → World → Prop) :
    F_sync_Mutex_Unlock m w (fun w1 => R (.tuple #[]) w1) = den Try.prog Try.f55.ntmps G_sync_Mutex_Unlock (codeOf Try.f55) [] (postD Try.prog Try.f55.results.toList R) (entry [.pointer m] 0) w := by kernel_rfl

theorem C_sync_Mutex_Unlock.of {m : Option Addr} {w : World} {R : World → Prop} (h : F_sync_Mutex_Unlock m w R) : C_sync_Mutex_Unlock m w R := by
  refine (calls_of_den (c := codeOf Try.f55) seat_ok seat_mixed Try.func55 (by kernel_rfl) loops_sync_Mutex_Unlock (args := [.pointer m]) rfl (R := fun v w1 => v = (.tuple #[] : Value) ∧ R w1) ?_).mono ?_
  · rw [← den_sync_Mutex_Unlock]
    simpa using h
  · rintro en w1 ⟨v, he, rfl, h⟩
    exact ⟨he, h⟩

def F_sync_atomic_Bool_Store (x : Option Addr) (val : Bool) (w : World) (R : World → Prop) : Prop :=
  NN x fun a =>
  C_sync_atomic_b32 val (drw w) fun t8 w1 =>
  CallX Try.prog 65 [.pointer (some (a.add 0)), .int .u32 t8] w1 fun v w1_1 => v = (.tuple #[]) ∧
  R w1_1

def G_sync_atomic_Bool_Store : Gen where
  loop := lookL []
  plan := fun id =>
    bif Nat.beq id 0 then some ([0, 1, 3, 0, 8, 31], .take 0 (.take 1 (.take 2 (.take 3 (.take 4 (.take 5 .done)))))) else none

theorem loops_sync_atomic_Bool_Store : LoopOk Try.prog Try.f56.ntmps G_sync_atomic_Bool_Store (codeOf Try.f56) := loopOk_none fun _ => rfl

theorem den_sync_atomic_Bool_Store (x : Option Addr) (val : Bool) (w : World) (R : Value → World → Prop) :
    F_sync_atomic_Bool_Store x val w (fun w1 => R (.tuple #[]) w1) = den Try.prog Try.f56.ntmps G_sync_atomic_Bool_Store (codeOf Try.f56) [] (postD Try.prog Try.f56.results.toList R) (entry [.pointer x, .bool val] 0) w := by kernel_rfl

theorem C_sync_atomic_Bool_Store.of {x : Option Addr} {val : Bool} {w : World} {R : World → Prop} (h : F_sync_atomic_Bool_Store x val w R) : C_sync_atomic_Bool_Store x val w R := by
  refine (calls_of_den (c := codeOf Try.f56) seat_ok seat_mixed Try.func56 (by kernel_rfl) loops_sync_atomic_Bool_Store (args := [.pointer x, .bool val]) rfl (R := fun v w1 => v = (.tuple #[] : Value) ∧ R w1) ?_).mono ?_
  · rw [← den_sync_atomic_Bool_Store]
    simpa using h
  · rintro en w1 ⟨v, he, rfl, h⟩
    exact ⟨he, h⟩

def F_cmp_isNaN (x : Int) (w : World) (R : Bool → World → Prop) : Prop :=
  R (x != x) w

def G_cmp_isNaN : Gen where
  loop := lookL []
  plan := fun _ => none

theorem loops_cmp_isNaN : LoopOk Try.prog Try.f62.ntmps G_cmp_isNaN (codeOf Try.f62) := loopOk_none fun _ => rfl

theorem den_cmp_isNaN (x : Int) (w : World) (R : Value → World → Prop) :
    F_cmp_isNaN x w (fun r w1 => R (.bool r) w1) = den Try.prog Try.f62.ntmps G_cmp_isNaN (codeOf Try.f62) [] (postD Try.prog Try.f62.results.toList R) (entry [.int .i64 x] 0) w := by kernel_rfl

theorem C_cmp_isNaN.of {x : Int} {w : World} {R : Bool → World → Prop} (h : F_cmp_isNaN x w R) : C_cmp_isNaN x w R := by
  refine (calls_of_den (c := codeOf Try.f62) seat_ok seat_mixed Try.func62 (by kernel_rfl) loops_cmp_isNaN (args := [.int .i64 x]) rfl (R := fun v w1 => ∃ (r : Bool), v = (.bool r : Value) ∧ R r w1) ?_).mono ?_
  · rw [← den_cmp_isNaN]
    have e : (fun r w1 => ∃ (r' : Bool), (.bool r : Value) = (.bool r' : Value) ∧ R r' w1) = R := by
      funext r w1
      exact propext ⟨fun ⟨r', he, h⟩ => by simp at he; simp_all, fun h => ⟨_, rfl, h⟩⟩
    simpa only [e] using h
  · rintro en w1 ⟨v, he, r, rfl, h⟩
    exact ⟨_, he, h⟩

def F_internal_sync_Mutex_Lock (m : Option Addr) (w : World) (R : World → Prop) : Prop :=
  CallX Try.prog 68 [] w fun v w1 => v = (.tuple #[]) ∧
  NN m fun a =>
  CallX Try.prog 69 [.pointer (some (a.add 0)), .int .i32 0, .int .i32 1] w1 fun v_1 w1_1 => ∃ t6 : Bool, v_1 = (.bool t6) ∧
  If t6
  (CallX Try.prog 70 [] w1_1 fun v_2 w1_2 => v_2 = (.tuple #[]) ∧
  Run Try.prog (convert 117 121 (.pointer m)) w1_2 fun v_3 w1_3 => ∃ t9 : Value, v_3 = (t9) ∧
  CallX Try.prog 71 [t9] w1_3 fun v_4 w1_4 => v_4 = (.tuple #[]) ∧
  R w1_4)
  (C_internal_sync_Mutex_lockSlow m w1_1 fun w1_5 =>
  R w1_5)

def G_internal_sync_Mutex_Lock : Gen where
  loop := lookL []
  plan := fun _ => none

theorem loops_internal_sync_Mutex_Lock : LoopOk Try.prog Try.f63.ntmps G_internal_sync_Mutex_Lock (codeOf Try.f63) := loopOk_none fun _ => rfl

theorem den_internal_sync_Mutex_Lock (m : Option Addr) (w : World) (R : Value → World → Prop) :
    F_internal_sync_Mutex_Lock m w (fun w1 => R (.tuple #[]) w1) = den Try.prog Try.f63.ntmps G_internal_sync_Mutex_Lock (codeOf Try.f63) [] (postD Try.prog Try.f63.results.toList R) (entry [.pointer m] 0) w := by kernel_rfl

theorem C_internal_sync_Mutex_Lock.of {m : Option Addr} {w : World} {R : World → Prop} (h : F_internal_sync_Mutex_Lock m w R) : C_internal_sync_Mutex_Lock m w R := by
  refine (calls_of_den (c := codeOf Try.f63) seat_ok seat_mixed Try.func63 (by kernel_rfl) loops_internal_sync_Mutex_Lock (args := [.pointer m]) rfl (R := fun v w1 => v = (.tuple #[] : Value) ∧ R w1) ?_).mono ?_
  · rw [← den_internal_sync_Mutex_Lock]
    simpa using h
  · rintro en w1 ⟨v, he, rfl, h⟩
    exact ⟨he, h⟩

def F_internal_sync_Mutex_Unlock_k1 (R : World → Prop) (w1_5 : World) : Prop :=
  CallX Try.prog 70 [] w1_5 fun v_4 w1_6 => v_4 = (.tuple #[]) ∧
  R w1_6

def F_internal_sync_Mutex_Unlock (m : Option Addr) (w : World) (R : World → Prop) : Prop :=
  NN m fun a =>
  ∃ state : Int, w.cell? (a.add 0) = some (.int .i32 state) ∧
  Run Try.prog (convert 117 121 (.pointer m)) w fun v w1 => ∃ t8 : Value, v = (t8) ∧
  CallX Try.prog 73 [t8] w1 fun v_1 w1_1 => v_1 = (.tuple #[]) ∧
  CallX Try.prog 68 [] w1_1 fun v_2 w1_2 => v_2 = (.tuple #[]) ∧
  NN m fun a_1 =>
  CallX Try.prog 74 [.pointer (some (a_1.add 0)), .int .i32 (-1)] w1_2 fun v_3 w1_3 => ∃ t14 : Int, v_3 = (.int .i32 t14) ∧
  If (t14 != (0 : Int))
  (C_internal_sync_Mutex_unlockSlow m t14 w1_3 fun w1_4 =>
  F_internal_sync_Mutex_Unlock_k1 R w1_4)
  (F_internal_sync_Mutex_Unlock_k1 R w1_3)

def G_internal_sync_Mutex_Unlock : Gen where
  loop := lookL []
  plan := fun _ => none

theorem loops_internal_sync_Mutex_Unlock : LoopOk Try.prog Try.f64.ntmps G_internal_sync_Mutex_Unlock (codeOf Try.f64) := loopOk_none fun _ => rfl

theorem den_internal_sync_Mutex_Unlock (m : Option Addr) (w : World) (R : Value → World → Prop) :
    F_internal_sync_Mutex_Unlock m w (fun w1 => R (.tuple #[]) w1) = den Try.prog Try.f64.ntmps G_internal_sync_Mutex_Unlock (codeOf Try.f64) [] (postD Try.prog Try.f64.results.toList R) (entry [.pointer m] 0) w := by kernel_rfl

theorem C_internal_sync_Mutex_Unlock.of {m : Option Addr} {w : World} {R : World → Prop} (h : F_internal_sync_Mutex_Unlock m w R) : C_internal_sync_Mutex_Unlock m w R := by
  refine (calls_of_den (c := codeOf Try.f64) seat_ok seat_mixed Try.func64 (by kernel_rfl) loops_internal_sync_Mutex_Unlock (args := [.pointer m]) rfl (R := fun v w1 => v = (.tuple #[] : Value) ∧ R w1) ?_).mono ?_
  · rw [← den_internal_sync_Mutex_Unlock]
    simpa using h
  · rintro en w1 ⟨v, he, rfl, h⟩
    exact ⟨he, h⟩

def F_sync_atomic_b32 (b : Bool) (w : World) (R : Int → World → Prop) : Prop :=
  If b
  (R (1 : Int) w)
  (R (0 : Int) w)

def G_sync_atomic_b32 : Gen where
  loop := lookL []
  plan := fun _ => none

theorem loops_sync_atomic_b32 : LoopOk Try.prog Try.f66.ntmps G_sync_atomic_b32 (codeOf Try.f66) := loopOk_none fun _ => rfl

theorem den_sync_atomic_b32 (b : Bool) (w : World) (R : Value → World → Prop) :
    F_sync_atomic_b32 b w (fun r w1 => R (.int .u32 r) w1) = den Try.prog Try.f66.ntmps G_sync_atomic_b32 (codeOf Try.f66) [] (postD Try.prog Try.f66.results.toList R) (entry [.bool b] 0) w := by kernel_rfl

theorem C_sync_atomic_b32.of {b : Bool} {w : World} {R : Int → World → Prop} (h : F_sync_atomic_b32 b w R) : C_sync_atomic_b32 b w R := by
  refine (calls_of_den (c := codeOf Try.f66) seat_ok seat_mixed Try.func66 (by kernel_rfl) loops_sync_atomic_b32 (args := [.bool b]) rfl (R := fun v w1 => ∃ (r : Int), v = (.int .u32 r : Value) ∧ R r w1) ?_).mono ?_
  · rw [← den_sync_atomic_b32]
    have e : (fun r w1 => ∃ (r' : Int), (.int .u32 r : Value) = (.int .u32 r' : Value) ∧ R r' w1) = R := by
      funext r w1
      exact propext ⟨fun ⟨r', he, h⟩ => by simp at he; simp_all, fun h => ⟨_, rfl, h⟩⟩
    simpa only [e] using h
  · rintro en w1 ⟨v, he, r, rfl, h⟩
    exact ⟨_, he, h⟩

end Go.Proofs.Ytifgjlkmmbpbkaa
