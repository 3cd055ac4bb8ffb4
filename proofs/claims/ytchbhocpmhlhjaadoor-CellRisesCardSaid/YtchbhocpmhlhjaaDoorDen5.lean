/- Code, loops, functions: the reading, and its soundness. -/
import Derived.Test.YtchbhocpmhlhjaaDoorDen4
namespace Go.D

inductive Ex where
  | normal
  | exit (id : Nat)
  | ret

abbrev Post := Ex → Env → World → Prop

structure Gen where
  loop : List Bool → Option (Post → Env → World → Prop)
  plan : Nat → Option (List Nat × Plan)

def eqPath : List Bool → List Bool → Bool
  | [], [] => true
  | true :: p, true :: q => eqPath p q
  | false :: p, false :: q => eqPath p q
  | _, _ => false

theorem eqPath_eq : ∀ {p q : List Bool}, eqPath p q = true → p = q
  | [], [], _ => rfl
  | true :: p, true :: q, h => by rw [eqPath_eq (p := p) (q := q) h]
  | false :: p, false :: q, h => by rw [eqPath_eq (p := p) (q := q) h]
  | [], true :: _, h => by simp [eqPath] at h
  | [], false :: _, h => by simp [eqPath] at h
  | true :: _, [], h => by simp [eqPath] at h
  | false :: _, [], h => by simp [eqPath] at h
  | true :: _, false :: _, h => by simp [eqPath] at h
  | false :: _, true :: _, h => by simp [eqPath] at h

def den (P : Program) (N : Nat) (G : Gen) : Code → List Bool → Post → Env → World → Prop
  | .skip, _, Q, e, w => Q .normal e w
  | .label _, _, Q, e, w => Q .normal e w
  | .seq x y, p, Q, e, w => den P N G x (false :: p) (fun ex e w => match ex with
      | .normal => den P N G y (true :: p) Q e w
      | .exit id => Q (.exit id) e w
      | .ret => Q .ret e w) e w
  | .cond c x y, p, Q, e, w => match evK e c with
      | some true => den P N G x (false :: p) Q e w
      | some false => den P N G y (true :: p) Q e w
      | none => onV (ev e c) fun
        | .bool b => If b (den P N G x (false :: p) Q e w) (den P N G y (true :: p) Q e w)
        | _ => False
  | .block id c, p, Q, e, w => den P N G c (false :: p) (fun ex e w => match ex with
      | .normal => Q .normal e w
      | .exit j => match Nat.beq j id with
        | true => Q .normal e w
        | false => Q (.exit j) e w
      | .ret => Q .ret e w) e w
  | .loop _, p, Q, e, w => match G.loop p with
      | some L => L Q e w
      | none => False
  | .region id ops draw, _, Q, e, w => match draw with
      | false => opsD P N ops ops.toList e w (Q .normal)
      | true => match G.plan id with
        | some (M, pl) => match chkR P ops M with
          | true => planD P N ops M pl [] [] e { w with drawn := w.drawn + 1 } (Q .normal)
          | false => False
        | none => False
  | .ret, _, Q, e, w => Q .ret e w
  | .exit id, _, Q, e, w => Q (.exit id) e w
  | _, _, _, _, _ => False

def child : Bool → Code → Option Code
  | false, .seq x _ => some x
  | true, .seq _ y => some y
  | false, .cond _ x _ => some x
  | true, .cond _ _ y => some y
  | false, .block _ c => some c
  | false, .loop c => some c
  | _, _ => none

def codeAt (body : Code) : List Bool → Option Code
  | [] => some body
  | b :: p => match codeAt body p with
    | some c => child b c
    | none => none

def liftQ (N : Nat) (Q : Post) : Exit → Act → World → Prop
  | .normal, a, w => ∃ e, Rep N a e ∧ Q .normal e w
  | .exit id, a, w => ∃ e, Rep N a e ∧ Q (.exit id) e w
  | .ret, a, w => ∃ e, Rep N a e ∧ Q .ret e w
  | _, _, _ => False

/-- The loops from a depth on are told rightly. -/
def LoopOkD (P : Program) (N : Nat) (G : Gen) (body : Code) (k : Nat) : Prop :=
  ∀ p L c, k ≤ p.length → G.loop p = some L → codeAt body p = some (.loop c) → ∀ Q e w a, Rep N a e → L Q e w → (Code.loop c).wp P (liftQ N Q) a w

def LoopOk (P : Program) (N : Nat) (G : Gen) (body : Code) : Prop := LoopOkD P N G body 0

theorem den_sound {P : Program} (hP : AllCallable P) (hm : P.follows .mixedOrders = true) {N : Nat} {G : Gen} {body : Code} {k : Nat} (hL : LoopOkD P N G body k) :
    ∀ (c : Code) (p : List Bool), codeAt body p = some c → k ≤ p.length → ∀ (Q : Post) (e : Env) (w : World) (a : Act), Rep N a e → den P N G c p Q e w → c.wp P (liftQ N Q) a w := by
  intro c
  induction c with
  | skip => exact fun p _ _ Q e w a hr h => wp_skip ⟨e, hr, h⟩
  | label l => exact fun p _ _ Q e w a hr h => wp_label ⟨e, hr, h⟩
  | seq x y ihx ihy =>
    intro p hp hlen Q e w a hr h
    have hx : codeAt body (false :: p) = some x := by simp [codeAt, hp, child]
    have hy : codeAt body (true :: p) = some y := by simp [codeAt, hp, child]
    refine wp_seq (wp_mono (ihx _ hx (by simp; omega) _ e w a hr h) fun ex a w hq => ?_)
    cases ex with
    | normal => obtain ⟨e, hr, h⟩ := hq; exact ihy _ hy (by simp; omega) _ e w a hr h
    | exit id => exact hq
    | ret => exact hq
    | goto l => exact hq.elim
    | panic c => exact hq.elim
    | outgrown => exact hq.elim
  | cond c x y ihx ihy =>
    intro p hp hlen Q e w a hr h
    have hx : codeAt body (false :: p) = some x := by simp [codeAt, hp, child]
    have hy : codeAt body (true :: p) = some y := by simp [codeAt, hp, child]
    unfold den at h
    split at h
    · rename_i hk
      exact wp_cond_true (hr.agree.kn _ _ hk) (ihx _ hx (by simp; omega) _ e w a hr h)
    · rename_i hk
      exact wp_cond_false (hr.agree.kn _ _ hk) (ihy _ hy (by simp; omega) _ e w a hr h)
    · obtain ⟨v, hv, h⟩ := onV_elim h
      split at h
      · exact wp_cond_split (hr.agree.val _ _ hv) (fun ht => ihx _ hx (by simp; omega) _ e w a hr (h.1 ht)) (fun ht => ihy _ hy (by simp; omega) _ e w a hr (h.2 ht))
      · exact h.elim
  | block id c ih =>
    intro p hp hlen Q e w a hr h
    have hc : codeAt body (false :: p) = some c := by simp [codeAt, hp, child]
    refine wp_block (wp_mono (ih _ hc (by simp; omega) _ e w a hr h) fun ex a w hq => ?_)
    cases ex with
    | normal => exact hq
    | exit j =>
      obtain ⟨e, hr, h⟩ := hq
      simp only [Exit.inBlock]
      dsimp only at h
      split at h
      · rename_i hb
        rw [if_pos (Nat.eq_of_beq_eq_true hb)]
        exact ⟨e, hr, h⟩
      · rename_i hb
        rw [if_neg (fun he => by subst he; simp at hb)]
        exact ⟨e, hr, h⟩
    | ret => exact hq
    | goto l => exact hq.elim
    | panic c => exact hq.elim
    | outgrown => exact hq.elim
  | loop c _ =>
    intro p hp hlen Q e w a hr h
    unfold den at h
    split at h
    · rename_i L hl
      exact hL p L c hlen hl hp Q e w a hr h
    · exact h.elim
  | region id ops draw =>
    intro p hp hlen Q e w a hr h
    have hQ : ∀ a e w, Rep N a e → Q .normal e w → liftQ N Q .normal a w := fun a e w hr h => ⟨e, hr, h⟩
    unfold den at h
    split at h
    · refine wp_region ?_
      have := opsD_sound hP hQ ops.toList 0 e a w (by simp) h hr
      rwa [Array.length_toList, ← List.range_eq_range'] at this
    · split at h
      · split at h
        · rename_i hc
          exact region_draw hP hm hc hQ hr h
        · exact h.elim
      · exact h.elim
  | ret => exact fun p _ _ Q e w a hr h => wp_ret ⟨e, hr, h⟩
  | exit id => exact fun p _ _ Q e w a hr h => wp_exit ⟨e, hr, h⟩
  | rangeFunc f ps x y _ _ => exact fun p _ _ Q e w a hr h => h.elim
  | scope c _ => exact fun p _ _ Q e w a hr h => h.elim
  | goto l => exact fun p _ _ Q e w a hr h => h.elim
  | refuse s => exact fun p _ _ Q e w a hr h => h.elim

/-! ## Loops -/

/-- A loop by an invariant with a measure that need not be read off the frame. -/
theorem wp_loop_ix {P : Program} {Q : Exit → Act → World → Prop} {c : Code} (I : Nat → Act → World → Prop)
    (round : ∀ n a w, I n a w → c.wp P (Exit.then (fun a' w' => ∃ m, m < n ∧ I m a' w') Q) a w) : ∀ n a w, I n a w → (Code.loop c).wp P Q a w := by
  intro n a w h₀ b k cs
  have key : ∀ n a w, I n a w → ∃ e a' w', Q e a' w' ∧ Arrives P (lone (b.at a (.code c :: .inLoop c :: k)) cs w) b k cs e a' w' := by
    intro n
    induction n using Nat.strongRecOn with
    | _ n ih =>
      intro a w hI
      obtain ⟨e, a₁, w₁, hq, harr⟩ := round n a w hI b (.inLoop c :: k) cs
      cases e with
      | normal =>
        obtain ⟨m, hlt, hI₁⟩ := hq
        obtain ⟨e₂, a₂, w₂, hq₂, harr₂⟩ := ih m hlt a₁ w₁ hI₁
        exact ⟨e₂, a₂, w₂, hq₂, .of_steps (Steps.trans harr (.one step_inLoop)) harr₂⟩
      | exit id => exact ⟨_, a₁, w₁, hq, .pass (x := .inLoop c) rfl (fun _ _ => .inl (by simp)) harr⟩
      | goto l => exact ⟨_, a₁, w₁, hq, .pass (x := .inLoop c) rfl (fun _ _ => .inl (by simp)) harr⟩
      | ret => exact ⟨_, a₁, w₁, hq, .pass (x := .inLoop c) rfl (fun _ _ => .inl (by simp)) harr⟩
      | panic ch => exact ⟨_, a₁, w₁, hq, .pass (x := .inLoop c) rfl (fun _ _ => .inl (by simp)) harr⟩
      | outgrown => exact ⟨_, a₁, w₁, hq, .pass (x := .inLoop c) rfl (fun _ _ => .inl (by simp)) harr⟩
  obtain ⟨e, a', w', hq, harr⟩ := key n a w h₀
  exact ⟨e, a', w', hq, .of_steps (.one step_loop) harr⟩

/-- What a round hands on: the slots at its end, at an exit, at a return. -/
def roundQ (Kn Kr : Env → World → Prop) (Kx : Nat → Env → World → Prop) : Post
  | .normal, e, w => Kn e w
  | .exit id, e, w => Kx id e w
  | .ret, e, w => Kr e w

theorem loop_rule_deep {P : Program} (hP : AllCallable P) (hm : P.follows .mixedOrders = true) {N : Nat} {G : Gen} {body : Code} {p : List Bool} (hL : LoopOkD P N G body (p.length + 1))
    {φ σ : Type} (lit : φ → σ → Env) (dec : Env → (φ → σ → Prop) → Prop) (hdec : ∀ e a K, Rep N a e → dec e K → ∃ f s, K f s ∧ Rep N a (lit f s))
    {c : Code} (hc : codeAt body p = some (.loop c)) (f : φ) (J : σ → World → Prop) (μ : σ → World → Nat) {Q : Post} {Kr : Env → World → Prop} {Kx : Nat → Env → World → Prop}
    (hr : ∀ e a w, Rep N a e → Kr e w → ∃ e', Rep N a e' ∧ Q .ret e' w)
    (hx : ∀ id e a w, Rep N a e → Kx id e w → ∃ e', Rep N a e' ∧ Q (.exit id) e' w)
    (hround : ∀ s w, J s w → den P N G c (false :: p) (roundQ (fun e w' => dec e fun f' s' => f' = f ∧ J s' w' ∧ μ s' w' < μ s w) Kr Kx) (lit f s) w) :
    ∀ s w a, J s w → Rep N a (lit f s) → (Code.loop c).wp P (liftQ N Q) a w := by
  intro s w a hj hrep
  have hcc : codeAt body (false :: p) = some c := by simp [codeAt, hc, child]
  refine wp_loop_ix (fun n a w => ∃ s, J s w ∧ Rep N a (lit f s) ∧ μ s w = n) ?_ (μ s w) a w ⟨s, hj, hrep, rfl⟩
  rintro n a w ⟨s, hj, hrep, rfl⟩
  refine wp_mono (den_sound hP hm hL c _ hcc (by simp) _ _ w a hrep (hround s w hj)) fun ex a w hq => ?_
  cases ex with
  | normal =>
    obtain ⟨e, hr', h⟩ := hq
    obtain ⟨f', s', ⟨rfl, hj', hlt⟩, hrep'⟩ := hdec e a _ hr' h
    exact ⟨_, hlt, s', hj', hrep', rfl⟩
  | exit id => obtain ⟨e, hr', h⟩ := hq; exact hx id e a w hr' h
  | ret => obtain ⟨e, hr', h⟩ := hq; exact hr e a w hr' h
  | goto l => exact hq.elim
  | panic c => exact hq.elim
  | outgrown => exact hq.elim

def height : Code → Nat
  | .seq a b => max (height a) (height b) + 1
  | .cond _ a b => max (height a) (height b) + 1
  | .block _ c => height c + 1
  | .loop c => height c + 1
  | _ => 0

theorem height_codeAt {body : Code} : ∀ {p : List Bool} {c : Code}, codeAt body p = some c → p.length + height c ≤ height body
  | [], c, h => by simp [codeAt] at h; simp [h]
  | b :: p, c, h => by
    unfold codeAt at h
    split at h
    · rename_i d hd
      have ih := height_codeAt hd
      have hc : height c + 1 ≤ height d := by
        unfold child at h
        split at h <;> simp at h <;> subst h <;> simp [height] <;> omega
      simp only [List.length_cons]; omega
    · cases h

/-- Loops are shown from the inmost on. -/
theorem loopOk_deep {P : Program} {N : Nat} {G : Gen} {body : Code}
    (h : ∀ p L c, G.loop p = some L → codeAt body p = some (.loop c) → LoopOkD P N G body (p.length + 1) → ∀ Q e w a, Rep N a e → L Q e w → (Code.loop c).wp P (liftQ N Q) a w) : LoopOk P N G body := by
  have key : ∀ n k, height body + 1 ≤ k + n → LoopOkD P N G body k := by
    intro n
    induction n with
    | zero =>
      intro k hk p L c hp _ hc
      have := height_codeAt hc
      omega
    | succ n ih =>
      intro k hk p L c hp hl hc
      exact h p L c hl hc (ih (p.length + 1) (by omega))
  exact key (height body + 1) 0 (by omega)

abbrev Spec := Post → Env → World → Prop

def lookL : List (List Bool × Spec) → List Bool → Option Spec
  | [], _ => none
  | (q, L) :: r, p => match eqPath p q with
    | true => some L
    | false => lookL r p

def OneOk (P : Program) (N : Nat) (G : Gen) (body : Code) (p : List Bool) (L : Spec) : Prop :=
  ∀ c, codeAt body p = some (.loop c) → LoopOkD P N G body (p.length + 1) → ∀ Q e w a, Rep N a e → L Q e w → (Code.loop c).wp P (liftQ N Q) a w

def AllOk (P : Program) (N : Nat) (G : Gen) (body : Code) : List (List Bool × Spec) → Prop
  | [] => True
  | (q, L) :: r => OneOk P N G body q L ∧ AllOk P N G body r

theorem allOk_look {P : Program} {N : Nat} {G : Gen} {body : Code} : ∀ {l : List (List Bool × Spec)}, AllOk P N G body l → ∀ {p : List Bool} {L : Spec}, lookL l p = some L → OneOk P N G body p L
  | [], _, p, L, h => by cases h
  | (q, L') :: r, ha, p, L, h => by
    unfold lookL at h
    split at h
    · rename_i hp
      obtain rfl : L' = L := by simpa using h
      rw [eqPath_eq hp]
      exact ha.1
    · exact allOk_look ha.2 h

theorem loopOk_list {P : Program} {N : Nat} {G : Gen} {body : Code} {l : List (List Bool × Spec)} (hl : G.loop = lookL l) (h : AllOk P N G body l) : LoopOk P N G body :=
  loopOk_deep fun _ _ c hL hc ih => allOk_look h (by rw [← hl]; exact hL) c hc ih

theorem loopOk_none {P : Program} {N : Nat} {G : Gen} {body : Code} (h : ∀ p, G.loop p = none) : LoopOk P N G body := by
  intro p L c _ hl
  rw [h] at hl; cases hl

/-- The code at a path (its root where there is none). -/
def sub (body : Code) (p : List Bool) : Code := match codeAt body p with
  | some c => c
  | none => body

theorem sub_of_codeAt {body c : Code} {p : List Bool} (h : codeAt body p = some (.loop c)) : sub body (false :: p) = c := by
  simp [sub, codeAt, h, child]

def codeOf (f : Func) : Code := match f.body with
  | some c => c
  | none => .skip

/-- A loop, told by its round: there are an invariant and a measure. -/
def LoopS {σ : Type} (B : σ → World → (σ → World → Prop) → Prop) (s : σ) (w : World) : Prop :=
  ∃ (J : σ → World → Prop) (μ : σ → World → Nat), J s w ∧ ∀ s w, J s w → B s w fun s' w' => J s' w' ∧ μ s' w' < μ s w

theorem find_mem : ∀ {l : Env} {t : Nat} {x : Entry}, find l t = some x → x ∈ l ∧ x.tmp = t
  | [], t, x, h => by simp [find] at h
  | y :: r, t, x, h => by
    unfold find at h
    split at h
    · rename_i hb
      obtain rfl : y = x := by simpa using h
      exact ⟨List.mem_cons_self .., Nat.eq_of_beq_eq_true hb⟩
    · have := find_mem h; exact ⟨List.mem_cons_of_mem _ this.1, this.2⟩

/-- A frame is told by less, too. -/
theorem rep_less {N : Nat} {a : Act} {e l : Env} (h : Rep N a e) (hl : ∀ x ∈ l, getV e x.tmp = some x.val ∧ x.kn = none) : Rep N a l where
  defers := h.defers
  size := h.size
  ent := by
    intro t x hx
    obtain ⟨hmem, rfl⟩ := find_mem hx
    obtain ⟨hv, hk⟩ := hl x hmem
    obtain ⟨y, hy, hyv⟩ := getV_find hv
    have := (h.ent _ y hy).1
    rw [hyv] at this
    exact ⟨this, fun b hb => by rw [hk] at hb; cases hb⟩

/-! ## Taking values apart -/

def asI (k : IntKind) (v : Value) (K : Int → Prop) : Prop := match v with | .int k' n => same k' k (K n) | _ => False
def asB (v : Value) (K : Bool → Prop) : Prop := match v with | .bool b => K b | _ => False
def asT (v : Value) (K : ByteArray → Prop) : Prop := match v with | .string s => K s | _ => False
def asP (v : Value) (K : Option Addr → Prop) : Prop := match v with | .pointer p => K p | _ => False
def asA (v : Value) (K : Addr → Prop) : Prop := match v with | .pointer (some a) => K a | _ => False
def asS (v : Value) (K : Option Addr → Nat → Nat → Prop) : Prop := match v with | .slice p n c => K p n c | _ => False
def asM (v : Value) (K : Option Nat → Prop) : Prop := match v with | .map r => K r | _ => False
def asV (v : Value) (K : Value → Prop) : Prop := K v
def asL (n : Nat) (v : Value) (K : List Value → Prop) : Prop := match v with | .agg cs => (match Nat.beq cs.size n with | true => K cs.toList | false => False) | _ => False
def asU (n : Nat) (v : Value) (K : List Value → Prop) : Prop := match v with | .tuple cs => (match Nat.beq cs.size n with | true => K cs.toList | false => False) | _ => False
def asNil (l : List Value) (K : Prop) : Prop := match l with | [] => K | _ => False
def asCons (l : List Value) (K : Value → List Value → Prop) : Prop := match l with | x :: r => K x r | _ => False

theorem asI_elim {k : IntKind} {v : Value} {K : Int → Prop} (h : asI k v K) : ∃ n, v = .int k n ∧ K n := by
  unfold asI at h; split at h
  · unfold same at h; split at h
    · rename_i hk; rw [kindEq_eq hk]; exact ⟨_, rfl, h⟩
    · exact h.elim
  · exact h.elim
theorem asB_elim {v : Value} {K : Bool → Prop} (h : asB v K) : ∃ n, v = .bool n ∧ K n := by unfold asB at h; split at h <;> first | exact ⟨_, rfl, h⟩ | exact h.elim
theorem asT_elim {v : Value} {K : ByteArray → Prop} (h : asT v K) : ∃ n, v = .string n ∧ K n := by unfold asT at h; split at h <;> first | exact ⟨_, rfl, h⟩ | exact h.elim
theorem asP_elim {v : Value} {K : Option Addr → Prop} (h : asP v K) : ∃ n, v = .pointer n ∧ K n := by unfold asP at h; split at h <;> first | exact ⟨_, rfl, h⟩ | exact h.elim
theorem asA_elim {v : Value} {K : Addr → Prop} (h : asA v K) : ∃ n, v = .pointer (some n) ∧ K n := by unfold asA at h; split at h <;> first | exact ⟨_, rfl, h⟩ | exact h.elim
theorem asS_elim {v : Value} {K : Option Addr → Nat → Nat → Prop} (h : asS v K) : ∃ p n c, v = .slice p n c ∧ K p n c := by unfold asS at h; split at h <;> first | exact ⟨_, _, _, rfl, h⟩ | exact h.elim
theorem asM_elim {v : Value} {K : Option Nat → Prop} (h : asM v K) : ∃ n, v = .map n ∧ K n := by unfold asM at h; split at h <;> first | exact ⟨_, rfl, h⟩ | exact h.elim
theorem asV_elim {v : Value} {K : Value → Prop} (h : asV v K) : ∃ n, v = n ∧ K n := ⟨v, rfl, h⟩
theorem asL_elim {m : Nat} {v : Value} {K : List Value → Prop} (h : asL m v K) : ∃ l : List Value, v = .agg l.toArray ∧ K l := by
  unfold asL at h; split at h
  · split at h
    · exact ⟨_, by simp, h⟩
    · exact h.elim
  · exact h.elim
theorem asU_elim {m : Nat} {v : Value} {K : List Value → Prop} (h : asU m v K) : ∃ l : List Value, v = .tuple l.toArray ∧ K l := by
  unfold asU at h; split at h
  · split at h
    · exact ⟨_, by simp, h⟩
    · exact h.elim
  · exact h.elim
theorem asNil_elim {l : List Value} {K : Prop} (h : asNil l K) : l = [] ∧ K := by unfold asNil at h; split at h <;> first | exact ⟨rfl, h⟩ | exact h.elim
theorem asCons_elim {l : List Value} {K : Value → List Value → Prop} (h : asCons l K) : ∃ x r, l = x :: r ∧ K x r := by unfold asCons at h; split at h <;> first | exact ⟨_, _, rfl, h⟩ | exact h.elim

/-! ## Functions -/

def resL (P : Program) (e : Env) (w : World) : List ResultVar → (List Value → Prop) → Prop
  | [], K => K []
  | .tmp t :: r, K => onV (getV e t) fun v => resL P e w r fun vs => K (v :: vs)
  | .cell t ty :: r, K => onV (getV e t) fun
    | .pointer (some a) => Ld P w ty a fun v => resL P e w r fun vs => K (v :: vs)
    | _ => False

def postD (P : Program) (rs : List ResultVar) (R : Value → World → Prop) : Post
  | .exit _, _, _ => False
  | _, e, w => resL P e w rs fun vs => match vs with
    | [v] => R v w
    | vs => R (.tuple vs.toArray) w

def entry : List Value → Nat → Env
  | [], _ => []
  | v :: vs, n => ⟨n, v, none⟩ :: entry vs (n + 1)

theorem entry_mem : ∀ {vs : List Value} {n : Nat} {x : Entry}, x ∈ entry vs n → ∃ j, j < vs.length ∧ x.tmp = n + j ∧ some x.val = vs[j]? ∧ x.kn = none
  | [], n, x, h => by cases h
  | v :: vs, n, x, h => by
    unfold entry at h
    rcases List.mem_cons.1 h with rfl | h
    · exact ⟨0, by simp, rfl, rfl, rfl⟩
    · obtain ⟨j, h1, h2, h3, h4⟩ := entry_mem h
      exact ⟨j + 1, by simp [h1], by omega, by simpa using h3, h4⟩

theorem rep_entry {args : List Value} {N : Nat} (h : args.length ≤ N) :
    Rep N { tmps := args.toArray ++ Array.replicate (N - args.toArray.size) undef, defers := [] } (entry args 0) where
  defers := rfl
  size := by simp; omega
  ent := by
    intro t x hx
    obtain ⟨hmem, rfl⟩ := find_mem hx
    obtain ⟨j, hj, ht, hv, hk⟩ := entry_mem hmem
    refine ⟨?_, fun b hb => by rw [hk] at hb; cases hb⟩
    rw [ht, Nat.zero_add, hv]
    simp [Array.getElem?_append, hj]

theorem resL_sound {P : Program} {N : Nat} {e : Env} {a : Act} {w : World} (hr : Rep N a e) : ∀ {rs : List ResultVar} {K : List Value → Prop}, resL P e w rs K →
    ∃ vs, K vs ∧ vs.length = rs.length ∧ (rs.mapM fun (r : ResultVar) => (match r with
      | .tmp t => pure (a.tmps.getD t undef)
      | .cell ad t => do loadVar t (← asAddr (a.tmps.getD ad undef)) : Sem Value)).run P w = .ok vs w
  | [], K, h => ⟨[], h, rfl, rfl⟩
  | .tmp t :: r, K, h => by
    obtain ⟨v, hv, h⟩ := onV_elim h
    obtain ⟨vs, hk, hl, hrun⟩ := resL_sound hr h
    obtain ⟨x, hx, hxv⟩ := getV_find hv
    have h1 := (hr.ent t x hx).1
    rw [hxv] at h1
    refine ⟨v :: vs, hk, by simp [hl], ?_⟩
    simp only [List.mapM_cons, Sem.run_bind, Sem.run_pure, Result.andThen_ok]
    rw [hrun]
    simp [h1]
  | .cell t ty :: r, K, h => by
    obtain ⟨v, hv, h⟩ := onV_elim h
    split at h
    · rename_i ad
      obtain ⟨u, hk, hld⟩ := Ld_sound h
      obtain ⟨vs, hk, hl, hrun⟩ := resL_sound hr hk
      obtain ⟨x, hx, hxv⟩ := getV_find hv
      have h1 := (hr.ent t x hx).1
      rw [hxv] at h1
      refine ⟨u :: vs, hk, by simp [hl], ?_⟩
      have h2 : (loadVar ty ad).run P w = .ok u w := hld w (by split <;> intros <;> rfl)
      have h3 : (asAddr (a.tmps.getD t undef)).run P w = .ok ad w := by simp [asAddr, h1]
      simp only [List.mapM_cons, Sem.run_bind, h3, Result.andThen_ok, h2]
      rw [hrun]
      rfl
    · exact h.elim

theorem run_results {P : Program} {fn : Func} {N : Nat} {e : Env} {a : Act} {w : World} {R : Value → World → Prop} (hr : Rep N a e)
    (h : resL P e w fn.results.toList fun vs => match vs with
      | [v] => R v w
      | vs => R (.tuple vs.toArray) w) : ∃ v, (results fn a.tmps).run P w = .ok v w ∧ R v w := by
  obtain ⟨vs, hk, hl, hrun⟩ := resL_sound hr h
  have harr : (fn.results.mapM fun (r : ResultVar) => (match r with
      | .tmp t => pure (a.tmps.getD t undef)
      | .cell ad t => do loadVar t (← asAddr (a.tmps.getD ad undef)) : Sem Value)).run P w = .ok vs.toArray w := by
    obtain ⟨l, hl'⟩ : ∃ l, fn.results = List.toArray l := ⟨fn.results.toList, by simp⟩
    rw [hl'] at hrun ⊢
    simp only [List.mapM_toArray]
    simp only [Functor.map, Sem.run_bind', hrun, Result.andThen_ok]
    rfl
  unfold results
  simp only [Sem.run_bind]
  refine ⟨if h : vs.toArray.size = 1 then vs.toArray[0] else .tuple vs.toArray, ?_, ?_⟩
  · erw [harr]
    rfl
  · match vs, hk with
    | [], hk => simpa using hk
    | [v], hk => simpa using hk
    | v :: u :: r, hk => simpa using hk

theorem calls_of_den {P : Program} (hP : AllCallable P) (hm : P.follows .mixedOrders = true) {f : FuncId} {fn : Func} {c : Code} (hf : P.funcs[f]? = some fn) (hb : fn.body = some c)
    {G : Gen} (hL : LoopOk P fn.ntmps G c) {args : List Value} (hn : Nat.ble args.length fn.ntmps = true) {w : World} {R : Value → World → Prop}
    (h : den P fn.ntmps G c [] (postD P fn.results.toList R) (entry args 0) w) : Calls P f args.toArray w fun e w' => ∃ v, e = .returned v ∧ R v w' := by
  refine calls_of_wp hf hb (wp_mono (den_sound hP hm hL c [] rfl (Nat.le_refl 0) _ _ w _ (rep_entry (Nat.le_of_ble_eq_true hn)) h) fun ex a w hq => ?_)
  cases ex with
  | normal =>
    obtain ⟨e, hr, h⟩ := hq
    obtain ⟨v, hv, hR⟩ := run_results hr h
    exact ⟨hr.defers, v, hv, v, rfl, hR⟩
  | ret =>
    obtain ⟨e, hr, h⟩ := hq
    obtain ⟨v, hv, hR⟩ := run_results hr h
    exact ⟨hr.defers, v, hv, v, rfl, hR⟩
  | exit id => obtain ⟨e, hr, h⟩ := hq; exact h.elim
  | goto l => exact hq.elim
  | panic c => exact hq.elim
  | outgrown => exact hq.elim

/-! ## The formulas' words -/

def drw (w : World) : World := { w with drawn := w.drawn + 1 }

def BSl (P : Program) (t : TypeId) (len : Nat) (ps : List (Nat × Value)) (w : World) (K : Option Addr → Nat → Nat → World → Prop) : Prop :=
  Run P (Instr.buildSlice t len ps.toArray) w fun v w1 => ∃ p n c, v = .slice p n c ∧ K p n c w1
def MkSl (P : Program) (t : TypeId) (l c : Value) (w : World) (K : Option Addr → Nat → Nat → World → Prop) : Prop :=
  Run P (Instr.makeSlice t l c) w fun v w1 => ∃ p n c, v = .slice p n c ∧ K p n c w1
def App (P : Program) (ts : Array TypeId) (ty : TypeId) (vs : Array Value) (w : World) (K : Option Addr → Nat → Nat → World → Prop) : Prop :=
  Run P (Builtin.append_ ts ty vs) w fun v w1 => ∃ p n c, v = .slice p n c ∧ K p n c w1
def Cpy (P : Program) (ts : Array TypeId) (ty : TypeId) (vs : Array Value) (w : World) (K : Int → World → Prop) : Prop :=
  Run P (Builtin.copy_ ts ty vs) w fun v w1 => ∃ n, v = .int .i64 n ∧ K n w1
def MLen (P : Program) (ts : Array TypeId) (ty : TypeId) (vs : Array Value) (w : World) (K : Int → World → Prop) : Prop :=
  Run P (Builtin.len_ ts ty vs) w fun v w1 => ∃ n, v = .int .i64 n ∧ K n w1
def Clr (P : Program) (ts : Array TypeId) (ty : TypeId) (vs : Array Value) (w : World) (K : Value → World → Prop) : Prop := Run P (Builtin.clear_ ts ty vs) w K
def Del (P : Program) (ts : Array TypeId) (ty : TypeId) (vs : Array Value) (w : World) (K : Value → World → Prop) : Prop := Run P (Builtin.delete_ ts ty vs) w K
def MUp (P : Program) (t : TypeId) (m k v : Value) (w : World) (K : World → Prop) : Prop := Run P (Instr.mapUpdate t m k v) w fun _ w1 => K w1
def Rng (P : Program) (t : TypeId) (x : Value) (w : World) (K : Option Addr → World → Prop) : Prop := Run P (Instr.range t x) w fun v w1 => ∃ p, v = .pointer p ∧ K p w1
def AggEq (P : Program) (t : TypeId) (x y : Value) (K : Bool → Prop) : Prop := ∃ b, (∀ w, (Op.equal t x y).run P w = .ok b w) ∧ K b

end Go.D
