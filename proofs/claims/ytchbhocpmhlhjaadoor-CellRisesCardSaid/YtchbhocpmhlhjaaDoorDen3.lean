/- Regions in a fixed order, code, loops, functions: the reading, and its soundness. -/
import Derived.Test.YtchbhocpmhlhjaaDoorDen2
namespace Go.D

def convV (P : Program) (src dst : TypeId) : Bool :=
  match P.underlying src, P.underlying dst with
  | some (.int _), some (.int _) => true
  | some .string, some .string => true
  | _, _ => false

def lenV (P : Program) (t : TypeId) : Bool :=
  match P.underlying t with
  | some .string => true
  | some (.slice _) => true
  | some (.array _ _) => true
  | _ => false

def isAssign (o : Oper) : Bool := match o.op with | .assign _ => true | _ => false
def isLoad (o : Oper) : Bool := match o.op with | .load _ _ => true | _ => false

/-- A value is made; the world is only read. -/
def isV (P : Program) (o : Oper) : Bool :=
  match o.op with
  | .move _ | .pick _ _ _ | .nilCheck _ | .fieldAddr _ _ _ | .field _ _ _ | .indexAddr _ _ _ | .index _ _ _ | .binOp _ _ _ _ _ | .unOp _ _ _
  | .extract _ _ | .makeFunc _ _ _ | .build _ _ | .load _ _ | .slice _ _ _ _ _ => true
  | .convert src dst _ => convV P src dst
  | .call { callee := .builtin .len, args := _, argTypes := ts } => match ts.toList with
    | [t] => lenV P t
    | _ => false
  | .call { callee := .builtin .cap, args := _, argTypes := _ } => true
  | .call { callee := .builtin .min, args := _, argTypes := _ } => true
  | .call { callee := .builtin .max, args := _, argTypes := _ } => true
  | _ => false

/-! ## Frames -/

structure Rep (N : Nat) (a : Act) (e : Env) : Prop where
  defers : a.defers = []
  size : a.tmps.size = N
  ent : ∀ t x, find e t = some x → a.tmps[t]? = some x.val ∧ ∀ b, x.kn = some b → x.val = .bool b

theorem getV_find {e : Env} {t : Nat} {v : Value} (h : getV e t = some v) : ∃ x, find e t = some x ∧ x.val = v := by
  unfold getV at h; split at h
  · rename_i x hx; exact ⟨x, hx, by simpa using h⟩
  · cases h

theorem getK_find {e : Env} {t : Nat} {b : Bool} (h : getK e t = some b) : ∃ x, find e t = some x ∧ x.kn = some b := by
  unfold getK at h; split at h
  · rename_i x hx; exact ⟨x, hx, h⟩
  · cases h

theorem Rep.agree {N : Nat} {a : Act} {e : Env} (h : Rep N a e) : Agree a.eval e where
  val := by
    intro x v hv
    cases x with
    | tmp t =>
      obtain ⟨x, hx, rfl⟩ := getV_find hv
      simp [Act.eval, (h.ent t x hx).1]
    | const u => simpa [ev, Act.eval] using hv
    | global g => simpa [ev, Act.eval] using hv
    | func f => simpa [ev, Act.eval] using hv
  kn := by
    intro x b hb
    cases x with
    | tmp t =>
      obtain ⟨x, hx, hk⟩ := getK_find hb
      have := h.ent t x hx
      simp [Act.eval, this.1, this.2 b hk]
    | const u => cases u <;> simp [evK] at hb; simp [Act.eval, hb]
    | global g => simp [evK] at hb
    | func f => simp [evK] at hb

theorem Rep.push {N : Nat} {a : Act} {e : Env} (h : Rep N a e) {d : Nat} {v : Value} {k : Option Bool} (hd : d < N) (hk : ∀ b, k = some b → v = .bool b) :
    Rep N (a.put (some d) v) (⟨d, v, k⟩ :: e) where
  defers := h.defers
  size := by simp [Act.put, h.size]
  ent := by
    intro t x hx
    unfold find at hx
    split at hx
    · rename_i ht
      obtain rfl : d = t := Nat.eq_of_beq_eq_true ht
      obtain rfl : _ = x := by simpa using hx
      refine ⟨?_, hk⟩
      simp [Act.put, h.size, hd]
    · rename_i ht
      have hne : d ≠ t := by intro e; subst e; simp at ht
      have := h.ent t x hx
      refine ⟨?_, this.2⟩
      simp only [Act.put]
      rw [Array.getElem?_setIfInBounds_ne hne]
      exact this.1

theorem Rep.learn {N : Nat} {a : Act} {e : Env} (h : Rep N a e) {t : Nat} {b : Bool} (hv : a.tmps[t]? = some (.bool b)) :
    Rep N a (⟨t, .bool b, some b⟩ :: e) where
  defers := h.defers
  size := h.size
  ent := by
    intro u x hx
    unfold find at hx
    split at hx
    · rename_i ht
      obtain rfl : t = u := Nat.eq_of_beq_eq_true ht
      obtain rfl : _ = x := by simpa using hx
      exact ⟨hv, fun c hc => by simp at hc; simp [hc]⟩
    · exact h.ent u x hx

/-! ## One operation -/

def knOf (o : Oper) (e : Env) : Option Bool :=
  match o.op with
  | .move x => evK e x
  | .assign x => evK e x
  | .pick c a b => match evK e c with
    | some true => evK e a
    | some false => evK e b
    | none => none
  | _ => none

def putD (N : Nat) (o : Oper) (e : Env) (v : Value) (k : Option Bool) (K : Env → Prop) : Prop :=
  match o.dst with
  | none => K e
  | some d => match Nat.blt d N with
    | true => K (⟨d, v, k⟩ :: e)
    | false => False

theorem putD_sound {N : Nat} {o : Oper} {e : Env} {a : Act} {v : Value} {k : Option Bool} {K : Env → Prop} (h : putD N o e v k K) (hr : Rep N a e)
    (hk : ∀ b, k = some b → v = .bool b) : ∃ e', Rep N (a.put o.dst v) e' ∧ K e' := by
  unfold putD at h
  split at h
  · rename_i hd; rw [hd]; exact ⟨e, hr, h⟩
  · rename_i d hd
    split at h
    · rename_i hb
      rw [hd]
      exact ⟨_, hr.push (Nat.le_of_ble_eq_true hb) hk, h⟩
    · exact h.elim

theorem knOf_sound {P : Program} {o : Oper} {e : Env} {ρ : Operand → Value} {w : World} {v : Value} (hρ : Agree ρ e)
    (hrun : (execOp ρ o).run P w = .ok (.value v) w) : ∀ b, knOf o e = some b → v = .bool b := by
  intro b hb
  obtain ⟨dst, op, ty, pos, after, guard⟩ := o
  unfold knOf at hb
  dsimp only at hb
  split at hb
  · have := hρ.kn _ _ hb
    simp [execOp, this] at hrun
    exact hrun.symm
  · have := hρ.kn _ _ hb
    simp [execOp, this] at hrun
    exact hrun.symm
  · split at hb
    · rename_i hc
      have h1 := hρ.kn _ _ hc
      have h2 := hρ.kn _ _ hb
      simp [execOp, h1, h2, asBool] at hrun
      exact hrun.symm
    · rename_i hc
      have h1 := hρ.kn _ _ hc
      have h2 := hρ.kn _ _ hb
      simp [execOp, h1, h2, asBool] at hrun
      exact hrun.symm
    · cases hb
  · cases hb

def vOp (P : Program) (o : Oper) : Bool := isV P o || isAssign o

def stepD (P : Program) (N : Nat) (ops : Array Oper) (o : Oper) (e : Env) (w : World) (K : Env → World → Prop) : Prop :=
  match vOp P o with
  | true => opV P e w o fun v => putD N o e v (knOf o e) fun e => K e w
  | false => opE P (partT ops.toList o.dst) e w o fun v w1 => putD N o e v none fun e => K e w1

theorem holdD_refl {P : Program} {e : Env} {w : World} {o : Oper} {K : Value → Prop} (h : opV P e w o K) : holdD P e o w w := by
  obtain ⟨dst, op, ty, pos, after, guard⟩ := o
  unfold holdD
  dsimp only
  split
  · rename_i t x
    unfold opV at h
    dsimp only at h
    obtain ⟨v, hv, h⟩ := onV_elim h
    rw [hv]
    unfold onV
    dsimp only
    split at h
    · split
      · rfl
      · intro i _; rfl
    · exact h.elim
  · trivial

/-- What one operation hands on, in a frame that is told by an environment. -/
theorem stepD_sound {P : Program} (hP : AllCallable P) {N : Nat} {ops : Array Oper} {o : Oper} {e : Env} {a : Act} {w : World} {K : Env → World → Prop} (h : stepD P N ops o e w K) (hr : Rep N a e) :
    Gets P ((execOp a.eval o).run P w) fun v w1 => ∃ e', Rep N (a.put o.dst v) e' ∧ K e' w1 := by
  unfold stepD at h
  split at h
  · obtain ⟨v, hk, hg⟩ := opV_sound hr.agree h
    have hrun := hg w (holdD_refl h)
    rw [hrun]
    exact putD_sound hk hr (knOf_sound hr.agree hrun)
  · exact (opE_sound hP hr.agree h).mono fun v w1 hk => putD_sound hk hr (fun b hb => by cases hb)

def guardD (ops : Array Oper) (o : Oper) (e : Env) (yes no : Env → Prop) : Prop :=
  match o.guard with
  | none => yes e
  | some (j, want) => match (ops[j]?).bind (·.dst) with
    | none => False
    | some t => match getK e t with
      | some b => match b, want with
        | true, true => yes e
        | false, false => yes e
        | _, _ => no e
      | none => onV (getV e t) fun
        | .bool b => match want with
          | true => If b (yes (⟨t, .bool true, some true⟩ :: e)) (no (⟨t, .bool false, some false⟩ :: e))
          | false => If b (no (⟨t, .bool true, some true⟩ :: e)) (yes (⟨t, .bool false, some false⟩ :: e))
        | .tuple _ => no e
        | _ => False

theorem guardD_sound {N : Nat} {ops : Array Oper} {o : Oper} {e : Env} {a : Act} {yes no : Env → Prop} (h : guardD ops o e yes no) (hr : Rep N a e) :
    ∃ e', Rep N a e' ∧ ((Region.wanted o (yielded ops a.tmps) = true ∧ yes e') ∨ (Region.wanted o (yielded ops a.tmps) = false ∧ no e')) := by
  unfold guardD at h
  split at h
  · rename_i hg; exact ⟨e, hr, .inl ⟨by simp [Region.wanted, hg], h⟩⟩
  · rename_i j want hg
    split at h
    · exact h.elim
    · rename_i t ht
      split at h
      · rename_i b hb
        obtain ⟨x, hx, hk⟩ := getK_find hb
        have h1 := hr.ent t x hx
        have hy : yielded ops a.tmps j = some b := by simp [yielded, ht, h1.1, h1.2 b hk]
        refine ⟨e, hr, ?_⟩
        split at h
        · exact .inl ⟨by simp [Region.wanted, hg, hy], h⟩
        · exact .inl ⟨by simp [Region.wanted, hg, hy], h⟩
        · rename_i n1 n2
          refine .inr ⟨?_, h⟩
          simp only [Region.wanted, hg, hy]
          cases b <;> cases want <;> first | rfl | (exact (n1 rfl rfl).elim) | (exact (n2 rfl rfl).elim)
      · obtain ⟨v, hv, h⟩ := onV_elim h
        split at h
        · rename_i b
          obtain ⟨x, hx, hxv⟩ := getV_find hv
          have h1 := (hr.ent t x hx).1
          rw [hxv] at h1
          have hy : yielded ops a.tmps j = some b := by simp [yielded, ht, h1]
          split at h
          · cases b with
            | true => exact ⟨_, hr.learn h1, .inl ⟨by simp [Region.wanted, hg, hy], h.1 rfl⟩⟩
            | false => exact ⟨_, hr.learn h1, .inr ⟨by simp [Region.wanted, hg, hy], h.2 rfl⟩⟩
          · cases b with
            | true => exact ⟨_, hr.learn h1, .inr ⟨by simp [Region.wanted, hg, hy], h.1 rfl⟩⟩
            | false => exact ⟨_, hr.learn h1, .inl ⟨by simp [Region.wanted, hg, hy], h.2 rfl⟩⟩
        · rename_i vs
          obtain ⟨x, hx, hxv⟩ := getV_find hv
          have h1 := (hr.ent t x hx).1
          rw [hxv] at h1
          have hy : yielded ops a.tmps j = none := by simp [yielded, ht, h1]
          exact ⟨e, hr, .inr ⟨by simp [Region.wanted, hg, hy], h⟩⟩
        · exact h.elim

/-! ## A region in the order of the text -/

def opsD (P : Program) (N : Nat) (ops : Array Oper) : List Oper → Env → World → (Env → World → Prop) → Prop
  | [], e, w, K => K e w
  | o :: rest, e, w, K => guardD ops o e (fun e => stepD P N ops o e w fun e w => opsD P N ops rest e w K) (fun e => putD N o e undef none fun e => opsD P N ops rest e w K)

theorem opsD_sound {P : Program} (hP : AllCallable P) {N : Nat} {ops : Array Oper} {Q : Exit → Act → World → Prop} {K : Env → World → Prop}
    (hQ : ∀ a e w, Rep N a e → K e w → Q .normal a w) : ∀ (l : List Oper) (k : Nat) (e : Env) (a : Act) (w : World), ops.toList.drop k = l → opsD P N ops l e w K → Rep N a e →
      wpOps P ops Q (List.range' k l.length) a w
  | [], k, e, a, w, _, h, hr => hQ a e w hr h
  | o :: rest, k, e, a, w, hl, h, hr => by
    have hk : ops[k]? = some o := by
      have : (ops.toList.drop k)[0]? = some o := by rw [hl]; rfl
      simpa using this
    have hl' : ops.toList.drop (k + 1) = rest := by
      rw [← List.tail_drop, hl]; rfl
    unfold opsD at h
    obtain ⟨e', hr', h⟩ := guardD_sound h hr
    simp only [List.length_cons, List.range'_succ, wpOps, hk]
    rcases h with ⟨hw, h⟩ | ⟨hw, h⟩
    · rw [if_pos hw]
      refine .inl (Gets.wp (stepD_sound hP h hr') fun v w1 ⟨e2, hr2, hk2⟩ => ?_)
      exact opsD_sound hP hQ rest (k + 1) e2 _ w1 hl' hk2 hr2
    · rw [if_neg (by simp [hw])]
      obtain ⟨e2, hr2, hk2⟩ := putD_sound h hr' (fun b hb => by cases hb)
      exact opsD_sound hP hQ rest (k + 1) e2 _ w hl' hk2 hr2

end Go.D
