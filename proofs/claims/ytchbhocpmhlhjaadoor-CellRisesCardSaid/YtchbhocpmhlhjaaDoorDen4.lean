/- Regions that draw their order: one order serves all, where the operations may be taken first; the reading, and its soundness. -/
import Derived.Test.YtchbhocpmhlhjaaDoorDen3
namespace Go.D

inductive Plan where
  | done
  | take (i : Nat) (p : Plan)
  | both (i : Nat) (p : Plan) (j : Nat) (q : Plan)

/-- Is operation i before operation k? M: of each operation, those that are before it. -/
def mhas (M : List Nat) (k i : Nat) : Bool := (M.getD k 0).testBit i

def maskL (M : List Nat) : List Edge → Nat → Nat
  | [], s => s
  | e :: r, s => match Region.binds .any e with
    | true => maskL M r (s ||| 2 ^ e.on ||| M.getD e.on 0)
    | false => maskL M r s

def edgesL (k : Nat) : List Edge → Bool
  | [] => true
  | e :: r => (!Region.binds .any e || Nat.blt e.on k) && edgesL k r

def chkE (M : List Nat) : List Oper → Nat → Bool
  | [], _ => true
  | o :: r, k => Nat.beq (M.getD k 0) (maskL M o.after.toList 0) && edgesL k o.after.toList && chkE M r (k + 1)

def hasT (l : List Nat) (t : Nat) : Bool := l.any fun x => Nat.beq x t

def isDst (o : Oper) (t : Nat) : Bool := match o.dst with
  | some d => Nat.beq d t
  | none => false

def okPair (P : Program) (ops : Array Oper) (M : List Nat) (i : Nat) (oi : Oper) (d k : Nat) (ok : Oper) : Bool :=
  (Nat.beq k i || !isDst ok d) &&
  (mhas M i k || (match ok.dst with | none => true | some dk => !hasT (oi.looksAt ops) dk) || (!isV P ok && mhas M k i)) &&
  (!hasT (ok.looksAt ops) d || mhas M k i)

def okAll (P : Program) (ops : Array Oper) (M : List Nat) (i : Nat) (oi : Oper) (d : Nat) : List Oper → Nat → Bool
  | [], _ => true
  | ok :: r, k => okPair P ops M i oi d k ok && okAll P ops M i oi d r (k + 1)

def chkV (P : Program) (ops : Array Oper) (M : List Nat) : List Oper → Nat → Bool
  | [], _ => true
  | oi :: r, i => (match isV P oi with
      | true => match oi.dst with
        | some d => okAll P ops M i oi d ops.toList 0
        | none => false
      | false => true) && chkV P ops M r (i + 1)

def chkR (P : Program) (ops : Array Oper) (M : List Nat) : Bool :=
  chkE M ops.toList 0 && chkV P ops M ops.toList 0 && ops.toList.all (fun o => match o.op with | .select _ _ => false | _ => true)

def inL : List Nat → Nat → Bool
  | [], _ => false
  | x :: r, t => match Nat.beq x t with
    | true => true
    | false => inL r t

theorem inL_iff {l : List Nat} {t : Nat} : inL l t = true ↔ t ∈ l := by
  induction l with
  | nil => simp [inL]
  | cons x r ih =>
    unfold inL
    by_cases h : x = t
    · subst h; simp
    · have : Nat.beq x t = false := by
        cases hb : Nat.beq x t with
        | false => rfl
        | true => exact absurd (Nat.eq_of_beq_eq_true hb) h
      rw [this]; simp [ih, Ne.symm h]

def depsIn (L : List Nat) : List Edge → Bool
  | [] => true
  | e :: r => (!Region.binds .any e || inL L e.on) && depsIn L r

/-- All but those that wait for operation i have come up. -/
def forced (M : List Nat) (L : List Nat) (i : Nat) : Nat → Bool
  | 0 => true
  | n + 1 => (inL L n || Nat.beq n i || mhas M n i) && forced M L i n

def forced2 (M : List Nat) (L : List Nat) (i j : Nat) : Nat → Bool
  | 0 => true
  | n + 1 => (inL L n || Nat.beq n i || Nat.beq n j || mhas M n i || mhas M n j) && forced2 M L i j n

def allL (L : List Nat) : Nat → Bool
  | 0 => true
  | n + 1 => inL L n && allL L n

abbrev Held := List (Nat × (World → Prop))

def heldD (M : List Nat) (i : Nat) (w1 : World) (K : Prop) : Held → Prop
  | [] => K
  | (r, h) :: rs => match mhas M i r with
    | true => heldD M i w1 K rs
    | false => h w1 ∧ heldD M i w1 K rs

def dropH (M : List Nat) (i : Nat) : Held → Held
  | [] => []
  | (r, h) :: rs => match mhas M i r with
    | true => dropH M i rs
    | false => (r, h) :: dropH M i rs

/-- An operation that may change the world, with what it must leave as it was. -/
def execD (P : Program) (N : Nat) (ops : Array Oper) (M : List Nat) (i : Nat) (o : Oper) (H : Held) (e : Env) (w : World) (K : Env → World → Prop) : Prop :=
  guardD ops o e (fun e => stepD P N ops o e w fun e1 w1 => heldD M i w1 (K e1 w1) H) (fun e => putD N o e undef none fun e => K e w)

def planD (P : Program) (N : Nat) (ops : Array Oper) (M : List Nat) : Plan → List Nat → Held → Env → World → (Env → World → Prop) → Prop
  | .done, L, _, e, w, K => match allL L ops.size with
    | true => K e w
    | false => False
  | .take i p, L, H, e, w, K =>
    match ops[i]? with
    | none => False
    | some o => match !inL L i && depsIn L o.after.toList with
      | false => False
      | true => match isV P o with
        | true => guardD ops o e
            (fun e => opV P e w o fun v => putD N o e v (knOf o e) fun e1 => planD P N ops M p (i :: L) (match isLoad o with | true => (i, fun w' => holdD P e o w w') :: H | false => H) e1 w K)
            (fun e => putD N o e undef none fun e => planD P N ops M p (i :: L) H e w K)
        | false => match forced M L i ops.size with
          | true => execD P N ops M i o H e w fun e1 w1 => planD P N ops M p (i :: L) (dropH M i H) e1 w1 K
          | false => False
  | .both i p j q, L, H, e, w, K =>
    match ops[i]?, ops[j]? with
    | some o, some u => match !inL L i && depsIn L o.after.toList && !inL L j && depsIn L u.after.toList && !isV P o && !isV P u && forced2 M L i j ops.size with
      | true => (execD P N ops M i o H e w fun e1 w1 => planD P N ops M p (i :: L) (dropH M i H) e1 w1 K) ∧
          (execD P N ops M j u H e w fun e1 w1 => planD P N ops M q (j :: L) (dropH M j H) e1 w1 K)
      | false => False
    | _, _ => False

/-! ## Soundness -/
section
variable {P : Program} {N : Nat} {ops : Array Oper} {M : List Nat}

theorem maskL_spec {M : List Nat} {i : Nat} : ∀ {l : List Edge} {s : Nat}, (maskL M l s).testBit i = true ↔
    s.testBit i = true ∨ ∃ e ∈ l, Region.binds .any e = true ∧ (i = e.on ∨ (M.getD e.on 0).testBit i = true)
  | [], s => by simp [maskL]
  | e :: r, s => by
    unfold maskL
    split
    · rename_i hb
      rw [maskL_spec]
      simp only [Nat.testBit_or, Bool.or_eq_true, Nat.testBit_two_pow, decide_eq_true_eq, List.mem_cons, exists_eq_or_imp, hb, true_and]
      constructor
      · rintro ((h | h) | h)
        · rcases h with h | h
          · exact .inl h
          · exact .inr (.inl (.inl h.symm))
        · exact .inr (.inl (.inr h))
        · exact .inr (.inr h)
      · rintro (h | (h | h) | h)
        · exact .inl (.inl (.inl h))
        · exact .inl (.inl (.inr h.symm))
        · exact .inl (.inr h)
        · exact .inr h
    · rename_i hb
      rw [maskL_spec]
      simp [hb]

theorem edgesL_spec {k : Nat} : ∀ {l : List Edge}, edgesL k l = true → ∀ e ∈ l, Region.binds .any e = true → e.on < k
  | [], _, e, he, _ => by cases he
  | x :: r, h, e, he, hb => by
    simp only [edgesL, Bool.and_eq_true, Bool.or_eq_true, Bool.not_eq_true'] at h
    rcases List.mem_cons.1 he with rfl | he
    · rcases h.1 with h1 | h1
      · rw [hb] at h1; cases h1
      · exact Nat.le_of_ble_eq_true h1
    · exact edgesL_spec h.2 e he hb

theorem chkE_spec : ∀ {l : List Oper} {k : Nat}, chkE M l k = true → ∀ j o, l[j]? = some o → M.getD (k + j) 0 = maskL M o.after.toList 0 ∧ edgesL (k + j) o.after.toList = true
  | [], k, _, j, o, ho => by simp at ho
  | x :: r, k, h, j, o, ho => by
    simp only [chkE, Bool.and_eq_true] at h
    cases j with
    | zero =>
      obtain rfl : x = o := by simpa using ho
      exact ⟨Nat.eq_of_beq_eq_true h.1.1, h.1.2⟩
    | succ j =>
      have := chkE_spec h.2 j o (by simpa using ho)
      rw [show k + (j + 1) = k + 1 + j by omega]
      exact this

structure Good (P : Program) (ops : Array Oper) (M : List Nat) : Prop where
  mask : ∀ {k : Nat} {o : Oper} {i : Nat}, ops[k]? = some o → (mhas M k i = true ↔ ∃ e ∈ o.after, Region.binds .any e = true ∧ (i = e.on ∨ mhas M e.on i = true))
  lt : ∀ {k : Nat} {o : Oper} {e : Edge}, ops[k]? = some o → e ∈ o.after → Region.binds .any e = true → e.on < k
  pair : ∀ {i : Nat} {oi : Oper} {k : Nat} {ok : Oper}, ops[i]? = some oi → isV P oi = true → ops[k]? = some ok → ∃ d, oi.dst = some d ∧ okPair P ops M i oi d k ok = true
  nosel : ∀ {k : Nat} {o : Oper} {cs : Array SelectCase} {b : Bool}, ops[k]? = some o → o.op ≠ .select cs b

theorem okAll_spec {i d : Nat} {oi : Oper} : ∀ {l : List Oper} {k : Nat}, okAll P ops M i oi d l k = true → ∀ j o, l[j]? = some o → okPair P ops M i oi d (k + j) o = true
  | [], k, _, j, o, ho => by simp at ho
  | x :: r, k, h, j, o, ho => by
    simp only [okAll, Bool.and_eq_true] at h
    cases j with
    | zero => obtain rfl : x = o := by simpa using ho
              exact h.1
    | succ j =>
      have := okAll_spec h.2 j o (by simpa using ho)
      rw [show k + (j + 1) = k + 1 + j by omega]
      exact this

theorem chkV_spec : ∀ {l : List Oper} {i : Nat}, chkV P ops M l i = true → ∀ j oi, l[j]? = some oi → isV P oi = true → ∃ d, oi.dst = some d ∧ okAll P ops M (i + j) oi d ops.toList 0 = true
  | [], i, _, j, o, ho, _ => by simp at ho
  | x :: r, i, h, j, o, ho, hv => by
    simp only [chkV, Bool.and_eq_true] at h
    cases j with
    | zero =>
      obtain rfl : x = o := by simpa using ho
      have h1 := h.1
      rw [hv] at h1
      dsimp only at h1
      cases hd : x.dst with
      | none => rw [hd] at h1; cases h1
      | some d => rw [hd] at h1; exact ⟨d, rfl, h1⟩
    | succ j =>
      have := chkV_spec h.2 j o (by simpa using ho) hv
      rw [show i + (j + 1) = i + 1 + j by omega]
      exact this

theorem good_of_chk (h : chkR P ops M = true) : Good P ops M := by
  simp only [chkR, Bool.and_eq_true] at h
  obtain ⟨⟨h1, h2⟩, h3⟩ := h
  refine ⟨fun {k o i} hk => ?_, fun {k o e} hk he hb => ?_, fun {i oi k ok} hi hv hk => ?_, fun {k o cs b} hk heq => ?_⟩
  · have := (chkE_spec h1 k o (by simpa using hk)).1
    rw [Nat.zero_add] at this
    unfold mhas
    rw [this, maskL_spec]
    simp
  · have := (chkE_spec h1 k o (by simpa using hk)).2
    rw [Nat.zero_add] at this
    exact edgesL_spec this e (by simpa using he) hb
  · obtain ⟨d, hd, h⟩ := chkV_spec h2 i oi (by simpa using hi) hv
    rw [Nat.zero_add] at h
    have := okAll_spec h k ok (by simpa using hk)
    rw [Nat.zero_add] at this
    exact ⟨d, hd, this⟩
  · have := List.all_eq_true.1 h3 o (List.mem_of_getElem? (by simpa using hk))
    simp [heq] at this

/-- What has come up is closed against what is before it. -/
def Closed (ops : Array Oper) (S : Nat → Prop) : Prop := ∀ k o, ops[k]? = some o → S k → ∀ e ∈ o.after, Region.binds .any e = true → S e.on

theorem closed_before (hg : Good P ops M) {S : Nat → Prop} (hc : Closed ops S) : ∀ (k : Nat) (o : Oper) (i : Nat), ops[k]? = some o →
    (∀ e ∈ o.after, Region.binds .any e = true → S e.on) → mhas M k i = true → S i := by
  intro k
  induction k using Nat.strongRecOn with
  | _ k ih =>
    intro o i hk hd hm
    obtain ⟨e, he, hb, h⟩ := (hg.mask hk).1 hm
    have hlt := hg.lt hk he hb
    have hl := hd e he hb
    rcases h with rfl | h
    · exact hl
    · have hks : k < ops.size := (Array.getElem?_eq_some_iff.1 hk).1
      have hon : e.on < ops.size := by omega
      have ho' : ops[e.on]? = some ops[e.on] := by simp [hon]
      exact ih e.on hlt _ i ho' (hc _ _ ho' hl) h

/-- Has it come up? -/
def Up (Ld : Array Bool) (k : Nat) : Prop := Ld.getD k false = true

theorem up_iff {Ld : Array Bool} {k : Nat} (h : k < Ld.size) : Up Ld k ↔ Ld.getD k true = true := by
  unfold Up; simp [h]

theorem up_set {Ld : Array Bool} {j k : Nat} (hj : j < Ld.size) : Up (Ld.setIfInBounds j true) k ↔ (k = j ∨ Up Ld k) := by
  unfold Up
  by_cases h : j = k
  · subst h; simp [hj]
  · rw [getD_set_ne false h]
    simp [Ne.symm h]

/-- An operation that has been taken ahead: what it yields, in whatever world holds to h. -/
structure Ahead (P : Program) (ops : Array Oper) (a : Act) (w : World) (H : Held) (o : Oper) (i : Nat) (v : Value) : Prop where
  at_ : a.tmps.size = a.tmps.size ∧ ∀ d, o.dst = some d → a.tmps[d]? = some v
  val : (Region.wanted o (yielded ops a.tmps) = true ∧ ∃ h : World → Prop, (∀ w', h w' → (execOp a.eval o).run P w' = .ok (.value v) w') ∧ h w ∧ ((∀ w', h w') ∨ (i, h) ∈ H)) ∨
    (Region.wanted o (yielded ops a.tmps) = false ∧ v = undef)

structure Sim (P : Program) (N : Nat) (ops : Array Oper) (M : List Nat) (L : List Nat) (Ld : Array Bool) (pend : List Nat) (H : Held) (a a' : Act) (w : World) : Prop where
  size : Ld.size = ops.size
  closed : Closed ops (Up Ld)
  lclosed : Closed ops (· ∈ L)
  listed : ∀ k, k < ops.size → (k ∈ L ↔ (Up Ld k ∨ k ∈ pend))
  apart : ∀ k ∈ pend, ¬ Up Ld k
  ahead : ∀ i ∈ pend, ∃ o v, ops[i]? = some o ∧ isV P o = true ∧ Ahead P ops a w H o i v
  asize : a'.tmps.size = N
  asize' : a.tmps.size = N
  adef : a'.defers = []
  frame : ∀ t, (∀ i ∈ pend, ∀ o, ops[i]? = some o → o.dst ≠ some t) → a'.tmps[t]? = a.tmps[t]?

theorem looks_operand {o : Oper} {x : Operand} {t : Nat} (hx : x ∈ o.op.operands) (ht : x = .tmp t) : t ∈ o.looksAt ops := by
  unfold Oper.looksAt
  refine List.mem_append_left _ (List.mem_filterMap.2 ⟨x, by simpa using hx, by subst ht; rfl⟩)

theorem looks_guard {o : Oper} {g : Nat} {b : Bool} {d : Nat} (hg : o.guard = some (g, b)) (hd : (ops[g]?).bind (·.dst) = some d) : d ∈ o.looksAt ops := by
  unfold Oper.looksAt
  rw [hg]
  exact List.mem_append_right _ (by simp [hd])

/-- Frames that agree on what an operation looks at run it alike. -/
theorem exec_same {o : Oper} (hs : ∀ cs b, o.op ≠ .select cs b) {a a' : Act} (h : ∀ t ∈ o.looksAt ops, a'.tmps[t]? = a.tmps[t]?) :
    execOp a'.eval o = execOp a.eval o ∧ Region.wanted o (yielded ops a'.tmps) = Region.wanted o (yielded ops a.tmps) := by
  constructor
  · refine execOp_congr o hs fun x hx => ?_
    cases x with
    | tmp t =>
      have := h t (looks_operand hx rfl)
      simp [Act.eval, this]
    | const u => rfl
    | global g => rfl
    | func f => rfl
  · unfold Region.wanted
    cases hg : o.guard with
    | none => rfl
    | some gb =>
      obtain ⟨g, b⟩ := gb
      dsimp only
      unfold yielded
      cases hd : (ops[g]?).bind (·.dst) with
      | none => rfl
      | some d =>
        have := h d (looks_guard hg hd)
        simp [this]

theorem hasT_iff {l : List Nat} {t : Nat} : hasT l t = true ↔ t ∈ l := by
  simp only [hasT, List.any_eq_true]
  constructor
  · rintro ⟨x, hx, hb⟩; rw [← Nat.eq_of_beq_eq_true hb]; exact hx
  · intro h; exact ⟨t, h, by simp⟩

/-- What an operation that may come up now looks at, is in the frame as it is told. -/
theorem Sim.looks {L : List Nat} {Ld : Array Bool} {pend : List Nat} {H : Held} {a a' : Act} {w : World} (hg : Good P ops M) (s : Sim P N ops M L Ld pend H a a' w)
    {j : Nat} {oj : Oper} (hj : ops[j]? = some oj) (hd : ∀ e ∈ oj.after, Region.binds .any e = true → Up Ld e.on) :
    ∀ t ∈ oj.looksAt ops, a'.tmps[t]? = a.tmps[t]? := by
  intro t ht
  refine s.frame t fun i hi o ho hdst => ?_
  obtain ⟨o', v, ho', hv, _⟩ := s.ahead i hi
  obtain rfl : o = o' := by rw [ho] at ho'; simpa using ho'
  obtain ⟨d, hd', hp⟩ := hg.pair ho hv hj
  obtain rfl : d = t := by rw [hdst] at hd'; simpa using hd'.symm
  simp only [okPair, Bool.and_eq_true, Bool.or_eq_true, Bool.not_eq_true'] at hp
  rcases hp.2 with h | h
  · rw [← Bool.not_eq_true, hasT_iff] at h; exact h ht
  · exact s.apart i hi (closed_before hg s.closed j oj i hj hd h)

theorem ready_iff {Ld : Array Bool} (hsz : Ld.size = ops.size) {j : Nat} : j ∈ Region.ready .any ops Ld ↔ ¬ Up Ld j ∧ ∃ o, ops[j]? = some o ∧ ∀ e ∈ o.after, Region.binds .any e = true → Up Ld e.on := by
  rw [mem_ready]
  constructor
  · rintro ⟨h, o, ho, hd⟩
    have hlt : j < Ld.size := by rw [hsz]; exact (Array.getElem?_eq_some_iff.1 ho).1
    refine ⟨?_, o, ho, hd⟩
    rw [up_iff hlt, h]; simp
  · rintro ⟨h, o, ho, hd⟩
    have hlt : j < Ld.size := by rw [hsz]; exact (Array.getElem?_eq_some_iff.1 ho).1
    refine ⟨?_, o, ho, hd⟩
    rw [up_iff hlt] at h
    simpa using h

theorem all_up (hg : Good P ops M) {Ld : Array Bool} (hsz : Ld.size = ops.size) (hr : Region.ready .any ops Ld = []) : ∀ k, k < ops.size → Up Ld k := by
  intro k
  induction k using Nat.strongRecOn with
  | _ k ih =>
    intro hk
    refine Classical.byContradiction fun hn => ?_
    have : k ∈ Region.ready .any ops Ld := (ready_iff hsz).2 ⟨hn, ops[k], by simp [hk], fun e he hb => ih e.on (hg.lt (k := k) (by simp [hk]) he hb) (by have := hg.lt (k := k) (o := ops[k]) (by simp [hk]) he hb; omega)⟩
    rw [hr] at this
    cases this

theorem closed_set {Ld : Array Bool} (hsz : Ld.size = ops.size) (hc : Closed ops (Up Ld)) {j : Nat} {oj : Oper} (hj : ops[j]? = some oj)
    (hd : ∀ e ∈ oj.after, Region.binds .any e = true → Up Ld e.on) : Closed ops (Up (Ld.setIfInBounds j true)) := by
  have hlt : j < Ld.size := by rw [hsz]; exact (Array.getElem?_eq_some_iff.1 hj).1
  intro k o hk hu e he hb
  rw [up_set hlt] at hu ⊢
  rcases hu with rfl | hu
  · obtain rfl : o = oj := by rw [hk] at hj; simpa using hj
    exact .inr (hd e he hb)
  · exact .inr (hc k o hk hu e he hb)

/-- An operation that was taken ahead comes up. -/
theorem sim_pend (hg : Good P ops M) {L : List Nat} {Ld : Array Bool} {pend : List Nat} {H : Held} {a a' : Act} {w : World} (s : Sim P N ops M L Ld pend H a a' w)
    {j : Nat} (hjp : j ∈ pend) (hr : j ∈ Region.ready .any ops Ld) {Q : Exit → Act → World → Prop} {K : Act → World → Prop}
    (hK : ∀ a'', Sim P N ops M L (Ld.setIfInBounds j true) (pend.filter (· != j)) H a a'' w → K a'' w) : wpOp P ops Q j K a' w := by
  obtain ⟨o, v, ho, hv, hah⟩ := s.ahead j hjp
  obtain ⟨hnu, o', ho', hd⟩ := (ready_iff s.size).1 hr
  obtain rfl : o = o' := by rw [ho] at ho'; simpa using ho'
  have hlt : j < Ld.size := by rw [s.size]; exact (Array.getElem?_eq_some_iff.1 ho).1
  obtain ⟨he, hw⟩ := exec_same (ops := ops) (fun cs b => hg.nosel ho) (s.looks hg ho hd)
  obtain ⟨d, hdst, _⟩ := hg.pair ho hv ho
  have hsim : Sim P N ops M L (Ld.setIfInBounds j true) (pend.filter (· != j)) H a (a'.put o.dst v) w := by
    refine ⟨by simp [s.size], closed_set s.size s.closed ho hd, s.lclosed, fun k hk => ?_, fun k hk => ?_, fun i hi => ?_, by simp [hdst, Act.put, s.asize], s.asize', by simp [hdst, Act.put, s.adef], fun t ht => ?_⟩
    · rw [s.listed k hk, up_set hlt, List.mem_filter]
      by_cases hkj : k = j
      · subst hkj; simp [hjp]
      · simp [hkj]
    · rw [List.mem_filter] at hk
      rw [up_set hlt]
      simp only [bne_iff_ne, ne_eq] at hk
      rintro (h | h)
      · exact hk.2 h
      · exact s.apart k hk.1 h
    · exact s.ahead i (List.mem_filter.1 hi).1
    · rw [hdst]
      simp only [Act.put]
      by_cases htd : d = t
      · subst htd
        have h1 := hah.at_.2 d hdst
        have h2 : d < a.tmps.size := (Array.getElem?_eq_some_iff.1 h1).1
        rw [h1]
        simp [s.asize, ← s.asize', h2]
      · rw [Array.getElem?_setIfInBounds_ne htd]
        refine s.frame t fun i hi oi hoi hdi => ?_
        by_cases hij : i = j
        · subst hij
          obtain rfl : oi = o := by rw [ho] at hoi; simpa using hoi.symm
          rw [hdst] at hdi; exact htd (by simpa using hdi)
        · exact ht i (List.mem_filter.2 ⟨hi, by simpa using hij⟩) oi hoi hdi
  unfold wpOp
  simp only [ho]
  rcases hah.val with ⟨hwt, h, hrun, hh, _⟩ | ⟨hwf, rfl⟩
  · rw [if_pos (by rw [hw]; exact hwt)]
    refine .inl (Gets.wp (R := fun u w1 => u = v ∧ w1 = w) ?_ ?_)
    · rw [he, hrun w hh]; exact ⟨rfl, rfl⟩
    · rintro u w1 ⟨rfl, rfl⟩; exact hK _ hsim
  · rw [if_neg (by rw [hw, hwf]; simp)]
    exact hK _ hsim

/-- An operation that only makes a value is taken ahead. -/
theorem sim_take (hg : Good P ops M) {L : List Nat} {Ld : Array Bool} {pend : List Nat} {H : Held} {a a' : Act} {w : World} (s : Sim P N ops M L Ld pend H a a' w)
    {i : Nat} {o : Oper} (ho : ops[i]? = some o) (hv : isV P o = true) (hL : i ∉ L) (hdep : ∀ e ∈ o.after, Region.binds .any e = true → e.on ∈ L) {v : Value} {H' : Held}
    (hH : ∀ x, x ∈ H → x ∈ H')
    (hval : (Region.wanted o (yielded ops a.tmps) = true ∧ ∃ h : World → Prop, (∀ w', h w' → (execOp a.eval o).run P w' = .ok (.value v) w') ∧ h w ∧ ((∀ w', h w') ∨ (i, h) ∈ H')) ∨
      (Region.wanted o (yielded ops a.tmps) = false ∧ v = undef)) (hdN : ∀ d, o.dst = some d → d < N) :
    Sim P N ops M (i :: L) Ld (i :: pend) H' (a.put o.dst v) a' w := by
  have hlt : i < ops.size := (Array.getElem?_eq_some_iff.1 ho).1
  obtain ⟨d, hdst, _⟩ := hg.pair ho hv ho
  have hdn := hdN d hdst
  have hnu : ¬ Up Ld i := fun h => hL ((s.listed i hlt).2 (.inl h))
  -- what the older ones look at, and where they lie, is not turned by this one
  have older : ∀ k ok, ops[k]? = some ok → isV P ok = true → k ∈ L → (∀ t ∈ ok.looksAt ops, (a.put o.dst v).tmps[t]? = a.tmps[t]?) ∧ (∀ dk, ok.dst = some dk → (a.put o.dst v).tmps[dk]? = a.tmps[dk]?) := by
    intro k ok hk hkv hkL
    obtain ⟨dk, hdk, hp⟩ := hg.pair hk hkv ho
    simp only [okPair, Bool.and_eq_true, Bool.or_eq_true, Bool.not_eq_true'] at hp
    have hik : i ≠ k := fun e => hL (e ▸ hkL)
    refine ⟨fun t ht => ?_, fun dk' hdk' => ?_⟩
    · rw [hdst]
      simp only [Act.put]
      refine Array.getElem?_setIfInBounds_ne fun hdt => ?_
      subst hdt
      rcases hp.1.2 with (h | h) | h
      · exact hL (closed_before hg s.lclosed k ok i hk (s.lclosed k ok hk hkL) h)
      · rw [hdst] at h
        simp only [Bool.not_eq_true'] at h
        rw [← Bool.not_eq_true, hasT_iff] at h
        exact h ht
      · rw [hv] at h; simp at h
    · obtain rfl : dk = dk' := by rw [hdk] at hdk'; simpa using hdk'
      rw [hdst]
      simp only [Act.put]
      refine Array.getElem?_setIfInBounds_ne fun hdt => ?_
      subst hdt
      rcases hp.1.1 with h | h
      · exact hik (Nat.eq_of_beq_eq_true h)
      · simp [isDst, hdst] at h
  have self := older
  refine ⟨s.size, s.closed, ?_, fun k hk => ?_, fun k hk => ?_, fun k hk => ?_, s.asize, by simp [hdst, Act.put, s.asize'], s.adef, fun t ht => ?_⟩
  · intro k ok hk hkL e he hb
    rcases List.mem_cons.1 hkL with rfl | hkL
    · obtain rfl : ok = o := by rw [ho] at hk; simpa using hk.symm
      exact List.mem_cons_of_mem _ (hdep e he hb)
    · exact List.mem_cons_of_mem _ (s.lclosed k ok hk hkL e he hb)
  · simp only [List.mem_cons, s.listed k hk]
    constructor
    · rintro (h | h | h)
      · exact .inr (.inl h)
      · exact .inl h
      · exact .inr (.inr h)
    · rintro (h | h | h)
      · exact .inr (.inl h)
      · exact .inl h
      · exact .inr (.inr h)
  · rcases List.mem_cons.1 hk with rfl | hk
    · exact hnu
    · exact s.apart k hk
  · rcases List.mem_cons.1 hk with rfl | hk
    · refine ⟨o, v, ho, hv, ⟨rfl, fun d' hd' => ?_⟩, ?_⟩
      · rw [hd']
        have : d' < a.tmps.size := by rw [s.asize']; exact hdN d' hd'
        simp [Act.put, this]
      · -- it does not look at its own place
        obtain ⟨d2, hd2, hp⟩ := hg.pair ho hv ho
        have hne : ∀ t ∈ o.looksAt ops, (a.put o.dst v).tmps[t]? = a.tmps[t]? := by
          intro t ht
          rw [hdst]
          simp only [Act.put]
          refine Array.getElem?_setIfInBounds_ne fun hdt => ?_
          subst hdt
          obtain rfl : d = d2 := by rw [hdst] at hd2; simpa using hd2
          simp only [okPair, Bool.and_eq_true, Bool.or_eq_true, Bool.not_eq_true'] at hp
          have hself : mhas M k k = false := by
            cases hm : mhas M k k with
            | false => rfl
            | true => exact absurd (closed_before hg s.lclosed k o k ho hdep hm) hL
          rcases hp.2 with h | h
          · rw [← Bool.not_eq_true, hasT_iff] at h; exact h ht
          · rw [hself] at h; cases h
        obtain ⟨he, hw⟩ := exec_same (ops := ops) (fun cs b => hg.nosel ho) hne
        rw [hw, he]
        exact hval
    · obtain ⟨ok, vk, hok, hkv, hah⟩ := s.ahead k hk
      have hks : k < ops.size := (Array.getElem?_eq_some_iff.1 hok).1
      have hkL : k ∈ L := (s.listed k hks).2 (.inr hk)
      obtain ⟨h1, h2⟩ := older k ok hok hkv hkL
      obtain ⟨he, hw⟩ := exec_same (ops := ops) (fun cs b => hg.nosel hok) h1
      refine ⟨ok, vk, hok, hkv, ⟨rfl, fun dk hdk => by rw [h2 dk hdk]; exact hah.at_.2 dk hdk⟩, ?_⟩
      rw [hw, he]
      rcases hah.val with ⟨hwt, h, hrun, hh, hhH⟩ | hno
      · exact .inl ⟨hwt, h, hrun, hh, hhH.imp id (hH _)⟩
      · exact .inr hno
  · rw [hdst]
    simp only [Act.put]
    have htd : d ≠ t := fun e => ht i (by simp) o ho (by rw [hdst, e])
    rw [Array.getElem?_setIfInBounds_ne htd]
    exact s.frame t fun k hk ok hok => ht k (List.mem_cons_of_mem _ hk) ok hok

theorem depsIn_spec {L : List Nat} : ∀ {l : List Edge}, depsIn L l = true → ∀ e ∈ l, Region.binds .any e = true → e.on ∈ L
  | [], _, e, he, _ => by cases he
  | x :: r, h, e, he, hb => by
    simp only [depsIn, Bool.and_eq_true, Bool.or_eq_true, Bool.not_eq_true'] at h
    rcases List.mem_cons.1 he with rfl | he
    · rcases h.1 with h1 | h1
      · rw [hb] at h1; cases h1
      · exact inL_iff.1 h1
    · exact depsIn_spec h.2 e he hb

theorem forced_spec {L : List Nat} {i : Nat} : ∀ {n : Nat}, forced M L i n = true → ∀ k, k < n → k ∈ L ∨ k = i ∨ mhas M k i = true
  | 0, _, k, hk => absurd hk (by omega)
  | n + 1, h, k, hk => by
    simp only [forced, Bool.and_eq_true, Bool.or_eq_true] at h
    by_cases e : k = n
    · subst e
      rcases h.1 with (h1 | h1) | h1
      · exact .inl (inL_iff.1 h1)
      · exact .inr (.inl (Nat.eq_of_beq_eq_true h1))
      · exact .inr (.inr h1)
    · exact forced_spec h.2 k (by omega)

theorem forced2_spec {L : List Nat} {i j : Nat} : ∀ {n : Nat}, forced2 M L i j n = true → ∀ k, k < n → k ∈ L ∨ k = i ∨ k = j ∨ mhas M k i = true ∨ mhas M k j = true
  | 0, _, k, hk => absurd hk (by omega)
  | n + 1, h, k, hk => by
    simp only [forced2, Bool.and_eq_true, Bool.or_eq_true] at h
    by_cases e : k = n
    · subst e
      rcases h.1 with (((h1 | h1) | h1) | h1) | h1
      · exact .inl (inL_iff.1 h1)
      · exact .inr (.inl (Nat.eq_of_beq_eq_true h1))
      · exact .inr (.inr (.inl (Nat.eq_of_beq_eq_true h1)))
      · exact .inr (.inr (.inr (.inl h1)))
      · exact .inr (.inr (.inr (.inr h1)))
    · exact forced2_spec h.2 k (by omega)

theorem allL_spec {L : List Nat} : ∀ {n : Nat}, allL L n = true → ∀ k, k < n → k ∈ L
  | 0, _, k, hk => absurd hk (by omega)
  | n + 1, h, k, hk => by
    simp only [allL, Bool.and_eq_true] at h
    by_cases e : k = n
    · subst e; exact inL_iff.1 h.1
    · exact allL_spec h.2 k (by omega)

theorem dropH_mem {i r : Nat} {h : World → Prop} : ∀ {H : Held}, (r, h) ∈ H → mhas M i r = false → (r, h) ∈ dropH M i H
  | [], hm, _ => by cases hm
  | (r', h') :: rs, hm, hno => by
    unfold dropH
    split
    · rename_i hy
      rcases List.mem_cons.1 hm with e | hm
      · simp only [Prod.mk.injEq] at e; rw [e.1, hy] at hno; cases hno
      · exact dropH_mem hm hno
    · rcases List.mem_cons.1 hm with e | hm
      · simp only [Prod.mk.injEq] at e
        obtain ⟨rfl, rfl⟩ := e
        exact List.mem_cons_self ..
      · exact List.mem_cons_of_mem _ (dropH_mem hm hno)

theorem heldD_spec {i : Nat} {w1 : World} {K : Prop} : ∀ {H : Held}, heldD M i w1 K H → K ∧ ∀ r h, (r, h) ∈ H → mhas M i r = false → h w1 ∧ (r, h) ∈ dropH M i H
  | [], hk => ⟨hk, fun r h hm => by cases hm⟩
  | (r, h) :: rs, hk => by
    unfold heldD at hk
    split at hk
    · rename_i hm
      obtain ⟨h1, h2⟩ := heldD_spec hk
      refine ⟨h1, fun r' h' hmem hno => ?_⟩
      rcases List.mem_cons.1 hmem with e | hmem
      · simp only [Prod.mk.injEq] at e; rw [e.1, hm] at hno; cases hno
      · have := h2 r' h' hmem hno
        refine ⟨this.1, ?_⟩
        unfold dropH; rw [hm]; exact this.2
    · rename_i hm
      obtain ⟨h1, h2⟩ := heldD_spec hk.2
      refine ⟨h1, fun r' h' hmem hno => ?_⟩
      unfold dropH; rw [hm]
      rcases List.mem_cons.1 hmem with e | hmem
      · simp only [Prod.mk.injEq] at e
        obtain ⟨rfl, rfl⟩ := e
        exact ⟨hk.1, List.mem_cons_self ..⟩
      · have := h2 r' h' hmem hno
        exact ⟨this.1, List.mem_cons_of_mem _ this.2⟩

/-- An operation that changes the world comes up. -/
theorem sim_exec (hP : AllCallable P) (hg : Good P ops M) {L : List Nat} {Ld : Array Bool} {pend : List Nat} {H : Held} {e : Env} {a a' : Act} {w : World} (s : Sim P N ops M L Ld pend H a a' w)
    (hr : Rep N a e) {i : Nat} {o : Oper} (ho : ops[i]? = some o) (hL : i ∉ L) (hrd : i ∈ Region.ready .any ops Ld) (hdepL : ∀ e ∈ o.after, Region.binds .any e = true → e.on ∈ L)
    {Q : Exit → Act → World → Prop} {K : Act → World → Prop} {D : Env → World → Prop} (hE : execD P N ops M i o H e w D)
    (hK : ∀ e1 a1 a1' w1, Rep N a1 e1 → Sim P N ops M (i :: L) (Ld.setIfInBounds i true) pend (dropH M i H) a1 a1' w1 → D e1 w1 → K a1' w1) : wpOp P ops Q i K a' w := by
  obtain ⟨hnu, o', ho', hd⟩ := (ready_iff s.size).1 hrd
  obtain rfl : o = o' := by rw [ho] at ho'; simpa using ho'
  have hlt : i < Ld.size := by rw [s.size]; exact (Array.getElem?_eq_some_iff.1 ho).1
  obtain ⟨hex, hwx⟩ := exec_same (ops := ops) (fun cs b => hg.nosel ho) (s.looks hg ho hd)
  -- the frames behind it
  have key : ∀ (v : Value) (w1 : World) (H' : Held) (e1 : Env), Rep N (a.put o.dst v) e1 →
      (∀ k h, k ∈ pend → (k, h) ∈ H → h w → h w1 ∧ (k, h) ∈ H') →
      Sim P N ops M (i :: L) (Ld.setIfInBounds i true) pend H' (a.put o.dst v) (a'.put o.dst v) w1 := by
    intro v w1 H' e1 hr1 hheld
    have older : ∀ k ok, ops[k]? = some ok → isV P ok = true → k ∈ pend → (∀ t ∈ ok.looksAt ops, (a.put o.dst v).tmps[t]? = a.tmps[t]?) ∧ (∀ dk, ok.dst = some dk → (a.put o.dst v).tmps[dk]? = a.tmps[dk]?) := by
      intro k ok hk hkv hkp
      have hks : k < ops.size := (Array.getElem?_eq_some_iff.1 hk).1
      have hkL : k ∈ L := (s.listed k hks).2 (.inr hkp)
      obtain ⟨dk, hdk, hp⟩ := hg.pair hk hkv ho
      simp only [okPair, Bool.and_eq_true, Bool.or_eq_true, Bool.not_eq_true'] at hp
      have hik : i ≠ k := fun e => hL (e ▸ hkL)
      cases hdst : o.dst with
      | none => exact ⟨fun t _ => rfl, fun t _ => rfl⟩
      | some d =>
      rw [hdst] at hp
      refine ⟨fun t ht => ?_, fun dk' hdk' => ?_⟩
      · simp only [Act.put]
        refine Array.getElem?_setIfInBounds_ne fun hdt => ?_
        subst hdt
        rcases hp.1.2 with (h | h) | h
        · exact hL (closed_before hg s.lclosed k ok i hk (s.lclosed k ok hk hkL) h)
        · simp only [Bool.not_eq_true'] at h
          rw [← Bool.not_eq_true, hasT_iff] at h
          exact h ht
        · exact s.apart k hkp (closed_before hg s.closed i o k ho hd h.2)
      · obtain rfl : dk = dk' := by rw [hdk] at hdk'; simpa using hdk'
        simp only [Act.put]
        refine Array.getElem?_setIfInBounds_ne fun hdt => ?_
        subst hdt
        rcases hp.1.1 with h | h
        · exact hik (Nat.eq_of_beq_eq_true h)
        · simp [isDst, hdst] at h
    refine ⟨by simp [s.size], closed_set s.size s.closed ho hd, ?_, fun k hk => ?_, fun k hk => ?_, fun k hk => ?_, ?_, hr1.size, ?_, fun t ht => ?_⟩
    · intro k ok hk hkL e he hb
      rcases List.mem_cons.1 hkL with rfl | hkL
      · obtain rfl : ok = o := by rw [ho] at hk; simpa using hk.symm
        exact List.mem_cons_of_mem _ (hdepL e he hb)
      · exact List.mem_cons_of_mem _ (s.lclosed k ok hk hkL e he hb)
    · simp only [List.mem_cons, s.listed k hk, up_set hlt]
      constructor
      · rintro (h | h | h)
        · exact .inl (.inl h)
        · exact .inl (.inr h)
        · exact .inr h
      · rintro ((h | h) | h)
        · exact .inl h
        · exact .inr (.inl h)
        · exact .inr (.inr h)
    · rw [up_set hlt]
      rintro (rfl | h)
      · have hks : k < ops.size := (Array.getElem?_eq_some_iff.1 ho).1
        exact hL ((s.listed k hks).2 (.inr hk))
      · exact s.apart k hk h
    · obtain ⟨ok, vk, hok, hkv, hah⟩ := s.ahead k hk
      obtain ⟨h1, h2⟩ := older k ok hok hkv hk
      obtain ⟨he, hw⟩ := exec_same (ops := ops) (fun cs b => hg.nosel hok) h1
      refine ⟨ok, vk, hok, hkv, ⟨rfl, fun dk hdk => by rw [h2 dk hdk]; exact hah.at_.2 dk hdk⟩, ?_⟩
      rw [hw, he]
      rcases hah.val with ⟨hwt, h, hrun, hh, hhH⟩ | hno
      · refine .inl ⟨hwt, h, hrun, ?_⟩
        rcases hhH with hall | hmem
        · exact ⟨hall w1, .inl hall⟩
        · have := hheld k h hk hmem hh
          exact ⟨this.1, .inr this.2⟩
      · exact .inr hno
    · cases hdst : o.dst <;> simp [Act.put, s.asize]
    · cases hdst : o.dst <;> simp [Act.put, s.adef]
    · cases hdst : o.dst with
      | none => exact s.frame t ht
      | some d =>
        simp only [Act.put]
        rw [Array.getElem?_setIfInBounds, Array.getElem?_setIfInBounds, s.asize, s.asize']
        split
        · rfl
        · exact s.frame t ht
  obtain ⟨e2, hr2, hh⟩ := guardD_sound hE hr
  unfold wpOp
  simp only [ho]
  rcases hh with ⟨hwt, hstep⟩ | ⟨hwf, hput⟩
  · rw [if_pos (by rw [hwx]; exact hwt)]
    have hgets := stepD_sound hP hstep hr2
    rw [← hex] at hgets
    refine .inl (Gets.wp hgets fun v w1 ⟨e3, hr3, hheld⟩ => ?_)
    obtain ⟨hD, hkeep⟩ := heldD_spec hheld
    refine hK e3 _ _ w1 hr3 (key v w1 (dropH M i H) e3 hr3 fun k h hkp hmem _ => ?_) hD
    refine hkeep k h hmem ?_
    cases hm : mhas M i k with
    | false => rfl
    | true => exact absurd (closed_before hg s.closed i o k ho hd hm) (s.apart k hkp)
  · rw [if_neg (by rw [hwx, hwf]; simp)]
    obtain ⟨e3, hr3, hD⟩ := putD_sound hput hr2 (fun b hb => by cases hb)
    refine hK e3 _ _ w hr3 (key undef w (dropH M i H) e3 hr3 fun k h hkp hmem hh => ⟨hh, dropH_mem hmem ?_⟩) hD
    cases hm : mhas M i k with
    | false => rfl
    | true => exact absurd (closed_before hg s.closed i o k ho hd hm) (s.apart k hkp)

theorem count_set {Ld : Array Bool} {j : Nat} (hj : j < Ld.size) (hn : ¬ Up Ld j) : (Ld.setIfInBounds j true).toList.count false + 1 = Ld.toList.count false := by
  obtain ⟨l⟩ := Ld
  have hj' : j < l.length := by simpa using hj
  have hn' : l[j] = false := by
    unfold Up at hn; simpa [hj'] using hn
  have hpos : 0 < l.count false := List.count_pos_iff.2 (hn' ▸ List.getElem_mem hj')
  rw [Array.toList_setIfInBounds, List.count_set hj']
  simp [hn']
  omega

/-- **One order serves all.** -/
theorem planD_sound (hP : AllCallable P) (hg : Good P ops M) {Q : Exit → Act → World → Prop} {K : Env → World → Prop} (hQ : ∀ a e w, Rep N a e → K e w → Q .normal a w) :
    ∀ (fuel : Nat) (Ld : Array Bool) (pl : Plan) (L : List Nat) (pend : List Nat) (H : Held) (e : Env) (a a' : Act) (w : World), Ld.toList.count false ≤ fuel →
      Sim P N ops M L Ld pend H a a' w → Rep N a e → planD P N ops M pl L H e w K → wpAny P .any ops Q fuel Ld a' w := by
  -- all has come up
  have fin : ∀ (pl : Plan) (Ld : Array Bool) (L : List Nat) (pend : List Nat) (H : Held) (e : Env) (a a' : Act) (w : World), Region.ready .any ops Ld = [] →
      Sim P N ops M L Ld pend H a a' w → Rep N a e → planD P N ops M pl L H e w K → Q .normal a' w := by
    intro pl Ld L pend H e a a' w hr s hrep hp
    have hall := all_up hg s.size hr
    have hpe : pend = [] := by
      cases pend with
      | nil => rfl
      | cons i rest =>
        obtain ⟨o, v, ho, _⟩ := s.ahead i (by simp)
        exact absurd (hall i (Array.getElem?_eq_some_iff.1 ho).1) (s.apart i (by simp))
    subst hpe
    have hrep' : Rep N a' e := by
      refine ⟨s.adef, s.asize, fun t x hx => ?_⟩
      rw [s.frame t (by simp)]
      exact hrep.ent t x hx
    have hL : ∀ k, k < ops.size → k ∈ L := fun k hk => (s.listed k hk).2 (.inl (hall k hk))
    cases pl with
    | done =>
      unfold planD at hp
      split at hp
      · exact hQ _ _ _ hrep' hp
      · exact hp.elim
    | take i p =>
      unfold planD at hp
      split at hp
      · exact hp.elim
      · rename_i o ho
        split at hp
        · exact hp.elim
        · rename_i hc
          simp only [Bool.and_eq_true, Bool.not_eq_true'] at hc
          rw [← Bool.not_eq_true, inL_iff] at hc
          exact absurd (hL i (Array.getElem?_eq_some_iff.1 ho).1) hc.1
    | both i p j q =>
      unfold planD at hp
      split at hp
      · rename_i o u ho hu
        split at hp
        · rename_i hc
          simp only [Bool.and_eq_true, Bool.not_eq_true'] at hc
          have h1 := hc.1.1.1.1.1.1
          rw [← Bool.not_eq_true, inL_iff] at h1
          exact absurd (hL i (Array.getElem?_eq_some_iff.1 ho).1) h1
        · exact hp.elim
      · exact hp.elim
  intro fuel
  induction fuel with
  | zero =>
    intro Ld pl L pend H e a a' w hcnt s hrep hp
    have hr : Region.ready .any ops Ld = [] := by
      refine List.eq_nil_iff_forall_not_mem.2 fun j hj => ?_
      obtain ⟨hn, o, ho, _⟩ := (ready_iff s.size).1 hj
      have := count_set (Ld := Ld) (j := j) (by rw [s.size]; exact (Array.getElem?_eq_some_iff.1 ho).1) hn
      omega
    exact ⟨hr, fin pl Ld L pend H e a a' w hr s hrep hp⟩
  | succ fuel ih =>
    intro Ld pl L pend H e a a' w hcnt s hrep hp
    refine ⟨fun hr => fin pl Ld L pend H e a a' w hr s hrep hp, fun j hj => ?_⟩
    have hju := (ready_iff s.size).1 hj
    obtain ⟨hnu, oj, hoj, hdj⟩ := hju
    have hlt : j < Ld.size := by rw [s.size]; exact (Array.getElem?_eq_some_iff.1 hoj).1
    have hcnt' : (Ld.setIfInBounds j true).toList.count false ≤ fuel := by have := count_set hlt hnu; omega
    by_cases hjp : j ∈ pend
    · exact sim_pend hg s hjp hj fun a'' s' => ih _ pl L _ H e a a'' w hcnt' s' hrep hp
    · -- it has not been told of yet: the plan goes on till it comes to it
      have hjL : j ∉ L := fun h => by
        rcases (s.listed j (by rw [← s.size]; exact hlt)).1 h with h | h
        · exact hnu h
        · exact hjp h
      clear hjp
      -- what stands ahead of an operation that is forced has come up
      have hforce : ∀ (L : List Nat), (∀ k, k < ops.size → Up Ld k → k ∈ L) → ∀ i, i ∉ L → mhas M j i = true → False := fun L hL i hi hm => by
        have hi' := closed_before hg s.closed j oj i hoj hdj hm
        refine hi (hL i ?_ hi')
        have : i < Ld.size := by
          refine Classical.byContradiction fun h => ?_
          unfold Up at hi'
          simp [show ¬ i < Ld.size from h] at hi'
        rw [← s.size]; exact this
      induction pl generalizing L pend H e a with
      | done =>
        unfold planD at hp
        split at hp
        · rename_i hall
          exact absurd (allL_spec hall j (by rw [← s.size]; exact hlt)) hjL
        · exact hp.elim
      | take i p ihp =>
        unfold planD at hp
        split at hp
        · exact hp.elim
        · rename_i o ho
          split at hp
          · exact hp.elim
          · rename_i hc
            simp only [Bool.and_eq_true, Bool.not_eq_true'] at hc
            obtain ⟨hc1, hc2⟩ := hc
            rw [← Bool.not_eq_true, inL_iff] at hc1
            have hdepL : ∀ e ∈ o.after, Region.binds .any e = true → e.on ∈ L := fun e he hb => depsIn_spec hc2 e (by simpa using he) hb
            split at hp
            · -- taken ahead
              rename_i hv
              obtain ⟨e2, hr2, hh⟩ := guardD_sound hp hrep
              have go : ∀ (v : Value) (H' : Held) (e3 : Env), Rep N (a.put o.dst v) e3 → planD P N ops M p (i :: L) H' e3 w K →
                  Sim P N ops M (i :: L) Ld (i :: pend) H' (a.put o.dst v) a' w → wpOp P ops Q j (wpAny P .any ops Q fuel (Ld.setIfInBounds j true)) a' w := by
                intro v H' e3 hr3 hp3 s3
                by_cases hij : j = i
                · subst hij
                  exact sim_pend hg s3 (by simp) hj fun a'' s' => ih _ p _ _ H' e3 _ a'' w hcnt' s' hr3 hp3
                · exact ihp _ _ _ _ _ s3 hr3 hp3 (by simp [hij, hjL])
              have hdN : ∀ {v : Value} {k : Option Bool} {D : Env → Prop}, putD N o e2 v k D → ∀ d, o.dst = some d → d < N := by
                intro v k D hpd d hd
                unfold putD at hpd
                rw [hd] at hpd
                dsimp only at hpd
                split at hpd
                · rename_i hb; exact Nat.le_of_ble_eq_true hb
                · exact hpd.elim
              rcases hh with ⟨hwt, hop⟩ | ⟨hwf, hput⟩
              · obtain ⟨v, hk, hrun⟩ := opV_sound hr2.agree hop
                have hself := holdD_refl hop
                obtain ⟨e3, hr3, hp3⟩ := putD_sound hk hr2 (knOf_sound hr2.agree (hrun w hself))
                refine go v _ e3 hr3 hp3 (sim_take hg s ho hv hc1 hdepL (fun x hx => ?_) (.inl ⟨hwt, holdD P e2 o w, hrun, hself, ?_⟩) (hdN hk))
                · cases isLoad o <;> simp [hx]
                · cases hl : isLoad o with
                  | true => exact .inr (List.mem_cons_self ..)
                  | false =>
                    refine .inl fun w' => ?_
                    unfold holdD
                    unfold isLoad at hl
                    split
                    · rename_i h1; rw [h1] at hl; simp at hl
                    · trivial
              · obtain ⟨e3, hr3, hp3⟩ := putD_sound hput hr2 (fun b hb => by cases hb)
                exact go undef H e3 hr3 hp3 (sim_take hg s ho hv hc1 hdepL (fun x hx => hx) (.inr ⟨hwf, rfl⟩) (hdN hput))
            · -- it is the one that comes
              split at hp
              · rename_i hf
                have hij : j = i := by
                  rcases forced_spec hf j (by rw [← s.size]; exact hlt) with h | h | h
                  · exact absurd h hjL
                  · exact h
                  · exact (hforce L (fun k hk hu => (s.listed k hk).2 (.inl hu)) i hc1 h).elim
                subst hij
                exact sim_exec hP hg s hrep ho hc1 hj hdepL hp fun e1 a1 a1' w1 hr1 s1 hp1 => ih _ p _ _ _ e1 a1 a1' w1 hcnt' s1 hr1 hp1
              · exact hp.elim
      | both i p k q ihp ihq =>
        unfold planD at hp
        split at hp
        · rename_i o u ho hu
          split at hp
          · rename_i hc
            simp only [Bool.and_eq_true, Bool.not_eq_true'] at hc
            obtain ⟨⟨⟨⟨⟨⟨h1, h2⟩, h3⟩, h4⟩, h5⟩, h6⟩, hf⟩ := hc
            rw [← Bool.not_eq_true, inL_iff] at h1 h3
            have hdo : ∀ e ∈ o.after, Region.binds .any e = true → e.on ∈ L := fun e he hb => depsIn_spec h2 e (by simpa using he) hb
            have hdu : ∀ e ∈ u.after, Region.binds .any e = true → e.on ∈ L := fun e he hb => depsIn_spec h4 e (by simpa using he) hb
            have hL : ∀ k, k < ops.size → Up Ld k → k ∈ L := fun k hk hu => (s.listed k hk).2 (.inl hu)
            rcases forced2_spec hf j (by rw [← s.size]; exact hlt) with h | h | h | h | h
            · exact absurd h hjL
            · subst h
              exact sim_exec hP hg s hrep ho h1 hj hdo hp.1 fun e1 a1 a1' w1 hr1 s1 hp1 => ih _ p _ _ _ e1 a1 a1' w1 hcnt' s1 hr1 hp1
            · subst h
              exact sim_exec hP hg s hrep hu h3 hj hdu hp.2 fun e1 a1 a1' w1 hr1 s1 hp1 => ih _ q _ _ _ e1 a1 a1' w1 hcnt' s1 hr1 hp1
            · exact (hforce L hL i h1 h).elim
            · exact (hforce L hL k h3 h).elim
          · exact hp.elim
        · exact hp.elim

/-- A region that draws its order. -/
theorem region_draw (hP : AllCallable P) (hm : P.follows .mixedOrders = true) (hg : chkR P ops M = true) {Q : Exit → Act → World → Prop} {K : Env → World → Prop}
    (hQ : ∀ a e w, Rep N a e → K e w → Q .normal a w) {id : Nat} {pl : Plan} {e : Env} {a : Act} {w : World} (hr : Rep N a e)
    (hp : planD P N ops M pl [] [] e { w with drawn := w.drawn + 1 } K) : (Code.region id ops true).wp P Q a w := by
  refine wp_region_any hm (planD_sound hP (good_of_chk hg) hQ ops.size _ pl [] [] [] e a a _ (by simp) ?_ hr hp)
  refine ⟨by simp, fun k o hk hu => ?_, fun k o hk hu => ?_, fun k hk => ?_, fun k hk => ?_, fun i hi => ?_, hr.size, hr.size, hr.defers, fun t _ => rfl⟩
  · unfold Up at hu
    have hks : k < ops.size := (Array.getElem?_eq_some_iff.1 hk).1
    simp [hks] at hu
  · cases hu
  · simp [Up, hk]
  · cases hk
  · cases hi

end

end Go.D
