/- The operations that change the world, regions, code: the reading, and its soundness. -/
import Derived.Test.YtchbhocpmhlhjaaDoorDen1
namespace Go.D

/-! ## What an operation gives, as a relation on its operands' values -/

def Gets (P : Program) (r : Result Next) (R : Value → World → Prop) : Prop :=
  match r with
  | .ok (.value v) w1 => R v w1
  | .ok .skip w1 => R undef w1
  | .ok (.enter f args) w1 => Calls P f args w1 fun e w2 => ∃ v, e = .returned v ∧ R v w2
  | _ => False

theorem Gets.mono {P : Program} {r : Result Next} {R R' : Value → World → Prop} (h : Gets P r R) (hr : ∀ v w, R v w → R' v w) : Gets P r R' := by
  unfold Gets at *
  split at h
  · exact hr _ _ h
  · exact hr _ _ h
  · exact h.mono fun e w2 ⟨v, he, hv⟩ => ⟨v, he, hr _ _ hv⟩
  · exact h.elim

theorem Gets.wp {P : Program} {o : Oper} {a : Act} {w : World} {R : Value → World → Prop} {next : Act → World → Prop} {Q : Exit → Act → World → Prop}
    (h : Gets P ((execOp a.eval o).run P w) R) (hr : ∀ v w1, R v w1 → next (a.put o.dst v) w1) : o.wp P a w next Q := by
  unfold Oper.wp
  generalize (execOp a.eval o).run P w = r at h
  unfold Gets at h
  split at h
  · exact hr _ _ h
  · exact hr _ _ h
  · exact Calls.mono h fun e w2 ⟨v, he, hv⟩ => by subst he; exact hr _ _ hv
  · exact h.elim

/-- Every function with a body may be entered. -/
def AllCallable (P : Program) : Prop := ∀ (f : FuncId) (fn : Func), P.funcs[f]? = some fn → fn.body.isSome = true → (fn.name == "runtime.NumGoroutine") = false

def callableB (P : Program) : Bool := P.funcs.all fun fn => fn.body.isNone || !(fn.name == "runtime.NumGoroutine")

theorem allCallable_of {P : Program} (h : callableB P = true) : AllCallable P := by
  intro f fn hf hb
  have := Array.all_eq_true_iff_forall_mem.1 h fn (Array.mem_of_getElem? hf)
  cases hn : fn.name == "runtime.NumGoroutine" with
  | false => rfl
  | true =>
    simp [hn] at this
    simp [this] at hb

/-- A function is called; what it hands back has this shape. -/
def CallF (P : Program) (f : FuncId) (args : List Value) (w : World) (s : Sh) (K : Value → World → Prop) : Prop :=
  Calls P f args.toArray w fun e w2 => s.ex fun v => e = .returned v ∧ K v w2

def hasBody (P : Program) (f : FuncId) : Bool := match P.funcs[f]? with
  | some fn => fn.body.isSome
  | none => false

/-- A function value is called. -/
def CallV (P : Program) (v : Value) (args : List Value) (w : World) (K : Value → World → Prop) : Prop :=
  ∃ f first caps, v = .func (.func f) first caps ∧ hasBody P f = true ∧ Calls P f (first ++ args.toArray ++ caps) w fun e w2 => ∃ u, e = .returned u ∧ K u w2

/-- A function of the model's own is called. -/
def CallX (P : Program) (f : FuncId) (args : List Value) (w : World) (K : Value → World → Prop) : Prop :=
  ∃ v w1, (callFunc f args.toArray).run P w = .ok (.value v) w1 ∧ K v w1

def callD (P : Program) (ty : TypeId) (fo : Operand) (fv : Value) (args : List Value) (w : World) (K : Value → World → Prop) : Prop :=
  match fo with
  | .func f => match hasBody P f with
    | true => CallF P f args w (shOf P ty) K
    | false => CallX P f args w fun v w1 => (shOf P ty).ex fun u => v = u ∧ K u w1
  | _ => CallV P fv args w fun v w1 => (shOf P ty).ex fun u => v = u ∧ K u w1

/-- Some piece of the model is run, and hands back a value of this shape. -/
def RunS (P : Program) (s : Sem Value) (w : World) (sh : Sh) (K : Value → World → Prop) : Prop :=
  Run P s w fun v w1 => sh.ex fun u => v = u ∧ K u w1

/-- What comes next of a map: nothing, or something. -/
def nextK (K : Value → World → Prop) (u : Value) (w1 : World) : Prop :=
  (u = .tuple #[.bool false] ∧ K (.tuple #[.bool false]) w1) ∨ ∃ k x : Value, u = .tuple #[.bool true, k, x] ∧ K (.tuple #[.bool true, k, x]) w1

theorem nextK_elim {K : Value → World → Prop} {u : Value} {w1 : World} (h : nextK K u w1) : K u w1 := by
  rcases h with ⟨rfl, h⟩ | ⟨k, x, rfl, h⟩
  · exact h
  · exact h

/-- A key and its value, of these shapes. -/
def entryK (P : Program) (T : Nat → TypeId) (K : Value → World → Prop) (u : Value) (w1 : World) : Prop :=
  (compOf P (T 0)).ex fun k => (compOf P (T 1)).ex fun x => u = .tuple #[k, x] ∧ K (.tuple #[k, x]) w1

theorem entryK_elim {P : Program} {T : Nat → TypeId} {K : Value → World → Prop} {u : Value} {w1 : World} (h : entryK P T K u w1) : K u w1 := by
  obtain ⟨k, h1⟩ := Comp.ex_sound h
  obtain ⟨x, h2⟩ := Comp.ex_sound h1
  rw [h2.1]; exact h2.2

/-- Of what type a part of an operation's value is taken. -/
def partT : List Oper → Option Nat → Nat → TypeId
  | [], _, _ => 0
  | o :: os, d, i => match o.op, d with
    | .extract (.tmp s) j, some t => match Nat.beq s t, Nat.beq j i with
      | true, true => o.type
      | _, _ => partT os d i
    | _, _ => partT os d i

def opE (P : Program) (T : Nat → TypeId) (e : Env) (w : World) (o : Oper) (K : Value → World → Prop) : Prop :=
  match o.op with
  | .alloc t => zeroCellsD P t fun cs => New w (.cells cs t) fun r w1 => K (.pointer (some ⟨r, 0, none⟩)) w1
  | .box t x => onV (ev e x) fun v => New w (.cells v.cells t) fun r w1 => K (.pointer (some ⟨r, 0, none⟩)) w1
  | .buildSlice t len parts => evParts e parts.toList fun ps => RunS P (Instr.buildSlice t len ps.toArray) w (.comp (.leaf .slice)) K
  | .store t x v => onV (ev e x) fun
    | .pointer (some a) => onV (ev e v) fun u => match Nat.beq u.cells.size (P.cellsOf t) with
      | true => known P t (StL w a u.cells.toList 0 fun w1 => K undef w1)
      | false => False
    | _ => False
  | .makeSlice t l c => onV (ev e l) fun lv => onV (ev e c) fun cv => RunS P (Instr.makeSlice t lv cv) w (.comp (.leaf .slice)) K
  | .makeMap _ none => New w (.map #[] 0) fun r w1 => K (.map (some r)) w1
  | .lookup t x k ok => onV (ev e x) fun v => onV (ev e k) fun u => RunS P (Instr.lookup t v u ok) w (shOf P o.type) K
  | .mapUpdate t m k v => onV (ev e m) fun mv => onV (ev e k) fun kv => onV (ev e v) fun vv => Run P (Instr.mapUpdate t mv kv vv) w fun _ w1 => K undef w1
  | .insert t m k v => onV (ev e m) fun mv => onV (ev e k) fun kv => onV (ev e v) fun vv => Run P (Instr.mapUpdate t mv kv vv) w fun _ w1 => K undef w1
  | .range t x => onV (ev e x) fun v => RunS P (Instr.range t v) w (.comp (.leaf .ptr)) K
  | .next it s => onV (ev e it) fun v => Run P (Instr.next v s o.type) w (nextK K)
  | .entry it => onV (ev e it) fun v => Run P (Instr.entry v) w (entryK P T K)
  | .convert src dst x => onV (ev e x) fun v => RunS P (convert src dst v) w (shOf P o.type) K
  | .makeInterface t x => onV (ev e x) fun v => Run P (Instr.makeInterface t v) w K
  | .call { callee := .value f, args := as, argTypes := _ } => onV (ev e f) fun fv => evs e as.toList fun vs => callD P o.type f fv vs w K
  | .call { callee := .builtin .append, args := as, argTypes := ts } => evs e as.toList fun vs => RunS P (Builtin.append_ ts o.type vs.toArray) w (.comp (.leaf .slice)) K
  | .call { callee := .builtin .copy, args := as, argTypes := ts } => evs e as.toList fun vs => RunS P (Builtin.copy_ ts o.type vs.toArray) w (.comp (.leaf (.int .i64))) K
  | .call { callee := .builtin .clear, args := as, argTypes := ts } => evs e as.toList fun vs => Run P (Builtin.clear_ ts o.type vs.toArray) w K
  | .call { callee := .builtin .delete, args := as, argTypes := ts } => evs e as.toList fun vs => Run P (Builtin.delete_ ts o.type vs.toArray) w K
  | .call { callee := .builtin .len, args := as, argTypes := ts } => evs e as.toList fun vs => RunS P (Builtin.len_ ts o.type vs.toArray) w (.comp (.leaf (.int .i64))) K
  | _ => False

theorem Run_elim {α : Type} {P : Program} {s : Sem α} {w : World} {K : α → World → Prop} (h : Run P s w K) : ∃ v w1, s.run P w = .ok v w1 ∧ K v w1 := by
  unfold Run at h
  split at h
  · rename_i v w1 hr; exact ⟨v, w1, hr, h⟩
  · exact h.elim

theorem RunS_elim {P : Program} {s : Sem Value} {w : World} {sh : Sh} {K : Value → World → Prop} (h : RunS P s w sh K) : ∃ v w1, s.run P w = .ok v w1 ∧ K v w1 := by
  obtain ⟨v, w1, hr, h⟩ := Run_elim h
  obtain ⟨u, rfl, hk⟩ := Sh.ex_sound h
  exact ⟨_, _, hr, hk⟩

theorem run_storeCells {P : Program} {a : Addr} {K : World → Prop} : ∀ {vs : List Value} {i : Nat} {w : World}, StL w a vs i K → ∃ w1, (storeCells a vs i).run P w = .ok () w1 ∧ K w1
  | [], i, w, h => ⟨w, rfl, h⟩
  | v :: vs, i, w, h => by
    obtain ⟨ho, ⟨old, hc⟩, hf, h⟩ := h
    obtain ⟨w1, hr, hk⟩ := run_storeCells (P := P) h
    refine ⟨w1, ?_, hk⟩
    simp only [storeCells, Sem.run_bind, run_store P w _ _ _ ho, hc, hf, Bool.false_eq_true, if_false, Result.andThen_ok, hr]

theorem callF_gets {P : Program} (hP : AllCallable P) {f : FuncId} {args : Array Value} {w : World} {R : Value → World → Prop} (hb : hasBody P f = true)
    (h : Calls P f args w fun e w2 => ∃ v, e = .returned v ∧ R v w2) : Gets P ((callFunc f args).run P w) R := by
  unfold hasBody at hb
  split at hb
  · rename_i fn hfn
    have hn := hP f fn hfn hb
    have hb' : fn.body.isNone = false := by cases hbb : fn.body <;> simp [hbb] at hb ⊢
    simp only [callFunc, Sem.run_bind, run_program, Result.andThen_ok, hfn, hn, hb', Bool.false_eq_true, if_false, Sem.run_pure]
    exact h
  · cases hb

theorem callD_sound {P : Program} {ty : TypeId} {fo : Operand} {fv : Value} {args : List Value} {w : World} {K : Value → World → Prop} {ρ : Operand → Value} (hf : fv = ρ fo)
    (hρ : ∀ f, ρ (.func f) = .func (.func f) #[] #[]) (h : callD P ty fo fv args w K) :
    ∃ f first caps, fv = .func (.func f) first caps ∧ ((hasBody P f = true ∧ Calls P f (first ++ args.toArray ++ caps) w fun e w2 => ∃ v, e = .returned v ∧ K v w2) ∨ ∃ v w1, (callFunc f (first ++ args.toArray ++ caps)).run P w = .ok (.value v) w1 ∧ K v w1) := by
  unfold callD at h
  split at h
  · rename_i f
    split at h
    · rename_i hb
      have h : Calls P f args.toArray w fun e w2 => ∃ v, e = .returned v ∧ K v w2 :=
        Calls.mono h fun e w2 he => Sh.ex_sound he
      refine ⟨f, #[], #[], by rw [hf, hρ], .inl ⟨hb, ?_⟩⟩
      simpa using h
    · obtain ⟨v, w1, hr, h⟩ := h
      obtain ⟨u, rfl, hk⟩ := Sh.ex_sound h
      refine ⟨f, #[], #[], by rw [hf, hρ], .inr ⟨_, w1, ?_, hk⟩⟩
      simpa using hr
  · obtain ⟨f, first, caps, rfl, hb, h⟩ := h
    refine ⟨_, _, _, rfl, .inl ⟨hb, h.mono fun e w2 ⟨u, he, hu⟩ => ?_⟩⟩
    obtain ⟨u', rfl, hk⟩ := Sh.ex_sound hu
    exact ⟨_, he, hk⟩

theorem opE_sound {P : Program} (hP : AllCallable P) {T : Nat → TypeId} {e : Env} {ρ : Operand → Value} {w : World} {o : Oper} {K : Value → World → Prop} (hρ : Agree ρ e) (h : opE P T e w o K) :
    Gets P ((execOp ρ o).run P w) K := by
  obtain ⟨dst, op, ty, pos, after, guard⟩ := o
  have lift : ∀ {s : Sem Value} {v : Value} {w1 : World}, s.run P w = .ok v w1 → K v w1 → Gets P (((do pure (Next.value (← s)) : Sem Next)).run P w) K := by
    intro s v w1 hr hk
    simp [hr, Gets, hk]
  have liftR : ∀ {s : Sem Value} {sh : Sh}, RunS P s w sh K → Gets P (((do pure (Next.value (← s)) : Sem Next)).run P w) K := by
    intro s sh h
    obtain ⟨v, w1, hr, hk⟩ := RunS_elim h
    exact lift hr hk
  have liftR' : ∀ {s : Sem Value}, Run P s w K → Gets P (((do pure (Next.value (← s)) : Sem Next)).run P w) K := by
    intro s h
    obtain ⟨v, w1, hr, hk⟩ := Run_elim h
    exact lift hr hk
  have liftE : ∀ {s : Sem Value} {t : Nat → TypeId}, Run P s w (entryK P t K) → Gets P (((do pure (Next.value (← s)) : Sem Next)).run P w) K := by
    intro s t h
    obtain ⟨v, w1, hr, hk⟩ := Run_elim h
    exact lift hr (entryK_elim hk)
  have liftN : ∀ {s : Sem Value}, Run P s w (nextK K) → Gets P (((do pure (Next.value (← s)) : Sem Next)).run P w) K := by
    intro s h
    obtain ⟨v, w1, hr, hk⟩ := Run_elim h
    exact lift hr (nextK_elim hk)
  have liftU : ∀ {s : Sem Unit} {w1 : World}, s.run P w = .ok () w1 → K undef w1 → Gets P (((do s; pure Next.skip : Sem Next)).run P w) K := by
    intro s w1 hr hk
    simp [hr, Gets, hk]
  unfold opE at h
  dsimp only at h
  split at h
  · rename_i t
    obtain ⟨z, h, hz⟩ := run_zero h
    refine lift (v := .pointer (some ⟨w.heap.size, 0, none⟩)) ?_ h
    simp [Instr.alloc, hz, newVar, newRow]
  · rename_i t x
    obtain ⟨v, hv, h⟩ := onV_elim h
    simp only [execOp, hρ.val _ _ hv]
    refine lift (v := .pointer (some ⟨w.heap.size, 0, none⟩)) ?_ h
    simp [Instr.box, newVar, newRow]
  · rename_i t len parts
    have h := evParts_sound hρ h
    simp only [execOp]
    have e : (parts.toList.map fun x => (x.1, ρ x.2)).toArray = parts.map fun (i, x) => (i, ρ x) := by apply Array.ext'; simp
    rw [e] at h
    exact liftR h
  · rename_i t x v
    obtain ⟨a, ha, h⟩ := onV_elim h
    split at h
    · rename_i a
      obtain ⟨u, hu, h⟩ := onV_elim h
      split at h
      · rename_i hn
        obtain ⟨hs, h⟩ := known_elim h
        obtain ⟨w1, hr, hk⟩ := run_storeCells (P := P) h
        have hn := Nat.eq_of_beq_eq_true hn
        simp only [execOp, hρ.val _ _ ha, hρ.val _ _ hu]
        refine liftU ?_ hk
        simp [Instr.storeAt, Instr.sureAddr, storeVar, run_sizeOf' w hs, hn, hr]
      · exact h.elim
    · exact h.elim
  · obtain ⟨lv, hl, h⟩ := onV_elim h
    obtain ⟨cv, hc, h⟩ := onV_elim h
    simp only [execOp, hρ.val _ _ hl, hρ.val _ _ hc]
    exact liftR h
  · refine lift (v := .map (some w.heap.size)) ?_ h
    simp [Instr.makeMap]
  · obtain ⟨lv, hl, h⟩ := onV_elim h
    obtain ⟨cv, hc, h⟩ := onV_elim h
    simp only [execOp, hρ.val _ _ hl, hρ.val _ _ hc]
    exact liftR h
  · obtain ⟨mv, hm, h⟩ := onV_elim h
    obtain ⟨kv, hk, h⟩ := onV_elim h
    obtain ⟨vv, hv, h⟩ := onV_elim h
    obtain ⟨u, w1, hr, h⟩ := Run_elim h
    simp only [execOp, hρ.val _ _ hm, hρ.val _ _ hk, hρ.val _ _ hv]
    exact liftU hr h
  · obtain ⟨mv, hm, h⟩ := onV_elim h
    obtain ⟨kv, hk, h⟩ := onV_elim h
    obtain ⟨vv, hv, h⟩ := onV_elim h
    obtain ⟨u, w1, hr, h⟩ := Run_elim h
    simp only [execOp, hρ.val _ _ hm, hρ.val _ _ hk, hρ.val _ _ hv]
    exact liftU hr h
  · obtain ⟨v, hv, h⟩ := onV_elim h
    simp only [execOp, hρ.val _ _ hv]
    exact liftR h
  · obtain ⟨v, hv, h⟩ := onV_elim h
    simp only [execOp, hρ.val _ _ hv]
    exact liftN h
  · obtain ⟨v, hv, h⟩ := onV_elim h
    simp only [execOp, hρ.val _ _ hv]
    exact liftE h
  · obtain ⟨v, hv, h⟩ := onV_elim h
    simp only [execOp, hρ.val _ _ hv]
    exact liftR h
  · obtain ⟨v, hv, h⟩ := onV_elim h
    simp only [execOp, hρ.val _ _ hv]
    exact liftR' h
  · rename_i f as ts
    obtain ⟨fv, hf, h⟩ := onV_elim h
    have h := evs_sound hρ h
    have ea : as.map ρ = (as.toList.map ρ).toArray := by apply Array.ext'; simp
    obtain ⟨f', first, caps, hfv, h3⟩ := callD_sound (ρ := ρ) (hρ.val _ _ hf).symm (fun g => hρ.val _ _ rfl) h
    subst hfv
    rcases h3 with ⟨hb3, h3⟩ | ⟨v, w1, h3, hk⟩
    · rw [← ea] at h3
      have := callF_gets hP hb3 h3
      simpa [execOp, resolve, hρ.val _ _ hf, Deferred.ofValue, invoke] using this
    · rw [← ea] at h3
      have : Gets P ((callFunc f' (first ++ as.map ρ ++ caps)).run P w) K := by rw [h3]; exact hk
      simpa [execOp, resolve, hρ.val _ _ hf, Deferred.ofValue, invoke] using this
  all_goals first
    | exact h.elim
    | (rename_i as ts
       have h := evs_sound hρ h
       have ea : (as.toList.map ρ).toArray = as.map ρ := by apply Array.ext'; simp
       rw [ea] at h
       first
         | (have h := liftR h; simpa [execOp, resolve, invoke, builtin] using h)
         | (have h := liftR' h; simpa [execOp, resolve, invoke, builtin] using h))

end Go.D
