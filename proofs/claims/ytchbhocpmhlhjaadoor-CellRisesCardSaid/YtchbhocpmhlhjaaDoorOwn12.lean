/- A map that is gone through, in whatever order. -/
import Derived.Test.YtchbhocpmhlhjaaDoorOwn11
import Derived.Maps.RangeRun
set_option linter.unusedSimpArgs false
set_option linter.unusedVariables false
namespace Go.D
open Go

/-- A map that is gone through: what is still to come. -/
def Ranging {κ : Type} (w : World) (r it : Nat) (inj : κ → Value) (M todo : List (κ × Value)) : Prop :=
  ∃ (es : Array MapEntry) (clock since : Nat) (seen : Array Nat) (c0 : Nat), w.heap[r]? = some (.map es clock) ∧ Stamp es.toList clock ∧ es.toList.map (fun e => (e.key, e.val)) = M.map (fun x => (inj x.1, x.2)) ∧
    w.heap[it]? = some (.mapIter (some r) since seen c0) ∧ (∀ e ∈ es.toList, e.born < since) ∧ since ≤ c0 ∧ since ≤ clock ∧
    (es.toList.filter fun e => !seen.contains e.born).map (fun e => (e.key, e.val)) = todo.map (fun x => (inj x.1, x.2))

/-- One more was handed out. -/
def Stepped {κ : Type} (w : World) (r it : Nat) (inj : κ → Value) (M todo : List (κ × Value)) (x : κ × Value) : Prop :=
  ∃ (es : Array MapEntry) (clock since : Nat) (seen : Array Nat) (e : MapEntry), w.heap[r]? = some (.map es clock) ∧ Stamp es.toList clock ∧ es.toList.map (fun e => (e.key, e.val)) = M.map (fun x => (inj x.1, x.2)) ∧
    w.heap[it]? = some (.mapIter (some r) since (seen.push e.born) clock) ∧ (∀ e ∈ es.toList, e.born < since) ∧ since ≤ clock ∧ e ∈ es.toList ∧ e.key = inj x.1 ∧ e.val = x.2 ∧
    (es.toList.filter fun y => !(seen.push e.born).contains y.born).map (fun e => (e.key, e.val)) = todo.map (fun x => (inj x.1, x.2))

section
variable {κ : Type} {w : World} {r it : Nat} {inj : κ → Value} {M todo : List (κ × Value)} {x : κ × Value}

theorem Stepped.ranging (h : Stepped w r it inj M todo x) : Ranging w r it inj M todo := by
  obtain ⟨es, clock, since, seen, e, h1, h2, h3, h4, h5, h6, _, _, _, h7⟩ := h
  exact ⟨es, clock, since, _, clock, h1, h2, h3, h4, h5, h6, h6, h7⟩

theorem Ranging.map (h : Ranging w r it inj M todo) : MapAt w r inj M := by
  obtain ⟨es, clock, since, seen, c0, h1, h2, h3, _⟩ := h
  exact ⟨es, clock, h1, h2, h3⟩

theorem Ranging.lt (h : Ranging w r it inj M todo) : it < w.heap.size := by
  obtain ⟨es, clock, since, seen, c0, _, _, _, h, _⟩ := h
  exact (Array.getElem?_eq_some_iff.1 h).1

theorem Ranging.upd {w' : World} {F : List Nat} (h : Ranging w r it inj M todo) (u : Upd F w w') (hr : r ∉ F) (hi : it ∉ F) : Ranging w' r it inj M todo := by
  have l1 := h.map.lt
  have l2 := h.lt
  obtain ⟨es, clock, since, seen, c0, h1, h2, h3, h4, h5⟩ := h
  exact ⟨es, clock, since, seen, c0, by rw [u.blk r l1 hr]; exact h1, h2, h3, by rw [u.blk it l2 hi]; exact h4, h5⟩

theorem Ranging.keep {w' : World} (h : Ranging w r it inj M todo) (u : Upd [] w w') : Ranging w' r it inj M todo := h.upd u (by simp) (by simp)

/-- It begins. -/
theorem Rng_rule {P : Program} {mt kt et : TypeId} (hm : P.underlying mt = some (.map kt et)) (h : MapAt w r inj M) {K : Option Addr → World → Prop}
    (hK : ∀ w', Ranging w' r w.heap.size inj M M → Upd [] w w' → K (some ⟨w.heap.size, 0, none⟩) w') : Rng P mt (.map (some r)) w K := by
  have hlt := h.lt
  obtain ⟨es, clock, hh, hS, hM⟩ := h
  unfold Rng Run
  rw [run_range_map w mt kt et r es clock hm hh]
  have u : Upd [] w (w.alloc (.mapIter (some r) clock #[] clock)) := push_upd w _
  refine ⟨_, rfl, hK _ ⟨es, clock, clock, #[], clock, by rw [u.blk r hlt (by simp)]; exact hh, hS, hM, heap_alloc_new w _, hS.1, Nat.le_refl _, Nat.le_refl _, ?_⟩ u⟩
  rw [← hM]
  congr 1
  exact List.filter_eq_self.2 fun e _ => by simp

theorem filter_split {p : MapEntry → Bool} {es : List MapEntry} {e : MapEntry} (hn : (es.map (·.born)).Nodup) {l1 l2 : List MapEntry} (hs : es.filter p = l1 ++ e :: l2) :
    es.filter (fun y => p y && !(y.born == e.born)) = l1 ++ l2 := by
  have h1 : es.filter (fun y => p y && !(y.born == e.born)) = (es.filter p).filter (fun y => !(y.born == e.born)) := by
    rw [List.filter_filter]
    congr 1
    funext y
    rw [Bool.and_comm]
  have h2 : ((es.filter p).map (·.born)).Nodup := ((List.filter_sublist).map _).nodup hn
  rw [h1, hs]
  rw [hs] at h2
  simp only [List.map_append, List.map_cons, List.nodup_append, List.nodup_cons] at h2
  obtain ⟨_, ⟨h3, _⟩, h4⟩ := h2
  rw [List.filter_append, List.filter_cons]
  have a1 : l1.filter (fun y => !(y.born == e.born)) = l1 := List.filter_eq_self.2 fun y hy => by
    have := h4 y.born (List.mem_map_of_mem hy) e.born (by simp)
    simpa using this
  have a2 : l2.filter (fun y => !(y.born == e.born)) = l2 := List.filter_eq_self.2 fun y hy => by
    have : y.born ≠ e.born := fun he => h3 (by rw [← he]; exact List.mem_map_of_mem hy)
    simpa using this
  rw [a1, a2]
  simp

/-- One more, if there is one. -/
theorem Next_rule {P : Program} {ty : TypeId} (h : Ranging w r it inj M todo) {K : Value → World → Prop} (h0 : todo = [] → K (.tuple #[.bool false]) w)
    (h1 : ∀ t1 x t2 w', todo = t1 ++ x :: t2 → Stepped w' r it inj M (t1 ++ t2) x → Upd [it] w w' → K (.tuple #[.bool true, inj x.1, x.2]) w') : Run P (Instr.next (.pointer (some ⟨it, 0, none⟩)) false ty) w K := by
  have hne : r ≠ it := by
    obtain ⟨es, clock, since, seen, c0, hb, _, _, hr, _⟩ := h
    rintro rfl
    rw [hb] at hr; cases hr
  have hlt := h.lt
  obtain ⟨es, clock, since, seen, c0, hb, hS, hM, hr, hold, hsc, hsk, hT⟩ := h
  have eL : (leftOf es seen).toList = es.toList.filter fun e => !seen.contains e.born := by unfold leftOf; rw [Array.toList_filter]
  unfold Run
  rcases run_next_at (P := P) w ty it r since c0 seen es clock hr hb hold hsc with ⟨hz, hrun⟩ | ⟨e, he, w1, hal, hrun⟩
  · rw [hrun]
    refine h0 ?_
    have : (leftOf es seen).toList.length = 0 := by simpa using hz
    rw [eL] at this
    have h2 := congrArg List.length hT
    rw [List.length_map, List.length_map, this] at h2
    exact List.length_eq_zero_iff.1 h2.symm
  · rw [hrun]
    rw [eL] at he
    obtain ⟨l1, l2, hs⟩ := List.append_of_mem he
    rw [hs, List.map_append, List.map_cons] at hT
    obtain ⟨t1, t', rfl, ht1, ht'⟩ := List.map_eq_append_iff.1 hT.symm
    obtain ⟨x, t2, rfl, hx, ht2⟩ := List.map_eq_cons_iff.1 ht'
    simp only [Prod.mk.injEq] at hx
    have hem : e ∈ es.toList := (List.mem_filter.1 he).1
    have u1 : Upd [] w w1 := by
      rcases hal with rfl | rfl
      · exact Upd.refl _ _
      · exact drw_upd w
    have hr1 : w1.heap[it]? = some (.mapIter (some r) since seen c0) := by rcases hal with rfl | rfl <;> exact hr
    have hb1 : w1.heap[r]? = some (.map es clock) := by rcases hal with rfl | rfl <;> exact hb
    have hlt1 := (Array.getElem?_eq_some_iff.1 hr1).1
    have hgoal := h1 t1 x t2 (ChangeMaps.setBlock w1 it (.mapIter (some r) since (seen.push e.born) clock)) rfl ⟨es, clock, since, seen, e, ?_, hS, hM, ?_, hold, hsk, hem, hx.1.symm, hx.2.symm, ?_⟩ (u1.after (setObj_upd w1 it _))
    · rw [hx.1, hx.2] at hgoal; exact hgoal
    · show (w1.heap.setIfInBounds it _)[r]? = _
      rw [Array.getElem?_setIfInBounds_ne (fun e => hne e.symm)]; exact hb1
    · show (w1.heap.setIfInBounds it _)[it]? = _
      rw [Array.getElem?_setIfInBounds_self_of_lt hlt1]
    · have e1 : (fun y : MapEntry => !(seen.push e.born).contains y.born) = fun y => (!seen.contains y.born) && !(y.born == e.born) := by
        funext y
        rw [contains_push, Bool.not_or]
      rw [e1, filter_split hS.2 hs, List.map_append, List.map_append, ht1, ht2]

/-- What was handed out, read. -/
theorem Entry_rule {P : Program} (h : Stepped w r it inj M todo x) {K : Value → World → Prop} (hK : K (.tuple #[inj x.1, x.2]) w) : Run P (Instr.entry (.pointer (some ⟨it, 0, none⟩))) w K := by
  obtain ⟨es, clock, since, seen, e, h1, h2, h3, h4, h5, h6, h7, h8, h9, h10⟩ := h
  unfold Run
  rw [run_entry_at w it r since seen es clock e h4 h1 h7 h2.2, h8, h9]
  exact hK

/-- How many are still to come. -/
def leftN (w : World) (r it : Nat) : Nat := match w.heap[r]?, w.heap[it]? with
  | some (.map es _), some (.mapIter _ _ seen _) => (es.toList.filter fun e => !seen.contains e.born).length
  | _, _ => 0

theorem Ranging.left (h : Ranging w r it inj M todo) : leftN w r it = todo.length := by
  obtain ⟨es, clock, since, seen, c0, h1, h2, h3, h4, h5, h6, h7, h8⟩ := h
  unfold leftN
  rw [h1, h4]
  have := congrArg List.length h8
  simpa using this

theorem Ranging.len (h : Ranging w r it inj M todo) : todo.length ≤ M.length := by
  obtain ⟨es, clock, since, seen, c0, h1, h2, h3, h4, h5, h6, h7, h8⟩ := h
  have a := congrArg List.length h8
  have b := congrArg List.length h3
  simp only [List.length_map] at a b
  have := List.length_filter_le (fun e : MapEntry => !seen.contains e.born) es.toList
  omega

end

end Go.D
