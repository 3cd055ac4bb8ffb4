/- Maps: lookup, update, delete, length; keys that are whole numbers or strings. -/
import Derived.Test.YtdbkbaeeccemkaaOwn6
import Derived.ChangeKeysEq
import Derived.Maps.RangeRun
set_option linter.unusedSimpArgs false
set_option linter.unusedVariables false
set_option linter.unusedSectionVars false
namespace Go.D

theorem runGet {P : Program} {w : World} {r : Nat} {es : Array MapEntry} {clock : Nat} (h : w.heap[r]? = some (.map es clock)) : (getObj r).run P w = .ok (.map es clock) w := by simp [getObj, Sem.run, h]

theorem bytesEq (a b : ByteArray) : (a == b) = decide (a = b) := by
  have h : (a == b) = true ↔ a = b := by
    obtain ⟨x⟩ := a
    obtain ⟨y⟩ := b
    constructor
    · intro h
      have e : x = y := by simpa using (show (x == y) = true from h)
      rw [e]
    · intro h
      cases h
      show (x == x) = true
      simp
  by_cases e : a = b
  · rw [h.2 e, decide_eq_true e]
  · rw [decide_eq_false e, Bool.eq_false_iff]; exact fun h2 => e (h.1 h2)

/-- Entries' stamps: below the clock, and apart. -/
def Stamp (es : List MapEntry) (clock : Nat) : Prop := (∀ e ∈ es, e.born < clock) ∧ (es.map (·.born)).Nodup

theorem Stamp.nil : Stamp [] 0 := ⟨by simp, by simp⟩
theorem Stamp.push {es : List MapEntry} {clock : Nat} (h : Stamp es clock) (k v : Value) : Stamp (es ++ [{ key := k, val := v, born := clock }]) (clock + 1) := by
  refine ⟨fun e he => ?_, ?_⟩
  · rcases List.mem_append.1 he with he | he
    · have := h.1 e he; omega
    · simp at he; subst he; simp
  · rw [List.map_append, List.nodup_append]
    refine ⟨h.2, by simp, fun a ha b hb => ?_⟩
    simp at hb
    subst hb
    obtain ⟨e, he, rfl⟩ := List.mem_map.1 ha
    have := h.1 e he
    omega
theorem Stamp.modify {es : List MapEntry} {clock : Nat} (h : Stamp es clock) (j : Nat) (f : MapEntry → MapEntry) (hf : ∀ e, (f e).born = e.born) : Stamp (es.modify j f) clock := by
  have e : (es.modify j f).map (·.born) = es.map (·.born) := by
    apply List.ext_getElem?
    intro i
    rw [List.getElem?_map, List.getElem?_map, List.getElem?_modify]
    cases es[i]? with
    | none => rfl
    | some x => simp only [Option.map_some]; split <;> simp [hf]
  refine ⟨fun x hx => ?_, by rw [e]; exact h.2⟩
  have : x.born ∈ (es.modify j f).map (·.born) := List.mem_map_of_mem hx
  rw [e] at this
  obtain ⟨y, hy, h2⟩ := List.mem_map.1 this
  have h2 : y.born = x.born := h2
  rw [← h2]; exact h.1 y hy
theorem Stamp.sub {es es' : List MapEntry} {clock : Nat} (h : Stamp es clock) (hs : es'.Sublist es) : Stamp es' clock :=
  ⟨fun e he => h.1 e (hs.subset he), (hs.map _).nodup h.2⟩

/-- A map's block. -/
def MapAt {κ : Type} (w : World) (r : Nat) (inj : κ → Value) (M : List (κ × Value)) : Prop :=
  ∃ es clock, w.heap[r]? = some (.map es clock) ∧ Stamp es.toList clock ∧ es.toList.map (fun e => (e.key, e.val)) = M.map (fun x => (inj x.1, x.2))

theorem MapAt.lt {κ : Type} {w : World} {r : Nat} {inj : κ → Value} {M : List (κ × Value)} (h : MapAt w r inj M) : r < w.heap.size := by
  obtain ⟨es, clock, h, _⟩ := h
  exact (Array.getElem?_eq_some_iff.1 h).1

theorem MapAt.upd {κ : Type} {w w' : World} {r : Nat} {inj : κ → Value} {M : List (κ × Value)} {F : List Nat} (h : MapAt w r inj M) (u : Upd F w w') (hr : r ∉ F) : MapAt w' r inj M := by
  have hlt := h.lt
  obtain ⟨es, clock, h, hs, hm⟩ := h
  exact ⟨es, clock, by rw [u.blk r hlt hr]; exact h, hs, hm⟩

theorem MapAt.new {κ : Type} {w : World} {r : Nat} (inj : κ → Value) (h : w.heap[r]? = some (.map #[] 0)) : MapAt w r inj [] := ⟨#[], 0, h, Stamp.nil, rfl⟩

section
variable {κ : Type} [DecidableEq κ]

/-- Where a key stands, and its value. -/
def spot (k : κ) : List (κ × Value) → Nat → Option (Nat × Value)
  | [], _ => none
  | x :: r, i => if k = x.1 then some (i, x.2) else spot k r (i + 1)

/-- What a key has. -/
def look (k : κ) (M : List (κ × Value)) : Option Value := (spot k M 0).map (·.2)

/-- A key's value, set. -/
def put (k : κ) (v : Value) : List (κ × Value) → List (κ × Value)
  | [] => [(k, v)]
  | x :: r => if k = x.1 then (x.1, v) :: r else x :: put k v r

/-- A key, gone. -/
def drop1 (k : κ) : List (κ × Value) → List (κ × Value)
  | [] => []
  | x :: r => if k = x.1 then r else x :: drop1 k r

theorem spot_shift (k : κ) : ∀ (M : List (κ × Value)) (i : Nat), spot k M i = (spot k M 0).map (fun y => (y.1 + i, y.2))
  | [], i => rfl
  | x :: r, i => by
    unfold spot
    split
    · simp
    · rw [spot_shift k r (i + 1), spot_shift k r (0 + 1), Option.map_map]
      congr 1
      funext y; simp; omega

@[simp] theorem look_nil (k : κ) : look k [] = none := rfl
theorem look_cons (k : κ) (x : κ × Value) (r : List (κ × Value)) : look k (x :: r) = if k = x.1 then some x.2 else look k r := by
  unfold look
  rw [spot]
  split
  · rfl
  · rw [spot_shift k r (0 + 1), Option.map_map]; rfl

theorem look_put (k j : κ) (v : Value) : ∀ M : List (κ × Value), look j (put k v M) = if j = k then some v else look j M
  | [] => by
    simp only [put, look_cons, look_nil]
  | x :: r => by
    unfold put
    by_cases h : k = x.1
    · rw [if_pos h, look_cons, look_cons]
      by_cases hj : j = x.1
      · simp [hj, h]
      · simp [hj, h]
    · rw [if_neg h, look_cons, look_cons, look_put k j v r]
      by_cases hj : j = x.1
      · have : j ≠ k := by rintro rfl; exact h hj
        simp [hj]; intro h2; exact absurd h2.symm h
      · simp [hj]

theorem put_length (k : κ) (v : Value) : ∀ M : List (κ × Value), (put k v M).length = if (look k M).isSome then M.length else M.length + 1
  | [] => by simp [put]
  | x :: r => by
    unfold put
    rw [look_cons]
    by_cases h : k = x.1
    · simp [h]
    · simp only [if_neg h, List.length_cons, put_length k v r]; split <;> simp

/-- The keys, each once. -/
def Once (M : List (κ × Value)) : Prop := (M.map (·.1)).Nodup

theorem keys_put (k : κ) (v : Value) : ∀ M : List (κ × Value), (put k v M).map (·.1) = if (look k M).isSome then M.map (·.1) else M.map (·.1) ++ [k]
  | [] => by simp [put]
  | x :: r => by
    unfold put
    rw [look_cons]
    by_cases h : k = x.1
    · simp [h]
    · simp only [if_neg h, List.map_cons, keys_put k v r]; split <;> simp

theorem look_isSome (k : κ) : ∀ M : List (κ × Value), (look k M).isSome = true ↔ k ∈ M.map (·.1)
  | [] => by simp
  | x :: r => by
    rw [look_cons]
    by_cases h : k = x.1
    · simp [h]
    · rw [if_neg h, look_isSome k r, List.map_cons, List.mem_cons]; simp [h]

theorem Once.put {k : κ} {v : Value} {M : List (κ × Value)} (h : Once M) : Once (put k v M) := by
  unfold Once at *
  rw [keys_put]
  split
  · exact h
  · rename_i hk
    rw [look_isSome] at hk
    rw [List.nodup_append]
    exact ⟨h, by simp, by intro a ha b hb; simp at hb; subst hb; rintro rfl; exact hk ha⟩

theorem look_drop1 (k j : κ) : ∀ M : List (κ × Value), Once M → look j (drop1 k M) = if j = k then none else look j M
  | [], _ => by simp [drop1]
  | x :: r, h => by
    have h' : x.1 ∉ r.map (·.1) ∧ Once r := by
      unfold Once at h; rw [List.map_cons, List.nodup_cons] at h; exact h
    unfold drop1
    by_cases hk : k = x.1
    · rw [if_pos hk, look_cons]
      by_cases hj : j = k
      · rw [if_pos hj]
        have h2 : ¬ (look j r).isSome = true := fun h3 => h'.1 (by rw [← hk, ← hj]; exact (look_isSome j r).1 h3)
        simpa using h2
      · rw [if_neg hj, if_neg (by rw [← hk]; exact hj)]
    · rw [if_neg hk, look_cons, look_cons, look_drop1 k j r h'.2]
      by_cases hj : j = x.1
      · have : j ≠ k := by rintro rfl; exact hk hj
        simp [hj]; intro h2; exact absurd h2.symm hk
      · simp [hj]

theorem keys_drop1 (k : κ) : ∀ M : List (κ × Value), (drop1 k M).map (·.1) = (M.map (·.1)).erase k
  | [] => rfl
  | x :: r => by
    unfold drop1
    by_cases h : k = x.1
    · simp [h]
    · rw [if_neg h, List.map_cons, keys_drop1 k r, List.map_cons, List.erase_cons_tail (by simp; exact fun e => h e.symm)]

theorem Once.drop1 {k : κ} {M : List (κ × Value)} (h : Once M) : Once (drop1 k M) := by
  unfold Once at *
  rw [keys_drop1]
  exact h.erase k

/-- The search. -/
theorem findNow_eq {d : TypeDesc} {inj : κ → Value} (hs : ∀ a b, Instr.sameNow d (inj a) (inj b) = some (decide (a = b))) (k : κ) :
    ∀ (es : List MapEntry) (M : List (κ × Value)) (i : Nat), es.map (fun e => (e.key, e.val)) = M.map (fun x => (inj x.1, x.2)) → Instr.findNow d (inj k) es i = some (spot k M i)
  | [], [], _, _ => rfl
  | [], _ :: _, _, h => by simp at h
  | _ :: _, [], _, h => by simp at h
  | e :: es, x :: M, i, h => by
    simp only [List.map_cons, List.cons.injEq, Prod.mk.injEq] at h
    unfold Instr.findNow spot
    rw [h.1.1, hs k x.1]
    by_cases hk : k = x.1
    · simp [hk, h.1.2]
    · simp only [hk, decide_false, if_false]
      exact findNow_eq hs k es M (i + 1) h.2

/-- Keys of a kind: told apart by their values. -/
structure KeyOf (P : Program) (kt : TypeId) {κ : Type} [DecidableEq κ] (inj : κ → Value) : Prop where
  und : ∃ d, P.underlying kt = some d
  chk : ∀ e n k (w : World), (Instr.checkKey e (n + 2) kt (inj k)).run P w = .ok () w
  find : ∀ (w : World) (k : κ) (es : List MapEntry) (M : List (κ × Value)), es.map (fun e => (e.key, e.val)) = M.map (fun x => (inj x.1, x.2)) → (Instr.findKey kt (inj k) es).run P w = .ok (spot k M 0) w
  same : ∀ a n, Instr.sameBits (n + 2) (inj a) (inj a) = true

theorem keyInt {P : Program} {kt : TypeId} {k : IntKind} (h : P.underlying kt = some (.int k)) : KeyOf P kt (fun a : Int => .int k a) := by
  refine ⟨⟨_, h⟩, fun e n k w => by simp [Instr.checkKey, run_underlyingD h], fun w k es M hM => ?_, fun a n => by simp [Instr.sameBits]⟩
  have hs : ∀ a b : Int, ∀ k' : IntKind, Instr.sameNow (.int k') (.int k' a) (.int k' b) = some (decide (a = b)) := fun a b k' => by by_cases hab : a = b <;> simp [Instr.sameNow, hab]
  simp [Instr.findKey, run_underlyingD h, findNow_eq (inj := fun a : Int => Value.int _ a) (fun a b => hs a b _) k es M 0 hM]

theorem keyString {P : Program} {kt : TypeId} (h : P.underlying kt = some .string) : KeyOf P kt (fun a : ByteArray => .string a) := by
  refine ⟨⟨_, h⟩, fun e n k w => by simp [Instr.checkKey, run_underlyingD h], fun w k es M hM => ?_, fun a n => by simp [Instr.sameBits, bytesEq]⟩
  have hs : ∀ a b : ByteArray, Instr.sameNow .string (.string a) (.string b) = some (decide (a = b)) := fun a b => by by_cases hab : a = b <;> simp [Instr.sameNow, hab, bytesEq]
  simp [Instr.findKey, run_underlyingD h, findNow_eq (inj := fun a : ByteArray => Value.string a) hs k es M 0 hM]

theorem run_findKey {P : Program} {kt : TypeId} {inj : κ → Value} (hK : KeyOf P kt inj) {w : World} (k : κ) {es : List MapEntry} {M : List (κ × Value)} (h : es.map (fun e => (e.key, e.val)) = M.map (fun x => (inj x.1, x.2))) :
    (Instr.findKey kt (inj k) es).run P w = .ok (spot k M 0) w := hK.find w k es M h

/-- What is looked up. -/
theorem Lookup_rule {P : Program} {mt kt et : TypeId} {inj : κ → Value} (hK : KeyOf P kt inj) (hm : P.underlying mt = some (.map kt et)) {z : Value} (hz : ∃ i, P.info? et = some i ∧ i.zero = some z)
    {w : World} {r : Nat} {M : List (κ × Value)} (h : MapAt w r inj M) {k : κ} {K : Value → World → Prop} (hk : K ((look k M).getD z) w) : Run P (Instr.lookup mt (.map (some r)) (inj k) false) w K := by
  obtain ⟨es, clock, hh, hS, hM⟩ := h
  obtain ⟨i, hi, hzi⟩ := hz
  obtain ⟨d, hd⟩ := hK.und
  have hc := hK.chk
  have hzv : ∀ w, (zeroValue et).run P w = .ok z w := fun w => by simp [zeroValue, typeInfo, hi, hzi]
  have hf := run_findKey hK (w := w) k (by simpa using hM)
  have hrun : (Instr.lookup mt (.map (some r)) (inj k) false).run P w = .ok ((look k M).getD z) w := by
    simp only [Instr.lookup]
    rcases hsp : spot k M 0 with _ | ⟨j, v⟩
    · rw [hsp] at hf
      simp [run_underlyingD hm, runGet hh, hc, hf, hzv, look, hsp]
    · rw [hsp] at hf
      simp [run_underlyingD hm, runGet hh, hc, hf, look, hsp]
  unfold Run
  rw [hrun]; exact hk

/-- What is looked up, and whether it is there. -/
theorem Lookup2_rule {P : Program} {mt kt et : TypeId} {inj : κ → Value} (hK : KeyOf P kt inj) (hm : P.underlying mt = some (.map kt et)) {z : Value} (hz : ∃ i, P.info? et = some i ∧ i.zero = some z)
    {w : World} {r : Nat} {M : List (κ × Value)} (h : MapAt w r inj M) {k : κ} {K : Value → World → Prop} (hk : K (.tuple #[(look k M).getD z, .bool (look k M).isSome]) w) : Run P (Instr.lookup mt (.map (some r)) (inj k) true) w K := by
  obtain ⟨es, clock, hh, hS, hM⟩ := h
  obtain ⟨i, hi, hzi⟩ := hz
  obtain ⟨d, hd⟩ := hK.und
  have hc := hK.chk
  have hzv : ∀ w, (zeroValue et).run P w = .ok z w := fun w => by simp [zeroValue, typeInfo, hi, hzi]
  have hf := run_findKey hK (w := w) k (by simpa using hM)
  have hrun : (Instr.lookup mt (.map (some r)) (inj k) true).run P w = .ok (.tuple #[(look k M).getD z, .bool (look k M).isSome]) w := by
    simp only [Instr.lookup]
    rcases hsp : spot k M 0 with _ | ⟨j, v⟩
    · rw [hsp] at hf
      simp [run_underlyingD hm, runGet hh, hc, hf, hzv, look, hsp]
    · rw [hsp] at hf
      simp [run_underlyingD hm, runGet hh, hc, hf, look, hsp]
  unfold Run
  rw [hrun]; exact hk

theorem spot_lt (k : κ) : ∀ (M : List (κ × Value)) (i j : Nat) (v : Value), spot k M i = some (j, v) → i ≤ j ∧ j < i + M.length ∧ (M[j - i]?).map (·.1) = some k
  | [], _, _, _, h => by simp [spot] at h
  | x :: r, i, j, v, h => by
    unfold spot at h
    split at h
    · rename_i hk
      simp at h
      obtain ⟨rfl, rfl⟩ := h
      simp [hk]
    · obtain ⟨h1, h2, h3⟩ := spot_lt k r (i + 1) j v h
      refine ⟨by omega, by simp; omega, ?_⟩
      rw [show j - i = (j - (i + 1)) + 1 by omega, List.getElem?_cons_succ]
      exact h3

theorem put_none (k : κ) (v : Value) : ∀ (M : List (κ × Value)) (i : Nat), spot k M i = none → put k v M = M ++ [(k, v)]
  | [], _, _ => rfl
  | x :: r, i, h => by
    unfold spot at h
    split at h
    · cases h
    · rename_i hk
      unfold put
      rw [if_neg hk, put_none k v r (i + 1) h]; rfl

theorem put_some (k : κ) (v : Value) : ∀ (M : List (κ × Value)) (i j : Nat) (u : Value), spot k M i = some (j, u) → put k v M = M.modify (j - i) (fun x => (x.1, v))
  | [], _, _, _, h => by simp [spot] at h
  | x :: r, i, j, u, h => by
    unfold spot at h
    unfold put
    split at h
    · rename_i hk
      simp at h
      obtain ⟨rfl, rfl⟩ := h
      simp [hk]
    · rename_i hk
      obtain ⟨h1, _, _⟩ := spot_lt k r (i + 1) j u h
      rw [if_neg hk, put_some k v r (i + 1) j u h, show j - i = (j - (i + 1)) + 1 by omega]
      rfl

theorem setObj_run {P : Program} {w : World} {r : Nat} {es : Array MapEntry} {clock : Nat} (h : w.heap[r]? = some (.map es clock)) (o : Obj) : (setObj r o).run P w = .ok () { w with heap := w.heap.setIfInBounds r o } := by simp [setObj, Sem.run, h]

theorem setObj_upd (w : World) (r : Nat) (o : Obj) : Upd [r] w { w with heap := w.heap.setIfInBounds r o } := by
  refine ⟨rfl, rfl, rfl, by simp, fun k hk hr => ?_⟩
  simp at hr
  show (w.heap.setIfInBounds r o)[k]? = _
  rw [Array.getElem?_setIfInBounds_ne (fun e => hr e.symm)]

/-- A key's value is set. -/
theorem MUp_rule {P : Program} {mt kt et : TypeId} {inj : κ → Value} (hK : KeyOf P kt inj) (hm : P.underlying mt = some (.map kt et))
    {w : World} {r : Nat} {M : List (κ × Value)} (h : MapAt w r inj M) {k : κ} {v : Value} {K : World → Prop} (hk : ∀ w', MapAt w' r inj (put k v M) → Upd [r] w w' → K w') : MUp P mt (.map (some r)) (inj k) v w K := by
  have hlt := h.lt
  obtain ⟨es, clock, hh, hS, hM⟩ := h
  obtain ⟨d, hd⟩ := hK.und
  have hc := hK.chk
  have hf := run_findKey hK (w := w) k (by simpa using hM)
  unfold MUp Run
  rcases hsp : spot k M 0 with _ | ⟨j, u⟩
  · rw [hsp] at hf
    have hrun : (Instr.mapUpdate mt (.map (some r)) (inj k) v).run P w = .ok () { w with heap := w.heap.setIfInBounds r (.map (es.push { key := inj k, val := v, born := clock }) (clock + 1)) } := by
      simp [Instr.mapUpdate, run_underlyingD hm, runGet hh, hc, hf, setObj_run hh]
    rw [hrun]
    refine hk _ ⟨_, _, by show (w.heap.setIfInBounds r _)[r]? = _; rw [Array.getElem?_setIfInBounds_self_of_lt hlt], by simpa using hS.push (inj k) v, ?_⟩ (setObj_upd w r _)
    rw [put_none k v M 0 hsp]
    simp [hM]
  · rw [hsp] at hf
    obtain ⟨h1, h2, h3⟩ := spot_lt k M 0 j u hsp
    simp only [Nat.sub_zero, Nat.zero_add] at h2 h3
    have hl : es.size = M.length := by
      have := congrArg List.length hM; simpa using this
    have hej : j < es.size := by omega
    have hkey : es[j].key = inj k := by
      have h4 : (es.toList.map (fun e => (e.key, e.val)))[j]? = (M.map (fun x => (inj x.1, x.2)))[j]? := by rw [hM]
      rw [List.getElem?_map, List.getElem?_map, List.getElem?_eq_getElem (by simpa using hej), List.getElem?_eq_getElem h2] at h4
      rw [List.getElem?_eq_getElem h2] at h3
      simp at h3 h4
      rw [h4.1, h3]
    have hstay : ∀ w, (Instr.keyThatStays (inj k) (inj k)).run P w = .ok (inj k) w := fun w => by
      simp [Instr.keyThatStays, hK.same k 9998]
    have hrun : (Instr.mapUpdate mt (.map (some r)) (inj k) v).run P w = .ok () { w with heap := w.heap.setIfInBounds r (.map (es.modify j fun e => { e with key := inj k, val := v }) clock) } := by
      simp [Instr.mapUpdate, run_underlyingD hm, runGet hh, hc, hf, hej, hkey, hstay, setObj_run hh]
    rw [hrun]
    refine hk _ ⟨_, _, by show (w.heap.setIfInBounds r _)[r]? = _; rw [Array.getElem?_setIfInBounds_self_of_lt hlt], by rw [Array.toList_modify]; exact hS.modify _ _ fun _ => rfl, ?_⟩ (setObj_upd w r _)
    rw [put_some k v M 0 j u hsp, Nat.sub_zero]
    apply List.ext_getElem?
    intro i
    have h4 : (es.toList.map (fun e => (e.key, e.val)))[i]? = (M.map (fun x => (inj x.1, x.2)))[i]? := by rw [hM]
    rw [List.getElem?_map, List.getElem?_map] at h4
    rw [List.getElem?_map, List.getElem?_map, Array.toList_modify, List.getElem?_modify, List.getElem?_modify]
    by_cases hij : j = i
    · subst hij
      rw [List.getElem?_eq_getElem h2] at h3 ⊢
      rw [List.getElem?_eq_getElem (by simpa using hej)]
      simp at h3
      simp [h3]
    · simp only [hij, if_false]
      simpa [Option.map_map] using h4

/-- A key is gone. -/
theorem Del_rule {P : Program} {mt kt et : TypeId} {inj : κ → Value} (hK : KeyOf P kt inj) (hm : P.underlying mt = some (.map kt et)) {kt' ty : TypeId}
    {w : World} {r : Nat} {M : List (κ × Value)} (h : MapAt w r inj M) {k : κ} {K : Value → World → Prop} (hk : ∀ v w', MapAt w' r inj (drop1 k M) → Upd [r] w w' → K v w') : Del P #[mt, kt'] ty #[.map (some r), inj k] w K := by
  have hlt := h.lt
  obtain ⟨es, clock, hh, hS, hM⟩ := h
  obtain ⟨d, hd⟩ := hK.und
  have hc := hK.chk
  have hf := run_findKey hK (w := w) k (by simpa using hM)
  have hdrop : ∀ (M : List (κ × Value)) (i : Nat), drop1 k M = match spot k M i with | some (j, _) => M.eraseIdx (j - i) | none => M := by
    intro M
    induction M with
    | nil => intro i; rfl
    | cons x r ih =>
      intro i
      unfold drop1 spot
      by_cases hkx : k = x.1
      · simp [hkx]
      · simp only [hkx, if_false]
        rw [ih (i + 1)]
        rcases hsp : spot k r (i + 1) with _ | ⟨j, u⟩
        · rfl
        · obtain ⟨h1, _, _⟩ := spot_lt k r (i + 1) j u hsp
          simp only
          rw [show j - i = (j - (i + 1)) + 1 by omega]; rfl
  unfold Del Run
  rcases hsp : spot k M 0 with _ | ⟨j, u⟩
  · rw [hsp] at hf
    have hrun : (Builtin.delete_ #[mt, kt'] ty #[.map (some r), inj k]).run P w = .ok (.tuple #[]) { w with heap := w.heap.setIfInBounds r (.map es clock) } := by
      simp [Builtin.delete_, run_underlyingD hm, runGet hh, hc, hf, setObj_run hh]
    rw [hrun]
    refine hk _ _ ⟨_, _, by show (w.heap.setIfInBounds r _)[r]? = _; rw [Array.getElem?_setIfInBounds_self_of_lt hlt], hS, ?_⟩ (setObj_upd w r _)
    rw [hdrop M 0, hsp]; exact hM
  · rw [hsp] at hf
    have hrun : (Builtin.delete_ #[mt, kt'] ty #[.map (some r), inj k]).run P w = .ok (.tuple #[]) { w with heap := w.heap.setIfInBounds r (.map (es.eraseIdxIfInBounds j) clock) } := by
      simp [Builtin.delete_, run_underlyingD hm, runGet hh, hc, hf, setObj_run hh]
    rw [hrun]
    obtain ⟨h1, h2, h3⟩ := spot_lt k M 0 j u hsp
    simp only [Nat.zero_add] at h2
    have hl : es.size = M.length := by
      have := congrArg List.length hM; simpa using this
    have e : (es.eraseIdxIfInBounds j).toList = es.toList.eraseIdx j := by
      simp [Array.eraseIdxIfInBounds, show j < es.size by omega]
    refine hk _ _ ⟨_, _, by show (w.heap.setIfInBounds r _)[r]? = _; rw [Array.getElem?_setIfInBounds_self_of_lt hlt], by rw [e]; exact hS.sub (List.eraseIdx_sublist _ _), ?_⟩ (setObj_upd w r _)
    rw [hdrop M 0, hsp]
    simp only [Nat.sub_zero]
    have e2 : ∀ {α β : Type} (g : α → β) (l : List α) (i : Nat), (l.eraseIdx i).map g = (l.map g).eraseIdx i := by
      intro α β g l
      induction l with
      | nil => intro i; simp
      | cons a l ih => intro i; cases i <;> simp [ih]
    rw [e, e2, hM, e2]

/-- How many keys. -/
theorem MLen_rule {P : Program} {mt kt et ty : TypeId} {inj : κ → Value} (hm : P.underlying mt = some (.map kt et)) {w : World} {r : Nat} {M : List (κ × Value)} (h : MapAt w r inj M) {K : Int → World → Prop} (hk : K M.length w) : MLen P #[mt] ty #[.map (some r)] w K := by
  obtain ⟨es, clock, hh, hS, hM⟩ := h
  have hl : es.size = M.length := by
    have := congrArg List.length hM; simpa using this
  have hrun : (Builtin.len_ #[mt] ty #[.map (some r)]).run P w = .ok (.int .i64 M.length) w := by
    simp [Builtin.len_, run_underlyingD hm, runGet hh, hl, goInt]
  unfold MLen Run
  rw [hrun]; exact ⟨_, rfl, hk⟩

end

end Go.D

/- Slices of structs; slices that are built of their parts. -/
set_option linter.unusedSimpArgs false
set_option linter.unusedVariables false
namespace Go.D

section
variable {α β : Type}

theorem flat_len {f : α → List β} {k : Nat} (hk : ∀ x, (f x).length = k) : ∀ l : List α, (l.flatMap f).length = l.length * k
  | [] => by simp
  | x :: l => by rw [List.flatMap_cons, List.length_append, flat_len hk l, hk, List.length_cons, Nat.add_mul]; omega

theorem flat_get {f : α → List β} {k : Nat} (hk : ∀ x, (f x).length = k) : ∀ (l : List α) (i j : Nat), j < k → (l.flatMap f)[i * k + j]? = (l[i]?).bind fun x => (f x)[j]?
  | [], i, j, _ => by simp
  | x :: l, 0, j, hj => by
    rw [List.flatMap_cons, Nat.zero_mul, Nat.zero_add, List.getElem?_append_left (by rw [hk]; exact hj)]; rfl
  | x :: l, i + 1, j, hj => by
    rw [List.flatMap_cons, List.getElem?_append_right (by rw [hk, Nat.add_mul]; omega), hk, List.getElem?_cons_succ, ← flat_get hk l i j hj]
    congr 1
    rw [Nat.add_mul]; omega

theorem flat_at {f : α → List β} {k : Nat} (hk : ∀ x, (f x).length = k) {l : List α} {i j : Nat} (hi : i < l.length) (hj : j < k) : (l.flatMap f)[i * k + j]? = (f l[i])[j]? := by
  rw [flat_get hk l i j hj, List.getElem?_eq_getElem hi]; rfl

theorem flat_take {f : α → List β} {k : Nat} (hk : ∀ x, (f x).length = k) : ∀ (l : List α) (i : Nat), (l.flatMap f).take (i * k) = (l.take i).flatMap f
  | [], i => by simp
  | x :: l, 0 => by simp
  | x :: l, i + 1 => by
    rw [List.flatMap_cons, List.take_succ_cons, List.flatMap_cons, List.take_append, hk, List.take_of_length_le (by rw [hk, Nat.add_mul]; omega), ← flat_take hk l i]
    congr 2
    rw [Nat.add_mul]; omega

theorem flat_drop {f : α → List β} {k : Nat} (hk : ∀ x, (f x).length = k) : ∀ (l : List α) (i : Nat), (l.flatMap f).drop (i * k) = (l.drop i).flatMap f
  | [], i => by simp
  | x :: l, 0 => by simp
  | x :: l, i + 1 => by
    rw [List.flatMap_cons, List.drop_succ_cons, List.drop_append, hk, List.drop_of_length_le (by rw [hk, Nat.add_mul]; omega), List.nil_append, ← flat_drop hk l i]
    congr 1
    rw [Nat.add_mul]; omega

theorem flat_set {f : α → List β} {k : Nat} (hk : ∀ x, (f x).length = k) {l : List α} {i j : Nat} {v : β} {y : α} (hi : i < l.length) (hj : j < k) (h : f y = (f l[i]).set j v) : (l.flatMap f).set (i * k + j) v = (l.set i y).flatMap f := by
  apply List.ext_getElem?
  intro m
  by_cases hm : m < l.length * k
  · have hkp : 0 < k := by omega
    obtain ⟨a, b, hb, rfl⟩ : ∃ a b, b < k ∧ m = a * k + b := ⟨m / k, m % k, Nat.mod_lt _ hkp, by rw [Nat.mul_comm]; exact (Nat.div_add_mod m k).symm⟩
    have ha : a < l.length := by
      by_cases h2 : a < l.length
      · exact h2
      · have := Nat.mul_le_mul_right k (Nat.le_of_not_lt h2); omega
    rw [flat_at hk (by simpa using ha) hb, List.getElem?_set]
    by_cases hai : a = i
    · subst hai
      simp only [List.getElem_set_self, h]
      by_cases hbj : b = j
      · subst hbj
        rw [if_pos rfl, if_pos (by rw [flat_len hk]; exact hm), List.getElem?_set_self (by rw [hk]; exact hj)]
      · rw [if_neg (by omega), flat_at hk ha hb, List.getElem?_set_ne (fun e => hbj e.symm)]
    · have hne : ¬ (i * k + j = a * k + b) := by
        intro e
        rcases Nat.lt_or_ge i a with h2 | h2
        · have h3 := Nat.mul_le_mul_right k (show i + 1 ≤ a from h2)
          rw [Nat.add_mul] at h3; omega
        · have h3 := Nat.mul_le_mul_right k (show a + 1 ≤ i by omega)
          rw [Nat.add_mul] at h3; omega
      rw [if_neg hne, flat_at hk ha hb]
      congr 2
      rw [List.getElem_set_ne (fun e => hai e.symm)]
  · rw [List.getElem?_eq_none (by rw [List.length_set, flat_len hk]; omega), List.getElem?_eq_none (by rw [flat_len hk, List.length_set]; omega)]

end

/-- A part is laid into a row. -/
theorem foldSet (cs : List Value) : ∀ (j off : Nat) (arr : Array Value), off + j + cs.length ≤ arr.size →
    ((cs.zipIdx j).foldl (fun a x => a.setIfInBounds (off + x.2) x.1) arr).toList = arr.toList.take (off + j) ++ cs ++ arr.toList.drop (off + j + cs.length) := by
  induction cs with
  | nil => intro j off arr h; simp
  | cons c cs ih =>
    intro j off arr h
    simp only [List.length_cons] at h
    rw [List.zipIdx_cons, List.foldl_cons, ih (j + 1) off _ (by simp; omega)]
    simp only [Array.toList_setIfInBounds, List.length_cons]
    have hlt : off + j < arr.toList.length := by simp; omega
    rw [show off + (j + 1) = off + j + 1 by omega, List.take_succ_eq_append_getElem (by simpa using hlt), List.take_set_of_le (Nat.le_refl _), List.getElem_set_self, List.drop_set_of_lt (by omega)]
    simp; congr 1; omega

theorem fill_seq (k : Nat) : ∀ (vs : List Value) (i0 : Nat) (arr : Array Value), (∀ v ∈ vs, v.cells.size = k) → arr.size = i0 * k + vs.length * k →
    Instr.fill (fun i => some (i * k, k)) arr ((vs.zipIdx i0).map fun x => (x.2, x.1)) = some (arr.toList.take (i0 * k) ++ vs.flatMap (fun v => v.cells.toList)).toArray
  | [], i0, arr, _, h => by
    simp at h
    simp [Instr.fill]
    apply Array.ext'
    simp [List.take_of_length_le, h]
  | v :: vs, i0, arr, hv, h => by
    have hk := hv v (by simp)
    simp only [List.length_cons, Nat.add_mul, Nat.one_mul] at h
    rw [List.zipIdx_cons, List.map_cons]
    unfold Instr.fill
    simp only
    rw [if_neg (by simp [hk]; omega)]
    have hf := foldSet v.cells.toList 0 (i0 * k) arr (by simp [hk]; omega)
    have harr : (Array.foldl (fun cs x => cs.setIfInBounds (i0 * k + x.2) x.1) arr v.cells.zipIdx) = (arr.toList.take (i0 * k) ++ v.cells.toList ++ arr.toList.drop (i0 * k + v.cells.toList.length)).toArray := by
      apply Array.ext'
      rw [← Array.foldl_toList, Array.toList_zipIdx]
      simpa using hf
    have hcl : v.cells.toList.length = k := by simp [hk]
    have e2 := fill_seq k vs (i0 + 1) (arr.toList.take (i0 * k) ++ v.cells.toList ++ arr.toList.drop (i0 * k + v.cells.toList.length)).toArray (fun x hx => hv x (by simp [hx])) (by
      simp [hcl, hk, Nat.add_mul]; omega)
    have e3 : (fun (cs : Array Value) (x : Value × Nat) => match x with | (c, j) => cs.setIfInBounds (i0 * k + j) c) = fun cs x => cs.setIfInBounds (i0 * k + x.2) x.1 := by
      funext cs x; rfl
    rw [e3, harr, e2]
    congr 1
    apply Array.ext'
    simp only [List.toList_toArray, List.flatMap_cons]
    have hl1 : (arr.toList.take (i0 * k)).length = i0 * k := by simp; omega
    have g1 : (arr.toList.take (i0 * k)).take ((i0 + 1) * k) = arr.toList.take (i0 * k) := List.take_of_length_le (by rw [hl1, Nat.add_mul]; omega)
    have g2 : v.cells.toList.take k = v.cells.toList := List.take_of_length_le (by omega)
    rw [List.append_assoc, List.take_append, g1, hl1, List.take_append, hcl, show (i0 + 1) * k - i0 * k = k by rw [Nat.add_mul]; omega, g2]
    simp

/-- A slice that is built of all its elements. -/
theorem BSlL_rule {P : Program} {S E : TypeId} {sz by_ : Nat} {zc : Array Value} (hE : ElemOf P S E sz by_ zc) {w : World} {len : Nat} {ps : List (Nat × Value)} (vs : List Value) (hps : ps = (vs.zipIdx 0).map fun x => (x.2, x.1)) (hv : ∀ v ∈ vs, v.cells.size = sz) (hl : len = vs.length) (hb : len * sz ≤ 2 ^ 24)
    {K : Option Addr → Nat → Nat → World → Prop}
    (hK : ∀ w', SlAt w' sz (some ⟨w.heap.size, 0, none⟩) len len (vs.flatMap (fun v => v.cells.toList)) [w.heap.size] → Upd [] w w' → K (some ⟨w.heap.size, 0, none⟩) len len w') : BSl P S len ps w K := by
  subst hl
  have hs : ∀ l : List Value, (∀ v ∈ l, v.cells.size = sz) → (l.flatMap (fun v => v.cells.toList)).length = l.length * sz := by
    intro l hl
    induction l with
    | nil => simp
    | cons x l ih => rw [List.flatMap_cons, List.length_append, ih (fun v hv => hl v (by simp [hv])), List.length_cons, Nat.add_mul]; simp [hl x (by simp)]; omega
  refine BSl_rule (cs := vs.flatMap (fun v => v.cells.toList)) hE ?_ (hs vs hv) hb hK
  rw [hps, fill_seq sz vs 0 _ hv (by simp)]
  simp

end Go.D

/- Structs of numbers, compared. -/
set_option linter.unusedSimpArgs false
set_option linter.unusedVariables false
namespace Go.D
open Go

def isIntT (P : Program) (t : TypeId) : Bool := match P.underlying t with | some (.int _) => true | _ => false

theorem isIntT_eq {P : Program} {t : TypeId} (h : isIntT P t = true) : ∃ k, P.underlying t = some (.int k) := by
  unfold isIntT at h
  split at h
  · exact ⟨_, by assumption⟩
  · cases h

/-- Fields that are numbers, one behind the other. -/
def intFields (P : Program) : List Field → Nat → Nat → Bool
  | [], _, n => n == 0
  | _ :: _, _, 0 => false
  | f :: fs, off, n + 1 => (f.name != "_") && (f.offset == off) && isIntT P f.type && intFields P fs (off + 1) n

theorem eqFields_ints {P : Program} {w : World} {d : Nat} {xs ys : Array Value} : ∀ (fs : List Field) (off : Nat) (as bs : List (IntKind × Int)), intFields P fs off as.length = true → as.map (·.1) = bs.map (·.1) →
    (∀ i, i < as.length → xs[off + i]? = (as[i]?).map fun x => .int x.1 x.2) → (∀ i, i < bs.length → ys[off + i]? = (bs[i]?).map fun x => .int x.1 x.2) →
    (Op.eqFields (d + 1) xs ys fs).run P w = .ok (decide (as.map (·.2) = bs.map (·.2))) w
  | [], off, as, bs, hf, hk, hx, hy => by
    rcases as with _ | ⟨a, as⟩
    · rcases bs with _ | ⟨b, bs⟩
      · simp [Op.eqFields]
      · simp at hk
    · simp [intFields] at hf
  | f :: fs, off, [], bs, hf, hk, hx, hy => by simp [intFields] at hf
  | f :: fs, off, a :: as, [], hf, hk, hx, hy => by simp at hk
  | f :: fs, off, a :: as, b :: bs, hf, hk, hx, hy => by
    simp [intFields] at hf
    obtain ⟨⟨⟨hn, ho⟩, hi⟩, hr⟩ := hf
    obtain ⟨k, hi⟩ := isIntT_eq hi
    have hpl : P.plainKey f.type = true := by unfold Program.plainKey; rw [hi]
    have h0 := hx 0 (by simp)
    have h1 := hy 0 (by simp)
    simp at h0 h1 hk
    obtain ⟨hk1, hk2⟩ := hk
    unfold Op.eqFields
    rw [if_pos hn, ho]
    have ih := eqFields_ints (P := P) (w := w) (d := d) (xs := xs) (ys := ys) fs (off + 1) as bs hr hk2 (fun i hi => by have := hx (i + 1) (by simp; omega); rw [show off + (i + 1) = off + 1 + i by omega] at this; simpa using this)
      (fun i hi => by have := hy (i + 1) (by simp; omega); rw [show off + (i + 1) = off + 1 + i by omega] at this; simpa using this)
    rw [← hk1] at h1
    simp only [Sem.run_bind, run_part_plain w hpl h0, run_part_plain w hpl h1, Result.andThen_ok, run_equalIn_int w d f.type a.1 k a.2 b.2 hi]
    by_cases hab : a.2 = b.2
    · simp [hab, ih]
    · simp [hab]

theorem AggEq_ints {P : Program} {t : TypeId} (as bs : List (IntKind × Int)) {xs ys : Array Value} {K : Bool → Prop} (ht : P.underlying t = some (.struct (P.fieldsOf t))) (hp : P.stoodInHeld t = false)
    (hf : intFields P (P.fieldsOf t).toList 0 as.length = true) (hk : as.map (·.1) = bs.map (·.1)) (hx : xs = (as.map fun x => Value.int x.1 x.2).toArray) (hy : ys = (bs.map fun x => Value.int x.1 x.2).toArray)
    (h : K (decide (as.map (·.2) = bs.map (·.2)))) : AggEq P t (.agg xs) (.agg ys) K := by
  refine ⟨_, fun w => ?_, h⟩
  unfold Op.equal Op.maxDepth
  rw [run_equalIn_struct w 9999 t xs ys ht hp]
  exact eqFields_ints _ 0 as bs hf hk (fun i hi => by subst hx; simp) (fun i hi => by subst hy; simp)

end Go.D

/- Maps whose keys are structs of numbers and strings. -/
set_option linter.unusedSimpArgs false
set_option linter.unusedVariables false
namespace Go.D
open Go

/-- Two leaves are told apart. -/
def leafSame (P : Program) (t : TypeId) (a b : Value) : Prop :=
  P.plainKey t = true ∧ ∀ (w : World) (d : Nat), ∃ r : Bool, (Op.equalIn (d + 1) t a b).run P w = .ok r w ∧ (r = true ↔ a = b)

theorem leaf_int {P : Program} {t : TypeId} {k q : IntKind} (h : P.underlying t = some (.int q)) (a b : Int) : leafSame P t (.int k a) (.int k b) := by
  refine ⟨by unfold Program.plainKey; rw [h], fun w d => ⟨_, run_equalIn_int w d t k q a b h, by simp⟩⟩

theorem leaf_string {P : Program} {t : TypeId} (h : P.underlying t = some .string) (a b : ByteArray) : leafSame P t (.string a) (.string b) := by
  refine ⟨by unfold Program.plainKey; rw [h], fun w d => ⟨_, run_equalIn_string w d t a b h, by simp [ByteArray.toList_eq]; exact ByteArray.ext_iff.symm⟩⟩

def leafFields (P : Program) : List Field → Nat → List Value → List Value → Prop
  | [], _, [], [] => True
  | f :: fs, off, a :: as, b :: bs => f.name ≠ "_" ∧ f.offset = off ∧ leafSame P f.type a b ∧ leafFields P fs (off + 1) as bs
  | _, _, _, _ => False

theorem eqFields_leafs {P : Program} {w : World} {d : Nat} {xs ys : Array Value} : ∀ (fs : List Field) (off : Nat) (as bs : List Value), leafFields P fs off as bs →
    (∀ i, i < as.length → xs[off + i]? = as[i]?) → (∀ i, i < bs.length → ys[off + i]? = bs[i]?) →
    ∃ r : Bool, (Op.eqFields (d + 1) xs ys fs).run P w = .ok r w ∧ (r = true ↔ as = bs)
  | [], off, [], [], hf, hx, hy => ⟨true, by simp [Op.eqFields], by simp⟩
  | [], off, a :: as, bs, hf, hx, hy => by cases bs <;> exact hf.elim
  | [], off, [], b :: bs, hf, hx, hy => hf.elim
  | f :: fs, off, [], bs, hf, hx, hy => by cases bs <;> exact hf.elim
  | f :: fs, off, a :: as, [], hf, hx, hy => hf.elim
  | f :: fs, off, a :: as, b :: bs, ⟨hn, ho, ⟨hp, hl⟩, hr⟩, hx, hy => by
    have h0 := hx 0 (by simp)
    have h1 := hy 0 (by simp)
    simp at h0 h1
    obtain ⟨r, hr1, hr2⟩ := hl w d
    obtain ⟨q, ih1, ih2⟩ := eqFields_leafs (P := P) (w := w) (d := d) (xs := xs) (ys := ys) fs (off + 1) as bs hr (fun i hi => by have := hx (i + 1) (by simp; omega); rw [show off + (i + 1) = off + 1 + i by omega] at this; simpa using this)
      (fun i hi => by have := hy (i + 1) (by simp; omega); rw [show off + (i + 1) = off + 1 + i by omega] at this; simpa using this)
    unfold Op.eqFields
    rw [if_pos hn, ho]
    simp only [Sem.run_bind, run_part_plain w hp h0, run_part_plain w hp h1, Result.andThen_ok, hr1]
    cases r with
    | true => exact ⟨q, by simpa using ih1, by rw [ih2]; simp [hr2.1 rfl]⟩
    | false => exact ⟨false, by simp, by simp; intro h; simpa using hr2.2 h⟩

/-- Fields that are leaves: nothing about the values. -/
def plainFields (P : Program) : List Field → Nat → Nat → Bool
  | [], _, n => n == 0
  | _ :: _, _, 0 => false
  | f :: fs, off, n + 1 => (f.offset == off) && P.plainKey f.type && plainFields P fs (off + 1) n

theorem run_checkLeaf {P : Program} {t : TypeId} (h : P.plainKey t = true) (e : Bool) (n : Nat) (v : Value) (w : World) : (Instr.checkKey e (n + 1) t v).run P w = .ok () w := by
  unfold Program.plainKey at h
  cases hu : P.underlying t with
  | none => simp [hu] at h
  | some d => cases d <;> simp [hu] at h <;> simp [Instr.checkKey, run_underlyingD hu]

/-- Structs as keys. -/
theorem keyStruct {P : Program} {kt : TypeId} {κ : Type} [DecidableEq κ] {inj : κ → Value} (cells : κ → List Value) (m : Nat) (hi : ∀ k, inj k = .agg (cells k).toArray) (hm : ∀ k, (cells k).length = m) (hinj : ∀ a b, cells a = cells b → a = b)
    (ht : P.underlying kt = some (.struct (P.fieldsOf kt))) (hp : P.stoodInHeld kt = false) (hf : plainFields P (P.fieldsOf kt).toList 0 m = true) (hl : ∀ a b, leafFields P (P.fieldsOf kt).toList 0 (cells a) (cells b))
    (hsb : ∀ k, ∀ v ∈ cells k, ∀ n, Instr.sameBits (n + 1) v v = true) : KeyOf P kt inj := by
  have heq : ∀ (w : World) (a b : κ), (Op.equal kt (inj a) (inj b)).run P w = .ok (decide (a = b)) w := by
    intro w a b
    rw [hi, hi]
    unfold Op.equal Op.maxDepth
    rw [run_equalIn_struct w 9999 kt _ _ ht hp]
    obtain ⟨r, h1, h2⟩ := eqFields_leafs (w := w) (d := 9998) (xs := (cells a).toArray) (ys := (cells b).toArray) (P.fieldsOf kt).toList 0 (cells a) (cells b) (hl a b) (fun i hi => by simp) (fun i hi => by simp)
    rw [h1]
    congr 1
    by_cases hab : a = b
    · simp [hab]; rw [h2, hab]
    · simp [hab]
      cases r with
      | false => rfl
      | true => exact absurd (hinj a b (h2.1 rfl)) hab
  refine ⟨⟨_, ht⟩, fun e n k w => ?_, fun w k es M hM => ?_, fun a n => ?_⟩
  · rw [hi]
    unfold Instr.checkKey
    simp only [Sem.run_bind, run_underlyingD ht, Result.andThen_ok]
    rw [← Array.forIn_toList]
    have hs : 0 + m ≤ (cells k).toArray.size := by simp [hm]
    clear hsb hl heq hm
    generalize (cells k).toArray = cs at hs ⊢
    generalize (P.fieldsOf kt).toList = fs at hf ⊢
    generalize 0 = off at hf hs
    induction fs generalizing off m with
    | nil => simp
    | cons f fs ih =>
      cases m with
      | zero => simp [plainFields] at hf
      | succ m =>
        simp [plainFields] at hf
        obtain ⟨⟨ho, hp⟩, hr⟩ := hf
        have hx : cs[off]? = some cs[off] := Array.getElem?_eq_getElem (by omega)
        have ih := ih m (off + 1) hr (by omega)
        rw [List.forIn_cons, ho]
        by_cases hn : f.name = "_"
        · simp only [hn, ne_eq, not_true_eq_false, if_false, Sem.run_bind, Sem.run_pure, Result.andThen_ok]
          simpa using ih
        · simp only [ne_eq, hn, not_false_eq_true, if_true, Sem.run_bind, Sem.run_pure, Result.andThen_ok, run_part_plain w hp hx, run_checkLeaf hp]
          simpa using ih
  · have hask : ∀ (es : List MapEntry) (M : List (κ × Value)) (i : Nat), es.map (fun e => (e.key, e.val)) = M.map (fun x => (inj x.1, x.2)) → (Instr.findAsking kt (inj k) es i).run P w = .ok (spot k M i) w := by
      intro es
      induction es with
      | nil =>
        intro M i h
        cases M with
        | nil => simp [Instr.findAsking, spot]
        | cons x M => simp at h
      | cons e es ih =>
        intro M i h
        cases M with
        | nil => simp at h
        | cons x M =>
          simp only [List.map_cons, List.cons.injEq, Prod.mk.injEq] at h
          have := heq w k x.1
          rw [← h.1.1] at this
          unfold Instr.findAsking spot
          simp only [Sem.run_bind, this, Result.andThen_ok]
          by_cases hk : k = x.1
          · simp [hk, h.1.2]
          · simp only [hk, decide_false, if_false, Bool.false_eq_true]
            exact ih M (i + 1) h.2
    unfold Instr.findKey
    simp only [Sem.run_bind, run_underlyingD ht, Result.andThen_ok]
    cases es with
    | nil =>
      cases M with
      | nil => simp [Instr.findNow, spot]
      | cons x M => simp at hM
    | cons e es =>
      have : Instr.findNow (.struct (P.fieldsOf kt)) (inj k) (e :: es) 0 = none := by
        unfold Instr.findNow
        simp [Instr.sameNow]
      rw [this]
      exact hask (e :: es) M 0 hM
  · rw [hi]
    simp only [Instr.sameBits, beq_self_eq_true, Bool.true_and]
    rw [List.all_eq_true]
    rintro ⟨x, y⟩ hxy
    have h1 := List.of_mem_zip hxy
    have : x = y := by
      obtain ⟨i, hi, he⟩ := List.getElem_of_mem hxy
      rw [List.getElem_zip] at he
      simp at he
      exact he.1.symm.trans he.2
    subst this
    exact hsb a x (by simpa using h1.1) n

end Go.D

/- Slices: what is made anew, and what is copied into a part. -/
set_option linter.unusedSimpArgs false
set_option linter.unusedVariables false
namespace Go.D
open Go

theorem AppZ_grow {P : Program} {S E I ty : TypeId} {sz by_ : Nat} {zc : Array Value} (hE : ElemOf P S E sz by_ zc) (hI : ∃ k, P.underlying I = some (.int k)) {w : World} {p : Option Addr} {n c : Nat} {m : Int} {xs : List Value} {F : List Nat}
    (hS : SlAt w sz p n c xs F) (hm0 : 0 ≤ m) (hroom : ¬ n + m.toNat ≤ c) (hb : (n + m.toNat) * by_ ≤ 2 ^ 46) {K : Option Addr → Nat → Nat → World → Prop}
    (hK : ∀ c' w', SlAt w' sz (some ⟨w.heap.size, 0, none⟩) (n + m.toNat) c' (xs ++ zeroL zc m.toNat) [w.heap.size] → Upd [] w w' → K (some ⟨w.heap.size, 0, none⟩) (n + m.toNat) c' w') :
    App P #[S, I] ty #[.slice p n c, .int .i64 m] w K := by
  obtain ⟨m, rfl⟩ := Int.eq_ofNat_of_zero_le hm0
  simp only [Int.toNat_natCast] at hb hK hroom
  obtain ⟨i, hi, hsz, hby, z, hz, hzc⟩ := hE.info
  obtain ⟨ki, hI⟩ := hI
  have hbp := hE.bpos
  have hszp := hE.pos
  have hbm := hE.bmax
  have hb0 : by_ ≠ 0 := by omega
  have hnm : n + m ≤ 2 ^ 46 := by
    have : (n + m) * 1 ≤ (n + m) * by_ := Nat.mul_le_mul_left _ hbp
    omega
  have hmb : m * by_ ≤ (n + m) * by_ := Nat.mul_le_mul_right _ (by omega)
  have hzv : ∀ w, (zeroValue E).run P w = .ok z w := fun w => by simp [zeroValue, typeInfo, hi, hz]
  have hwrap : IntKind.i64.wrap (m : Int) = m := i64w m (by omega)
  have hneg : ¬ ((m : Int) < 0) := by omega
  have hmake : ¬ (281474976710656 < (m : Int) * (by_ : Int)) := by
    have : ((m * by_ : Nat) : Int) = (m : Int) * by_ := by simp
    omega
  have hmul : (n + m) * sz = n * sz + m * sz := Nat.add_mul ..
  have hzl : (zeroL zc m).length = m * sz := by rw [zeroL_length, hE.zsz]
  unfold App Run
  have hcap : ¬ Builtin.nextslicecap (n + m) c * by_ > 2 ^ 48 := by
    have h1 := nextslicecap_le (n + m) c (by omega)
    have h2 : Builtin.nextslicecap (n + m) c * by_ ≤ (2 * (n + m) + 192) * by_ := Nat.mul_le_mul_right _ h1
    have h3 : (2 * (n + m) + 192) * by_ = 2 * ((n + m) * by_) + 192 * by_ := by rw [Nat.add_mul, Nat.mul_assoc]
    have h4 : 192 * by_ ≤ 192 * 4096 := Nat.mul_le_mul_left _ hbm
    omega
  have hnb : ¬ (((n + m : Nat) : Int) > IntKind.i64.max) := by simp [IntKind.max, IntKind.signed, IntKind.bits]; omega
  have hnb' : ¬ (9223372036854775807 < (n : Int) + (m : Int)) := by omega
  have hforced : ∀ a b t, (Question.appendCap a b t).forced = false := fun _ _ _ => rfl
  obtain ⟨N, hN⟩ : ∃ N, N = Question.cut (.appendCap (n + m) c E) (w.tape w.drawn (.appendCap (n + m) c E)) := ⟨_, rfl⟩
  have hNge : n + m ≤ N := by rw [hN]; simp only [Question.cut]; omega
  obtain ⟨arr, harr⟩ : ∃ arr : Array Value, arr = xs.toArray ++ (Builtin.zeroCells zc m ++ Builtin.zeroCells z.cells (N - (n + m))) := ⟨_, rfl⟩
  have hu0 : Upd [] w w.drew := drw_upd w
  have hrun : (Builtin.append_ #[S, I] ty #[.slice p n c, .int .i64 (m : Int)]).run P w = .ok (.slice (some ⟨w.heap.size, 0, none⟩) (n + m) N) { w.drew with heap := w.drew.heap.push (.cells arr E) } := by
    have hx1 := run_firstCells (P := P) (SlAt.drw hS)
    have e1 : drw w = w.drew := rfl
    rw [e1] at hx1
    rw [harr, hN]
    by_cases hm : m = 0
    · subst hm
      exact absurd (by have := hS.2.1; omega) hroom
    · have h5 : ¬ (m = 0 ∨ sz = 0) := by omega
      have h4 : m * sz ≠ 0 := Nat.mul_ne_zero hm (by omega)
      simp [Builtin.append_, run_underlyingD hE.und, run_underlyingD hI, sizeOf, typeInfo, hi, hsz, hby, asInt, asIntOf, hwrap, hneg, hmake, hroom, h4, h5, hzv, hzc, hcap, hnb', hb0, hforced, hx1, newRow]
      rfl
  rw [hrun]
  have hblk : Blk ({ w.drew with heap := w.drew.heap.push (.cells arr E) } : World) w.heap.size arr := by
    refine ⟨E, (0, 0), ?_, .inl (Nat.le_refl _)⟩
    show (w.heap.push _)[_]? = _
    simp
  have hNmul : N * sz = (n + m) * sz + (N - (n + m)) * sz := by rw [← Nat.add_mul]; congr 1; omega
  have hasz : arr.size = N * sz := by
    rw [harr, hNmul]
    simp only [Array.size_append, List.size_toArray, size_zeroCells, hS.1, hzc, hE.zsz]
    omega
  refine ⟨_, _, _, rfl, hK N _ ?_ (hu0.before (push_upd w.drew _))⟩
  refine ⟨by rw [List.length_append, hS.1, hzl, hmul], hNge, .inr ⟨w.heap.size, 0, arr, rfl, rfl, hblk, by omega, fun i hi => ?_⟩⟩
  have hxl := hS.1
  have hzs : (Builtin.zeroCells zc m).size = m * sz := by rw [size_zeroCells, hE.zsz]
  rw [Nat.zero_add, harr, List.getElem?_append, Array.getElem?_append]
  by_cases hin : i < n * sz
  · simp [hxl, hin]
  · have h2 : i - n * sz < m * sz := by omega
    simp [hxl, hin, Array.getElem?_append, hzs, h2, zeroL]


/-- A slice whose spare places are taken too. -/
theorem SlAt.widen {w : World} {sz : Nat} {p : Option Addr} {n c k : Nat} {cs : List Value} {F : List Nat} (h : SlAt w sz p n c cs F) (hn : n ≤ k) (hk : k ≤ c) : ∃ xs, SlAt w sz p k c (cs ++ xs) F ∧ xs.length = (k - n) * sz := by
  have h1 : n * sz ≤ k * sz := Nat.mul_le_mul_right _ hn
  have h2 : k * sz ≤ c * sz := Nat.mul_le_mul_right _ hk
  have hl := h.1
  have h3 : (k - n) * sz = k * sz - n * sz := Nat.sub_mul ..
  rcases h.2.2 with ⟨rfl, rfl, rfl⟩ | ⟨b, off, arr, rfl, rfl, hb, hs, hc⟩
  · have : k = 0 := by omega
    have : n = 0 := by omega
    subst k; subst n
    exact ⟨[], by simpa using h, by simp⟩
  · refine ⟨(arr.toList.drop (off + n * sz)).take ((k - n) * sz), ⟨?_, hk, .inr ⟨b, off, arr, rfl, rfl, hb, hs, fun i hi => ?_⟩⟩, by simp; omega⟩
    · simp; omega
    · by_cases hin : i < n * sz
      · rw [List.getElem?_append_left (by omega)]; exact hc i hin
      · rw [List.getElem?_append_right (by omega), List.getElem?_take_of_lt (by omega), List.getElem?_drop, Array.getElem?_toList]
        congr 1; omega

/-- Copied into a slice, from a place on, as much as fits. -/
theorem CpyMin_rule {P : Program} {S T E ty : TypeId} {sz by_ : Nat} {zc : Array Value} (hE : ElemOf P S E sz by_ zc) {w : World} {p q : Option Addr} {n c m d k : Nat} {xs ys : List Value} {F G : List Nat} (j : Nat)
    (hS : SlAt w sz p n c xs F) (hkn : k ≤ n) (hj : Nat.min m (n - k) = j) (hT : SlAt w sz q m d ys G) (hone : ∀ v ∈ ys.take (j * sz), v.oneCell' = true) {K : Int → World → Prop}
    (hK : ∀ w', SlAt w' sz p n c (xs.take (k * sz) ++ ys.take (j * sz) ++ xs.drop ((k + j) * sz)) F → Upd F w w' → K (j : Nat) w') :
    Cpy P #[S, T] ty #[.slice (adv p c k sz) (n - k) (c - k), .slice q m d] w K := by
  obtain ⟨i, hi, hsz, hby, z, hz, hzc⟩ := hE.info
  have hjm : j ≤ m := by rw [← hj]; exact Nat.min_le_left ..
  have hjn : j ≤ n - k := by rw [← hj]; exact Nat.min_le_right ..
  have hT' := hT.take hjm
  have hy := run_firstCells (P := P) hT'
  have hyl := hT'.1
  have hxl := hS.1
  have h1 : (k + j) * sz = k * sz + j * sz := Nat.add_mul ..
  have h2 : (k + j) * sz ≤ n * sz := Nat.mul_le_mul_right _ (by omega)
  have h21 := hS.2.1
  have h3 : n * sz ≤ c * sz := Nat.mul_le_mul_right _ h21
  have hfc : (Builtin.firstCells sz j (.slice q m d)).run P w = .ok (ys.take (j * sz)).toArray w := by
    have : Builtin.firstCells sz j (.slice q m d) = Builtin.firstCells sz j (.slice q j d) := by
      cases q <;> simp [Builtin.firstCells]
    rw [this]; exact hy
  have hj' : min m (n - k) = j := hj
  have hj2 : min (n - k) m = j := by rw [Nat.min_comm]; exact hj
  unfold Cpy Run
  by_cases hm0 : j = 0
  · subst hm0
    have hrun : (Builtin.copy_ #[S, T] ty #[.slice (adv p c k sz) (n - k) (c - k), .slice q m d]).run P w = .ok (.int .i64 (0 : Nat)) w := by
      have hfc : (Builtin.firstCells sz 0 (.slice q m d)).run P w = .ok ([] : List Value).toArray w := by simpa using hfc
      rcases hp : adv p c k sz with _ | a
      · simp [Builtin.copy_, run_underlyingD hE.und, sizeOf, typeInfo, hi, hsz, Builtin.lenOf, hj', hj2, hfc, goInt]
      · simp [Builtin.copy_, run_underlyingD hE.und, sizeOf, typeInfo, hi, hsz, Builtin.lenOf, hj', hj2, hfc, goInt, storeCells]
    rw [hrun]
    exact ⟨_, rfl, hK w (by simpa using hS) (Upd.refl _ _)⟩
  · rcases hS.2.2 with ⟨rfl, rfl, rfl⟩ | ⟨b, off, arr, rfl, rfl, hblk, hs, hc⟩
    · omega
    · have hadv : adv (some ⟨b, off, none⟩) c k sz = some ⟨b, off + k * sz, none⟩ := by unfold adv; rw [if_neg (by omega)]; simp [addN]
      rw [hadv]
      obtain ⟨w', arr', hr, hu, hb', hsz', g1, g2⟩ := run_storeRow (P := P) (ys.take (j * sz)) (off + k * sz) 0 w arr hblk (by omega) hone
      have hrun : (Builtin.copy_ #[S, T] ty #[.slice (some ⟨b, off + k * sz, none⟩) (n - k) (c - k), .slice q m d]).run P w = .ok (.int .i64 (j : Nat)) w' := by
        simp [Builtin.copy_, run_underlyingD hE.und, sizeOf, typeInfo, hi, hsz, Builtin.lenOf, hj', hj2, hfc, goInt, hr]
      rw [hrun]
      refine ⟨_, rfl, hK w' ⟨?_, h21, .inr ⟨b, off, arr', rfl, rfl, hb', by omega, fun i hi => ?_⟩⟩ hu⟩
      · rw [List.length_append, List.length_append, hyl, List.length_take, List.length_drop]; omega
      · have htl : (xs.take (k * sz)).length = k * sz := by rw [List.length_take]; omega
        by_cases ha : i < k * sz
        · rw [List.append_assoc, List.getElem?_append_left (by omega), List.getElem?_take_of_lt ha, g2 (off + i) (.inl (by omega))]
          exact hc i hi
        · by_cases hb2 : i < (k + j) * sz
          · rw [List.append_assoc, List.getElem?_append_right (by omega), List.getElem?_append_left (by omega)]
            have := g1 (i - k * sz) (by omega)
            rw [show off + k * sz + 0 + (i - k * sz) = off + i by omega] at this
            rw [this, htl]
          · rw [List.getElem?_append_right (by rw [List.length_append]; omega), List.getElem?_drop, g2 (off + i) (.inr (by omega)), hc i hi, List.length_append, htl, hyl]
            congr 1; omega

/-- Copied into a slice, from a place on. -/
theorem CpyAt_rule {P : Program} {S T E ty : TypeId} {sz by_ : Nat} {zc : Array Value} (hE : ElemOf P S E sz by_ zc) {w : World} {p q : Option Addr} {n c m d k : Nat} {xs ys : List Value} {F G : List Nat}
    (hS : SlAt w sz p n c xs F) (hk : k + m ≤ n) (hT : SlAt w sz q m d ys G) (hone : ∀ v ∈ ys, v.oneCell' = true) {K : Int → World → Prop}
    (hK : ∀ w', SlAt w' sz p n c (xs.take (k * sz) ++ ys ++ xs.drop ((k + m) * sz)) F → Upd F w w' → K (m : Nat) w') :
    Cpy P #[S, T] ty #[.slice (adv p c k sz) (n - k) (c - k), .slice q m d] w K :=
  CpyMin_rule hE m hS (by omega) (Nat.min_eq_left (by omega)) hT (fun v hv => hone v (List.mem_of_mem_take hv)) fun w' h u => hK w' (by rw [List.take_of_length_le (l := ys) (by rw [hT.1]; exact Nat.le_refl _)] at h; exact h) u

/-- A block that was made by the program, and is no string's. -/
def Plain (w : World) (b : Nat) : Prop := ∃ arr T, w.heap[b]? = some (.cells arr T (0, 0))

theorem Plain.upd {w w' : World} {b : Nat} {F : List Nat} (h : Plain w b) (u : Upd F w w') (hb : b ∉ F) : Plain w' b := by
  obtain ⟨arr, T, h⟩ := h
  exact ⟨arr, T, by rw [u.blk b (Array.getElem?_eq_some_iff.1 h).1 hb]; exact h⟩

/-- A slice that is built of its elements, in a plain block. -/
theorem BSlP0_rule {P : Program} {S E : TypeId} {sz by_ : Nat} {zc : Array Value} (hE : ElemOf P S E sz by_ zc) {w : World} {len : Nat} {ps : List (Nat × Value)} {cs : List Value}
    (hf : Instr.fill (fun i => some (i * sz, sz)) ((Array.range (len * sz)).map (zc[· % zc.size]!)) ps = some cs.toArray) (hl : cs.length = len * sz) (hb : len * sz ≤ 2 ^ 24)
    {K : Option Addr → Nat → Nat → World → Prop}
    (hK : ∀ w', SlAt w' sz (some ⟨w.heap.size, 0, none⟩) len len cs [w.heap.size] → Plain w' w.heap.size → Upd [] w w' → K (some ⟨w.heap.size, 0, none⟩) len len w') : BSl P S len ps w K := by
  obtain ⟨i, hi, hsz, hby, z, hz, hzc⟩ := hE.info
  have hszp := hE.pos
  have hzv : ∀ w, (zeroValue E).run P w = .ok z w := fun w => by simp [zeroValue, typeInfo, hi, hz]
  have hlb : ¬ len * sz > 2 ^ 24 := by omega
  have hrun : (Instr.buildSlice S len ps.toArray).run P w = .ok (.slice (some ⟨w.heap.size, 0, none⟩) len len) { w with heap := w.heap.push (.cells cs.toArray E) } := by
    by_cases h0 : len * sz = 0
    · have hr : ∀ f : Nat → Value, (Array.range 0).map f = #[] := fun f => Array.eq_empty_of_size_eq_zero (by simp)
      rw [h0, hr] at hf
      simp [Instr.buildSlice, run_underlyingD hE.und, sizeOf, typeInfo, hi, hsz, hr, h0, hf, newRow]
    · simp [Instr.buildSlice, run_underlyingD hE.und, sizeOf, typeInfo, hi, hsz, hlb, h0, hzv, hzc]
      simp [hf, newRow]
  unfold BSl Run
  rw [hrun]
  have hblk : Blk ({ w with heap := w.heap.push (.cells cs.toArray E) } : World) w.heap.size cs.toArray := by
    refine ⟨E, (0, 0), ?_, .inl (Nat.le_refl _)⟩
    show (w.heap.push _)[_]? = _
    simp
  exact ⟨_, _, _, rfl, hK _ ⟨hl, Nat.le_refl _, .inr ⟨_, _, _, rfl, rfl, hblk, by simp [hl], fun i hi => by simp⟩⟩ ⟨cs.toArray, E, by show (w.heap.push _)[_]? = _; simp⟩ (push_upd w _)⟩

theorem BSlP_rule {P : Program} {S E : TypeId} {sz by_ : Nat} {zc : Array Value} (hE : ElemOf P S E sz by_ zc) {w : World} {len : Nat} {ps : List (Nat × Value)} (vs : List Value) (hps : ps = (vs.zipIdx 0).map fun x => (x.2, x.1)) (hv : ∀ v ∈ vs, v.cells.size = sz) (hl : len = vs.length) (hb : len * sz ≤ 2 ^ 24)
    {K : Option Addr → Nat → Nat → World → Prop}
    (hK : ∀ w', SlAt w' sz (some ⟨w.heap.size, 0, none⟩) len len (vs.flatMap (fun v => v.cells.toList)) [w.heap.size] → Plain w' w.heap.size → Upd [] w w' → K (some ⟨w.heap.size, 0, none⟩) len len w') : BSl P S len ps w K := by
  subst hl
  have hs : ∀ l : List Value, (∀ v ∈ l, v.cells.size = sz) → (l.flatMap (fun v => v.cells.toList)).length = l.length * sz := by
    intro l hl
    induction l with
    | nil => simp
    | cons x l ih => rw [List.flatMap_cons, List.length_append, ih (fun v hv => hl v (by simp [hv])), List.length_cons, Nat.add_mul]; simp [hl x (by simp)]; omega
  refine BSlP0_rule (cs := vs.flatMap (fun v => v.cells.toList)) hE ?_ (hs vs hv) hb hK
  rw [hps, fill_seq sz vs 0 _ hv (by simp)]
  simp

/-- Two slice types of one element type. -/
theorem App2_rule {P : Program} {S T E ty : TypeId} {sz by_ : Nat} {zc : Array Value} (hE : ElemOf P S E sz by_ zc) (hTu : P.underlying T = some (.slice E)) {w : World} {p q : Option Addr} {n c m d : Nat} {xs ys : List Value} {F G : List Nat}
    (hS : SlAt w sz p n c xs F) (hT : SlAt w sz q m d ys G) (hone : ∀ v ∈ ys, v.oneCell' = true) (hb : (n + m) * by_ ≤ 2 ^ 46) {K : Option Addr → Nat → Nat → World → Prop}
    (hK : ∀ p' c' F' w', SlAt w' sz p' (n + m) c' (xs ++ ys) F' → Upd F w w' → Sub F' F w → K p' (n + m) c' w') :
    App P #[S, T] ty #[.slice p n c, .slice q m d] w K := by
  obtain ⟨i, hi, hsz, hby, z, hz, hzc⟩ := hE.info
  have hbp := hE.bpos
  have hnm : n + m ≤ 2 ^ 46 := by
    have : (n + m) * 1 ≤ (n + m) * by_ := Nat.mul_le_mul_left _ hbp
    omega
  have hzer : ((match P.underlying S with | some d => pure d | none => stuck "no such type" : Sem TypeDesc)).run P w = .ok (.slice E) w := by rw [hE.und]; rfl
  unfold App Run
  by_cases hroom : n + m ≤ c
  · -- there is room
    have hw : ∃ p' w' F', (Builtin.append_ #[S, T] ty #[.slice p n c, .slice q m d]).run P w = .ok (.slice p' (n + m) c) w' ∧ SlAt w' sz p' (n + m) c (xs ++ ys) F' ∧ Upd F w w' ∧ Sub F' F w := by
      rcases hS.2.2 with ⟨rfl, rfl, rfl⟩ | ⟨b, off, arr, rfl, rfl, hblk, hs, hc⟩
      · obtain rfl : n = 0 := by omega
        obtain rfl : m = 0 := by omega
        have hxs : xs = [] := by have := hS.1; simpa using this
        have hys : ys = [] := by have := hT.1; simpa using this
        subst hxs; subst hys
        refine ⟨none, w, [], ?_, SlAt.nil w sz, Upd.refl _ _, Sub.refl _ _⟩
        have := run_firstCells (P := P) hT
        simp [Builtin.append_, run_underlyingD hE.und, run_underlyingD hTu, sizeOf, typeInfo, hi, hsz, Builtin.lenOf, this]
      · have hy := run_firstCells (P := P) hT
        have hmul : (n + m) * sz = n * sz + m * sz := Nat.add_mul ..
        have hle : (n + m) * sz ≤ c * sz := Nat.mul_le_mul_right _ hroom
        obtain ⟨w', arr', hr, hu, hb', hsz', h1, h2⟩ := run_storeRow (P := P) ys (off + n * sz) 0 w arr hblk (by rw [hT.1]; omega) hone
        refine ⟨some ⟨b, off, none⟩, w', [b], ?_, ?_, hu, Sub.refl _ _⟩
        · simp [Builtin.append_, run_underlyingD hE.und, run_underlyingD hTu, sizeOf, typeInfo, hi, hsz, Builtin.lenOf, hroom, hy, addN, hr]
        · refine ⟨by rw [List.length_append, hS.1, hT.1, hmul], hroom, .inr ⟨b, off, arr', rfl, rfl, hb', by omega, fun i hi => ?_⟩⟩
          rw [List.getElem?_append]
          by_cases hin : i < n * sz
          · rw [if_pos (by rw [hS.1]; exact hin), h2 (off + i) (.inl (by omega))]
            exact hc i hin
          · rw [if_neg (by rw [hS.1]; exact hin)]
            have := h1 (i - n * sz) (by rw [hT.1]; omega)
            rw [← show off + n * sz + 0 + (i - n * sz) = off + i by omega, this, hS.1]
    obtain ⟨p', w', F', hrun, hsl, hu, hsub⟩ := hw
    rw [hrun]
    exact ⟨p', n + m, c, rfl, hK p' c F' w' hsl hu hsub⟩
  · -- a new array
    have hx := run_firstCells (P := P) hS
    have hy := run_firstCells (P := P) hT
    have hbm := hE.bmax
    have hcap : ¬ Builtin.nextslicecap (n + m) c * by_ > 2 ^ 48 := by
      have h1 := nextslicecap_le (n + m) c (by omega)
      have h2 : Builtin.nextslicecap (n + m) c * by_ ≤ (2 * (n + m) + 192) * by_ := Nat.mul_le_mul_right _ h1
      have h3 : (2 * (n + m) + 192) * by_ = 2 * ((n + m) * by_) + 192 * by_ := by rw [Nat.add_mul, Nat.mul_assoc]
      have h4 : 192 * by_ ≤ 192 * 4096 := Nat.mul_le_mul_left _ hbm
      omega
    have hb0 : by_ ≠ 0 := by omega
    have hzv : ∀ w, (zeroValue E).run P w = .ok z w := fun w => by simp [zeroValue, typeInfo, hi, hz]
    have hforced : ∀ a b t, (Question.appendCap a b t).forced = false := fun _ _ _ => rfl
    -- how much there is room for then
    obtain ⟨N, hN⟩ : ∃ N, N = Question.cut (.appendCap (n + m) c E) (w.tape w.drawn (.appendCap (n + m) c E)) := ⟨_, rfl⟩
    have hNge : n + m ≤ N := by rw [hN]; simp only [Question.cut]; omega
    obtain ⟨arr, harr⟩ : ∃ arr : Array Value, arr = xs.toArray ++ (ys.toArray ++ Builtin.zeroCells z.cells (N - (n + m))) := ⟨_, rfl⟩
    have hu0 : Upd [] w w.drew := drw_upd w
    have hrun : (Builtin.append_ #[S, T] ty #[.slice p n c, .slice q m d]).run P w = .ok (.slice (some ⟨w.heap.size, 0, none⟩) (n + m) N) { w.drew with heap := w.drew.heap.push (.cells arr E) } := by
      have hx1 := run_firstCells (P := P) (SlAt.drw hS)
      have hy1 := run_firstCells (P := P) (SlAt.drw hT)
      have e1 : drw w = w.drew := rfl
      rw [e1] at hx1 hy1
      rw [harr, hN]
      simp [Builtin.append_, run_underlyingD hE.und, run_underlyingD hTu, sizeOf, typeInfo, hi, hsz, hby, Builtin.lenOf, hroom, hcap, hb0, hzv, hforced, hx1, hy1, newRow]
      rfl
    rw [hrun]
    have hblk : Blk ({ w.drew with heap := w.drew.heap.push (.cells arr E) } : World) w.heap.size arr := by
      refine ⟨E, (0, 0), ?_, .inl (Nat.le_refl _)⟩
      show (w.heap.push _)[_]? = _
      simp
    have hmul : (n + m) * sz = n * sz + m * sz := Nat.add_mul ..
    have hNmul : N * sz = (n + m) * sz + (N - (n + m)) * sz := by rw [← Nat.add_mul]; congr 1; omega
    have hasz : arr.size = N * sz := by
      rw [harr, hNmul]
      simp only [Array.size_append, List.size_toArray, size_zeroCells, hS.1, hT.1, hzc, hE.zsz]
      omega
    refine ⟨_, _, _, rfl, hK _ N [w.heap.size] _ ?_ ((hu0.before (push_upd w.drew _)).mono (by simp)) (fun k hk => .inr (by simp at hk; omega))⟩
    refine ⟨by rw [List.length_append, hS.1, hT.1, hmul], hNge, .inr ⟨w.heap.size, 0, arr, rfl, rfl, hblk, by omega, fun i hi => ?_⟩⟩
    have hxl := hS.1
    have hyl := hT.1
    rw [Nat.zero_add, harr, List.getElem?_append, Array.getElem?_append]
    by_cases hin : i < n * sz
    · simp [hxl, hin]
    · have h2 : i - n * sz < m * sz := by omega
      simp [hxl, hin, Array.getElem?_append, hyl, h2]


/-- Appended where there is room, within a greater slice. -/
theorem AppIn_rule {P : Program} {S E ty : TypeId} {sz by_ : Nat} {zc : Array Value} (hE : ElemOf P S E sz by_ zc) {w : World} {p q : Option Addr} {N n c m d : Nat} {xs ys : List Value} {F G : List Nat}
    (hS : SlAt w sz p N c xs F) (hn : n + m ≤ N) (hT : SlAt w sz q m d ys G) (hone : ∀ v ∈ ys, v.oneCell' = true) {K : Option Addr → Nat → Nat → World → Prop}
    (hK : ∀ w', SlAt w' sz p N c (xs.take (n * sz) ++ ys ++ xs.drop ((n + m) * sz)) F → Upd F w w' → K p (n + m) c w') :
    App P #[S, S] ty #[.slice p n c, .slice q m d] w K := by
  obtain ⟨i, hi, hsz, hby, z, hz, hzc⟩ := hE.info
  have hy := run_firstCells (P := P) hT
  have hyl := hT.1
  have hxl := hS.1
  have h1 : (n + m) * sz = n * sz + m * sz := Nat.add_mul ..
  have h2 : (n + m) * sz ≤ N * sz := Nat.mul_le_mul_right _ hn
  have h21 := hS.2.1
  have h3 : N * sz ≤ c * sz := Nat.mul_le_mul_right _ h21
  have hroom : n + m ≤ c := by omega
  unfold App Run
  rcases hS.2.2 with ⟨rfl, rfl, rfl⟩ | ⟨b, off, arr, rfl, rfl, hblk, hs, hc⟩
  · obtain rfl : n = 0 := by omega
    obtain rfl : m = 0 := by omega
    have hys : ys = [] := by simpa using hyl
    subst hys
    have hrun : (Builtin.append_ #[S, S] ty #[.slice none 0 0, .slice q 0 d]).run P w = .ok (.slice none 0 0) w := by
      simp [Builtin.append_, run_underlyingD hE.und, sizeOf, typeInfo, hi, hsz, Builtin.lenOf, hy]
    rw [hrun]
    exact ⟨_, _, _, rfl, hK w (by simpa using hS) (Upd.refl _ _)⟩
  · obtain ⟨w', arr', hr, hu, hb', hsz', g1, g2⟩ := run_storeRow (P := P) ys (off + n * sz) 0 w arr hblk (by omega) hone
    have hrun : (Builtin.append_ #[S, S] ty #[.slice (some ⟨b, off, none⟩) n c, .slice q m d]).run P w = .ok (.slice (some ⟨b, off, none⟩) (n + m) c) w' := by
      simp [Builtin.append_, run_underlyingD hE.und, sizeOf, typeInfo, hi, hsz, Builtin.lenOf, hroom, hy, addN, hr]
    rw [hrun]
    refine ⟨_, _, _, rfl, hK w' ⟨?_, h21, .inr ⟨b, off, arr', rfl, rfl, hb', by omega, fun i hi => ?_⟩⟩ hu⟩
    · rw [List.length_append, List.length_append, hyl, List.length_take, List.length_drop]; omega
    · have htl : (xs.take (n * sz)).length = n * sz := by rw [List.length_take]; omega
      by_cases ha : i < n * sz
      · rw [List.append_assoc, List.getElem?_append_left (by omega), List.getElem?_take_of_lt ha, g2 (off + i) (.inl (by omega))]
        exact hc i hi
      · by_cases hb2 : i < (n + m) * sz
        · rw [List.append_assoc, List.getElem?_append_right (by omega), List.getElem?_append_left (by omega)]
          have := g1 (i - n * sz) (by omega)
          rw [show off + n * sz + 0 + (i - n * sz) = off + i by omega] at this
          rw [this, htl]
        · rw [List.getElem?_append_right (by rw [List.length_append]; omega), List.getElem?_drop, g2 (off + i) (.inr (by omega)), hc i hi, List.length_append, htl, hyl]
          congr 1; omega

end Go.D

/- A map that is gone through, in whatever order. -/
set_option linter.unusedSimpArgs false
set_option linter.unusedVariables false
namespace Go.D
open Go

/-- A map that is gone through: what is still to come. -/
def Ranging {κ : Type} (w : World) (r it : Nat) (inj : κ → Value) (M todo : List (κ × Value)) : Prop :=
  ∃ (es : Array MapEntry) (clock since : Nat) (seen : Array Nat) (c0 : Nat), w.heap[r]? = some (.map es clock) ∧ Stamp es.toList clock ∧ es.toList.map (fun e => (e.key, e.val)) = M.map (fun x => (inj x.1, x.2)) ∧
    w.heap[it]? = some (.mapIter (some r) since seen c0) ∧ (∀ e ∈ es.toList, e.born < since) ∧ since ≤ c0 ∧ since ≤ clock ∧
    (es.toList.filter fun e => !seen.contains e.born).map (fun e => (e.key, e.val)) = todo.map (fun x => (inj x.1, x.2))

/-- One more was handed out. -/
def Stepped {κ : Type} (w : World) (r it : Nat) (inj : κ → Value) (M todo : List (κ × Value)) (x : κ × Value) : Prop :=
  ∃ (es : Array MapEntry) (clock since : Nat) (seen : Array Nat) (e : MapEntry), w.heap[r]? = some (.map es clock) ∧ Stamp es.toList clock ∧ es.toList.map (fun e => (e.key, e.val)) = M.map (fun x => (inj x.1, x.2)) ∧
    w.heap[it]? = some (.mapIter (some r) since (seen.push e.born) clock) ∧ (∀ e ∈ es.toList, e.born < since) ∧ since ≤ clock ∧ e ∈ es.toList ∧ e.key = inj x.1 ∧ e.val = x.2 ∧
    (es.toList.filter fun y => !(seen.push e.born).contains y.born).map (fun e => (e.key, e.val)) = todo.map (fun x => (inj x.1, x.2))

section
variable {κ : Type} {w : World} {r it : Nat} {inj : κ → Value} {M todo : List (κ × Value)} {x : κ × Value}

theorem Stepped.ranging (h : Stepped w r it inj M todo x) : Ranging w r it inj M todo := by
  obtain ⟨es, clock, since, seen, e, h1, h2, h3, h4, h5, h6, _, _, _, h7⟩ := h
  exact ⟨es, clock, since, _, clock, h1, h2, h3, h4, h5, h6, h6, h7⟩

theorem Ranging.map (h : Ranging w r it inj M todo) : MapAt w r inj M := by
  obtain ⟨es, clock, since, seen, c0, h1, h2, h3, _⟩ := h
  exact ⟨es, clock, h1, h2, h3⟩

theorem Ranging.lt (h : Ranging w r it inj M todo) : it < w.heap.size := by
  obtain ⟨es, clock, since, seen, c0, _, _, _, h, _⟩ := h
  exact (Array.getElem?_eq_some_iff.1 h).1

theorem Ranging.upd {w' : World} {F : List Nat} (h : Ranging w r it inj M todo) (u : Upd F w w') (hr : r ∉ F) (hi : it ∉ F) : Ranging w' r it inj M todo := by
  have l1 := h.map.lt
  have l2 := h.lt
  obtain ⟨es, clock, since, seen, c0, h1, h2, h3, h4, h5⟩ := h
  exact ⟨es, clock, since, seen, c0, by rw [u.blk r l1 hr]; exact h1, h2, h3, by rw [u.blk it l2 hi]; exact h4, h5⟩

theorem Ranging.keep {w' : World} (h : Ranging w r it inj M todo) (u : Upd [] w w') : Ranging w' r it inj M todo := h.upd u (by simp) (by simp)

/-- It begins. -/
theorem Rng_rule {P : Program} {mt kt et : TypeId} (hm : P.underlying mt = some (.map kt et)) (h : MapAt w r inj M) {K : Option Addr → World → Prop}
    (hK : ∀ w', Ranging w' r w.heap.size inj M M → Upd [] w w' → K (some ⟨w.heap.size, 0, none⟩) w') : Rng P mt (.map (some r)) w K := by
  have hlt := h.lt
  obtain ⟨es, clock, hh, hS, hM⟩ := h
  unfold Rng Run
  rw [run_range_map w mt kt et r es clock hm hh]
  have u : Upd [] w (w.alloc (.mapIter (some r) clock #[] clock)) := push_upd w _
  refine ⟨_, rfl, hK _ ⟨es, clock, clock, #[], clock, by rw [u.blk r hlt (by simp)]; exact hh, hS, hM, heap_alloc_new w _, hS.1, Nat.le_refl _, Nat.le_refl _, ?_⟩ u⟩
  rw [← hM]
  congr 1
  exact List.filter_eq_self.2 fun e _ => by simp

theorem filter_split {p : MapEntry → Bool} {es : List MapEntry} {e : MapEntry} (hn : (es.map (·.born)).Nodup) {l1 l2 : List MapEntry} (hs : es.filter p = l1 ++ e :: l2) :
    es.filter (fun y => p y && !(y.born == e.born)) = l1 ++ l2 := by
  have h1 : es.filter (fun y => p y && !(y.born == e.born)) = (es.filter p).filter (fun y => !(y.born == e.born)) := by
    rw [List.filter_filter]
    congr 1
    funext y
    rw [Bool.and_comm]
  have h2 : ((es.filter p).map (·.born)).Nodup := ((List.filter_sublist).map _).nodup hn
  rw [h1, hs]
  rw [hs] at h2
  simp only [List.map_append, List.map_cons, List.nodup_append, List.nodup_cons] at h2
  obtain ⟨_, ⟨h3, _⟩, h4⟩ := h2
  rw [List.filter_append, List.filter_cons]
  have a1 : l1.filter (fun y => !(y.born == e.born)) = l1 := List.filter_eq_self.2 fun y hy => by
    have := h4 y.born (List.mem_map_of_mem hy) e.born (by simp)
    simpa using this
  have a2 : l2.filter (fun y => !(y.born == e.born)) = l2 := List.filter_eq_self.2 fun y hy => by
    have : y.born ≠ e.born := fun he => h3 (by rw [← he]; exact List.mem_map_of_mem hy)
    simpa using this
  rw [a1, a2]
  simp

/-- One more, if there is one. -/
theorem Next_rule {P : Program} {ty : TypeId} (h : Ranging w r it inj M todo) {K : Value → World → Prop} (h0 : todo = [] → K (.tuple #[.bool false]) w)
    (h1 : ∀ t1 x t2 w', todo = t1 ++ x :: t2 → Stepped w' r it inj M (t1 ++ t2) x → Upd [it] w w' → K (.tuple #[.bool true, inj x.1, x.2]) w') : Run P (Instr.next (.pointer (some ⟨it, 0, none⟩)) false ty) w K := by
  have hne : r ≠ it := by
    obtain ⟨es, clock, since, seen, c0, hb, _, _, hr, _⟩ := h
    rintro rfl
    rw [hb] at hr; cases hr
  have hlt := h.lt
  obtain ⟨es, clock, since, seen, c0, hb, hS, hM, hr, hold, hsc, hsk, hT⟩ := h
  have eL : (leftOf es seen).toList = es.toList.filter fun e => !seen.contains e.born := by unfold leftOf; rw [Array.toList_filter]
  unfold Run
  rcases run_next_at (P := P) w ty it r since c0 seen es clock hr hb hold hsc with ⟨hz, hrun⟩ | ⟨e, he, w1, hal, hrun⟩
  · rw [hrun]
    refine h0 ?_
    have : (leftOf es seen).toList.length = 0 := by simpa using hz
    rw [eL] at this
    have h2 := congrArg List.length hT
    rw [List.length_map, List.length_map, this] at h2
    exact List.length_eq_zero_iff.1 h2.symm
  · rw [hrun]
    rw [eL] at he
    obtain ⟨l1, l2, hs⟩ := List.append_of_mem he
    rw [hs, List.map_append, List.map_cons] at hT
    obtain ⟨t1, t', rfl, ht1, ht'⟩ := List.map_eq_append_iff.1 hT.symm
    obtain ⟨x, t2, rfl, hx, ht2⟩ := List.map_eq_cons_iff.1 ht'
    simp only [Prod.mk.injEq] at hx
    have hem : e ∈ es.toList := (List.mem_filter.1 he).1
    have u1 : Upd [] w w1 := by
      rcases hal with rfl | rfl
      · exact Upd.refl _ _
      · exact drw_upd w
    have hr1 : w1.heap[it]? = some (.mapIter (some r) since seen c0) := by rcases hal with rfl | rfl <;> exact hr
    have hb1 : w1.heap[r]? = some (.map es clock) := by rcases hal with rfl | rfl <;> exact hb
    have hlt1 := (Array.getElem?_eq_some_iff.1 hr1).1
    have hgoal := h1 t1 x t2 (ChangeMaps.setBlock w1 it (.mapIter (some r) since (seen.push e.born) clock)) rfl ⟨es, clock, since, seen, e, ?_, hS, hM, ?_, hold, hsk, hem, hx.1.symm, hx.2.symm, ?_⟩ (u1.after (setObj_upd w1 it _))
    · rw [hx.1, hx.2] at hgoal; exact hgoal
    · show (w1.heap.setIfInBounds it _)[r]? = _
      rw [Array.getElem?_setIfInBounds_ne (fun e => hne e.symm)]; exact hb1
    · show (w1.heap.setIfInBounds it _)[it]? = _
      rw [Array.getElem?_setIfInBounds_self_of_lt hlt1]
    · have e1 : (fun y : MapEntry => !(seen.push e.born).contains y.born) = fun y => (!seen.contains y.born) && !(y.born == e.born) := by
        funext y
        rw [contains_push, Bool.not_or]
      rw [e1, filter_split hS.2 hs, List.map_append, List.map_append, ht1, ht2]

/-- What was handed out, read. -/
theorem Entry_rule {P : Program} (h : Stepped w r it inj M todo x) {K : Value → World → Prop} (hK : K (.tuple #[inj x.1, x.2]) w) : Run P (Instr.entry (.pointer (some ⟨it, 0, none⟩))) w K := by
  obtain ⟨es, clock, since, seen, e, h1, h2, h3, h4, h5, h6, h7, h8, h9, h10⟩ := h
  unfold Run
  rw [run_entry_at w it r since seen es clock e h4 h1 h7 h2.2, h8, h9]
  exact hK

/-- How many are still to come. -/
def leftN (w : World) (r it : Nat) : Nat := match w.heap[r]?, w.heap[it]? with
  | some (.map es _), some (.mapIter _ _ seen _) => (es.toList.filter fun e => !seen.contains e.born).length
  | _, _ => 0

theorem Ranging.left (h : Ranging w r it inj M todo) : leftN w r it = todo.length := by
  obtain ⟨es, clock, since, seen, c0, h1, h2, h3, h4, h5, h6, h7, h8⟩ := h
  unfold leftN
  rw [h1, h4]
  have := congrArg List.length h8
  simpa using this

theorem Ranging.len (h : Ranging w r it inj M todo) : todo.length ≤ M.length := by
  obtain ⟨es, clock, since, seen, c0, h1, h2, h3, h4, h5, h6, h7, h8⟩ := h
  have a := congrArg List.length h8
  have b := congrArg List.length h3
  simp only [List.length_map] at a b
  have := List.length_filter_le (fun e : MapEntry => !seen.contains e.born) es.toList
  omega

end

end Go.D
