/- Maps: lookup, update, delete, length; keys that are whole numbers or strings. -/
import Derived.Test.YtchbhocpmhlhjaaDoorOwn6
set_option linter.unusedSimpArgs false
set_option linter.unusedVariables false
set_option linter.unusedSectionVars false
namespace Go.D

theorem runGet {P : Program} {w : World} {r : Nat} {es : Array MapEntry} {clock : Nat} (h : w.heap[r]? = some (.map es clock)) : (getObj r).run P w = .ok (.map es clock) w := by simp [getObj, Sem.run, h]

theorem bytesEq (a b : ByteArray) : (a == b) = decide (a = b) := by
  have h : (a == b) = true ↔ a = b := by
    obtain ⟨x⟩ := a
    obtain ⟨y⟩ := b
    constructor
    · intro h
      have e : x = y := by simpa using (show (x == y) = true from h)
      rw [e]
    · intro h
      cases h
      show (x == x) = true
      simp
  by_cases e : a = b
  · rw [h.2 e, decide_eq_true e]
  · rw [decide_eq_false e, Bool.eq_false_iff]; exact fun h2 => e (h.1 h2)

/-- Entries' stamps: below the clock, and apart. -/
def Stamp (es : List MapEntry) (clock : Nat) : Prop := (∀ e ∈ es, e.born < clock) ∧ (es.map (·.born)).Nodup

theorem Stamp.nil : Stamp [] 0 := ⟨by simp, by simp⟩
theorem Stamp.push {es : List MapEntry} {clock : Nat} (h : Stamp es clock) (k v : Value) : Stamp (es ++ [{ key := k, val := v, born := clock }]) (clock + 1) := by
  refine ⟨fun e he => ?_, ?_⟩
  · rcases List.mem_append.1 he with he | he
    · have := h.1 e he; omega
    · simp at he; subst he; simp
  · rw [List.map_append, List.nodup_append]
    refine ⟨h.2, by simp, fun a ha b hb => ?_⟩
    simp at hb
    subst hb
    obtain ⟨e, he, rfl⟩ := List.mem_map.1 ha
    have := h.1 e he
    omega
theorem Stamp.modify {es : List MapEntry} {clock : Nat} (h : Stamp es clock) (j : Nat) (f : MapEntry → MapEntry) (hf : ∀ e, (f e).born = e.born) : Stamp (es.modify j f) clock := by
  have e : (es.modify j f).map (·.born) = es.map (·.born) := by
    apply List.ext_getElem?
    intro i
    rw [List.getElem?_map, List.getElem?_map, List.getElem?_modify]
    cases es[i]? with
    | none => rfl
    | some x => simp only [Option.map_some]; split <;> simp [hf]
  refine ⟨fun x hx => ?_, by rw [e]; exact h.2⟩
  have : x.born ∈ (es.modify j f).map (·.born) := List.mem_map_of_mem hx
  rw [e] at this
  obtain ⟨y, hy, h2⟩ := List.mem_map.1 this
  have h2 : y.born = x.born := h2
  rw [← h2]; exact h.1 y hy
theorem Stamp.sub {es es' : List MapEntry} {clock : Nat} (h : Stamp es clock) (hs : es'.Sublist es) : Stamp es' clock :=
  ⟨fun e he => h.1 e (hs.subset he), (hs.map _).nodup h.2⟩

/-- A map's block. -/
def MapAt {κ : Type} (w : World) (r : Nat) (inj : κ → Value) (M : List (κ × Value)) : Prop :=
  ∃ es clock, w.heap[r]? = some (.map es clock) ∧ Stamp es.toList clock ∧ es.toList.map (fun e => (e.key, e.val)) = M.map (fun x => (inj x.1, x.2))

theorem MapAt.lt {κ : Type} {w : World} {r : Nat} {inj : κ → Value} {M : List (κ × Value)} (h : MapAt w r inj M) : r < w.heap.size := by
  obtain ⟨es, clock, h, _⟩ := h
  exact (Array.getElem?_eq_some_iff.1 h).1

theorem MapAt.upd {κ : Type} {w w' : World} {r : Nat} {inj : κ → Value} {M : List (κ × Value)} {F : List Nat} (h : MapAt w r inj M) (u : Upd F w w') (hr : r ∉ F) : MapAt w' r inj M := by
  have hlt := h.lt
  obtain ⟨es, clock, h, hs, hm⟩ := h
  exact ⟨es, clock, by rw [u.blk r hlt hr]; exact h, hs, hm⟩

theorem MapAt.new {κ : Type} {w : World} {r : Nat} (inj : κ → Value) (h : w.heap[r]? = some (.map #[] 0)) : MapAt w r inj [] := ⟨#[], 0, h, Stamp.nil, rfl⟩

section
variable {κ : Type} [DecidableEq κ]

/-- Where a key stands, and its value. -/
def spot (k : κ) : List (κ × Value) → Nat → Option (Nat × Value)
  | [], _ => none
  | x :: r, i => if k = x.1 then some (i, x.2) else spot k r (i + 1)

/-- What a key has. -/
def look (k : κ) (M : List (κ × Value)) : Option Value := (spot k M 0).map (·.2)

/-- A key's value, set. -/
def put (k : κ) (v : Value) : List (κ × Value) → List (κ × Value)
  | [] => [(k, v)]
  | x :: r => if k = x.1 then (x.1, v) :: r else x :: put k v r

/-- A key, gone. -/
def drop1 (k : κ) : List (κ × Value) → List (κ × Value)
  | [] => []
  | x :: r => if k = x.1 then r else x :: drop1 k r

theorem spot_shift (k : κ) : ∀ (M : List (κ × Value)) (i : Nat), spot k M i = (spot k M 0).map (fun y => (y.1 + i, y.2))
  | [], i => rfl
  | x :: r, i => by
    unfold spot
    split
    · simp
    · rw [spot_shift k r (i + 1), spot_shift k r (0 + 1), Option.map_map]
      congr 1
      funext y; simp; omega

@[simp] theorem look_nil (k : κ) : look k [] = none := rfl
theorem look_cons (k : κ) (x : κ × Value) (r : List (κ × Value)) : look k (x :: r) = if k = x.1 then some x.2 else look k r := by
  unfold look
  rw [spot]
  split
  · rfl
  · rw [spot_shift k r (0 + 1), Option.map_map]; rfl

theorem look_put (k j : κ) (v : Value) : ∀ M : List (κ × Value), look j (put k v M) = if j = k then some v else look j M
  | [] => by
    simp only [put, look_cons, look_nil]
  | x :: r => by
    unfold put
    by_cases h : k = x.1
    · rw [if_pos h, look_cons, look_cons]
      by_cases hj : j = x.1
      · simp [hj, h]
      · simp [hj, h]
    · rw [if_neg h, look_cons, look_cons, look_put k j v r]
      by_cases hj : j = x.1
      · have : j ≠ k := by rintro rfl; exact h hj
        simp [hj]; intro h2; exact absurd h2.symm h
      · simp [hj]

theorem put_length (k : κ) (v : Value) : ∀ M : List (κ × Value), (put k v M).length = if (look k M).isSome then M.length else M.length + 1
  | [] => by simp [put]
  | x :: r => by
    unfold put
    rw [look_cons]
    by_cases h : k = x.1
    · simp [h]
    · simp only [if_neg h, List.length_cons, put_length k v r]; split <;> simp

/-- The keys, each once. -/
def Once (M : List (κ × Value)) : Prop := (M.map (·.1)).Nodup

theorem keys_put (k : κ) (v : Value) : ∀ M : List (κ × Value), (put k v M).map (·.1) = if (look k M).isSome then M.map (·.1) else M.map (·.1) ++ [k]
  | [] => by simp [put]
  | x :: r => by
    unfold put
    rw [look_cons]
    by_cases h : k = x.1
    · simp [h]
    · simp only [if_neg h, List.map_cons, keys_put k v r]; split <;> simp

theorem look_isSome (k : κ) : ∀ M : List (κ × Value), (look k M).isSome = true ↔ k ∈ M.map (·.1)
  | [] => by simp
  | x :: r => by
    rw [look_cons]
    by_cases h : k = x.1
    · simp [h]
    · rw [if_neg h, look_isSome k r, List.map_cons, List.mem_cons]; simp [h]

theorem Once.put {k : κ} {v : Value} {M : List (κ × Value)} (h : Once M) : Once (put k v M) := by
  unfold Once at *
  rw [keys_put]
  split
  · exact h
  · rename_i hk
    rw [look_isSome] at hk
    rw [List.nodup_append]
    exact ⟨h, by simp, by intro a ha b hb; simp at hb; subst hb; rintro rfl; exact hk ha⟩

theorem look_drop1 (k j : κ) : ∀ M : List (κ × Value), Once M → look j (drop1 k M) = if j = k then none else look j M
  | [], _ => by simp [drop1]
  | x :: r, h => by
    have h' : x.1 ∉ r.map (·.1) ∧ Once r := by
      unfold Once at h; rw [List.map_cons, List.nodup_cons] at h; exact h
    unfold drop1
    by_cases hk : k = x.1
    · rw [if_pos hk, look_cons]
      by_cases hj : j = k
      · rw [if_pos hj]
        have h2 : ¬ (look j r).isSome = true := fun h3 => h'.1 (by rw [← hk, ← hj]; exact (look_isSome j r).1 h3)
        simpa using h2
      · rw [if_neg hj, if_neg (by rw [← hk]; exact hj)]
    · rw [if_neg hk, look_cons, look_cons, look_drop1 k j r h'.2]
      by_cases hj : j = x.1
      · have : j ≠ k := by rintro rfl; exact hk hj
        simp [hj]; intro h2; exact absurd h2.symm hk
      · simp [hj]

theorem keys_drop1 (k : κ) : ∀ M : List (κ × Value), (drop1 k M).map (·.1) = (M.map (·.1)).erase k
  | [] => rfl
  | x :: r => by
    unfold drop1
    by_cases h : k = x.1
    · simp [h]
    · rw [if_neg h, List.map_cons, keys_drop1 k r, List.map_cons, List.erase_cons_tail (by simp; exact fun e => h e.symm)]

theorem Once.drop1 {k : κ} {M : List (κ × Value)} (h : Once M) : Once (drop1 k M) := by
  unfold Once at *
  rw [keys_drop1]
  exact h.erase k

/-- The search. -/
theorem findNow_eq {d : TypeDesc} {inj : κ → Value} (hs : ∀ a b, Instr.sameNow d (inj a) (inj b) = some (decide (a = b))) (k : κ) :
    ∀ (es : List MapEntry) (M : List (κ × Value)) (i : Nat), es.map (fun e => (e.key, e.val)) = M.map (fun x => (inj x.1, x.2)) → Instr.findNow d (inj k) es i = some (spot k M i)
  | [], [], _, _ => rfl
  | [], _ :: _, _, h => by simp at h
  | _ :: _, [], _, h => by simp at h
  | e :: es, x :: M, i, h => by
    simp only [List.map_cons, List.cons.injEq, Prod.mk.injEq] at h
    unfold Instr.findNow spot
    rw [h.1.1, hs k x.1]
    by_cases hk : k = x.1
    · simp [hk, h.1.2]
    · simp only [hk, decide_false, if_false]
      exact findNow_eq hs k es M (i + 1) h.2

/-- Keys of a kind: told apart by their values. -/
structure KeyOf (P : Program) (kt : TypeId) {κ : Type} [DecidableEq κ] (inj : κ → Value) : Prop where
  und : ∃ d, P.underlying kt = some d
  chk : ∀ e n k (w : World), (Instr.checkKey e (n + 2) kt (inj k)).run P w = .ok () w
  find : ∀ (w : World) (k : κ) (es : List MapEntry) (M : List (κ × Value)), es.map (fun e => (e.key, e.val)) = M.map (fun x => (inj x.1, x.2)) → (Instr.findKey kt (inj k) es).run P w = .ok (spot k M 0) w
  same : ∀ a n, Instr.sameBits (n + 2) (inj a) (inj a) = true

theorem keyInt {P : Program} {kt : TypeId} {k : IntKind} (h : P.underlying kt = some (.int k)) : KeyOf P kt (fun a : Int => .int k a) := by
  refine ⟨⟨_, h⟩, fun e n k w => by simp [Instr.checkKey, run_underlyingD h], fun w k es M hM => ?_, fun a n => by simp [Instr.sameBits]⟩
  have hs : ∀ a b : Int, ∀ k' : IntKind, Instr.sameNow (.int k') (.int k' a) (.int k' b) = some (decide (a = b)) := fun a b k' => by by_cases hab : a = b <;> simp [Instr.sameNow, hab]
  simp [Instr.findKey, run_underlyingD h, findNow_eq (inj := fun a : Int => Value.int _ a) (fun a b => hs a b _) k es M 0 hM]

theorem keyString {P : Program} {kt : TypeId} (h : P.underlying kt = some .string) : KeyOf P kt (fun a : ByteArray => .string a) := by
  refine ⟨⟨_, h⟩, fun e n k w => by simp [Instr.checkKey, run_underlyingD h], fun w k es M hM => ?_, fun a n => by simp [Instr.sameBits, bytesEq]⟩
  have hs : ∀ a b : ByteArray, Instr.sameNow .string (.string a) (.string b) = some (decide (a = b)) := fun a b => by by_cases hab : a = b <;> simp [Instr.sameNow, hab, bytesEq]
  simp [Instr.findKey, run_underlyingD h, findNow_eq (inj := fun a : ByteArray => Value.string a) hs k es M 0 hM]

theorem run_findKey {P : Program} {kt : TypeId} {inj : κ → Value} (hK : KeyOf P kt inj) {w : World} (k : κ) {es : List MapEntry} {M : List (κ × Value)} (h : es.map (fun e => (e.key, e.val)) = M.map (fun x => (inj x.1, x.2))) :
    (Instr.findKey kt (inj k) es).run P w = .ok (spot k M 0) w := hK.find w k es M h

/-- What is looked up. -/
theorem Lookup_rule {P : Program} {mt kt et : TypeId} {inj : κ → Value} (hK : KeyOf P kt inj) (hm : P.underlying mt = some (.map kt et)) {z : Value} (hz : ∃ i, P.info? et = some i ∧ i.zero = some z)
    {w : World} {r : Nat} {M : List (κ × Value)} (h : MapAt w r inj M) {k : κ} {K : Value → World → Prop} (hk : K ((look k M).getD z) w) : Run P (Instr.lookup mt (.map (some r)) (inj k) false) w K := by
  obtain ⟨es, clock, hh, hS, hM⟩ := h
  obtain ⟨i, hi, hzi⟩ := hz
  obtain ⟨d, hd⟩ := hK.und
  have hc := hK.chk
  have hzv : ∀ w, (zeroValue et).run P w = .ok z w := fun w => by simp [zeroValue, typeInfo, hi, hzi]
  have hf := run_findKey hK (w := w) k (by simpa using hM)
  have hrun : (Instr.lookup mt (.map (some r)) (inj k) false).run P w = .ok ((look k M).getD z) w := by
    simp only [Instr.lookup]
    rcases hsp : spot k M 0 with _ | ⟨j, v⟩
    · rw [hsp] at hf
      simp [run_underlyingD hm, runGet hh, hc, hf, hzv, look, hsp]
    · rw [hsp] at hf
      simp [run_underlyingD hm, runGet hh, hc, hf, look, hsp]
  unfold Run
  rw [hrun]; exact hk

/-- What is looked up, and whether it is there. -/
theorem Lookup2_rule {P : Program} {mt kt et : TypeId} {inj : κ → Value} (hK : KeyOf P kt inj) (hm : P.underlying mt = some (.map kt et)) {z : Value} (hz : ∃ i, P.info? et = some i ∧ i.zero = some z)
    {w : World} {r : Nat} {M : List (κ × Value)} (h : MapAt w r inj M) {k : κ} {K : Value → World → Prop} (hk : K (.tuple #[(look k M).getD z, .bool (look k M).isSome]) w) : Run P (Instr.lookup mt (.map (some r)) (inj k) true) w K := by
  obtain ⟨es, clock, hh, hS, hM⟩ := h
  obtain ⟨i, hi, hzi⟩ := hz
  obtain ⟨d, hd⟩ := hK.und
  have hc := hK.chk
  have hzv : ∀ w, (zeroValue et).run P w = .ok z w := fun w => by simp [zeroValue, typeInfo, hi, hzi]
  have hf := run_findKey hK (w := w) k (by simpa using hM)
  have hrun : (Instr.lookup mt (.map (some r)) (inj k) true).run P w = .ok (.tuple #[(look k M).getD z, .bool (look k M).isSome]) w := by
    simp only [Instr.lookup]
    rcases hsp : spot k M 0 with _ | ⟨j, v⟩
    · rw [hsp] at hf
      simp [run_underlyingD hm, runGet hh, hc, hf, hzv, look, hsp]
    · rw [hsp] at hf
      simp [run_underlyingD hm, runGet hh, hc, hf, look, hsp]
  unfold Run
  rw [hrun]; exact hk

theorem spot_lt (k : κ) : ∀ (M : List (κ × Value)) (i j : Nat) (v : Value), spot k M i = some (j, v) → i ≤ j ∧ j < i + M.length ∧ (M[j - i]?).map (·.1) = some k
  | [], _, _, _, h => by simp [spot] at h
  | x :: r, i, j, v, h => by
    unfold spot at h
    split at h
    · rename_i hk
      simp at h
      obtain ⟨rfl, rfl⟩ := h
      simp [hk]
    · obtain ⟨h1, h2, h3⟩ := spot_lt k r (i + 1) j v h
      refine ⟨by omega, by simp; omega, ?_⟩
      rw [show j - i = (j - (i + 1)) + 1 by omega, List.getElem?_cons_succ]
      exact h3

theorem put_none (k : κ) (v : Value) : ∀ (M : List (κ × Value)) (i : Nat), spot k M i = none → put k v M = M ++ [(k, v)]
  | [], _, _ => rfl
  | x :: r, i, h => by
    unfold spot at h
    split at h
    · cases h
    · rename_i hk
      unfold put
      rw [if_neg hk, put_none k v r (i + 1) h]; rfl

theorem put_some (k : κ) (v : Value) : ∀ (M : List (κ × Value)) (i j : Nat) (u : Value), spot k M i = some (j, u) → put k v M = M.modify (j - i) (fun x => (x.1, v))
  | [], _, _, _, h => by simp [spot] at h
  | x :: r, i, j, u, h => by
    unfold spot at h
    unfold put
    split at h
    · rename_i hk
      simp at h
      obtain ⟨rfl, rfl⟩ := h
      simp [hk]
    · rename_i hk
      obtain ⟨h1, _, _⟩ := spot_lt k r (i + 1) j u h
      rw [if_neg hk, put_some k v r (i + 1) j u h, show j - i = (j - (i + 1)) + 1 by omega]
      rfl

theorem setObj_run {P : Program} {w : World} {r : Nat} {es : Array MapEntry} {clock : Nat} (h : w.heap[r]? = some (.map es clock)) (o : Obj) : (setObj r o).run P w = .ok () { w with heap := w.heap.setIfInBounds r o } := by simp [setObj, Sem.run, h]

theorem setObj_upd (w : World) (r : Nat) (o : Obj) : Upd [r] w { w with heap := w.heap.setIfInBounds r o } := by
  refine ⟨rfl, rfl, rfl, by simp, fun k hk hr => ?_⟩
  simp at hr
  show (w.heap.setIfInBounds r o)[k]? = _
  rw [Array.getElem?_setIfInBounds_ne (fun e => hr e.symm)]

/-- A key's value is set. -/
theorem MUp_rule {P : Program} {mt kt et : TypeId} {inj : κ → Value} (hK : KeyOf P kt inj) (hm : P.underlying mt = some (.map kt et))
    {w : World} {r : Nat} {M : List (κ × Value)} (h : MapAt w r inj M) {k : κ} {v : Value} {K : World → Prop} (hk : ∀ w', MapAt w' r inj (put k v M) → Upd [r] w w' → K w') : MUp P mt (.map (some r)) (inj k) v w K := by
  have hlt := h.lt
  obtain ⟨es, clock, hh, hS, hM⟩ := h
  obtain ⟨d, hd⟩ := hK.und
  have hc := hK.chk
  have hf := run_findKey hK (w := w) k (by simpa using hM)
  unfold MUp Run
  rcases hsp : spot k M 0 with _ | ⟨j, u⟩
  · rw [hsp] at hf
    have hrun : (Instr.mapUpdate mt (.map (some r)) (inj k) v).run P w = .ok () { w with heap := w.heap.setIfInBounds r (.map (es.push { key := inj k, val := v, born := clock }) (clock + 1)) } := by
      simp [Instr.mapUpdate, run_underlyingD hm, runGet hh, hc, hf, setObj_run hh]
    rw [hrun]
    refine hk _ ⟨_, _, by show (w.heap.setIfInBounds r _)[r]? = _; rw [Array.getElem?_setIfInBounds_self_of_lt hlt], by simpa using hS.push (inj k) v, ?_⟩ (setObj_upd w r _)
    rw [put_none k v M 0 hsp]
    simp [hM]
  · rw [hsp] at hf
    obtain ⟨h1, h2, h3⟩ := spot_lt k M 0 j u hsp
    simp only [Nat.sub_zero, Nat.zero_add] at h2 h3
    have hl : es.size = M.length := by
      have := congrArg List.length hM; simpa using this
    have hej : j < es.size := by omega
    have hkey : es[j].key = inj k := by
      have h4 : (es.toList.map (fun e => (e.key, e.val)))[j]? = (M.map (fun x => (inj x.1, x.2)))[j]? := by rw [hM]
      rw [List.getElem?_map, List.getElem?_map, List.getElem?_eq_getElem (by simpa using hej), List.getElem?_eq_getElem h2] at h4
      rw [List.getElem?_eq_getElem h2] at h3
      simp at h3 h4
      rw [h4.1, h3]
    have hstay : ∀ w, (Instr.keyThatStays (inj k) (inj k)).run P w = .ok (inj k) w := fun w => by
      simp [Instr.keyThatStays, hK.same k 9998]
    have hrun : (Instr.mapUpdate mt (.map (some r)) (inj k) v).run P w = .ok () { w with heap := w.heap.setIfInBounds r (.map (es.modify j fun e => { e with key := inj k, val := v }) clock) } := by
      simp [Instr.mapUpdate, run_underlyingD hm, runGet hh, hc, hf, hej, hkey, hstay, setObj_run hh]
    rw [hrun]
    refine hk _ ⟨_, _, by show (w.heap.setIfInBounds r _)[r]? = _; rw [Array.getElem?_setIfInBounds_self_of_lt hlt], by rw [Array.toList_modify]; exact hS.modify _ _ fun _ => rfl, ?_⟩ (setObj_upd w r _)
    rw [put_some k v M 0 j u hsp, Nat.sub_zero]
    apply List.ext_getElem?
    intro i
    have h4 : (es.toList.map (fun e => (e.key, e.val)))[i]? = (M.map (fun x => (inj x.1, x.2)))[i]? := by rw [hM]
    rw [List.getElem?_map, List.getElem?_map] at h4
    rw [List.getElem?_map, List.getElem?_map, Array.toList_modify, List.getElem?_modify, List.getElem?_modify]
    by_cases hij : j = i
    · subst hij
      rw [List.getElem?_eq_getElem h2] at h3 ⊢
      rw [List.getElem?_eq_getElem (by simpa using hej)]
      simp at h3
      simp [h3]
    · simp only [hij, if_false]
      simpa [Option.map_map] using h4

/-- A key is gone. -/
theorem Del_rule {P : Program} {mt kt et : TypeId} {inj : κ → Value} (hK : KeyOf P kt inj) (hm : P.underlying mt = some (.map kt et)) {kt' ty : TypeId}
    {w : World} {r : Nat} {M : List (κ × Value)} (h : MapAt w r inj M) {k : κ} {K : Value → World → Prop} (hk : ∀ v w', MapAt w' r inj (drop1 k M) → Upd [r] w w' → K v w') : Del P #[mt, kt'] ty #[.map (some r), inj k] w K := by
  have hlt := h.lt
  obtain ⟨es, clock, hh, hS, hM⟩ := h
  obtain ⟨d, hd⟩ := hK.und
  have hc := hK.chk
  have hf := run_findKey hK (w := w) k (by simpa using hM)
  have hdrop : ∀ (M : List (κ × Value)) (i : Nat), drop1 k M = match spot k M i with | some (j, _) => M.eraseIdx (j - i) | none => M := by
    intro M
    induction M with
    | nil => intro i; rfl
    | cons x r ih =>
      intro i
      unfold drop1 spot
      by_cases hkx : k = x.1
      · simp [hkx]
      · simp only [hkx, if_false]
        rw [ih (i + 1)]
        rcases hsp : spot k r (i + 1) with _ | ⟨j, u⟩
        · rfl
        · obtain ⟨h1, _, _⟩ := spot_lt k r (i + 1) j u hsp
          simp only
          rw [show j - i = (j - (i + 1)) + 1 by omega]; rfl
  unfold Del Run
  rcases hsp : spot k M 0 with _ | ⟨j, u⟩
  · rw [hsp] at hf
    have hrun : (Builtin.delete_ #[mt, kt'] ty #[.map (some r), inj k]).run P w = .ok (.tuple #[]) { w with heap := w.heap.setIfInBounds r (.map es clock) } := by
      simp [Builtin.delete_, run_underlyingD hm, runGet hh, hc, hf, setObj_run hh]
    rw [hrun]
    refine hk _ _ ⟨_, _, by show (w.heap.setIfInBounds r _)[r]? = _; rw [Array.getElem?_setIfInBounds_self_of_lt hlt], hS, ?_⟩ (setObj_upd w r _)
    rw [hdrop M 0, hsp]; exact hM
  · rw [hsp] at hf
    have hrun : (Builtin.delete_ #[mt, kt'] ty #[.map (some r), inj k]).run P w = .ok (.tuple #[]) { w with heap := w.heap.setIfInBounds r (.map (es.eraseIdxIfInBounds j) clock) } := by
      simp [Builtin.delete_, run_underlyingD hm, runGet hh, hc, hf, setObj_run hh]
    rw [hrun]
    obtain ⟨h1, h2, h3⟩ := spot_lt k M 0 j u hsp
    simp only [Nat.zero_add] at h2
    have hl : es.size = M.length := by
      have := congrArg List.length hM; simpa using this
    have e : (es.eraseIdxIfInBounds j).toList = es.toList.eraseIdx j := by
      simp [Array.eraseIdxIfInBounds, show j < es.size by omega]
    refine hk _ _ ⟨_, _, by show (w.heap.setIfInBounds r _)[r]? = _; rw [Array.getElem?_setIfInBounds_self_of_lt hlt], by rw [e]; exact hS.sub (List.eraseIdx_sublist _ _), ?_⟩ (setObj_upd w r _)
    rw [hdrop M 0, hsp]
    simp only [Nat.sub_zero]
    have e2 : ∀ {α β : Type} (g : α → β) (l : List α) (i : Nat), (l.eraseIdx i).map g = (l.map g).eraseIdx i := by
      intro α β g l
      induction l with
      | nil => intro i; simp
      | cons a l ih => intro i; cases i <;> simp [ih]
    rw [e, e2, hM, e2]

/-- How many keys. -/
theorem MLen_rule {P : Program} {mt kt et ty : TypeId} {inj : κ → Value} (hm : P.underlying mt = some (.map kt et)) {w : World} {r : Nat} {M : List (κ × Value)} (h : MapAt w r inj M) {K : Int → World → Prop} (hk : K M.length w) : MLen P #[mt] ty #[.map (some r)] w K := by
  obtain ⟨es, clock, hh, hS, hM⟩ := h
  have hl : es.size = M.length := by
    have := congrArg List.length hM; simpa using this
  have hrun : (Builtin.len_ #[mt] ty #[.map (some r)]).run P w = .ok (.int .i64 M.length) w := by
    simp [Builtin.len_, run_underlyingD hm, runGet hh, hl, goInt]
  unfold MLen Run
  rw [hrun]; exact ⟨_, rfl, hk⟩

end

end Go.D
