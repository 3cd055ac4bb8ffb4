/- Slices of structs; slices that are built of their parts. -/
import Derived.Test.YtchbhocpmhlhjaaDoorOwn7
set_option linter.unusedSimpArgs false
set_option linter.unusedVariables false
namespace Go.D

section
variable {α β : Type}

theorem flat_len {f : α → List β} {k : Nat} (hk : ∀ x, (f x).length = k) : ∀ l : List α, (l.flatMap f).length = l.length * k
  | [] => by simp
  | x :: l => by rw [List.flatMap_cons, List.length_append, flat_len hk l, hk, List.length_cons, Nat.add_mul]; omega

theorem flat_get {f : α → List β} {k : Nat} (hk : ∀ x, (f x).length = k) : ∀ (l : List α) (i j : Nat), j < k → (l.flatMap f)[i * k + j]? = (l[i]?).bind fun x => (f x)[j]?
  | [], i, j, _ => by simp
  | x :: l, 0, j, hj => by
    rw [List.flatMap_cons, Nat.zero_mul, Nat.zero_add, List.getElem?_append_left (by rw [hk]; exact hj)]; rfl
  | x :: l, i + 1, j, hj => by
    rw [List.flatMap_cons, List.getElem?_append_right (by rw [hk, Nat.add_mul]; omega), hk, List.getElem?_cons_succ, ← flat_get hk l i j hj]
    congr 1
    rw [Nat.add_mul]; omega

theorem flat_at {f : α → List β} {k : Nat} (hk : ∀ x, (f x).length = k) {l : List α} {i j : Nat} (hi : i < l.length) (hj : j < k) : (l.flatMap f)[i * k + j]? = (f l[i])[j]? := by
  rw [flat_get hk l i j hj, List.getElem?_eq_getElem hi]; rfl

theorem flat_take {f : α → List β} {k : Nat} (hk : ∀ x, (f x).length = k) : ∀ (l : List α) (i : Nat), (l.flatMap f).take (i * k) = (l.take i).flatMap f
  | [], i => by simp
  | x :: l, 0 => by simp
  | x :: l, i + 1 => by
    rw [List.flatMap_cons, List.take_succ_cons, List.flatMap_cons, List.take_append, hk, List.take_of_length_le (by rw [hk, Nat.add_mul]; omega), ← flat_take hk l i]
    congr 2
    rw [Nat.add_mul]; omega

theorem flat_drop {f : α → List β} {k : Nat} (hk : ∀ x, (f x).length = k) : ∀ (l : List α) (i : Nat), (l.flatMap f).drop (i * k) = (l.drop i).flatMap f
  | [], i => by simp
  | x :: l, 0 => by simp
  | x :: l, i + 1 => by
    rw [List.flatMap_cons, List.drop_succ_cons, List.drop_append, hk, List.drop_of_length_le (by rw [hk, Nat.add_mul]; omega), List.nil_append, ← flat_drop hk l i]
    congr 1
    rw [Nat.add_mul]; omega

theorem flat_set {f : α → List β} {k : Nat} (hk : ∀ x, (f x).length = k) {l : List α} {i j : Nat} {v : β} {y : α} (hi : i < l.length) (hj : j < k) (h : f y = (f l[i]).set j v) : (l.flatMap f).set (i * k + j) v = (l.set i y).flatMap f := by
  apply List.ext_getElem?
  intro m
  by_cases hm : m < l.length * k
  · have hkp : 0 < k := by omega
    obtain ⟨a, b, hb, rfl⟩ : ∃ a b, b < k ∧ m = a * k + b := ⟨m / k, m % k, Nat.mod_lt _ hkp, by rw [Nat.mul_comm]; exact (Nat.div_add_mod m k).symm⟩
    have ha : a < l.length := by
      by_cases h2 : a < l.length
      · exact h2
      · have := Nat.mul_le_mul_right k (Nat.le_of_not_lt h2); omega
    rw [flat_at hk (by simpa using ha) hb, List.getElem?_set]
    by_cases hai : a = i
    · subst hai
      simp only [List.getElem_set_self, h]
      by_cases hbj : b = j
      · subst hbj
        rw [if_pos rfl, if_pos (by rw [flat_len hk]; exact hm), List.getElem?_set_self (by rw [hk]; exact hj)]
      · rw [if_neg (by omega), flat_at hk ha hb, List.getElem?_set_ne (fun e => hbj e.symm)]
    · have hne : ¬ (i * k + j = a * k + b) := by
        intro e
        rcases Nat.lt_or_ge i a with h2 | h2
        · have h3 := Nat.mul_le_mul_right k (show i + 1 ≤ a from h2)
          rw [Nat.add_mul] at h3; omega
        · have h3 := Nat.mul_le_mul_right k (show a + 1 ≤ i by omega)
          rw [Nat.add_mul] at h3; omega
      rw [if_neg hne, flat_at hk ha hb]
      congr 2
      rw [List.getElem_set_ne (fun e => hai e.symm)]
  · rw [List.getElem?_eq_none (by rw [List.length_set, flat_len hk]; omega), List.getElem?_eq_none (by rw [flat_len hk, List.length_set]; omega)]

end

/-- A part is laid into a row. -/
theorem foldSet (cs : List Value) : ∀ (j off : Nat) (arr : Array Value), off + j + cs.length ≤ arr.size →
    ((cs.zipIdx j).foldl (fun a x => a.setIfInBounds (off + x.2) x.1) arr).toList = arr.toList.take (off + j) ++ cs ++ arr.toList.drop (off + j + cs.length) := by
  induction cs with
  | nil => intro j off arr h; simp
  | cons c cs ih =>
    intro j off arr h
    simp only [List.length_cons] at h
    rw [List.zipIdx_cons, List.foldl_cons, ih (j + 1) off _ (by simp; omega)]
    simp only [Array.toList_setIfInBounds, List.length_cons]
    have hlt : off + j < arr.toList.length := by simp; omega
    rw [show off + (j + 1) = off + j + 1 by omega, List.take_succ_eq_append_getElem (by simpa using hlt), List.take_set_of_le (Nat.le_refl _), List.getElem_set_self, List.drop_set_of_lt (by omega)]
    simp; congr 1; omega

theorem fill_seq (k : Nat) : ∀ (vs : List Value) (i0 : Nat) (arr : Array Value), (∀ v ∈ vs, v.cells.size = k) → arr.size = i0 * k + vs.length * k →
    Instr.fill (fun i => some (i * k, k)) arr ((vs.zipIdx i0).map fun x => (x.2, x.1)) = some (arr.toList.take (i0 * k) ++ vs.flatMap (fun v => v.cells.toList)).toArray
  | [], i0, arr, _, h => by
    simp at h
    simp [Instr.fill]
    apply Array.ext'
    simp [List.take_of_length_le, h]
  | v :: vs, i0, arr, hv, h => by
    have hk := hv v (by simp)
    simp only [List.length_cons, Nat.add_mul, Nat.one_mul] at h
    rw [List.zipIdx_cons, List.map_cons]
    unfold Instr.fill
    simp only
    rw [if_neg (by simp [hk]; omega)]
    have hf := foldSet v.cells.toList 0 (i0 * k) arr (by simp [hk]; omega)
    have harr : (Array.foldl (fun cs x => cs.setIfInBounds (i0 * k + x.2) x.1) arr v.cells.zipIdx) = (arr.toList.take (i0 * k) ++ v.cells.toList ++ arr.toList.drop (i0 * k + v.cells.toList.length)).toArray := by
      apply Array.ext'
      rw [← Array.foldl_toList, Array.toList_zipIdx]
      simpa using hf
    have hcl : v.cells.toList.length = k := by simp [hk]
    have e2 := fill_seq k vs (i0 + 1) (arr.toList.take (i0 * k) ++ v.cells.toList ++ arr.toList.drop (i0 * k + v.cells.toList.length)).toArray (fun x hx => hv x (by simp [hx])) (by
      simp [hcl, hk, Nat.add_mul]; omega)
    have e3 : (fun (cs : Array Value) (x : Value × Nat) => match x with | (c, j) => cs.setIfInBounds (i0 * k + j) c) = fun cs x => cs.setIfInBounds (i0 * k + x.2) x.1 := by
      funext cs x; rfl
    rw [e3, harr, e2]
    congr 1
    apply Array.ext'
    simp only [List.toList_toArray, List.flatMap_cons]
    have hl1 : (arr.toList.take (i0 * k)).length = i0 * k := by simp; omega
    have g1 : (arr.toList.take (i0 * k)).take ((i0 + 1) * k) = arr.toList.take (i0 * k) := List.take_of_length_le (by rw [hl1, Nat.add_mul]; omega)
    have g2 : v.cells.toList.take k = v.cells.toList := List.take_of_length_le (by omega)
    rw [List.append_assoc, List.take_append, g1, hl1, List.take_append, hcl, show (i0 + 1) * k - i0 * k = k by rw [Nat.add_mul]; omega, g2]
    simp

/-- A slice that is built of all its elements. -/
theorem BSlL_rule {P : Program} {S E : TypeId} {sz by_ : Nat} {zc : Array Value} (hE : ElemOf P S E sz by_ zc) {w : World} {len : Nat} {ps : List (Nat × Value)} (vs : List Value) (hps : ps = (vs.zipIdx 0).map fun x => (x.2, x.1)) (hv : ∀ v ∈ vs, v.cells.size = sz) (hl : len = vs.length) (hb : len * sz ≤ 2 ^ 24)
    {K : Option Addr → Nat → Nat → World → Prop}
    (hK : ∀ w', SlAt w' sz (some ⟨w.heap.size, 0, none⟩) len len (vs.flatMap (fun v => v.cells.toList)) [w.heap.size] → Upd [] w w' → K (some ⟨w.heap.size, 0, none⟩) len len w') : BSl P S len ps w K := by
  subst hl
  have hs : ∀ l : List Value, (∀ v ∈ l, v.cells.size = sz) → (l.flatMap (fun v => v.cells.toList)).length = l.length * sz := by
    intro l hl
    induction l with
    | nil => simp
    | cons x l ih => rw [List.flatMap_cons, List.length_append, ih (fun v hv => hl v (by simp [hv])), List.length_cons, Nat.add_mul]; simp [hl x (by simp)]; omega
  refine BSl_rule (cs := vs.flatMap (fun v => v.cells.toList)) hE ?_ (hs vs hv) hb hK
  rw [hps, fill_seq sz vs 0 _ hv (by simp)]
  simp

end Go.D
