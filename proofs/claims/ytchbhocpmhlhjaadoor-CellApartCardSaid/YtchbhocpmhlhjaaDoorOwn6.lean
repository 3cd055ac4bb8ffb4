/- What a value that came in looks like: out of the statement's own reading. -/
import Derived.Test.YtchbhocpmhlhjaaDoorOwn5
import Derived.ChangeArms
import Derived.DataReads
import Derived.Deep.Slices
set_option linter.unusedSimpArgs false
set_option linter.unusedVariables false
namespace Go.D

/-- A value's cells, seen by its type: so deep. -/
def Sees (P : Program) (w : World) : Nat → TypeId → List Value → Prop
  | 0, _, _ => False
  | f + 1, t, cs =>
    match P.underlying t with
    | some .bool => ∃ b, cs = [.bool b]
    | some (.int k) => ∃ n, cs = [.int k n] ∧ (Lit.int k n).wf = true
    | some .string => ∃ s : ByteArray, cs = [.string s] ∧ s.size ≤ maxLen
    | some (.slice e) => ∃ p n c cs', cs = [.slice p n c] ∧ n ≤ c ∧ c ≤ maxLen ∧ Rd w (P.cellsOf e) p n cs' ∧ ∀ i, i < n → Sees P w f e ((cs'.drop (i * P.cellsOf e)).take (P.cellsOf e))
    | some (.struct fs) => cs.length = P.cellsOf t ∧ ∀ (i : Nat) (x : Field), fs[i]? = some x → Sees P w f x.type ((cs.drop x.offset).take (P.cellsOf x.type))
    | _ => True

theorem Sees.keep {P : Program} {w w' : World} (u : Upd [] w w') : ∀ (f : Nat) (t : TypeId) (cs : List Value), Sees P w f t cs → Sees P w' f t cs
  | 0, _, _, h => h
  | f + 1, t, cs, h => by
    unfold Sees at h ⊢
    split
    · rename_i hu; rw [hu] at h; exact h
    · rename_i hu; rw [hu] at h; exact h
    · rename_i hu; rw [hu] at h; exact h
    · rename_i hu; rw [hu] at h
      obtain ⟨p, n, c, cs', h1, h2, h3, h4, h5⟩ := h
      exact ⟨p, n, c, cs', h1, h2, h3, h4.keep u, fun i hi => Sees.keep u f _ _ (h5 i hi)⟩
    · rename_i hu; rw [hu] at h
      exact ⟨h.1, fun i x hx => Sees.keep u f _ _ (h.2 i x hx)⟩
    · trivial

theorem sees_of_trod {H : Type} {enc : TypeId × Value → H} {P : Program} {w : World} {base : Nat} {spare : Nat → Bool} {held : Bool} : ∀ (f : Nat) (t : TypeId) (cs : List Value) (x : DataW H × List MemPlace), DataW.trod enc P w base spare held f t cs = some x → Sees P w f t cs
  | 0, _, _, _, h => by simp [DataW.trod] at h
  | f + 1, t, cs, x, h => by
    unfold Sees
    split
    · rename_i hu
      obtain ⟨b, rfl, _⟩ := DataW.trod_bool hu h
      exact ⟨b, rfl⟩
    · rename_i k hu
      obtain ⟨n, rfl, _, hw⟩ := DataW.trod_int hu h
      exact ⟨n, rfl, hw⟩
    · rename_i hu
      obtain ⟨s, rfl, _, hw⟩ := DataW.trod_string hu h
      exact ⟨s, rfl, hw⟩
    · rename_i e hu
      rcases DataW.trod_slice hu h with ⟨rfl, _⟩ | ⟨a, len, cap, elems, rest, n, hn, rfl, _, hb, hl, hm, hlen, hel, _⟩
      · exact ⟨none, 0, 0, [], rfl, Nat.le_refl _, Nat.zero_le _, ⟨by simp, .inl rfl⟩, fun i hi => absurd hi (by omega)⟩
      · obtain rfl : f = n := by omega
        have hsee : ∀ i, i < len → ∃ ci, w.cells? base (a.add (i * P.cellsOf e)) (P.cellsOf e) = some ci ∧ ∃ y, DataW.trod enc P w base spare held f e ci = some y := by
          intro i hi
          have h1 := hel i hi
          rw [List.getElem?_eq_getElem (by omega)] at h1
          obtain ⟨ci, h2, h3⟩ := Option.bind_eq_some_iff.1 h1
          exact ⟨ci, h2, _, h3⟩
        -- every cell is there
        have hcell : ∀ k, k < len * P.cellsOf e → ∃ v, w.cell? (a.add k) = some v := by
          intro k hk
          have hpos : 0 < P.cellsOf e := by
            rcases Nat.eq_zero_or_pos (P.cellsOf e) with h0 | h0
            · rw [h0] at hk; simp at hk
            · exact h0
          have hi : k / P.cellsOf e < len := Nat.div_lt_of_lt_mul (by rw [Nat.mul_comm]; exact hk)
          obtain ⟨ci, h2, _⟩ := hsee _ hi
          obtain ⟨_, h4, h5⟩ := World.cells?_some h2
          have hj := Nat.mod_lt k hpos
          have h6 := h5 (k % P.cellsOf e) hj
          rw [addA, show k / P.cellsOf e * P.cellsOf e + k % P.cellsOf e = k by rw [Nat.mul_comm]; exact Nat.div_add_mod k _] at h6
          exact ⟨_, h6.trans (List.getElem?_eq_getElem (by omega))⟩
        refine ⟨some a, len, cap, (List.range (len * P.cellsOf e)).map fun k => (w.cell? (a.add k)).getD default, rfl, hl, hm, ⟨by simp, .inr ⟨a, rfl, fun k hk => ?_⟩⟩, fun i hi => ?_⟩
        · obtain ⟨v, hv⟩ := hcell k hk
          simp [hk, hv]
        · obtain ⟨ci, h2, y, h3⟩ := hsee i hi
          obtain ⟨_, h4, h5⟩ := World.cells?_some h2
          have hle : (i + 1) * P.cellsOf e ≤ len * P.cellsOf e := Nat.mul_le_mul_right _ hi
          rw [Nat.add_mul, Nat.one_mul] at hle
          have e1 : (((List.range (len * P.cellsOf e)).map fun k => (w.cell? (a.add k)).getD default).drop (i * P.cellsOf e)).take (P.cellsOf e) = ci := by
            apply List.ext_getElem?
            intro j
            rw [List.getElem?_take]
            by_cases hj : j < P.cellsOf e
            · rw [if_pos hj, List.getElem?_drop, ← h5 j hj, addA]
              obtain ⟨v, hv⟩ := hcell (i * P.cellsOf e + j) (by omega)
              simp [hv, show i * P.cellsOf e + j < len * P.cellsOf e by omega]
            · rw [if_neg hj, List.getElem?_eq_none (by omega)]
          rw [e1]
          exact sees_of_trod f _ _ _ h3
    · rename_i fs hu
      obtain ⟨xs, n, hn, _, hl, hxl, hf⟩ := DataW.trod_struct hu h
      obtain rfl : f = n := by omega
      refine ⟨hl, fun i fd hi => ?_⟩
      have h1 := hf i fd hi
      have hlt := (Array.getElem?_eq_some_iff.1 hi).1
      rw [List.getElem?_eq_getElem (by omega)] at h1
      exact sees_of_trod f _ _ _ h1
    · trivial

theorem sees_of_Trod {H : Type} {enc : TypeId × Value → H} {P : Program} {w : World} {base : Nat} {spare : Nat → Bool} {held : Bool} {t : TypeId} {v : Value} {d : DataW H} {ps : List MemPlace} (h : DataW.Trod enc P w base spare held t v d ps) : ∃ f, Sees P w f t v.cells.toList := by
  obtain ⟨f, h⟩ := h
  exact ⟨f, sees_of_trod f _ _ _ h⟩

/-! ## Taken apart at a type that is known -/

theorem see_bool {P : Program} {w : World} {f : Nat} {t : TypeId} {cs : List Value} (ht : P.underlying t = some .bool) (h : Sees P w f t cs) : ∃ b, cs = [.bool b] := by
  cases f with
  | zero => exact h.elim
  | succ f => unfold Sees at h; rw [ht] at h; exact h
theorem see_int {P : Program} {w : World} {f : Nat} {t : TypeId} {k : IntKind} {cs : List Value} (ht : P.underlying t = some (.int k)) (h : Sees P w f t cs) : ∃ n, cs = [.int k n] ∧ (Lit.int k n).wf = true := by
  cases f with
  | zero => exact h.elim
  | succ f => unfold Sees at h; rw [ht] at h; exact h
theorem see_string {P : Program} {w : World} {f : Nat} {t : TypeId} {cs : List Value} (ht : P.underlying t = some .string) (h : Sees P w f t cs) : ∃ s : ByteArray, cs = [.string s] ∧ s.size ≤ maxLen := by
  cases f with
  | zero => exact h.elim
  | succ f => unfold Sees at h; rw [ht] at h; exact h
theorem see_slice {P : Program} {w : World} {f : Nat} {t e : TypeId} {sz : Nat} {cs : List Value} (ht : P.underlying t = some (.slice e)) (hsz : P.cellsOf e = sz) (h : Sees P w f t cs) :
    ∃ p n c cs' g, f = g + 1 ∧ cs = [.slice p n c] ∧ n ≤ c ∧ c ≤ maxLen ∧ Rd w sz p n cs' ∧ ∀ i, i < n → Sees P w g e ((cs'.drop (i * sz)).take sz) := by
  subst hsz
  cases f with
  | zero => exact h.elim
  | succ f =>
    unfold Sees at h; rw [ht] at h
    obtain ⟨p, n, c, cs', h1, h2, h3, h4, h5⟩ := h
    exact ⟨p, n, c, cs', f, rfl, h1, h2, h3, h4, h5⟩
theorem see_struct {P : Program} {w : World} {f : Nat} {t : TypeId} {fs : Array Field} {sz : Nat} {cs : List Value} (ht : P.underlying t = some (.struct fs)) (hsz : P.cellsOf t = sz) (h : Sees P w f t cs) :
    ∃ g, f = g + 1 ∧ cs.length = sz ∧ ∀ (i : Nat) (x : Field), fs[i]? = some x → Sees P w g x.type ((cs.drop x.offset).take (P.cellsOf x.type)) := by
  subst hsz
  cases f with
  | zero => exact h.elim
  | succ f =>
    unfold Sees at h; rw [ht] at h
    exact ⟨f, rfl, h⟩

theorem pick {α : Type} [Inhabited α] {n : Nat} {p : Nat → α → Prop} (h : ∀ i, i < n → ∃ a, p i a) : ∃ l : List α, l.length = n ∧ ∀ i (hi : i < l.length), p i l[i] := by
  refine ⟨(List.range n).map fun i => if hi : i < n then (h i hi).choose else default, by simp, fun i hi => ?_⟩
  simp at hi
  have := (h i hi).choose_spec
  simpa [hi] using this

/-- A slice of whole numbers. -/
theorem see_ints {P : Program} {w : World} {f : Nat} {t e : TypeId} {k : IntKind} {cs : List Value} (ht : P.underlying t = some (.slice e)) (he : P.underlying e = some (.int k)) (hsz : P.cellsOf e = 1) (h : Sees P w f t cs) :
    ∃ p n c, ∃ L : List Int, cs = [.slice p n c] ∧ n ≤ c ∧ c ≤ maxLen ∧ Rd w 1 p n (L.map (.int k)) ∧ ∀ x ∈ L, (Lit.int k x).wf = true := by
  obtain ⟨p, n, c, cs', g, _, h1, h2, h3, h4, h5⟩ := see_slice ht hsz h
  obtain ⟨L, hL, hp⟩ := pick (p := fun i a => cs'[i]? = some (.int k a) ∧ (Lit.int k a).wf = true) (n := n) (fun i hi => by
    obtain ⟨a, ha, hw⟩ := see_int he (h5 i hi)
    refine ⟨a, ?_, hw⟩
    have : ((cs'.drop (i * 1)).take 1)[0]? = some (.int k a) := by rw [ha]; rfl
    rw [List.getElem?_take, if_pos (by omega), List.getElem?_drop] at this
    simpa using this)
  have e : cs' = L.map (.int k) := by
    apply List.ext_getElem?
    intro i
    have hl := h4.1
    by_cases hi : i < n
    · rw [List.getElem?_map, List.getElem?_eq_getElem (show i < L.length by omega), (hp i (by omega)).1]; rfl
    · rw [List.getElem?_eq_none (by omega), List.getElem?_eq_none (by simp; omega)]
  subst e
  refine ⟨p, n, c, L, h1, h2, h3, h4, fun x hx => ?_⟩
  obtain ⟨i, hi, rfl⟩ := List.getElem_of_mem hx
  exact (hp i hi).2

/-- A slice of strings. -/
theorem see_strings {P : Program} {w : World} {f : Nat} {t e : TypeId} {cs : List Value} (ht : P.underlying t = some (.slice e)) (he : P.underlying e = some .string) (hsz : P.cellsOf e = 1) (h : Sees P w f t cs) :
    ∃ p n c, ∃ L : List ByteArray, cs = [.slice p n c] ∧ n ≤ c ∧ c ≤ maxLen ∧ Rd w 1 p n (L.map .string) ∧ ∀ x ∈ L, x.size ≤ maxLen := by
  obtain ⟨p, n, c, cs', g, _, h1, h2, h3, h4, h5⟩ := see_slice ht hsz h
  obtain ⟨L, hL, hp⟩ := pick (p := fun i (a : ByteArray) => cs'[i]? = some (.string a) ∧ a.size ≤ maxLen) (n := n) (fun i hi => by
    obtain ⟨a, ha, hw⟩ := see_string he (h5 i hi)
    refine ⟨a, ?_, hw⟩
    have : ((cs'.drop (i * 1)).take 1)[0]? = some (.string a) := by rw [ha]; rfl
    rw [List.getElem?_take, if_pos (by omega), List.getElem?_drop] at this
    simpa using this)
  have e : cs' = L.map .string := by
    apply List.ext_getElem?
    intro i
    have hl := h4.1
    by_cases hi : i < n
    · rw [List.getElem?_map, List.getElem?_eq_getElem (show i < L.length by omega), (hp i (by omega)).1]; rfl
    · rw [List.getElem?_eq_none (by omega), List.getElem?_eq_none (by simp; omega)]
  subst e
  refine ⟨p, n, c, L, h1, h2, h3, h4, fun x hx => ?_⟩
  obtain ⟨i, hi, rfl⟩ := List.getElem_of_mem hx
  exact (hp i hi).2

end Go.D
