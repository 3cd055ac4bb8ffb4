/- Environments in a row of words: chains, and the levels that choices keep. Plain. -/
import Derived.Test.YtdmjbkpibgfeiaaFrame
namespace Go.Proofs.Ytdmjbkpibgfeiaa
open Go Go.D Go.Proofs
set_option linter.unusedSimpArgs false
set_option linter.unusedVariables false
set_option maxRecDepth 8000

theorem wrap_range (x : Int) : -2 ^ 63 ≤ IntKind.i64.wrap x ∧ IntKind.i64.wrap x < 2 ^ 63 := by
  by_cases h : x % 2 ^ 64 ≥ 2 ^ (64 - 1)
  · simp only [IntKind.wrap, IntKind.bits, IntKind.signed, h]
    simp; omega
  · have hf : (x % 2 ^ 64 ≥ 2 ^ (64 - 1)) = False := eq_false h
    simp only [IntKind.wrap, IntKind.bits, IntKind.signed, hf]
    simp; omega

theorem wordOf_range (W : List Int) (i : Int) : -2 ^ 63 ≤ wordOf W i ∧ wordOf W i < 2 ^ 63 := wrap_range _

theorem i64u64 {n : Int} (h0 : -2 ^ 63 ≤ n) (h1 : n < 2 ^ 63) : IntKind.i64.wrap (IntKind.u64.wrap n) = n := by
  have h : IntKind.i64.wrap (IntKind.u64.wrap n) = IntKind.i64.wrap n := by
    simp only [IntKind.wrap, IntKind.bits, IntKind.signed]
    simp
  rw [h, i64id h0 h1]

/-- An environment, its previous one, and so on: their bases. -/
def ChainL (W : List Int) : List Int → Int → Int → Prop
  | [], e, _ => e = -1
  | x :: xs, e, hi => x = e ∧ 0 ≤ e ∧ 0 ≤ sizeOf' W e ∧ e + 4 + sizeOf' W e ≤ hi ∧ ChainL W xs (prevOf W e) e

theorem ChainL.hi {W : List Int} : ∀ {xs : List Int} {e h h' : Int}, ChainL W xs e h → (0 ≤ e → e + 4 + sizeOf' W e ≤ h') → ChainL W xs e h'
  | [], _, _, _, hc, _ => hc
  | x :: xs, e, h, h', ⟨h1, h2, h3, h4, h5⟩, hh => ⟨h1, h2, h3, hh h2, h5⟩

theorem ChainL.neg {W : List Int} : ∀ {xs : List Int} {e h : Int}, ChainL W xs e h → -1 ≤ e
  | [], _, _, hc => by rw [hc]; omega
  | x :: xs, e, h, hc => by have := hc.2.1; omega

theorem ChainL.mem {W : List Int} : ∀ {xs : List Int} {e h : Int}, ChainL W xs e h → ∀ x ∈ xs, 0 ≤ x ∧ 0 ≤ sizeOf' W x ∧ x + 4 + sizeOf' W x ≤ h
  | [], _, _, _, x, hx => by cases hx
  | y :: xs, e, h, ⟨h1, h2, h3, h4, h5⟩, x, hx => by
    rcases List.mem_cons.1 hx with rfl | hx
    · subst h1; exact ⟨h2, h3, h4⟩
    · obtain ⟨a, b, c⟩ := h5.mem x hx
      exact ⟨a, b, by omega⟩

/-- The words that a chain is read from. -/
theorem ChainL.turn {W W' : List Int} : ∀ {xs : List Int} {e h : Int}, ChainL W xs e h → (∀ x ∈ xs, wordOf W' x = wordOf W x ∧ wordOf W' (x + 3) = wordOf W (x + 3)) → ChainL W' xs e h
  | [], _, _, hc, _ => hc
  | y :: xs, e, h, ⟨h1, h2, h3, h4, h5⟩, ht => by
    obtain ⟨a, b⟩ := ht y (by simp)
    subst h1
    have e1 : sizeOf' W' y = sizeOf' W y := b
    have e2 : prevOf W' y = prevOf W y := by unfold prevOf; rw [a]
    exact ⟨rfl, h2, by rw [e1]; exact h3, by rw [e1]; exact h4, by rw [e2]; exact h5.turn fun x hx => ht x (by simp [hx])⟩

/-- Two of a chain: the same, or apart. -/
theorem ChainL.apart {W : List Int} : ∀ {xs : List Int} {e h : Int}, ChainL W xs e h → ∀ x ∈ xs, ∀ y ∈ xs, x = y ∨ x + 4 + sizeOf' W x ≤ y ∨ y + 4 + sizeOf' W y ≤ x
  | [], _, _, _, x, hx, _, _ => by cases hx
  | z :: xs, e, h, ⟨h1, h2, h3, h4, h5⟩, x, hx, y, hy => by
    subst h1
    rcases List.mem_cons.1 hx with hx | hx'
    · rcases List.mem_cons.1 hy with hy | hy'
      · exact .inl (hx.trans hy.symm)
      · have := h5.mem y hy'; subst hx; exact .inr (.inr this.2.2)
    · rcases List.mem_cons.1 hy with hy | hy'
      · have := h5.mem x hx'; subst hy; exact .inr (.inl this.2.2)
      · exact h5.apart x hx' y hy'

theorem ChainL.nodup {W : List Int} : ∀ {xs : List Int} {e h : Int}, ChainL W xs e h → xs.Nodup
  | [], _, _, _ => List.nodup_nil
  | z :: xs, e, h, ⟨h1, h2, h3, h4, h5⟩ => by
    rw [List.nodup_cons]
    refine ⟨fun hx => ?_, h5.nodup⟩
    have := h5.mem z hx; omega

/-- A level: the bases, the environment, the top. -/
abbrev Level := List Int × Int × Int

/-- The levels: the current one, and what each choice keeps, the last one first. -/
def Lv (W : List Int) : List Level → Prop
  | [] => True
  | x :: r => ChainL W x.1 x.2.1 x.2.2 ∧ 0 ≤ x.2.2 ∧ (∀ y ∈ r.head?, y.2.2 ≤ x.2.2 ∧ ∀ b ∈ x.1, b < y.2.2 → b ∈ y.1) ∧ Lv W r

theorem Lv.le {W : List Int} : ∀ {r : List Level} {t : Int}, Lv W r → (∀ y ∈ r.head?, y.2.2 ≤ t) → ∀ z ∈ r, ∀ x ∈ z.1, 0 ≤ x ∧ 0 ≤ sizeOf' W x ∧ x + 4 + sizeOf' W x ≤ t
  | [], _, _, _, z, hz, _, _ => by cases hz
  | y :: r, t, ⟨h1, h2, h3, h4⟩, ht, z, hz, x, hx => by
    have hy := ht y rfl
    rcases List.mem_cons.1 hz with rfl | hz
    · obtain ⟨a, b, c⟩ := h1.mem x hx
      exact ⟨a, b, by omega⟩
    · exact h4.le (fun q hq => Int.le_trans (h3 q hq).1 hy) z hz x hx

theorem Lv.apart {W : List Int} : ∀ {r : List Level}, Lv W r → ∀ z ∈ r, ∀ x ∈ z.1, ∀ z' ∈ r, ∀ y ∈ z'.1, x = y ∨ x + 4 + sizeOf' W x ≤ y ∨ y + 4 + sizeOf' W y ≤ x
  | [], _, z, hz, _, _, _, _, _, _ => by cases hz
  | u :: r, ⟨h1, h2, h3, h4⟩, z, hz, x, hx, z', hz', y, hy => by
    -- one of the head, one of the rest
    have cross : ∀ x ∈ u.1, ∀ q ∈ r, ∀ y ∈ q.1, x = y ∨ x + 4 + sizeOf' W x ≤ y ∨ y + 4 + sizeOf' W y ≤ x := by
      intro x hx q hq y hy
      match r, h3, h4, hq with
      | v :: r', h3, h4, hq =>
        obtain ⟨hv, hm⟩ := h3 v rfl
        have hle := h4.le (t := v.2.2) (fun y hy => by simp at hy; subst hy; omega) q hq y hy
        by_cases hxv : x < v.2.2
        · exact h4.apart v (by simp) x (hm x hx hxv) q hq y hy
        · exact .inr (.inr (by omega))
    rcases List.mem_cons.1 hz with e | g
    · rcases List.mem_cons.1 hz' with e' | g'
      · subst e; subst e'; exact h1.apart x hx y hy
      · subst e; exact cross x hx z' g' y hy
    · rcases List.mem_cons.1 hz' with e' | g'
      · subst e'
        rcases cross y hy z g x hx with h | h | h
        · exact .inl h.symm
        · exact .inr (.inr h)
        · exact .inr (.inl h)
      · exact h4.apart z g x hx z' g' y hy

theorem Lv.turn {W W' : List Int} : ∀ {r : List Level}, Lv W r → (∀ z ∈ r, ∀ x ∈ z.1, wordOf W' x = wordOf W x ∧ wordOf W' (x + 3) = wordOf W (x + 3)) → Lv W' r
  | [], _, _ => trivial
  | u :: r, ⟨h1, h2, h3, h4⟩, ht => ⟨h1.turn (ht u (by simp)), h2, h3, h4.turn fun z hz => ht z (by simp [hz])⟩

/-! ## Words set -/

theorem wordOf_at {W : List Int} {i : Nat} {v : Int} (h : W[i]? = some v) : wordOf W i = IntKind.i64.wrap v := by
  have hi := (List.getElem?_eq_some_iff.1 h).1
  unfold wordOf
  rw [dif_pos ⟨by omega, by omega⟩]
  have : W[(i : Int).toNat]? = some v := h
  rw [List.getElem?_eq_getElem (by omega)] at this
  simp at this
  simp [this]

theorem wordOf_eq {W W' : List Int} {i : Int} (h : 0 ≤ i → W'[i.toNat]? = W[i.toNat]?) : wordOf W' i = wordOf W i := by
  by_cases h0 : 0 ≤ i
  · have hh := h h0
    rcases hw : W[i.toNat]? with _ | v
    · rw [hw] at hh
      have a := List.getElem?_eq_none_iff.1 hw
      have b := List.getElem?_eq_none_iff.1 hh
      unfold wordOf
      rw [dif_neg (by omega), dif_neg (by omega)]
    · rw [hw] at hh
      have := wordOf_at hw
      have h2 := wordOf_at hh
      rw [Int.toNat_of_nonneg h0] at this h2
      rw [this, h2]
  · unfold wordOf
    rw [dif_neg (by omega), dif_neg (by omega)]

theorem setW_len (W : List Int) (i n : Int) : (setW W i n).length = W.length := by unfold setW; split <;> simp

theorem setW_ne {W : List Int} {i n : Int} {j : Nat} (h : (j : Int) ≠ i) : (setW W i n)[j]? = W[j]? := by
  unfold setW
  split
  · rename_i hi
    exact List.getElem?_set_ne (by omega)
  · rfl

theorem setW_self {W : List Int} {i n : Int} (h0 : 0 ≤ i) (h1 : i < W.length) : (setW W i n)[i.toNat]? = some (IntKind.u64.wrap n) := by
  unfold setW
  rw [if_pos ⟨h0, h1⟩, List.getElem?_set_self (by omega)]

/-- A row of words, laid at a place. -/
def lay (W : List Int) (b : Nat) (vs : List Int) : List Int := W.take b ++ vs.map (IntKind.u64.wrap ·) ++ W.drop (b + vs.length)

theorem lay_len {W : List Int} {b : Nat} {vs : List Int} (h : b + vs.length ≤ W.length) : (lay W b vs).length = W.length := by
  unfold lay; simp; omega

theorem lay_lt {W : List Int} {b j : Nat} {vs : List Int} (h : b + vs.length ≤ W.length) (hj : j < b) : (lay W b vs)[j]? = W[j]? := by
  unfold lay
  rw [List.append_assoc, List.getElem?_append_left (by simp; omega), List.getElem?_take, if_pos hj]

theorem lay_ge {W : List Int} {b j : Nat} {vs : List Int} (h : b + vs.length ≤ W.length) (hj : b + vs.length ≤ j) : (lay W b vs)[j]? = W[j]? := by
  unfold lay
  rw [List.getElem?_append_right (by simp; omega), List.getElem?_drop]
  congr 1; simp; omega

theorem lay_in {W : List Int} {b j : Nat} {vs : List Int} (h : b + vs.length ≤ W.length) (hj : j < vs.length) : (lay W b vs)[b + j]? = some (IntKind.u64.wrap vs[j]) := by
  unfold lay
  rw [List.append_assoc, List.getElem?_append_right (by simp; omega), List.getElem?_append_left (by simp; omega)]
  have e : b + j - (W.take b).length = j := by simp; omega
  rw [e, List.getElem?_map, List.getElem?_eq_getElem hj]; rfl

theorem lay_nil (W : List Int) (b : Nat) : lay W b [] = W := by unfold lay; simp

theorem setW_lay {W : List Int} {b i : Nat} {vs : List Int} (h : b + vs.length ≤ W.length) (hi : i < vs.length) : setW (lay W b (vs.take i)) ((b : Int) + i) vs[i] = lay W b (vs.take (i + 1)) := by
  have hl1 : (vs.take i).length = i := by simp; omega
  have hl2 : (vs.take (i + 1)).length = i + 1 := by simp; omega
  apply List.ext_getElem?
  intro j
  by_cases hj : (j : Int) = (b : Int) + i
  · have hj' : j = ((b : Int) + i).toNat := by omega
    rw [hj', setW_self (by omega) (by rw [lay_len (by omega)]; omega)]
    rw [show ((b : Int) + i).toNat = b + i by omega, lay_in (by omega) (by omega)]
    simp
  · rw [setW_ne hj]
    by_cases h2 : j < b
    · rw [lay_lt (by omega) h2, lay_lt (by omega) h2]
    · by_cases h3 : j < b + i
      · obtain ⟨k, rfl⟩ : ∃ k, j = b + k := ⟨j - b, by omega⟩
        rw [lay_in (by omega) (by omega), lay_in (by omega) (by omega)]
        simp
      · rw [lay_ge (by omega) (by omega), lay_ge (by omega) (by omega)]

end Go.Proofs.Ytdmjbkpibgfeiaa
