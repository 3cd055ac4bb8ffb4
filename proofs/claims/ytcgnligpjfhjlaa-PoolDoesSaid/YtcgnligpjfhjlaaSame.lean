/- Runs and cells: plain. -/
import Derived.Test.YtcgnligpjfhjlaaCounts
namespace Go.Proofs.Ytcgnligpjfhjlaa
open Go Go.D Go.Proofs
set_option linter.unusedSimpArgs false
set_option linter.unusedVariables false
set_option maxRecDepth 8000

theorem RunsOk.tail {lo hi : Int} {r : Run2} {rs : List Run2} (h : RunsOk lo hi (r :: rs)) : RunsOk (r.1 + r.2) hi rs := by
  have hp := List.pairwise_cons.1 h.apart
  refine ⟨hp.2, fun x hx => ?_⟩
  obtain ⟨a, b, c⟩ := h.within x (by simp [hx])
  have := hp.1 x hx
  exact ⟨by omega, b, c⟩

theorem isFree_cons {r : Run2} {rs : List Run2} {k : Int} : isFree (r :: rs) k ↔ (r.1 ≤ k ∧ k < r.1 + r.2) ∨ isFree rs k := by
  unfold isFree
  constructor
  · rintro ⟨x, hx, h⟩
    rcases List.mem_cons.1 hx with rfl | hx
    · exact .inl h
    · exact .inr ⟨x, hx, h⟩
  · rintro (h | ⟨x, hx, h⟩)
    · exact ⟨r, by simp, h⟩
    · exact ⟨x, by simp [hx], h⟩

theorem RunsOk.free {lo hi : Int} {rs : List Run2} (h : RunsOk lo hi rs) {k : Int} (hk : isFree rs k) : lo ≤ k ∧ k < hi := by
  obtain ⟨r, hr, a, b⟩ := hk
  have := h.within r hr; omega

/-- Two rows of runs that say the same are the same. -/
theorem runs_unique : ∀ {a b : List Run2} {lo hi : Int}, RunsOk lo hi a → RunsOk lo hi b → (∀ k, isFree a k ↔ isFree b k) → a = b
  | [], [], _, _, _, _, _ => rfl
  | [], r :: b, _, _, _, hb, h => by
    have := hb.within r (by simp)
    obtain ⟨x, hx, _⟩ := (h r.1).2 (isFree_cons.2 (.inl ⟨by omega, by omega⟩))
    cases hx
  | r :: a, [], _, _, ha, _, h => by
    have := ha.within r (by simp)
    obtain ⟨x, hx, _⟩ := (h r.1).1 (isFree_cons.2 (.inl ⟨by omega, by omega⟩))
    cases hx
  | r :: a, r' :: b, lo, hi, ha, hb, h => by
    have h1 := ha.within r (by simp)
    have h2 := hb.within r' (by simp)
    have ta := ha.tail
    have tb := hb.tail
    have pa := (List.pairwise_cons.1 ha.apart).1
    have pb := (List.pairwise_cons.1 hb.apart).1
    have fst : ∀ k, isFree a k → r.1 + r.2 < k + 1 ∧ r.1 + r.2 ≠ k := fun k ⟨x, hx, c, e⟩ => by
      have := pa x hx; omega
    have snd : ∀ k, isFree b k → r'.1 + r'.2 < k + 1 ∧ r'.1 + r'.2 ≠ k := fun k ⟨x, hx, c, e⟩ => by
      have := pb x hx; omega
    have e1 : r.1 = r'.1 := by
      rcases isFree_cons.1 ((h r.1).1 (isFree_cons.2 (.inl ⟨by omega, by omega⟩))) with c | c
      · rcases isFree_cons.1 ((h r'.1).2 (isFree_cons.2 (.inl ⟨by omega, by omega⟩))) with d | d
        · omega
        · have := fst _ d; omega
      · have := snd _ c
        rcases isFree_cons.1 ((h r'.1).2 (isFree_cons.2 (.inl ⟨by omega, by omega⟩))) with d | d
        · omega
        · have := fst _ d; omega
    have e2 : r.2 = r'.2 := by
      by_cases hlt : r.2 < r'.2
      · rcases isFree_cons.1 ((h (r.1 + r.2)).2 (isFree_cons.2 (.inl ⟨by omega, by omega⟩))) with d | d
        · omega
        · have := fst _ d; omega
      · by_cases hgt : r'.2 < r.2
        · rcases isFree_cons.1 ((h (r'.1 + r'.2)).1 (isFree_cons.2 (.inl ⟨by omega, by omega⟩))) with d | d
          · omega
          · have := snd _ d; omega
        · omega
    have er : r = r' := Prod.ext e1 e2
    subst er
    rw [runs_unique ta tb fun k => ?_]
    constructor
    · intro hk
      have := fst k hk
      rcases isFree_cons.1 ((h k).1 (isFree_cons.2 (.inr hk))) with c | c
      · omega
      · exact c
    · intro hk
      have := snd k hk
      rcases isFree_cons.1 ((h k).2 (isFree_cons.2 (.inr hk))) with c | c
      · omega
      · exact c

/-- A free cell behind all runs. -/
def addR (rs : List Run2) (i : Int) : List Run2 := match rs[rs.length - 1]? with
  | some r => if r.1 + r.2 = i then rs.set (rs.length - 1) (r.1, r.2 + 1) else rs ++ [(i, 1)]
  | none => rs ++ [(i, 1)]

theorem addR_ok {lo i : Int} {rs : List Run2} (h : RunsOk lo i rs) (hlo : lo ≤ i) : RunsOk lo (i + 1) (addR rs i) ∧ (addR rs i).length ≤ rs.length + 1 ∧ ∀ k, isFree (addR rs i) k ↔ isFree rs k ∨ k = i := by
  have hap := List.pairwise_iff_getElem.1 h.apart
  have app : (∀ r ∈ rs, r.1 + r.2 < i) → RunsOk lo (i + 1) (rs ++ [(i, 1)]) ∧ (rs ++ [(i, 1)]).length ≤ rs.length + 1 ∧ ∀ k, isFree (rs ++ [(i, 1)]) k ↔ isFree rs k ∨ k = i := fun hlt => by
    refine ⟨⟨?_, fun r hr => ?_⟩, by simp, fun k => ?_⟩
    · rw [List.pairwise_append]
      exact ⟨h.apart, by simp, fun a ha b hb => by simp at hb; subst hb; exact hlt a ha⟩
    · rcases List.mem_append.1 hr with hr | hr
      · have := h.within r hr; omega
      · simp at hr; subst hr; simp only; omega
    · unfold isFree
      constructor
      · rintro ⟨r, hr, a, b⟩
        rcases List.mem_append.1 hr with hr | hr
        · exact .inl ⟨r, hr, a, b⟩
        · simp at hr; subst hr; right; simp only at a b; omega
      · rintro (⟨r, hr, a⟩ | rfl)
        · exact ⟨r, List.mem_append.2 (.inl hr), a⟩
        · exact ⟨(k, 1), by simp, by simp only; omega⟩
  unfold addR
  split
  · rename_i r hr
    obtain ⟨hl, rfl⟩ := List.getElem?_eq_some_iff.1 hr
    have hw := h.within _ (List.getElem_mem hl)
    split
    · rename_i he
      refine ⟨⟨?_, fun x hx => ?_⟩, by simp, fun k => ?_⟩
      · rw [List.pairwise_iff_getElem]
        intro a b ha hb hab
        rw [List.length_set] at ha hb
        rw [List.getElem_set, List.getElem_set]
        have h1 := hap a b ha hb hab
        split
        · omega
        · split
          · subst_vars; exact h1
          · exact h1
      · rcases List.mem_or_eq_of_mem_set hx with hx | rfl
        · have := h.within x hx; omega
        · simp only; omega
      · rw [isFree_set hl, isFree_split hl k]
        simp only
        constructor
        · rintro (hx | hx)
          · exact .inl (.inl hx)
          · by_cases hk : k = i
            · exact .inr hk
            · exact .inl (.inr (by omega))
        · rintro ((hx | hx) | hx)
          · exact .inl hx
          · exact .inr (by omega)
          · exact .inr (by omega)
    · rename_i he
      refine app fun x hx => ?_
      obtain ⟨j, hj, rfl⟩ := List.getElem_of_mem hx
      by_cases hjl : j = rs.length - 1
      · subst hjl; omega
      · have := hap j (rs.length - 1) hj hl (by omega); omega
  · rename_i hr
    have : rs.length = 0 := by
      by_cases h0 : rs.length = 0
      · exact h0
      · rw [List.getElem?_eq_getElem (by omega)] at hr; cases hr
    refine app fun x hx => ?_
    have : rs = [] := by simpa using this
    subst this; cases hx

/-- How many of a row. -/
def cnt (f : Nat → Bool) (a : Nat) : Nat → Int
  | 0 => 0
  | n + 1 => cnt f a n + if f (a + n) then 1 else 0

theorem cnt_add (f : Nat → Bool) (a m : Nat) : ∀ n, cnt f a (m + n) = cnt f a m + cnt f (a + m) n
  | 0 => by simp [cnt]
  | n + 1 => by
    rw [← Nat.add_assoc]
    simp only [cnt, Nat.add_assoc]
    rw [cnt_add f a m n]; omega

theorem cnt_le (f : Nat → Bool) (a : Nat) : ∀ n, 0 ≤ cnt f a n ∧ cnt f a n ≤ n
  | 0 => by simp [cnt]
  | n + 1 => by
    have := cnt_le f a n
    simp only [cnt]
    split <;> omega

theorem cnt_no {f : Nat → Bool} {a : Nat} : ∀ {n : Nat}, (∀ k, a ≤ k → k < a + n → f k = false) → cnt f a n = 0
  | 0, _ => rfl
  | n + 1, h => by
    simp only [cnt]
    rw [cnt_no fun k h1 h2 => h k h1 (by omega), h (a + n) (by omega) (by omega)]; rfl

theorem cnt_all {f : Nat → Bool} {a : Nat} : ∀ {n : Nat}, (∀ k, a ≤ k → k < a + n → f k = true) → cnt f a n = n
  | 0, _ => rfl
  | n + 1, h => by
    simp only [cnt]
    rw [cnt_all fun k h1 h2 => h k h1 (by omega), h (a + n) (by omega) (by omega)]; simp

/-- Runs have as many cells as are free. -/
theorem sumR_cnt {f : Nat → Bool} : ∀ {rs : List Run2} {lo n : Nat}, RunsOk lo ((lo + n : Nat) : Int) rs → (∀ k : Nat, lo ≤ k → k < lo + n → (f k = true ↔ isFree rs k)) → sumR rs = cnt f lo n
  | [], lo, n, _, h => by
    rw [cnt_no fun k h1 h2 => ?_]
    · rfl
    · cases hf : f k with
      | false => rfl
      | true =>
        obtain ⟨r, hr, _⟩ := (h k h1 h2).1 hf
        cases hr
  | r :: rs, lo, n, ho, h => by
    have hw := ho.within r (by simp)
    obtain ⟨a, ha⟩ : ∃ a : Nat, r.1 = a := ⟨r.1.toNat, by omega⟩
    obtain ⟨m, hm⟩ : ∃ m : Nat, r.2 = m := ⟨r.2.toNat, by omega⟩
    have ht := ho.tail
    have hp := (List.pairwise_cons.1 ho.apart).1
    have hn : n = (a - lo) + (m + (n - (a - lo) - m)) := by omega
    rw [hn, cnt_add, cnt_add, sumR_cons, hm]
    have e1 : cnt f lo (a - lo) = 0 := cnt_no fun k h1 h2 => by
      cases hf : f k with
      | false => rfl
      | true =>
        rcases isFree_cons.1 ((h k h1 (by omega)).1 hf) with c | ⟨x, hx, c, e⟩
        · omega
        · have := hp x hx; omega
    have e2 : cnt f (lo + (a - lo)) m = m := cnt_all fun k h1 h2 => (h k (by omega) (by omega)).2 (isFree_cons.2 (.inl (by omega)))
    have e3 : sumR rs = cnt f (lo + (a - lo) + m) (n - (a - lo) - m) := by
      refine sumR_cnt (lo := lo + (a - lo) + m) ?_ fun k h1 h2 => ?_
      · rw [show ((lo + (a - lo) + m : Nat) : Int) = r.1 + r.2 by omega, show (((lo + (a - lo) + m) + (n - (a - lo) - m) : Nat) : Int) = ((lo + n : Nat) : Int) by omega]
        exact ht
      · rw [h k (by omega) (by omega), isFree_cons]
        constructor
        · rintro (c | c)
          · omega
          · exact c
        · exact fun c => .inr c
    rw [e1, e2, e3]; omega

/-- Cells turned. -/
def setB (l : List Bool) (a : Nat) (b : Bool) : Nat → List Bool
  | 0 => l
  | n + 1 => (setB l a b n).set (a + n) b

theorem setB_len (l : List Bool) (a : Nat) (b : Bool) : ∀ n, (setB l a b n).length = l.length
  | 0 => rfl
  | n + 1 => by simp only [setB, List.length_set]; exact setB_len l a b n

theorem setB_get {l : List Bool} {a : Nat} {b : Bool} : ∀ {n : Nat}, a + n ≤ l.length → ∀ j, (setB l a b n)[j]? = if a ≤ j ∧ j < a + n then some b else l[j]?
  | 0, _, j => by rw [if_neg (by omega)]; rfl
  | n + 1, h, j => by
    have ih := setB_get (l := l) (a := a) (b := b) (n := n) (by omega) j
    simp only [setB]
    by_cases hj : a + n = j
    · subst hj
      rw [List.getElem?_set_self (by rw [setB_len]; omega), if_pos (by omega)]
    · rw [List.getElem?_set_ne hj, ih]
      by_cases h1 : a ≤ j ∧ j < a + n
      · rw [if_pos h1, if_pos (by omega)]
      · rw [if_neg h1, if_neg (by omega)]

/-- Is a cell free, in a row of cells? -/
def at? (l : List Bool) (k : Nat) : Bool := l[k]? == some true

theorem at_iff {l : List Bool} {k : Nat} : at? l k = true ↔ l[k]? = some true := by unfold at?; simp

end Go.Proofs.Ytcgnligpjfhjlaa
