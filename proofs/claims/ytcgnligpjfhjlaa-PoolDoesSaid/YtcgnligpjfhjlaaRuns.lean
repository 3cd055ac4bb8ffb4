/- Runs of free cells: plain. -/
import Derived.Test.YtcgnligpjfhjlaaOwn11
namespace Go.Proofs.Ytcgnligpjfhjlaa
open Go Go.D Go.Proofs
set_option linter.unusedSimpArgs false
set_option linter.unusedVariables false

/-- A run: where it begins, how many. -/
abbrev Run2 := Int × Int

/-- Runs within a segment: rising, none touches the next. -/
structure RunsOk (lo hi : Int) (rs : List Run2) : Prop where
  apart : rs.Pairwise fun a b => a.1 + a.2 < b.1
  within : ∀ r ∈ rs, lo ≤ r.1 ∧ 1 ≤ r.2 ∧ r.1 + r.2 ≤ hi

def sumR (rs : List Run2) : Int := (rs.map (·.2)).sum

theorem sumR_cons (r : Run2) (rs : List Run2) : sumR (r :: rs) = r.2 + sumR rs := by simp [sumR]
theorem sumR_append (a b : List Run2) : sumR (a ++ b) = sumR a + sumR b := by simp [sumR, List.sum_append]

theorem RunsOk.sum {lo hi : Int} (hlh : lo ≤ hi) : ∀ {rs : List Run2}, RunsOk lo hi rs → 0 ≤ sumR rs ∧ sumR rs ≤ hi - lo
  | [], _ => by simp [sumR]; omega
  | r :: rs, h => by
    have hp := List.pairwise_cons.1 h.apart
    obtain ⟨h1, h2, h3⟩ := h.within r (by simp)
    have ih := RunsOk.sum (lo := r.1 + r.2) (hi := hi) h3 (rs := rs) ⟨hp.2, fun x hx => by
      obtain ⟨a, b, c⟩ := h.within x (by simp [hx])
      have := hp.1 x hx
      exact ⟨by omega, b, c⟩⟩
    rw [sumR_cons]; omega

theorem RunsOk.nil (lo hi : Int) : RunsOk lo hi [] := ⟨List.Pairwise.nil, by simp⟩

theorem RunsOk.wide {lo hi lo' hi' : Int} {rs : List Run2} (h : RunsOk lo hi rs) (h0 : lo' ≤ lo) (h1 : hi ≤ hi') : RunsOk lo' hi' rs :=
  ⟨h.apart, fun r hr => by obtain ⟨a, b, c⟩ := h.within r hr; exact ⟨by omega, b, by omega⟩⟩

theorem RunsOk.lt {lo hi : Int} {rs : List Run2} (h : RunsOk lo hi rs) {i j : Nat} (hj : j < rs.length) (hij : i < j) : (rs[i]'(by omega)).1 + (rs[i]'(by omega)).2 < rs[j].1 := List.pairwise_iff_getElem.1 h.apart i j (by omega) hj hij

/-- Is a cell free? -/
def isFree (rs : List Run2) (k : Int) : Prop := ∃ r ∈ rs, r.1 ≤ k ∧ k < r.1 + r.2

/-- Two that touch are one. -/
def joinL (i : Nat) (rs : List Run2) : List Run2 :=
  if h : i + 1 < rs.length then (if rs[i].1 + rs[i].2 = rs[i + 1].1 then rs.take i ++ (rs[i].1, rs[i].2 + rs[i + 1].2) :: rs.drop (i + 2) else rs) else rs

theorem split2 {rs : List Run2} {i : Nat} (h : i + 1 < rs.length) : rs = rs.take i ++ rs[i] :: rs[i + 1] :: rs.drop (i + 2) := by
  have h1 : rs.drop i = rs[i] :: rs.drop (i + 1) := List.drop_eq_getElem_cons (by omega)
  have h2 : rs.drop (i + 1) = rs[i + 1] :: rs.drop (i + 2) := List.drop_eq_getElem_cons (by omega)
  rw [← h2, ← h1, List.take_append_drop]

theorem joinL_sum (i : Nat) (rs : List Run2) : sumR (joinL i rs) = sumR rs := by
  unfold joinL
  split
  · rename_i h
    split
    · have e : sumR rs = sumR (rs.take i ++ rs[i] :: rs[i + 1] :: rs.drop (i + 2)) := by rw [← split2 h]
      rw [e, sumR_append, sumR_append, sumR_cons, sumR_cons, sumR_cons]
      simp only; omega
    · rfl
  · rfl

theorem joinL_free {i : Nat} {rs : List Run2} {k : Int} (hpos : ∀ r ∈ rs, 1 ≤ r.2) : isFree (joinL i rs) k ↔ isFree rs k := by
  unfold joinL
  split
  · rename_i h
    split
    · rename_i he
      have e : isFree rs k ↔ isFree (rs.take i ++ rs[i] :: rs[i + 1] :: rs.drop (i + 2)) k := by rw [← split2 h]
      rw [e]
      have p0 := hpos rs[i] (List.getElem_mem _)
      have p1 := hpos rs[i + 1] (List.getElem_mem _)
      unfold isFree
      have m0 : rs[i] ∈ rs.take i ++ rs[i] :: rs[i + 1] :: rs.drop (i + 2) := List.mem_append.2 (.inr List.mem_cons_self)
      have m1 : rs[i + 1] ∈ rs.take i ++ rs[i] :: rs[i + 1] :: rs.drop (i + 2) := List.mem_append.2 (.inr (List.mem_cons_of_mem _ List.mem_cons_self))
      have n0 : ((rs[i].1, rs[i].2 + rs[i + 1].2) : Run2) ∈ rs.take i ++ (rs[i].1, rs[i].2 + rs[i + 1].2) :: rs.drop (i + 2) := List.mem_append.2 (.inr List.mem_cons_self)
      constructor
      · rintro ⟨r, hr, h1, h2⟩
        rcases List.mem_append.1 hr with hr | hr
        · exact ⟨r, List.mem_append.2 (.inl hr), h1, h2⟩
        rcases List.mem_cons.1 hr with rfl | hr
        · simp only at h1 h2
          by_cases hk : k < rs[i].1 + rs[i].2
          · exact ⟨rs[i], m0, h1, hk⟩
          · exact ⟨rs[i + 1], m1, by omega, by omega⟩
        · exact ⟨r, List.mem_append.2 (.inr (List.mem_cons_of_mem _ (List.mem_cons_of_mem _ hr))), h1, h2⟩
      · rintro ⟨r, hr, h1, h2⟩
        rcases List.mem_append.1 hr with hr | hr
        · exact ⟨r, List.mem_append.2 (.inl hr), h1, h2⟩
        rcases List.mem_cons.1 hr with rfl | hr
        · exact ⟨_, n0, h1, by simp only; omega⟩
        rcases List.mem_cons.1 hr with rfl | hr
        · exact ⟨_, n0, by simp only; omega, by simp only; omega⟩
        · exact ⟨r, List.mem_append.2 (.inr (List.mem_cons_of_mem _ hr)), h1, h2⟩
    · exact Iff.rfl
  · exact Iff.rfl

theorem joinL_pos {i : Nat} {rs : List Run2} (hpos : ∀ r ∈ rs, 1 ≤ r.2) : ∀ r ∈ joinL i rs, 1 ≤ r.2 := by
  unfold joinL
  split
  · rename_i h
    split
    · intro r hr
      rcases List.mem_append.1 hr with hr | hr
      · exact hpos r (List.mem_of_mem_take hr)
      rcases List.mem_cons.1 hr with rfl | hr
      · have := hpos rs[i] (List.getElem_mem _)
        have := hpos rs[i + 1] (List.getElem_mem _)
        simp only; omega
      · exact hpos r (List.mem_of_mem_drop hr)
    · exact hpos
  · exact hpos

theorem joinL_within {i : Nat} {rs : List Run2} {lo hi : Int} (h : ∀ r ∈ rs, lo ≤ r.1 ∧ 1 ≤ r.2 ∧ r.1 + r.2 ≤ hi) : ∀ r ∈ joinL i rs, lo ≤ r.1 ∧ 1 ≤ r.2 ∧ r.1 + r.2 ≤ hi := by
  unfold joinL
  split
  · rename_i hi'
    split
    · rename_i he
      intro r hr
      rcases List.mem_append.1 hr with hr | hr
      · exact h r (List.mem_of_mem_take hr)
      rcases List.mem_cons.1 hr with rfl | hr
      · have a := h rs[i] (List.getElem_mem _)
        have b := h rs[i + 1] (List.getElem_mem _)
        simp only; omega
      · exact h r (List.mem_of_mem_drop hr)
    · exact h
  · exact h

/-- No two lie in each other; some may touch. -/
def Loose (rs : List Run2) : Prop := rs.Pairwise fun a b => a.1 + a.2 ≤ b.1

theorem Loose.lt {rs : List Run2} (h : Loose rs) {i j : Nat} (hj : j < rs.length) (hij : i < j) : (rs[i]'(by omega)).1 + (rs[i]'(by omega)).2 ≤ rs[j].1 := List.pairwise_iff_getElem.1 h i j (by omega) hj hij

theorem joinL_loose {i : Nat} {rs : List Run2} (hpos : ∀ r ∈ rs, 1 ≤ r.2) (h : Loose rs) : Loose (joinL i rs) := by
  unfold joinL
  split
  · rename_i hi'
    split
    · rename_i he
      have e := split2 hi'
      have h2 : Loose (rs.take i ++ rs[i] :: rs[i + 1] :: rs.drop (i + 2)) := by rw [← e]; exact h
      unfold Loose at *
      rw [List.pairwise_append, List.pairwise_cons, List.pairwise_cons] at h2
      rw [List.pairwise_append, List.pairwise_cons]
      obtain ⟨a, ⟨b, c, d⟩, f⟩ := h2
      have p0 := hpos rs[i] (List.getElem_mem _)
      have p1 := hpos rs[i + 1] (List.getElem_mem _)
      refine ⟨a, ⟨fun x hx => ?_, d⟩, fun x hx y hy => ?_⟩
      · have := c x hx; simp only; omega
      · rcases List.mem_cons.1 hy with rfl | hy
        · exact f x hx rs[i] List.mem_cons_self
        · exact f x hx y (List.mem_cons_of_mem _ (List.mem_cons_of_mem _ hy))
    · exact h
  · exact h

/-- Which places touch. -/
def touch (rs : List Run2) (i : Nat) : Prop := ∃ h : i + 1 < rs.length, rs[i].1 + rs[i].2 = rs[i + 1].1

theorem apart_of {rs : List Run2} (hl : Loose rs) (hpos : ∀ r ∈ rs, 1 ≤ r.2) (h : ∀ i, ¬ touch rs i) : rs.Pairwise fun a b => a.1 + a.2 < b.1 := by
  rw [List.pairwise_iff_getElem]
  intro i j hi hj hij
  have h1 : rs[i].1 + rs[i].2 ≤ rs[i + 1].1 := hl.lt (by omega) (by omega)
  have h2 : rs[i].1 + rs[i].2 ≠ rs[i + 1].1 := fun e => h i ⟨by omega, e⟩
  by_cases hj2 : j = i + 1
  · subst hj2; omega
  · have h3 := hl.lt hj (show i + 1 < j by omega)
    have := hpos rs[i + 1] (List.getElem_mem _)
    omega

theorem joinL_get {i : Nat} {rs : List Run2} (ht : touch rs i) : (joinL i rs).length = rs.length - 1 ∧ (∀ j (h1 : j < (joinL i rs).length) (h2 : j < rs.length), j < i → (joinL i rs)[j] = rs[j]) ∧ (∀ (h1 : i < (joinL i rs).length), (joinL i rs)[i] = (rs[i]'(by have := ht.choose; omega) |>.1, (rs[i]'(by have := ht.choose; omega)).2 + (rs[i + 1]'(ht.choose)).2)) ∧ ∀ j (h1 : j < (joinL i rs).length) (h2 : j + 1 < rs.length), i < j → (joinL i rs)[j] = rs[j + 1] := by
  obtain ⟨h, he⟩ := ht
  have e : joinL i rs = rs.take i ++ (rs[i].1, rs[i].2 + rs[i + 1].2) :: rs.drop (i + 2) := by
    unfold joinL; rw [dif_pos h, if_pos he]
  have hl : (joinL i rs).length = rs.length - 1 := by rw [e]; simp; omega
  refine ⟨hl, fun j h1 h2 hj => ?_, fun h1 => ?_, fun j h1 h2 hj => ?_⟩
  · have : (joinL i rs)[j]? = rs[j]? := by
      rw [e, List.getElem?_append_left (by simp; omega), List.getElem?_take_of_lt hj]
    rw [List.getElem?_eq_getElem h1, List.getElem?_eq_getElem h2] at this
    exact Option.some.inj this
  · have : (joinL i rs)[i]? = some (rs[i].1, rs[i].2 + rs[i + 1].2) := by
      rw [e, List.getElem?_append_right (by simp; omega), show i - (rs.take i).length = 0 by simp; omega]; rfl
    rw [List.getElem?_eq_getElem h1] at this
    exact Option.some.inj this
  · have : (joinL i rs)[j]? = rs[j + 1]? := by
      rw [e, List.getElem?_append_right (by simp; omega)]
      obtain ⟨m, hm⟩ : ∃ m, j - (rs.take i).length = m + 1 := ⟨j - i - 1, by simp; omega⟩
      rw [hm, List.getElem?_cons_succ, List.getElem?_drop]
      congr 1; simp at hm; omega
    rw [List.getElem?_eq_getElem h1, List.getElem?_eq_getElem h2] at this
    exact Option.some.inj this

/-- Joined, it touches nowhere where it did not. -/
theorem joinL_touch {i : Nat} {rs : List Run2} {j : Nat} (h : touch (joinL i rs) j) : (j < i ∧ touch rs j) ∨ (i ≤ j ∧ (touch rs i ∧ touch rs (j + 1) ∨ ¬ touch rs i ∧ j ≠ i ∧ touch rs j)) := by
  by_cases ht : touch rs i
  · obtain ⟨hl, h1, h2, h3⟩ := joinL_get ht
    obtain ⟨hj, he⟩ := h
    have hi := ht.choose
    rw [hl] at hj
    by_cases hji : j + 1 < i
    · rw [h1 j _ (by omega) (by omega), h1 (j + 1) _ (by omega) hji] at he
      exact .inl ⟨by omega, by omega, he⟩
    · by_cases hji2 : j + 1 = i
      · subst hji2
        rw [h1 j _ (by omega) (by omega), h2] at he
        exact .inl ⟨by omega, by omega, he⟩
      · by_cases hji3 : j = i
        · subst hji3
          rw [h2, h3 (j + 1) _ (by omega) (by omega)] at he
          have het := ht.choose_spec
          refine .inr ⟨by omega, .inl ⟨ht, by omega, ?_⟩⟩
          simp only at he; omega
        · rw [h3 j _ (by omega) (by omega), h3 (j + 1) _ (by omega) (by omega)] at he
          exact .inr ⟨by omega, .inl ⟨ht, by omega, he⟩⟩
  · have e : joinL i rs = rs := by
      unfold joinL
      split
      · rename_i hi
        rw [if_neg fun he => ht ⟨hi, he⟩]
      · rfl
    rw [e] at h
    by_cases hji : j < i
    · exact .inl ⟨hji, h⟩
    · refine .inr ⟨by omega, .inr ⟨ht, ?_, h⟩⟩
      rintro rfl; exact ht h

/-- What is given back stands at its place, and is joined with its neighbours. -/
def giveL (i : Nat) (x : Run2) (rs : List Run2) : List Run2 := if 0 < i then joinL (i - 1) (joinL i (rs.take i ++ x :: rs.drop i)) else joinL i (rs.take i ++ x :: rs.drop i)

theorem ins_get {i : Nat} {x : Run2} {rs : List Run2} (hi : i ≤ rs.length) : (∀ j, j < i → (rs.take i ++ x :: rs.drop i)[j]? = rs[j]?) ∧ (rs.take i ++ x :: rs.drop i)[i]? = some x ∧ ∀ j, i ≤ j → (rs.take i ++ x :: rs.drop i)[j + 1]? = rs[j]? := by
  refine ⟨fun j hj => ?_, ?_, fun j hj => ?_⟩
  · rw [List.getElem?_append_left (by simp; omega), List.getElem?_take_of_lt hj]
  · rw [List.getElem?_append_right (by simp; omega), show i - (rs.take i).length = 0 by simp; omega]; rfl
  · rw [List.getElem?_append_right (by simp; omega), show j + 1 - (rs.take i).length = (j - i) + 1 by simp; omega, List.getElem?_cons_succ, List.getElem?_drop]
    congr 1; omega

theorem giveL_ok {lo hi : Int} {rs : List Run2} {x : Run2} {i : Nat} (h : RunsOk lo hi rs) (hx : lo ≤ x.1 ∧ 1 ≤ x.2 ∧ x.1 + x.2 ≤ hi) (hi' : i ≤ rs.length) (hlt : ∀ j (hj : j < rs.length), j < i → rs[j].1 + rs[j].2 ≤ x.1) (hge : ∀ j (hj : j < rs.length), i ≤ j → x.1 + x.2 ≤ rs[j].1) :
    RunsOk lo hi (giveL i x rs) ∧ sumR (giveL i x rs) = sumR rs + x.2 ∧ ∀ k, isFree (giveL i x rs) k ↔ isFree rs k ∨ (x.1 ≤ k ∧ k < x.1 + x.2) := by
  obtain ⟨ys, hys⟩ : ∃ ys, ys = rs.take i ++ x :: rs.drop i := ⟨_, rfl⟩
  have hmem : ∀ r, r ∈ ys ↔ r ∈ rs ∨ r = x := fun r => by
    rw [hys]
    have e : r ∈ rs ↔ r ∈ rs.take i ++ rs.drop i := by rw [List.take_append_drop]
    rw [e]
    simp only [List.mem_append, List.mem_cons]
    constructor
    · rintro (a | a | a) <;> simp [a]
    · rintro ((a | a) | a) <;> simp [a]
  have hyw : ∀ r ∈ ys, lo ≤ r.1 ∧ 1 ≤ r.2 ∧ r.1 + r.2 ≤ hi := fun r hr => by
    rcases (hmem r).1 hr with a | rfl
    · exact h.within r a
    · exact hx
  have hpos : ∀ r ∈ ys, 1 ≤ r.2 := fun r hr => (hyw r hr).2.1
  have hloose : Loose ys := by
    unfold Loose
    rw [hys, List.pairwise_append, List.pairwise_cons]
    have hp : (rs.take i ++ rs.drop i).Pairwise fun a b => a.1 + a.2 < b.1 := by rw [List.take_append_drop]; exact h.apart
    rw [List.pairwise_append] at hp
    refine ⟨hp.1.imp fun {a b} hab => Int.le_of_lt hab, ⟨fun y hy => ?_, hp.2.1.imp fun {a b} hab => Int.le_of_lt hab⟩, fun a ha b hb => ?_⟩
    · obtain ⟨j, hj, rfl⟩ := List.getElem_of_mem hy
      rw [List.length_drop] at hj
      rw [List.getElem_drop]
      exact hge (i + j) (by omega) (by omega)
    · rcases List.mem_cons.1 hb with rfl | hb
      · obtain ⟨j, hj, rfl⟩ := List.getElem_of_mem ha
        rw [List.length_take] at hj
        rw [List.getElem_take]
        exact hlt j (by omega) (by omega)
      · exact Int.le_of_lt (hp.2.2 a ha b hb)
  have hsum : sumR ys = sumR rs + x.2 := by
    have e : sumR rs = sumR (rs.take i ++ rs.drop i) := by rw [List.take_append_drop]
    rw [e, hys, sumR_append, sumR_append, sumR_cons]; omega
  have hfree : ∀ k, isFree ys k ↔ isFree rs k ∨ (x.1 ≤ k ∧ k < x.1 + x.2) := fun k => by
    unfold isFree
    constructor
    · rintro ⟨r, hr, a, b⟩
      rcases (hmem r).1 hr with hr | rfl
      · exact .inl ⟨r, hr, a, b⟩
      · exact .inr ⟨a, b⟩
    · rintro (⟨r, hr, a, b⟩ | ⟨a, b⟩)
      · exact ⟨r, (hmem r).2 (.inl hr), a, b⟩
      · exact ⟨x, (hmem x).2 (.inr rfl), a, b⟩
  -- where it may touch
  obtain ⟨g1, g2, g3⟩ := ins_get (x := x) hi'
  rw [← hys] at g1 g2 g3
  have hyl : ys.length = rs.length + 1 := by rw [hys]; simp; omega
  have htouch : ∀ j, touch ys j → j = i ∨ j + 1 = i := fun j ⟨hj, he⟩ => by
    by_cases h1 : j + 1 < i
    · have a := g1 j (by omega)
      have b := g1 (j + 1) h1
      rw [List.getElem?_eq_getElem (by omega), List.getElem?_eq_getElem (by omega)] at a b
      have := h.lt (i := j) (j := j + 1) (by omega) (by omega)
      rw [← Option.some.inj a, ← Option.some.inj b] at this
      omega
    · by_cases h2 : i < j
      · obtain ⟨m, rfl⟩ : ∃ m, j = m + 1 := ⟨j - 1, by omega⟩
        have a := g3 m (by omega)
        have b := g3 (m + 1) (by omega)
        rw [List.getElem?_eq_getElem (by omega), List.getElem?_eq_getElem (by omega)] at a b
        have := h.lt (i := m) (j := m + 1) (by omega) (by omega)
        rw [← Option.some.inj a, ← Option.some.inj b] at this
        omega
      · omega
  unfold giveL
  rw [← hys]
  split
  · rename_i h0
    refine ⟨⟨apart_of (joinL_loose (joinL_pos hpos) (joinL_loose hpos hloose)) (joinL_pos (joinL_pos hpos)) fun j hj => ?_, joinL_within (joinL_within hyw)⟩, by rw [joinL_sum, joinL_sum, hsum], fun k => by rw [joinL_free (joinL_pos hpos), joinL_free hpos]; exact hfree k⟩
    have nt : ∀ j, touch (joinL i ys) j → j = i - 1 := fun j hj => by
      rcases joinL_touch hj with ⟨a, b⟩ | ⟨a, ⟨b, c⟩ | ⟨b, c, e⟩⟩
      · rcases htouch j b with h | h <;> omega
      · rcases htouch (j + 1) c with h | h <;> omega
      · rcases htouch j e with h | h <;> omega
    rcases joinL_touch hj with ⟨a, b⟩ | ⟨a, ⟨b, c⟩ | ⟨b, c, e⟩⟩
    · have := nt j b; omega
    · have := nt (j + 1) c; omega
    · have := nt j e; omega
  · rename_i h0
    refine ⟨⟨apart_of (joinL_loose hpos hloose) (joinL_pos hpos) fun j hj => ?_, joinL_within hyw⟩, by rw [joinL_sum, hsum], fun k => by rw [joinL_free hpos]; exact hfree k⟩
    rcases joinL_touch hj with ⟨a, b⟩ | ⟨a, ⟨b, c⟩ | ⟨b, c, e⟩⟩
    · omega
    · rcases htouch (j + 1) c with h | h <;> omega
    · rcases htouch j e with h | h <;> omega

end Go.Proofs.Ytcgnligpjfhjlaa
