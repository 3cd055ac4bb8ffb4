/- A table of functors: plain. -/
import Derived.Test.YtlngmelfjiemlaaAtom
namespace Go.Proofs.Ytlngmelfjiemlaa.Fn
open Go Go.D Go.Proofs Go.Proofs.Ytlngmelfjiemlaa
set_option linter.unusedSimpArgs false
set_option linter.unusedVariables false
set_option maxRecDepth 8000

/-- A name's number, and how many arguments. -/
abbrev Key := Int × Int

/-- A slot. -/
structure Slot where
  key : Key
  is : Bool
  mark : Bool

instance : Inhabited Slot := ⟨⟨(0, 0), false, false⟩⟩

def kcs (k : Key) : List Value := [.int .i64 k.1, .int .i64 k.2]
def nV (k : Key) : Value := .agg (kcs k).toArray
def slC (s : Slot) : List Value := [.int .i64 s.key.1, .int .i64 s.key.2, .bool s.is, .bool s.mark]
theorem slC_len (s : Slot) : (slC s).length = 4 := rfl

/-- How many are there. -/
def cntIs (L : List Slot) : Int := (L.map fun s => if s.is then (1 : Int) else 0).sum

theorem cntIs_set {L : List Slot} : ∀ {i : Nat} (hi : i < L.length) (y : Slot), cntIs (L.set i y) = cntIs L - (if L[i].is then 1 else 0) + (if y.is then 1 else 0) := by
  induction L with
  | nil => intro i hi; simp at hi
  | cons r rs ih =>
    intro i hi y
    unfold cntIs at *
    cases i with
    | zero => simp only [List.set_cons_zero, List.map_cons, List.sum_cons, List.getElem_cons_zero]; omega
    | succ i => simp only [List.set_cons_succ, List.map_cons, List.sum_cons, List.getElem_cons_succ]; rw [ih (by simpa using hi)]; omega

theorem cntIs_append (L : List Slot) (y : Slot) : cntIs (L ++ [y]) = cntIs L + if y.is then 1 else 0 := by
  unfold cntIs; simp [List.sum_append]

theorem cntIs_bnd : ∀ L : List Slot, 0 ≤ cntIs L ∧ cntIs L ≤ L.length
  | [] => by simp [cntIs]
  | s :: L => by
    have := cntIs_bnd L
    unfold cntIs at *
    simp only [List.map_cons, List.sum_cons, List.length_cons]
    split <;> omega

/-- Slots, the map of names, what is free. -/
structure AtM (L : List Slot) (M : List (Key × Value)) (E : List Int) : Prop where
  once : Once M
  ml : (M.length : Int) = cntIs L
  look1 : ∀ i s, L[i]? = some s → s.is = true → Go.D.look s.key M = some (.int .i64 (i : Nat))
  look2 : ∀ n v, Go.D.look n M = some v → ∃ i s, L[i]? = some s ∧ s.is = true ∧ s.key = n ∧ v = .int .i64 (i : Nat)
  nodup : E.Nodup
  emem : ∀ k : Int, k ∈ E ↔ ∃ (i : Nat) (s : Slot), k = i ∧ L[i]? = some s ∧ s.is = false

theorem look_none {M : List (Key × Value)} {n : Key} (h : ∀ v, Go.D.look n M ≠ some v) : Go.D.look n M = none := by
  cases hl : Go.D.look n M with
  | none => rfl
  | some v => exact absurd hl (h v)

section
variable {L : List Slot} {M : List (Key × Value)} {E : List Int}

/-- Two slots of one name are one. -/
theorem AtM.one (h : AtM L M E) {i j : Nat} {s t : Slot} (hi : L[i]? = some s) (hj : L[j]? = some t) (hs : s.is = true) (ht : t.is = true) (hn : s.key = t.key) : i = j := by
  have a := h.look1 i s hi hs
  have b := h.look1 j t hj ht
  rw [hn, b] at a
  simp at a
  omega

theorem AtM.mark {i : Nat} {s : Slot} {m : Bool} (h : AtM L M E) (hi : L[i]? = some s) : AtM (L.set i ⟨s.key, s.is, m⟩) M E := by
  obtain ⟨hil, he⟩ := List.getElem?_eq_some_iff.1 hi
  have get : ∀ (j : Nat) (t : Slot), (L.set i ⟨s.key, s.is, m⟩)[j]? = some t → ∃ u : Slot, L[j]? = some u ∧ u.key = t.key ∧ u.is = t.is := fun j t ht => by
    by_cases hij : i = j
    · subst hij
      rw [List.getElem?_set_self hil] at ht
      rw [← Option.some.inj ht]; exact ⟨s, hi, rfl, rfl⟩
    · rw [List.getElem?_set_ne hij] at ht
      exact ⟨t, ht, rfl, rfl⟩
  have get' : ∀ (j : Nat) (u : Slot), L[j]? = some u → ∃ t : Slot, (L.set i ⟨s.key, s.is, m⟩)[j]? = some t ∧ u.key = t.key ∧ u.is = t.is := fun j u hu => by
    by_cases hij : i = j
    · subst hij
      rw [hi] at hu
      rw [List.getElem?_set_self hil, ← Option.some.inj hu]; exact ⟨_, rfl, rfl, rfl⟩
    · rw [List.getElem?_set_ne hij]
      exact ⟨u, hu, rfl, rfl⟩
  refine ⟨h.once, ?_, fun j t ht his => ?_, fun n v hv => ?_, h.nodup, fun k => ?_⟩
  · rw [cntIs_set hil, he, h.ml]; simp only; split <;> omega
  · obtain ⟨u, hu, h1, h2⟩ := get j t ht
    rw [← h1]; exact h.look1 j u hu (by rw [h2]; exact his)
  · obtain ⟨j, u, hu, h1, h2, h3⟩ := h.look2 n v hv
    obtain ⟨t, ht, h4, h5⟩ := get' j u hu
    exact ⟨j, t, ht, by rw [← h5]; exact h1, by rw [← h4]; exact h2, h3⟩
  · rw [h.emem k]
    constructor
    · rintro ⟨j, u, hk, hu, h1⟩
      obtain ⟨t, ht, h4, h5⟩ := get' j u hu
      exact ⟨j, t, hk, ht, by rw [← h5]; exact h1⟩
    · rintro ⟨j, t, hk, ht, h1⟩
      obtain ⟨u, hu, h4, h5⟩ := get j t ht
      exact ⟨j, u, hk, hu, by rw [h5]; exact h1⟩

theorem AtM.kill {i : Nat} {s : Slot} {z : Key} (h : AtM L M E) (hi : L[i]? = some s) (his : s.is = true) : AtM (L.set i ⟨z, false, false⟩) (drop1 s.key M) (E ++ [(i : Int)]) := by
  obtain ⟨hil, he⟩ := List.getElem?_eq_some_iff.1 hi
  have hlk := h.look1 i s hi his
  have hne : (i : Int) ∉ E := fun hx => by
    obtain ⟨j, t, hk, ht, h1⟩ := (h.emem i).1 hx
    have : i = j := by omega
    subst this
    rw [hi] at ht
    rw [← Option.some.inj ht, his] at h1; cases h1
  refine ⟨h.once.drop1, ?_, fun j t ht hj => ?_, fun n v hv => ?_, ?_, fun k => ?_⟩
  · have := drop1_length (M := M) (n := s.key) (by rw [hlk]; rfl)
    have h2 := h.ml
    rw [cntIs_set hil, he, his]; simp; omega
  · by_cases hij : i = j
    · subst hij
      rw [List.getElem?_set_self hil] at ht
      rw [← Option.some.inj ht] at hj; cases hj
    · rw [List.getElem?_set_ne hij] at ht
      rw [look_drop1 _ _ _ h.once, if_neg fun hn => hij (h.one hi ht his hj hn.symm)]
      exact h.look1 j t ht hj
  · rw [look_drop1 _ _ _ h.once] at hv
    split at hv
    · cases hv
    · rename_i hn
      obtain ⟨j, t, ht, h1, h2, h3⟩ := h.look2 n v hv
      refine ⟨j, t, ?_, h1, h2, h3⟩
      rw [List.getElem?_set_ne fun hij => hn ?_]
      · exact ht
      · subst hij
        rw [hi] at ht
        rw [← h2, ← Option.some.inj ht]
  · rw [List.nodup_append]
    exact ⟨h.nodup, by simp, fun a ha b hb => by simp at hb; subst hb; rintro rfl; exact hne ha⟩
  · rw [List.mem_append, h.emem k]
    constructor
    · rintro (⟨j, t, hk, ht, h1⟩ | hk)
      · refine ⟨j, t, hk, ?_, h1⟩
        rw [List.getElem?_set_ne fun hij => ?_]
        · exact ht
        · subst hij
          rw [hi] at ht
          rw [← Option.some.inj ht, his] at h1; cases h1
      · simp at hk
        exact ⟨i, _, hk, List.getElem?_set_self hil, rfl⟩
    · rintro ⟨j, t, hk, ht, h1⟩
      by_cases hij : i = j
      · right; subst hij; simp [hk]
      · rw [List.getElem?_set_ne hij] at ht
        exact .inl ⟨j, t, hk, ht, h1⟩

theorem AtM.fill {i : Nat} {s : Slot} {n : Key} (h : AtM L M ((i : Int) :: E)) (hi : L[i]? = some s) (his : s.is = false) (hn : Go.D.look n M = none) : AtM (L.set i ⟨n, true, false⟩) (put n (.int .i64 (i : Nat)) M) E := by
  obtain ⟨hil, he⟩ := List.getElem?_eq_some_iff.1 hi
  have hnd := List.nodup_cons.1 h.nodup
  refine ⟨h.once.put, ?_, fun j t ht hj => ?_, fun m v hv => ?_, hnd.2, fun k => ?_⟩
  · have h2 := h.ml
    rw [put_length, hn, cntIs_set hil, he, his]; simp; omega
  · by_cases hij : i = j
    · subst hij
      rw [List.getElem?_set_self hil] at ht
      rw [← Option.some.inj ht, look_put, if_pos rfl]
    · rw [List.getElem?_set_ne hij] at ht
      have h1 := h.look1 j t ht hj
      rw [look_put, if_neg fun e => by rw [e, hn] at h1; cases h1]
      exact h1
  · rw [look_put] at hv
    split at hv
    · rename_i hm
      refine ⟨i, ⟨n, true, false⟩, List.getElem?_set_self hil, rfl, hm.symm, (Option.some.inj hv).symm⟩
    · obtain ⟨j, t, ht, h1, h2, h3⟩ := h.look2 m v hv
      refine ⟨j, t, ?_, h1, h2, h3⟩
      rw [List.getElem?_set_ne fun hij => ?_]
      · exact ht
      · subst hij
        rw [hi] at ht
        rw [← Option.some.inj ht, his] at h1; cases h1
  · have hk := h.emem k
    constructor
    · intro hx
      obtain ⟨j, t, h1, ht, h2⟩ := hk.1 (List.mem_cons_of_mem _ hx)
      refine ⟨j, t, h1, ?_, h2⟩
      rw [List.getElem?_set_ne fun hij => ?_]
      · exact ht
      · subst hij
        rw [h1] at hx; exact hnd.1 hx
    · rintro ⟨j, t, h1, ht, h2⟩
      by_cases hij : i = j
      · subst hij
        rw [List.getElem?_set_self hil] at ht
        rw [← Option.some.inj ht] at h2; cases h2
      · rw [List.getElem?_set_ne hij] at ht
        rcases List.mem_cons.1 (hk.2 ⟨j, t, h1, ht, h2⟩) with e | e
        · omega
        · exact e

theorem AtM.grow {n : Key} (h : AtM L M E) (hn : Go.D.look n M = none) : AtM (L ++ [⟨n, true, false⟩]) (put n (.int .i64 (L.length : Nat)) M) E := by
  have get : ∀ j t, (L ++ [⟨n, true, false⟩])[j]? = some t → (j < L.length ∧ L[j]? = some t) ∨ (j = L.length ∧ t = ⟨n, true, false⟩) := fun j t ht => by
    by_cases hj : j < L.length
    · rw [List.getElem?_append_left hj] at ht; exact .inl ⟨hj, ht⟩
    · rw [List.getElem?_append_right (by omega)] at ht
      obtain ⟨h1, h2⟩ := List.getElem?_eq_some_iff.1 ht
      simp at h1
      right
      refine ⟨by omega, ?_⟩
      have : j - L.length = 0 := by omega
      simp [this] at h2; exact h2.symm
  have old : ∀ j t, L[j]? = some t → (L ++ [⟨n, true, false⟩])[j]? = some t := fun j t ht => by
    rw [List.getElem?_append_left (List.getElem?_eq_some_iff.1 ht).1]; exact ht
  refine ⟨h.once.put, ?_, fun j t ht hj => ?_, fun m v hv => ?_, h.nodup, fun k => ?_⟩
  · have h2 := h.ml
    rw [put_length, hn, cntIs_append]; simp; omega
  · rcases get j t ht with ⟨_, h1⟩ | ⟨h1, rfl⟩
    · have h2 := h.look1 j t h1 hj
      rw [look_put, if_neg fun e => by rw [e, hn] at h2; cases h2]
      exact h2
    · rw [look_put, if_pos rfl, h1]
  · rw [look_put] at hv
    split at hv
    · rename_i hm
      refine ⟨L.length, ⟨n, true, false⟩, by rw [List.getElem?_append_right (Nat.le_refl _)]; simp, rfl, hm.symm, (Option.some.inj hv).symm⟩
    · obtain ⟨j, t, ht, h1, h2, h3⟩ := h.look2 m v hv
      exact ⟨j, t, old j t ht, h1, h2, h3⟩
  · rw [h.emem k]
    constructor
    · rintro ⟨j, t, h1, ht, h2⟩; exact ⟨j, t, h1, old j t ht, h2⟩
    · rintro ⟨j, t, h1, ht, h2⟩
      rcases get j t ht with ⟨_, h3⟩ | ⟨h3, rfl⟩
      · exact ⟨j, t, h1, h3, h2⟩
      · cases h2

/-- Where a name is. -/
def findN (L : List Slot) (n : Key) : Option Nat := L.findIdx? fun s => s.is && decide (s.key = n)

/-- The first free slot. -/
def freeN (L : List Slot) : Option Nat := L.findIdx? fun s => !s.is

theorem AtM.find (h : AtM L M E) (n : Key) : Go.D.look n M = (findN L n).map fun i => .int .i64 (i : Nat) := by
  unfold findN
  rcases hf : L.findIdx? _ with _ | i
  · rw [List.findIdx?_eq_none_iff] at hf
    refine look_none fun v hv => ?_
    obtain ⟨i, s, hi, his, hn, _⟩ := h.look2 n v hv
    have := hf s (List.mem_of_getElem? hi)
    simp [his, hn] at this
  · rw [List.findIdx?_eq_some_iff_getElem] at hf
    obtain ⟨hi, hp, _⟩ := hf
    simp at hp
    have := h.look1 i _ (List.getElem?_eq_getElem hi) hp.1
    rw [hp.2] at this
    exact this

theorem AtM.free_none (h : AtM L M []) : freeN L = none := by
  unfold freeN
  rw [List.findIdx?_eq_none_iff]
  intro s hs
  obtain ⟨i, hi, rfl⟩ := List.getElem_of_mem hs
  cases hb : L[i].is with
  | true => rfl
  | false =>
    have := (h.emem i).2 ⟨i, _, rfl, List.getElem?_eq_getElem hi, hb⟩
    cases this

theorem AtM.free_some {k : Int} (h : AtM L M (k :: E)) (ha : (k :: E).Pairwise (· < ·)) : ∃ i s, k = (i : Nat) ∧ freeN L = some i ∧ L[i]? = some s ∧ s.is = false := by
  obtain ⟨i, s, hk, hi, his⟩ := (h.emem k).1 (by simp)
  refine ⟨i, s, hk, ?_, hi, his⟩
  obtain ⟨hil, he⟩ := List.getElem?_eq_some_iff.1 hi
  unfold freeN
  rw [List.findIdx?_eq_some_iff_getElem]
  refine ⟨hil, by rw [he, his]; rfl, fun j hj => ?_⟩
  cases hb : (L[j]'(by omega)).is with
  | true => simp
  | false =>
    have := (h.emem j).2 ⟨j, _, rfl, List.getElem?_eq_getElem (by omega), hb⟩
    rcases List.mem_cons.1 this with e | e
    · omega
    · have := (List.pairwise_cons.1 ha).1 _ e; omega

end

theorem nil_ok : AtM [] [] [] := ⟨List.nodup_nil, rfl, (fun i s h => by simp at h), (fun n v h => by cases h), List.nodup_nil, fun k => ⟨(fun h => by cases h), (fun ⟨i, s, _, h, _⟩ => by simp at h)⟩⟩

/-! ## A sweep -/

/-- A slot that goes. -/
def goneS (s : Slot) : Bool := s.is && !s.mark

/-- A slot behind a sweep. -/
def swS (s : Slot) : Slot := if goneS s then ⟨(0, 0), false, false⟩ else ⟨s.key, s.is, false⟩

/-- The first slots swept. -/
def swL (L : List Slot) : Nat → List Slot
  | 0 => L
  | i + 1 => match (swL L i)[i]? with | some s => (swL L i).set i (swS s) | none => swL L i

/-- How many went. -/
def swC (L : List Slot) : Nat → Int
  | 0 => 0
  | i + 1 => swC L i + match L[i]? with | some s => if goneS s then 1 else 0 | none => 0

theorem swL_len (L : List Slot) : ∀ i, (swL L i).length = L.length
  | 0 => rfl
  | i + 1 => by
    simp only [swL]
    split
    · rw [List.length_set]; exact swL_len L i
    · exact swL_len L i

theorem swL_get (L : List Slot) : ∀ i j, (swL L i)[j]? = if j < i then (L[j]?).map swS else L[j]?
  | 0, j => by rw [if_neg (by omega)]; rfl
  | i + 1, j => by
    have ih := swL_get L i
    simp only [swL]
    have hi := ih i
    rw [if_neg (by omega)] at hi
    by_cases hj : j = i
    · subst hj
      rw [if_pos (by omega)]
      split
      · rename_i s hs
        rw [hi] at hs
        have hl : j < L.length := (List.getElem?_eq_some_iff.1 hs).1
        rw [List.getElem?_set_self (by rw [swL_len]; exact hl), hs]; rfl
      · rename_i hs
        rw [hi] at hs
        rw [hi, hs]; rfl
    · have e : (if j < i + 1 then (L[j]?).map swS else L[j]?) = if j < i then (L[j]?).map swS else L[j]? := by
        by_cases h1 : j < i
        · rw [if_pos h1, if_pos (by omega)]
        · rw [if_neg h1, if_neg (by omega)]
      rw [e, ← ih j]
      split
      · rw [List.getElem?_set_ne (fun e => hj e.symm)]
      · rfl

theorem swC_bnd (L : List Slot) : ∀ i, 0 ≤ swC L i ∧ swC L i ≤ i
  | 0 => by simp [swC]
  | i + 1 => by
    have := swC_bnd L i
    simp only [swC]
    split
    · split <;> omega
    · omega

end Go.Proofs.Ytlngmelfjiemlaa.Fn
