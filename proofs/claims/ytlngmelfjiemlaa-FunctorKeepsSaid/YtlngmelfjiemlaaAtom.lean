/- A table of names: plain. -/
import Derived.Test.YtlngmelfjiemlaaOwn11
namespace Go.Proofs.Ytlngmelfjiemlaa
open Go Go.D Go.Proofs
set_option linter.unusedSimpArgs false
set_option linter.unusedVariables false
set_option maxRecDepth 8000

/-- A slot. -/
structure Slot where
  name : ByteArray
  is : Bool
  mark : Bool

instance : Inhabited Slot := ⟨⟨⟨#[]⟩, false, false⟩⟩

def slC (s : Slot) : List Value := [.string s.name, .bool s.is, .bool s.mark]
theorem slC_len (s : Slot) : (slC s).length = 3 := rfl

/-- The reserved names. -/
def resL : List ByteArray := [⟨#[91, 93]⟩, ⟨#[46]⟩, ⟨#[123, 125]⟩, ⟨#[45]⟩, ⟨#[44]⟩, ⟨#[59]⟩, ⟨#[45, 62]⟩, ⟨#[58, 45]⟩, ⟨#[124]⟩, ⟨#[33]⟩, ⟨#[92, 43]⟩, ⟨#[116, 114, 117, 101]⟩, ⟨#[102, 97, 105, 108]⟩, ⟨#[99, 97, 108, 108]⟩, ⟨#[101, 114, 114, 111, 114]⟩]

def initL : List Slot := resL.map fun n => ⟨n, true, false⟩

/-- How many are there. -/
def cntIs (L : List Slot) : Int := (L.map fun s => if s.is then (1 : Int) else 0).sum

theorem cntIs_set {L : List Slot} : ∀ {i : Nat} (hi : i < L.length) (y : Slot), cntIs (L.set i y) = cntIs L - (if L[i].is then 1 else 0) + (if y.is then 1 else 0) := by
  induction L with
  | nil => intro i hi; simp at hi
  | cons r rs ih =>
    intro i hi y
    unfold cntIs at *
    cases i with
    | zero => simp only [List.set_cons_zero, List.map_cons, List.sum_cons, List.getElem_cons_zero]; omega
    | succ i => simp only [List.set_cons_succ, List.map_cons, List.sum_cons, List.getElem_cons_succ]; rw [ih (by simpa using hi)]; omega

theorem cntIs_append (L : List Slot) (y : Slot) : cntIs (L ++ [y]) = cntIs L + if y.is then 1 else 0 := by
  unfold cntIs; simp [List.sum_append]

theorem cntIs_bnd : ∀ L : List Slot, 0 ≤ cntIs L ∧ cntIs L ≤ L.length
  | [] => by simp [cntIs]
  | s :: L => by
    have := cntIs_bnd L
    unfold cntIs at *
    simp only [List.map_cons, List.sum_cons, List.length_cons]
    split <;> omega

/-- Slots, the map of names, what is free. -/
structure AtM (L : List Slot) (M : List (ByteArray × Value)) (E : List Int) : Prop where
  res : ∀ i, i < 15 → ∃ m, L[i]? = some ⟨resL[i]?.getD ⟨#[]⟩, true, m⟩
  once : Once M
  ml : (M.length : Int) = cntIs L
  look1 : ∀ i s, L[i]? = some s → s.is = true → Go.D.look s.name M = some (.int .i64 (i : Nat))
  look2 : ∀ n v, Go.D.look n M = some v → ∃ i s, L[i]? = some s ∧ s.is = true ∧ s.name = n ∧ v = .int .i64 (i : Nat)
  nodup : E.Nodup
  emem : ∀ k : Int, k ∈ E ↔ ∃ (i : Nat) (s : Slot), k = i ∧ L[i]? = some s ∧ s.is = false

theorem AtM.len {L : List Slot} {M : List (ByteArray × Value)} {E : List Int} (h : AtM L M E) : 15 ≤ L.length := by
  obtain ⟨m, hm⟩ := h.res 14 (by omega)
  obtain ⟨hl, _⟩ := List.getElem?_eq_some_iff.1 hm
  omega

theorem look_none {M : List (ByteArray × Value)} {n : ByteArray} (h : ∀ v, Go.D.look n M ≠ some v) : Go.D.look n M = none := by
  cases hl : Go.D.look n M with
  | none => rfl
  | some v => exact absurd hl (h v)

theorem drop1_length {κ : Type} [DecidableEq κ] {M : List (κ × Value)} {n : κ} (h : (Go.D.look n M).isSome = true) : (drop1 n M).length + 1 = M.length := by
  have h1 := congrArg List.length (keys_drop1 n M)
  have h2 := (look_isSome n M).1 h
  rw [List.length_map, List.length_erase_of_mem h2, List.length_map] at h1
  have : 0 < M.length := by
    have := List.length_pos_of_mem h2
    simpa using this
  omega

section
variable {L : List Slot} {M : List (ByteArray × Value)} {E : List Int}

/-- Two slots of one name are one. -/
theorem AtM.one (h : AtM L M E) {i j : Nat} {s t : Slot} (hi : L[i]? = some s) (hj : L[j]? = some t) (hs : s.is = true) (ht : t.is = true) (hn : s.name = t.name) : i = j := by
  have a := h.look1 i s hi hs
  have b := h.look1 j t hj ht
  rw [hn, b] at a
  simp at a
  omega

theorem AtM.mark {i : Nat} {s : Slot} {m : Bool} (h : AtM L M E) (hi : L[i]? = some s) : AtM (L.set i ⟨s.name, s.is, m⟩) M E := by
  obtain ⟨hil, he⟩ := List.getElem?_eq_some_iff.1 hi
  have get : ∀ (j : Nat) (t : Slot), (L.set i ⟨s.name, s.is, m⟩)[j]? = some t → ∃ u : Slot, L[j]? = some u ∧ u.name = t.name ∧ u.is = t.is := fun j t ht => by
    by_cases hij : i = j
    · subst hij
      rw [List.getElem?_set_self hil] at ht
      rw [← Option.some.inj ht]; exact ⟨s, hi, rfl, rfl⟩
    · rw [List.getElem?_set_ne hij] at ht
      exact ⟨t, ht, rfl, rfl⟩
  have get' : ∀ (j : Nat) (u : Slot), L[j]? = some u → ∃ t : Slot, (L.set i ⟨s.name, s.is, m⟩)[j]? = some t ∧ u.name = t.name ∧ u.is = t.is := fun j u hu => by
    by_cases hij : i = j
    · subst hij
      rw [hi] at hu
      rw [List.getElem?_set_self hil, ← Option.some.inj hu]; exact ⟨_, rfl, rfl, rfl⟩
    · rw [List.getElem?_set_ne hij]
      exact ⟨u, hu, rfl, rfl⟩
  refine ⟨fun j hj => ?_, h.once, ?_, fun j t ht his => ?_, fun n v hv => ?_, h.nodup, fun k => ?_⟩
  · obtain ⟨m', hm'⟩ := h.res j hj
    obtain ⟨t, ht, h1, h2⟩ := get' j _ hm'
    exact ⟨t.mark, by rw [ht]; cases t; simp_all⟩
  · rw [cntIs_set hil, he, h.ml]; simp only; split <;> omega
  · obtain ⟨u, hu, h1, h2⟩ := get j t ht
    rw [← h1]; exact h.look1 j u hu (by rw [h2]; exact his)
  · obtain ⟨j, u, hu, h1, h2, h3⟩ := h.look2 n v hv
    obtain ⟨t, ht, h4, h5⟩ := get' j u hu
    exact ⟨j, t, ht, by rw [← h5]; exact h1, by rw [← h4]; exact h2, h3⟩
  · rw [h.emem k]
    constructor
    · rintro ⟨j, u, hk, hu, h1⟩
      obtain ⟨t, ht, h4, h5⟩ := get' j u hu
      exact ⟨j, t, hk, ht, by rw [← h5]; exact h1⟩
    · rintro ⟨j, t, hk, ht, h1⟩
      obtain ⟨u, hu, h4, h5⟩ := get j t ht
      exact ⟨j, u, hk, hu, by rw [h5]; exact h1⟩

theorem AtM.kill {i : Nat} {s : Slot} {z : ByteArray} (h : AtM L M E) (hi : L[i]? = some s) (his : s.is = true) (h15 : 15 ≤ i) : AtM (L.set i ⟨z, false, false⟩) (drop1 s.name M) (E ++ [(i : Int)]) := by
  obtain ⟨hil, he⟩ := List.getElem?_eq_some_iff.1 hi
  have hlk := h.look1 i s hi his
  have hne : (i : Int) ∉ E := fun hx => by
    obtain ⟨j, t, hk, ht, h1⟩ := (h.emem i).1 hx
    have : i = j := by omega
    subst this
    rw [hi] at ht
    rw [← Option.some.inj ht, his] at h1; cases h1
  refine ⟨fun j hj => ?_, h.once.drop1, ?_, fun j t ht hj => ?_, fun n v hv => ?_, ?_, fun k => ?_⟩
  · rw [List.getElem?_set_ne (by omega)]; exact h.res j hj
  · have := drop1_length (M := M) (n := s.name) (by rw [hlk]; rfl)
    have h2 := h.ml
    rw [cntIs_set hil, he, his]; simp; omega
  · by_cases hij : i = j
    · subst hij
      rw [List.getElem?_set_self hil] at ht
      rw [← Option.some.inj ht] at hj; cases hj
    · rw [List.getElem?_set_ne hij] at ht
      rw [look_drop1 _ _ _ h.once, if_neg fun hn => hij (h.one hi ht his hj hn.symm)]
      exact h.look1 j t ht hj
  · rw [look_drop1 _ _ _ h.once] at hv
    split at hv
    · cases hv
    · rename_i hn
      obtain ⟨j, t, ht, h1, h2, h3⟩ := h.look2 n v hv
      refine ⟨j, t, ?_, h1, h2, h3⟩
      rw [List.getElem?_set_ne fun hij => hn ?_]
      · exact ht
      · subst hij
        rw [hi] at ht
        rw [← h2, ← Option.some.inj ht]
  · rw [List.nodup_append]
    exact ⟨h.nodup, by simp, fun a ha b hb => by simp at hb; subst hb; rintro rfl; exact hne ha⟩
  · rw [List.mem_append, h.emem k]
    constructor
    · rintro (⟨j, t, hk, ht, h1⟩ | hk)
      · refine ⟨j, t, hk, ?_, h1⟩
        rw [List.getElem?_set_ne fun hij => ?_]
        · exact ht
        · subst hij
          rw [hi] at ht
          rw [← Option.some.inj ht, his] at h1; cases h1
      · simp at hk
        exact ⟨i, _, hk, List.getElem?_set_self hil, rfl⟩
    · rintro ⟨j, t, hk, ht, h1⟩
      by_cases hij : i = j
      · right; subst hij; simp [hk]
      · rw [List.getElem?_set_ne hij] at ht
        exact .inl ⟨j, t, hk, ht, h1⟩

theorem AtM.fill {i : Nat} {s : Slot} {n : ByteArray} (h : AtM L M ((i : Int) :: E)) (hi : L[i]? = some s) (his : s.is = false) (hn : Go.D.look n M = none) : AtM (L.set i ⟨n, true, false⟩) (put n (.int .i64 (i : Nat)) M) E := by
  obtain ⟨hil, he⟩ := List.getElem?_eq_some_iff.1 hi
  have hnd := List.nodup_cons.1 h.nodup
  refine ⟨fun j hj => ?_, h.once.put, ?_, fun j t ht hj => ?_, fun m v hv => ?_, hnd.2, fun k => ?_⟩
  · have hij : ¬ i = j := fun e => by
      subst e
      obtain ⟨m, hm⟩ := h.res i hj
      rw [hi] at hm
      rw [Option.some.inj hm] at his; cases his
    rw [List.getElem?_set_ne hij]; exact h.res j hj
  · have h2 := h.ml
    rw [put_length, hn, cntIs_set hil, he, his]; simp; omega
  · by_cases hij : i = j
    · subst hij
      rw [List.getElem?_set_self hil] at ht
      rw [← Option.some.inj ht, look_put, if_pos rfl]
    · rw [List.getElem?_set_ne hij] at ht
      have h1 := h.look1 j t ht hj
      rw [look_put, if_neg fun e => by rw [e, hn] at h1; cases h1]
      exact h1
  · rw [look_put] at hv
    split at hv
    · rename_i hm
      refine ⟨i, ⟨n, true, false⟩, List.getElem?_set_self hil, rfl, hm.symm, (Option.some.inj hv).symm⟩
    · obtain ⟨j, t, ht, h1, h2, h3⟩ := h.look2 m v hv
      refine ⟨j, t, ?_, h1, h2, h3⟩
      rw [List.getElem?_set_ne fun hij => ?_]
      · exact ht
      · subst hij
        rw [hi] at ht
        rw [← Option.some.inj ht, his] at h1; cases h1
  · have hk := h.emem k
    constructor
    · intro hx
      obtain ⟨j, t, h1, ht, h2⟩ := hk.1 (List.mem_cons_of_mem _ hx)
      refine ⟨j, t, h1, ?_, h2⟩
      rw [List.getElem?_set_ne fun hij => ?_]
      · exact ht
      · subst hij
        rw [h1] at hx; exact hnd.1 hx
    · rintro ⟨j, t, h1, ht, h2⟩
      by_cases hij : i = j
      · subst hij
        rw [List.getElem?_set_self hil] at ht
        rw [← Option.some.inj ht] at h2; cases h2
      · rw [List.getElem?_set_ne hij] at ht
        rcases List.mem_cons.1 (hk.2 ⟨j, t, h1, ht, h2⟩) with e | e
        · omega
        · exact e

theorem AtM.grow {n : ByteArray} (h : AtM L M E) (hn : Go.D.look n M = none) : AtM (L ++ [⟨n, true, false⟩]) (put n (.int .i64 (L.length : Nat)) M) E := by
  have hl := h.len
  have get : ∀ j t, (L ++ [⟨n, true, false⟩])[j]? = some t → (j < L.length ∧ L[j]? = some t) ∨ (j = L.length ∧ t = ⟨n, true, false⟩) := fun j t ht => by
    by_cases hj : j < L.length
    · rw [List.getElem?_append_left hj] at ht; exact .inl ⟨hj, ht⟩
    · rw [List.getElem?_append_right (by omega)] at ht
      obtain ⟨h1, h2⟩ := List.getElem?_eq_some_iff.1 ht
      simp at h1
      right
      refine ⟨by omega, ?_⟩
      have : j - L.length = 0 := by omega
      simp [this] at h2; exact h2.symm
  have old : ∀ j t, L[j]? = some t → (L ++ [⟨n, true, false⟩])[j]? = some t := fun j t ht => by
    rw [List.getElem?_append_left (List.getElem?_eq_some_iff.1 ht).1]; exact ht
  refine ⟨fun j hj => ?_, h.once.put, ?_, fun j t ht hj => ?_, fun m v hv => ?_, h.nodup, fun k => ?_⟩
  · obtain ⟨m, hm⟩ := h.res j hj
    exact ⟨m, old j _ hm⟩
  · have h2 := h.ml
    rw [put_length, hn, cntIs_append]; simp; omega
  · rcases get j t ht with ⟨_, h1⟩ | ⟨h1, rfl⟩
    · have h2 := h.look1 j t h1 hj
      rw [look_put, if_neg fun e => by rw [e, hn] at h2; cases h2]
      exact h2
    · rw [look_put, if_pos rfl, h1]
  · rw [look_put] at hv
    split at hv
    · rename_i hm
      refine ⟨L.length, ⟨n, true, false⟩, by rw [List.getElem?_append_right (Nat.le_refl _)]; simp, rfl, hm.symm, (Option.some.inj hv).symm⟩
    · obtain ⟨j, t, ht, h1, h2, h3⟩ := h.look2 m v hv
      exact ⟨j, t, old j t ht, h1, h2, h3⟩
  · rw [h.emem k]
    constructor
    · rintro ⟨j, t, h1, ht, h2⟩; exact ⟨j, t, h1, old j t ht, h2⟩
    · rintro ⟨j, t, h1, ht, h2⟩
      rcases get j t ht with ⟨_, h3⟩ | ⟨h3, rfl⟩
      · exact ⟨j, t, h1, h3, h2⟩
      · cases h2

/-- Where a name is. -/
def findN (L : List Slot) (n : ByteArray) : Option Nat := L.findIdx? fun s => s.is && decide (s.name = n)

/-- The first free slot. -/
def freeN (L : List Slot) : Option Nat := L.findIdx? fun s => !s.is

theorem AtM.find (h : AtM L M E) (n : ByteArray) : Go.D.look n M = (findN L n).map fun i => .int .i64 (i : Nat) := by
  unfold findN
  rcases hf : L.findIdx? _ with _ | i
  · rw [List.findIdx?_eq_none_iff] at hf
    refine look_none fun v hv => ?_
    obtain ⟨i, s, hi, his, hn, _⟩ := h.look2 n v hv
    have := hf s (List.mem_of_getElem? hi)
    simp [his, hn] at this
  · rw [List.findIdx?_eq_some_iff_getElem] at hf
    obtain ⟨hi, hp, _⟩ := hf
    simp at hp
    have := h.look1 i _ (List.getElem?_eq_getElem hi) hp.1
    rw [hp.2] at this
    exact this

theorem AtM.free_none (h : AtM L M []) : freeN L = none := by
  unfold freeN
  rw [List.findIdx?_eq_none_iff]
  intro s hs
  obtain ⟨i, hi, rfl⟩ := List.getElem_of_mem hs
  cases hb : L[i].is with
  | true => rfl
  | false =>
    have := (h.emem i).2 ⟨i, _, rfl, List.getElem?_eq_getElem hi, hb⟩
    cases this

theorem AtM.free_some {k : Int} (h : AtM L M (k :: E)) (ha : (k :: E).Pairwise (· < ·)) : ∃ i s, k = (i : Nat) ∧ freeN L = some i ∧ L[i]? = some s ∧ s.is = false := by
  obtain ⟨i, s, hk, hi, his⟩ := (h.emem k).1 (by simp)
  refine ⟨i, s, hk, ?_, hi, his⟩
  obtain ⟨hil, he⟩ := List.getElem?_eq_some_iff.1 hi
  unfold freeN
  rw [List.findIdx?_eq_some_iff_getElem]
  refine ⟨hil, by rw [he, his]; rfl, fun j hj => ?_⟩
  cases hb : (L[j]'(by omega)).is with
  | true => simp
  | false =>
    have := (h.emem j).2 ⟨j, _, rfl, List.getElem?_eq_getElem (by omega), hb⟩
    rcases List.mem_cons.1 this with e | e
    · omega
    · have := (List.pairwise_cons.1 ha).1 _ e; omega

end

/-- The map of the first names. -/
def resM : Nat → List (ByteArray × Value)
  | 0 => []
  | i + 1 => put (resL[i]?.getD ⟨#[]⟩) (.int .i64 (i : Nat)) (resM i)

/-- Names apart. -/
theorem res_apart : ∀ i j, i < 15 → j < 15 → resL[i]? = resL[j]? → i = j := by
  have h : resL.Nodup := by decide
  intro i j hi hj he
  have h1 : resL.length = 15 := rfl
  have := (List.getElem?_inj (by omega) h).1 he
  exact this

theorem resM_ok : ∀ i, i ≤ 15 → Once (resM i) ∧ (resM i).length = i ∧ (∀ j, j < i → Go.D.look (resL[j]?.getD ⟨#[]⟩) (resM i) = some (.int .i64 (j : Nat))) ∧ ∀ n v, Go.D.look n (resM i) = some v → ∃ j, j < i ∧ n = resL[j]?.getD ⟨#[]⟩ ∧ v = .int .i64 (j : Nat)
  | 0, _ => ⟨List.nodup_nil, rfl, fun j hj => by omega, fun n v hv => by cases hv⟩
  | i + 1, hi => by
    obtain ⟨h1, h2, h3, h4⟩ := resM_ok i (by omega)
    have h15 : resL.length = 15 := rfl
    have inj : ∀ j, j ≤ i → resL[j]?.getD ⟨#[]⟩ = resL[i]?.getD ⟨#[]⟩ → j = i := fun j hj he => by
      rw [List.getElem?_eq_getElem (show j < resL.length by omega), List.getElem?_eq_getElem (show i < resL.length by omega)] at he
      refine res_apart j i (by omega) (by omega) ?_
      rw [List.getElem?_eq_getElem (show j < resL.length by omega), List.getElem?_eq_getElem (show i < resL.length by omega)]
      simpa using he
    have hno : Go.D.look (resL[i]?.getD ⟨#[]⟩) (resM i) = none := look_none fun v hv => by
      obtain ⟨j, hj, hn, _⟩ := h4 _ v hv
      have := inj j (by omega) hn.symm; omega
    refine ⟨h1.put, ?_, fun j hj => ?_, fun n v hv => ?_⟩
    · show (put _ _ (resM i)).length = _
      rw [put_length, hno]; simp [h2]
    · show Go.D.look _ (put _ _ (resM i)) = _
      rw [look_put]
      by_cases hji : j = i
      · subst hji; rw [if_pos rfl]
      · rw [if_neg fun e => hji (inj j (by omega) e)]
        exact h3 j (by omega)
    · have hv : Go.D.look n (put _ _ (resM i)) = some v := hv
      rw [look_put] at hv
      split at hv
      · rename_i hn
        exact ⟨i, by omega, hn, (Option.some.inj hv).symm⟩
      · obtain ⟨j, hj, hn⟩ := h4 n v hv
        exact ⟨j, by omega, hn⟩

theorem init_get {i : Nat} (hi : i < 15) : initL[i]? = some ⟨resL[i]?.getD ⟨#[]⟩, true, false⟩ := by
  have h15 : resL.length = 15 := rfl
  unfold initL
  rw [List.getElem?_map, List.getElem?_eq_getElem (by omega)]; rfl

theorem init_ok : AtM initL (resM 15) [] := by
  obtain ⟨h1, h2, h3, h4⟩ := resM_ok 15 (Nat.le_refl _)
  have hl : initL.length = 15 := rfl
  refine ⟨fun i hi => ⟨false, init_get hi⟩, h1, by rw [h2]; rfl, fun i s hs his => ?_, fun n v hv => ?_, List.nodup_nil, fun k => ?_⟩
  · have hi := (List.getElem?_eq_some_iff.1 hs).1
    rw [init_get (by omega)] at hs
    rw [← Option.some.inj hs]
    exact h3 i (by omega)
  · obtain ⟨j, hj, hn, hv⟩ := h4 n v hv
    exact ⟨j, _, init_get hj, rfl, hn.symm, hv⟩
  · constructor
    · intro h; cases h
    · rintro ⟨i, s, _, hs, his⟩
      have hi := (List.getElem?_eq_some_iff.1 hs).1
      rw [init_get (by omega)] at hs
      rw [← Option.some.inj hs] at his; cases his

end Go.Proofs.Ytlngmelfjiemlaa
