/- A pool: what each call means, cell by cell. -/
import Derived.Test.YtcgnligpjfhjlaaPool5
namespace Go.Proofs.Ytcgnligpjfhjlaa
open Go Go.D Go.Proofs
set_option linter.unusedSimpArgs false
set_option linter.unusedVariables false
set_option maxRecDepth 8000

theorem sumR_set {rs : List Run2} : ∀ {i : Nat} (hi : i < rs.length) (y : Run2), sumR (rs.set i y) = sumR rs - rs[i].2 + y.2 := by
  induction rs with
  | nil => intro i hi; simp at hi
  | cons r rs ih =>
    intro i hi y
    cases i with
    | zero => simp only [List.set_cons_zero, sumR_cons, List.getElem_cons_zero]; omega
    | succ i => simp only [List.set_cons_succ, sumR_cons, List.getElem_cons_succ]; rw [ih (by simpa using hi)]; omega

theorem segs_set {L : List Sg} : ∀ {i : Nat} (hi : i < L.length) (y : Sg), ((L.set i y).map fun x => sumR x.runs).sum = (L.map fun x => sumR x.runs).sum - sumR L[i].runs + sumR y.runs := by
  induction L with
  | nil => intro i hi; simp at hi
  | cons r rs ih =>
    intro i hi y
    cases i with
    | zero => simp only [List.set_cons_zero, List.map_cons, List.sum_cons, List.getElem_cons_zero]; omega
    | succ i => simp only [List.set_cons_succ, List.map_cons, List.sum_cons, List.getElem_cons_succ]; rw [ih (by simpa using hi)]; omega

theorem isFree_split {rs : List Run2} {i : Nat} (hi : i < rs.length) (k : Int) : isFree rs k ↔ isFree (rs.take i ++ rs.drop (i + 1)) k ∨ (rs[i].1 ≤ k ∧ k < rs[i].1 + rs[i].2) := by
  have e : rs = rs.take i ++ rs[i] :: rs.drop (i + 1) := by rw [← List.drop_eq_getElem_cons hi, List.take_append_drop]
  unfold isFree
  constructor
  · rintro ⟨r, hr, h⟩
    rw [e] at hr
    rcases List.mem_append.1 hr with hr | hr
    · exact .inl ⟨r, List.mem_append.2 (.inl hr), h⟩
    · rcases List.mem_cons.1 hr with rfl | hr
      · exact .inr h
      · exact .inl ⟨r, List.mem_append.2 (.inr hr), h⟩
  · rintro (⟨r, hr, h⟩ | h)
    · refine ⟨r, ?_, h⟩
      rcases List.mem_append.1 hr with hr | hr
      · exact List.mem_of_mem_take hr
      · exact List.mem_of_mem_drop hr
    · exact ⟨rs[i], List.getElem_mem hi, h⟩

theorem isFree_set {rs : List Run2} {i : Nat} (hi : i < rs.length) (y : Run2) (k : Int) : isFree (rs.set i y) k ↔ isFree (rs.take i ++ rs.drop (i + 1)) k ∨ (y.1 ≤ k ∧ k < y.1 + y.2) := by
  have h := isFree_split (rs := rs.set i y) (i := i) (by simpa using hi) k
  rw [List.take_set_of_le (by omega), List.drop_set_of_lt (by omega), List.getElem_set_self] at h
  exact h

theorem takeL_ok {lo hi n : Int} {rs : List Run2} {i : Nat} (h : RunsOk lo hi rs) (hi' : i < rs.length) (hn : 1 ≤ n) (hf : n ≤ rs[i].2) :
    RunsOk lo hi (takeL i n rs) ∧ sumR (takeL i n rs) = sumR rs - n ∧ (∀ k, isFree (takeL i n rs) k ↔ isFree rs k ∧ ¬ (rs[i].1 ≤ k ∧ k < rs[i].1 + n)) := by
  have hw := h.within _ (List.getElem_mem hi')
  have hap := List.pairwise_iff_getElem.1 h.apart
  have hot : ∀ k, isFree (rs.take i ++ rs.drop (i + 1)) k → ¬ (rs[i].1 ≤ k ∧ k < rs[i].1 + rs[i].2) := fun k ⟨r, hr, a, b⟩ ⟨c, e⟩ => by
    rcases List.mem_append.1 hr with hr | hr
    · obtain ⟨j, hj, rfl⟩ := List.getElem_of_mem hr
      rw [List.length_take] at hj
      rw [List.getElem_take] at a b
      have := hap j i (by omega) hi' (by omega); omega
    · obtain ⟨j, hj, rfl⟩ := List.getElem_of_mem hr
      rw [List.length_drop] at hj
      rw [List.getElem_drop] at a b
      have := hap i (i + 1 + j) hi' (by omega) (by omega); omega
  unfold takeL
  rw [List.getElem?_eq_getElem hi']
  simp only
  split
  · rename_i he
    have hsub : List.Sublist (rs.take i ++ rs.drop (i + 1)) rs := by
      have e : rs = rs.take i ++ rs[i] :: rs.drop (i + 1) := by rw [← List.drop_eq_getElem_cons hi', List.take_append_drop]
      conv => rhs; rw [e]
      exact (List.Sublist.refl _).append (List.sublist_cons_self _ _)
    refine ⟨⟨h.apart.sublist hsub, fun r hr => h.within r (hsub.subset hr)⟩, ?_, fun k => ?_⟩
    · have e : sumR rs = sumR (rs.take i ++ rs[i] :: rs.drop (i + 1)) := by rw [← List.drop_eq_getElem_cons hi', List.take_append_drop]
      rw [e, sumR_append, sumR_append, sumR_cons]; omega
    · rw [isFree_split hi' k]
      have := hot k
      rw [he] at this
      constructor
      · exact fun hx => ⟨.inl hx, this hx⟩
      · rintro ⟨hx | hx, hy⟩
        · exact hx
        · rw [he] at hx; exact absurd hx hy
  · rename_i he
    refine ⟨⟨?_, fun r hr => ?_⟩, ?_, fun k => ?_⟩
    · rw [List.pairwise_iff_getElem]
      intro a b ha hb hab
      rw [List.length_set] at ha hb
      rw [List.getElem_set, List.getElem_set]
      have h1 := hap a b ha hb hab
      split
      · split
        · omega
        · subst_vars; simp only; omega
      · split
        · subst_vars; simp only; omega
        · exact h1
    · rcases List.mem_or_eq_of_mem_set hr with hr | rfl
      · exact h.within r hr
      · simp only; omega
    · rw [sumR_set hi']; simp only; omega
    · rw [isFree_set hi', isFree_split hi' k]
      have := hot k
      simp only
      constructor
      · rintro (hx | hx)
        · exact ⟨.inl hx, fun hy => this hx ⟨hy.1, by omega⟩⟩
        · exact ⟨.inr ⟨by omega, by omega⟩, by omega⟩
      · rintro ⟨hx | hx, hy⟩
        · exact .inl hx
        · exact .inr (by omega)

theorem fits_some {rs : List Run2} {n : Int} {i : Nat} (h : fits rs n = some i) : ∃ hi : i < rs.length, n ≤ rs[i].2 := by
  unfold fits at h
  rw [List.findIdx?_eq_some_iff_getElem] at h
  obtain ⟨a, b, _⟩ := h
  exact ⟨a, by simpa using b⟩

section
variable {w : World} {d d' : PlD}

theorem kin_starts {s : Nat} {rs : List Run2} (hs : s < d.L.length) (k : Kin d d' s d.L[s].start rs) : d'.L.map (·.start) = d.L.map (·.start) := by
  obtain ⟨sl, h1⟩ := k.L
  rw [h1, List.map_set]
  apply List.ext_getElem?
  intro j
  by_cases hj : s = j
  · subst hj
    rw [List.getElem?_set_self (by simpa using hs), List.getElem?_map, List.getElem?_eq_getElem hs]; rfl
  · rw [List.getElem?_set_ne hj]

theorem kin_left {s : Nat} {rs : List Run2} (hs : s < d.L.length) (k : Kin d d' s d.L[s].start rs) : leftP d' = leftP d - sumR d.L[s].runs + sumR rs := by
  obtain ⟨sl, h1⟩ := k.L
  unfold leftP
  rw [h1, segs_set hs, k.limit, k.top]; simp only; omega

theorem freeP_lt (ok : PlOk d) {k : Int} (h : freeP d k) : 0 ≤ k ∧ k < d.top := by
  obtain ⟨x, hx, r, hr, a, b⟩ := h
  obtain ⟨i, hi, rfl⟩ := List.getElem_of_mem hx
  have := ok.small hi r hr
  omega

theorem kin_free (ok : PlOk d) {s : Nat} {rs : List Run2} (hs : s < d.L.length) (k : Kin d d' s d.L[s].start rs) (hr : RunsOk d.L[s].start (endOf d.L d.top s) rs) (P : Int → Prop) (hP : ∀ t, P t → d.L[s].start ≤ t ∧ t < endOf d.L d.top s)
    (t : Int) : ((∀ t, isFree rs t ↔ isFree d.L[s].runs t ∧ ¬ P t) → (freeP d' t ↔ freeP d t ∧ ¬ P t)) ∧ ((∀ t, isFree rs t ↔ isFree d.L[s].runs t ∨ P t) → (freeP d' t ↔ freeP d t ∨ P t)) := by
  have ok' := ok.kin hs k hr
  obtain ⟨sl, h1⟩ := k.L
  have hs' : s < d'.L.length := by rw [k.len]; exact hs
  obtain ⟨sl', he⟩ := k.self hs
  by_cases hin : d.L[s].start ≤ t ∧ t < endOf d.L d.top s
  · have e1 : freeP d t ↔ isFree d.L[s].runs t := free_seg ok hs hin.1 hin.2
    have e2 : freeP d' t ↔ isFree rs t := by
      have e3 : endOf d'.L d'.top s = endOf d.L d.top s := by rw [k.top, h1]; exact endOf_set (y := ⟨d.L[s].start, sl, rs⟩) hs rfl s
      have := free_seg ok' (k := t) hs' (by rw [he]; exact hin.1) (by rw [e3]; exact hin.2)
      rw [he] at this; exact this
    rw [e1, e2]
    exact ⟨fun h => h t, fun h => h t⟩
  · have hnP : ¬ P t := fun h => hin (hP t h)
    have e : freeP d' t ↔ freeP d t := by
      unfold freeP
      constructor
      · rintro ⟨x, hx, hf⟩
        rw [h1] at hx
        rcases List.mem_or_eq_of_mem_set hx with hx | rfl
        · exact ⟨x, hx, hf⟩
        · obtain ⟨r, hr', a, b⟩ := hf
          have := hr.within r hr'
          exact absurd ⟨by omega, by omega⟩ hin
      · rintro ⟨x, hx, hf⟩
        obtain ⟨j, hj, rfl⟩ := List.getElem_of_mem hx
        by_cases hjs : j = s
        · subst hjs
          obtain ⟨r, hr', a, b⟩ := hf
          have := (ok.ok j hj).within r hr'
          exact absurd ⟨by omega, by omega⟩ hin
        · refine ⟨d.L[j], ?_, hf⟩
          rw [h1]
          have : (d.L.set s ⟨d.L[s].start, sl, rs⟩)[j]? = some d.L[j] := by rw [List.getElem?_set_ne (by omega), List.getElem?_eq_getElem hj]
          exact List.mem_of_getElem? this
    rw [e]
    exact ⟨fun _ => by simp [hnP], fun _ => by simp [hnP]⟩

/-- Cells were taken. -/
structure Tk (d d' : PlD) (t n : Int) : Prop where
  ok : PlOk d'
  a : d'.a = d.a
  limit : d'.limit = d.limit
  starts : d'.L.map (·.start) = d.L.map (·.start)
  one : 1 ≤ n
  pos : 0 ≤ t
  lo : ∀ x ∈ d.L, x.start ≤ t
  hi : t + n ≤ d'.top
  top : d.top ≤ d'.top ∧ (d'.top = d.top ∨ d'.top = t + n ∧ t = d.top)
  left : leftP d' = leftP d - n
  was : ∀ k, t ≤ k → k < t + n → k < d.top → freeP d k
  free : ∀ k, freeP d' k ↔ freeP d k ∧ ¬ (t ≤ k ∧ k < t + n)

theorem Take6 {n : Int} {s : Nat} {K : Int → Int → World → Prop} (h : Pl w d) (ok : PlOk d) (hn : -2 ^ 63 ≤ n ∧ n < 2 ^ 63) (hs : s < d.L.length) (hse : s + 1 = d.L.length)
    (h1 : n < 1 → ∀ w', Pl w' d → Upd [] w w' → K 0 1 w')
    (hhit : ∀ i, fits d.L[s].runs n = some i → ∀ (hi : i < d.L[s].runs.length) w' d', Pl w' d' → Tk d d' (d.L[s].runs[i]).1 n → d'.top = d.top → Upd d.FT w w' → Sub d'.FT d.FT w → K (d.L[s].runs[i]).1 0 w')
    (hfull : 1 ≤ n → fits d.L[s].runs n = none → d.limit - d.top < n → ∀ w', Pl w' d → Upd [] w w' → K 0 2 w')
    (htop : fits d.L[s].runs n = none → ∀ w' d', Pl w' d' → Tk d d' d.top n → d'.top = d.top + n → Upd d.FT w w' → Sub d'.FT d.FT w → K d.top 0 w') : C_pool_Pool_Take d.a n w K := by
  have ht0 := ok.top0
  have hend : endOf d.L d.top s = d.top := by unfold endOf; rw [List.getElem?_eq_none (by omega)]
  have hmono := List.pairwise_iff_getElem.1 ok.mono
  have hlast : ∀ x ∈ d.L, x.start ≤ d.L[s].start := fun x hx => by
    obtain ⟨j, hj, rfl⟩ := List.getElem_of_mem hx
    by_cases hjs : j = s
    · subst hjs; exact Int.le_refl _
    · exact hmono j s hj hs (by omega)
  refine Take_ok h ok hn hs hse h1 (fun hn1 i hf hi w' d' h' k' u' s' => ?_) hfull fun hn1 hf hle w' h' u' => ?_
  · obtain ⟨_, hfit⟩ := fits_some hf
    have hrok := ok.ok s hs
    obtain ⟨t1, t2, t3⟩ := takeL_ok hrok hi hn1 hfit
    have hw := hrok.within _ (List.getElem_mem hi)
    have hsm := ok.small hs _ (List.getElem_mem hi)
    refine hhit i hf hi w' d' h' ⟨ok.kin hs k' t1, k'.a, k'.limit, kin_starts hs k', hn1, by omega, fun x hx => by have := hlast x hx; omega, by rw [k'.top]; omega, by rw [k'.top]; exact ⟨Int.le_refl _, .inl rfl⟩, by rw [kin_left hs k', t2]; omega, fun k a b c => ?_, fun k => ?_⟩ k'.top u' s'
    · rw [free_seg ok hs (by omega) (by omega)]
      exact ⟨_, List.getElem_mem hi, by omega, by omega⟩
    · exact (kin_free ok hs k' t1 (fun k => d.L[s].runs[i].1 ≤ k ∧ k < d.L[s].runs[i].1 + n) (fun t ht => by omega) k).1 t3
  · refine htop hf w' _ h' ⟨⟨ok.ne, ok.len, ok.first, ok.mono, fun x hx => ?_, by show d.top + n ≤ d.limit; omega, ok.lim, fun i hi => ?_⟩, rfl, rfl, rfl, hn1, ht0, ok.le, Int.le_refl _, ⟨by show d.top ≤ d.top + n; omega, .inr ⟨rfl, rfl⟩⟩, ?_, fun k a b c => by omega, fun k => ?_⟩ rfl u' (fun x hx => .inl hx)
    · have := ok.le x hx
      show x.start ≤ d.top + n
      omega
    · show RunsOk d.L[i].start (endOf d.L (d.top + n) i) d.L[i].runs
      refine (ok.ok i hi).wide (Int.le_refl _) ?_
      unfold endOf
      split
      · exact Int.le_refl _
      · omega
    · unfold leftP; simp only; omega
    · show freeP d k ↔ _
      constructor
      · exact fun hx => ⟨hx, fun hy => by have := freeP_lt ok hx; omega⟩
      · exact fun hx => hx.1

/-- Cells were given back. -/
structure Gv (d d' : PlD) (t m : Int) : Prop where
  ok : PlOk d'
  a : d'.a = d.a
  limit : d'.limit = d.limit
  top : d'.top = d.top
  starts : d'.L.map (·.start) = d.L.map (·.start)
  pos : 0 ≤ t ∧ 1 ≤ m ∧ t + m ≤ d.top
  left : leftP d' = leftP d + m
  was : ∀ k, t ≤ k → k < t + m → ¬ freeP d k
  free : ∀ k, freeP d' k ↔ freeP d k ∨ (t ≤ k ∧ k < t + m)

theorem Give6 {t m : Int} {K : Int → World → Prop} (h : Pl w d) (ok : PlOk d) (hm : -2 ^ 63 ≤ m ∧ m < 2 ^ 63)
    (hno : (∀ s, ¬ mayGive d t m s) → ∀ w', Pl w' d → Upd [] w w' → K 1 w')
    (hK : ∀ s, mayGive d t m s → ∀ w' d', Pl w' d' → Gv d d' t m → Upd d.FT w w' → Sub d'.FT d.FT w → K 0 w') : C_pool_Pool_Give d.a t m w K := by
  refine Give_ok h ok hm hno fun s hg hs i w' d' hi hlt hge h' k' u' s' => ?_
  obtain ⟨hm1, _, hlo, hhi, hno'⟩ := hg
  have hrok := ok.ok s hs
  have h0 := ok.start0 hs
  have hle := endOf_le ok s
  obtain ⟨t1, t2, t3⟩ := giveL_ok (x := (t, m)) hrok ⟨hlo, hm1, hhi⟩ hi hlt hge
  refine hK s ⟨hm1, hs, hlo, hhi, hno'⟩ w' d' h' ⟨ok.kin hs k' t1, k'.a, k'.limit, k'.top, kin_starts hs k', by omega, by rw [kin_left hs k', t2]; simp only; omega, fun k a b hf => ?_, fun k => ?_⟩ u' s'
  · rw [free_seg ok hs (by omega) (by omega)] at hf
    obtain ⟨r, hr, c, e⟩ := hf
    exact hno' r hr (by omega)
  · exact (kin_free ok hs k' t1 (fun k => t ≤ k ∧ k < t + m) (fun k hk => by omega) k).2 t3

/-- Segments were turned; cells are as they were, below the top. -/
structure Sg6 (d d' : PlD) : Prop where
  ok : PlOk d'
  a : d'.a = d.a
  limit : d'.limit = d.limit
  top : d'.top = d.top
  left : leftP d' = leftP d
  free : ∀ k, freeP d' k ↔ freeP d k

theorem Open6 {K : Int → World → Prop} (h : Pl w d) (ok : PlOk d) (hfull : 4096 ≤ d.L.length → ∀ w', Pl w' d → Upd [] w w' → K 2 w')
    (hK : d.L.length < 4096 → ∀ w' d', Pl w' d' → Sg6 d d' → d'.L = d.L ++ [⟨d.top, (none, 0, 0), []⟩] → Upd d.FT w w' → Sub d'.FT d.FT w → K 0 w') : C_pool_Pool_Open d.a w K := by
  refine Open_ok h ok hfull fun hl w' d' h' ok' ea et el eL u' s' => ?_
  refine hK hl w' d' h' ⟨ok', ea, el, et, ?_, fun k => ?_⟩ eL u' s'
  · unfold leftP; rw [eL, et, el]; simp [sumR]
  · unfold freeP; rw [eL]
    constructor
    · rintro ⟨x, hx, hf⟩
      rcases List.mem_append.1 hx with hx | hx
      · exact ⟨x, hx, hf⟩
      · simp at hx; subst hx
        obtain ⟨r, hr, _⟩ := hf; cases hr
    · rintro ⟨x, hx, hf⟩
      exact ⟨x, List.mem_append.2 (.inl hx), hf⟩

theorem Close6 {K : Int → World → Prop} (h : Pl w d) (ok : PlOk d) (hone : d.L.length = 1 → ∀ w', Pl w' d → Upd [] w w' → K 4 w')
    (hK : ∀ s (hs : s + 1 < d.L.length), s + 2 = d.L.length → ∀ w' d', Pl w' d' → Sg6 d d' → (∃ sl, d'.L = (d.L.take (s + 1)).set s ⟨d.L[s].start, sl, closeL d.L[s].runs d.L[s + 1].runs⟩) → Upd d.FT w w' → Sub d'.FT d.FT w → K 0 w') : C_pool_Pool_Close d.a w K := by
  refine Close_ok h ok hone fun s hs hs2 w' d' h' ok' ea et el ⟨sl, eL⟩ u' s' => ?_
  have e1 : endOf d.L d.top s = d.L[s + 1].start := by
    unfold endOf; rw [List.getElem?_eq_getElem hs]
  have e2 : endOf d.L d.top (s + 1) = d.top := by
    unfold endOf; rw [List.getElem?_eq_none (by omega)]
  have ra := ok.ok s (by omega)
  have rb := ok.ok (s + 1) hs
  have sa := start_endOf ok (i := s) (by omega)
  have sb := start_endOf ok hs
  rw [e1] at ra sa
  rw [e2] at rb sb
  obtain ⟨c1, c2, c3⟩ := closeL_ok ra rb sa sb
  have hlt : s < (d.L.take (s + 1)).length := by rw [List.length_take]; omega
  have eg : (d.L.take (s + 1))[s]'hlt = d.L[s] := List.getElem_take
  have eall : d.L = d.L.take s ++ [d.L[s], d.L[s + 1]] := by
    have h1 : d.L.drop s = d.L[s] :: d.L.drop (s + 1) := List.drop_eq_getElem_cons (by omega)
    have h2 : d.L.drop (s + 1) = d.L[s + 1] :: d.L.drop (s + 2) := List.drop_eq_getElem_cons (by omega)
    have h3 : d.L.drop (s + 2) = [] := List.drop_of_length_le (by omega)
    rw [h3] at h2
    rw [h2] at h1
    rw [← h1, List.take_append_drop]
  have eL2 : d'.L = d.L.take s ++ [⟨d.L[s].start, sl, closeL d.L[s].runs d.L[s + 1].runs⟩] := by
    rw [eL, List.take_succ_eq_append_getElem (by omega), List.set_append_right _ _ (by rw [List.length_take]; omega)]
    rw [show s - (d.L.take s).length = 0 by rw [List.length_take]; omega]; rfl
  refine hK s hs hs2 w' d' h' ⟨ok', ea, el, et, ?_, fun k => ?_⟩ ⟨sl, eL⟩ u' s'
  · unfold leftP
    have e5 : (d.L.map fun x => sumR x.runs).sum = ((d.L.take s ++ [d.L[s], d.L[s + 1]]).map fun x => sumR x.runs).sum := by rw [← eall]
    rw [e5, eL2, et, el, List.map_append, List.map_append, List.sum_append, List.sum_append]
    simp [c2]
  · have e6 : freeP d k ↔ ∃ x ∈ d.L.take s ++ [d.L[s], d.L[s + 1]], isFree x.runs k := by rw [← eall]; exact Iff.rfl
    rw [e6]
    unfold freeP
    rw [eL2]
    constructor
    · rintro ⟨x, hx, hf⟩
      rcases List.mem_append.1 hx with hx | hx
      · exact ⟨x, List.mem_append.2 (.inl hx), hf⟩
      · simp at hx; subst hx
        rcases (c3 k).1 hf with hf | hf
        · exact ⟨d.L[s], by simp, hf⟩
        · exact ⟨d.L[s + 1], by simp, hf⟩
    · rintro ⟨x, hx, hf⟩
      rcases List.mem_append.1 hx with hx | hx
      · exact ⟨x, List.mem_append.2 (.inl hx), hf⟩
      · refine ⟨_, List.mem_append.2 (.inr (List.mem_singleton.2 rfl)), (c3 k).2 ?_⟩
        simp at hx
        rcases hx with rfl | rfl
        · exact .inl hf
        · exact .inr hf

theorem Back6 {s : Nat} {K : Int → World → Prop} (h : Pl w d) (ok : PlOk d) (hs : s < d.L.length) (hse : s + 1 = d.L.length)
    (hK : ∀ w' d', Pl w' d' → PlOk d' → d'.a = d.a → d'.top = d.L[s].start → d'.limit = d.limit → d'.L.map (·.start) = d.L.map (·.start) → (∀ k, freeP d' k ↔ freeP d k ∧ k < d.L[s].start) → Upd d.FT w w' → Sub d'.FT d.FT w → K 0 w') : C_pool_Pool_Back d.a w K := by
  refine Back_ok h ok hs hse fun w' d' h' ok' ea et el eL u' s' => hK w' d' h' ok' ea et el ?_ (fun k => ?_) u' s'
  · rw [eL, List.map_set]
    apply List.ext_getElem?
    intro j
    by_cases hj : s = j
    · subst hj
      rw [List.getElem?_set_self (by simpa using hs), List.getElem?_map, List.getElem?_eq_getElem hs]; rfl
    · rw [List.getElem?_set_ne hj]
  · constructor
    · intro hf
      have := freeP_lt ok' hf
      rw [et] at this
      refine ⟨?_, this.2⟩
      obtain ⟨x, hx, r, hr, hf⟩ := hf
      rw [eL] at hx
      rcases List.mem_or_eq_of_mem_set hx with hx | rfl
      · exact ⟨x, hx, r, hr, hf⟩
      · cases hr
    · rintro ⟨⟨x, hx, hf⟩, hlt⟩
      obtain ⟨j, hj, rfl⟩ := List.getElem_of_mem hx
      by_cases hjs : j = s
      · subst hjs
        obtain ⟨r, hr, a, b⟩ := hf
        have := (ok.ok j hj).within r hr
        omega
      · refine ⟨d.L[j], ?_, hf⟩
        rw [eL]
        have : (d.L.set s ⟨d.L[s].start, (none, 0, 0), []⟩)[j]? = some d.L[j] := by rw [List.getElem?_set_ne (by omega), List.getElem?_eq_getElem hj]
        exact List.mem_of_getElem? this

end

end Go.Proofs.Ytcgnligpjfhjlaa
