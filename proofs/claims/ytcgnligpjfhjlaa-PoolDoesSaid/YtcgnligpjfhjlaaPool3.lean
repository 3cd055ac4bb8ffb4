/- A pool: which segment; Take, Give, Open, Close, Back; what is free. -/
import Derived.Test.YtcgnligpjfhjlaaPool2
namespace Go.Proofs.Ytcgnligpjfhjlaa
open Go Go.D Go.Proofs
set_option linter.unusedSimpArgs false
set_option linter.unusedVariables false
set_option maxRecDepth 8000

section
variable {w : World} {d : PlD}

theorem cmpS_ok {a t : Int} {p : Option Addr} {n c : Nat} {K : Value → World → Prop} (hK : ∀ w', Upd [] w w' → K (.int .i64 (if a < t then -1 else if t < a then 1 else 0)) w') : CallV Try.prog (.func (.func 48) #[] #[]) [.agg #[.int .i64 a, .slice p n c], .int .i64 t] w K := by
  refine ⟨_, _, _, rfl, rfl, ?_⟩
  refine Calls.mono (C_pool_Pool_Segment_1.of (s0x := a) (s1P := p) (s1N := n) (s1C := c) (atx := t) (R := fun x w' => K (.int .i64 x) w') ?_) fun e w2 ⟨x, he, hx⟩ => ⟨_, he, hx⟩
  unfold F_pool_Pool_Segment_1
  refine New_rule fun r w1 hr u1 hb1 => ?_
  simp only [NN_some, addN, drw_cell, drw_heap, exS, exI, exB, exP, exM, exStr, exV, a0, a1, a2, a3, a4, a5, a6, a7, a8, a9, a10, a11, a12, a13, maxI_eq, Nat.zero_add, Nat.add_zero, Nat.mul_one, Option.isNone_some, Option.isNone_none, hb1.cell]
  exact Compare_ok (hK w1 u1)

theorem SearchS_ok {t : Int} {K : Int → Bool → World → Prop} (h : Pl w d) (ok : PlOk d)
    (hK : ∀ (i : Nat) (b : Bool) w', i ≤ d.L.length → (∀ j (hj : j < d.L.length), j < i → d.L[j].start < t) → (∀ j (hj : j < d.L.length), i ≤ j → t ≤ d.L[j].start) → (b = true ↔ ∃ hi : i < d.L.length, d.L[i].start = t) → Upd [] w w' → K i b w') :
    C_slices_BinarySearchFunc d.p d.n d.c t (.func (.func 48) #[] #[]) w K := by
  apply C_slices_BinarySearchFunc.of
  unfold F_slices_BinarySearchFunc F_slices_BinarySearchFunc_L1
  have hn := h.len
  have hlen := ok.len
  have hmono := List.pairwise_iff_getElem.1 ok.mono
  refine ⟨fun s v => 0 ≤ s.i ∧ s.i ≤ s.j ∧ s.j ≤ d.n ∧ (∀ j (hj : j < d.L.length), (j : Int) < s.i → d.L[j].start < t) ∧ (∀ j (hj : j < d.L.length), s.j ≤ (j : Int) → t ≤ d.L[j].start) ∧ Upd [] w v, fun s _ => (s.j - s.i).toNat, ⟨by simp, by simp, by simp, fun j hj h => by simp at h; omega, fun j hj h => by simp at h; omega, Upd.refl _ _⟩, ?_⟩
  rintro ⟨i, j⟩ v ⟨h0, h1, h2, h3, h4, u⟩
  dsimp only at h0 h1 h2 h3 h4
  unfold B_slices_BinarySearchFunc_L1
  dsimp only
  have hv := h.keep u
  refine ifC (fun hc => ?_) (fun hc => ?_)
  · simp at hc
    rw [mid_eq (by omega) (by omega)]
    obtain ⟨m, hm⟩ : ∃ m : Nat, (i + j) / 2 = m := ⟨((i + j) / 2).toNat, by omega⟩
    rw [hm]
    have hm1 : i ≤ m ∧ (m : Int) < j := by omega
    have hml : m < d.L.length := by omega
    obtain ⟨b, off, hp, _, c1, c2⟩ := hv.cell hml
    simp only [NN_some, addN, drw_cell, drw_heap, exS, exI, exB, exP, exM, exStr, exV, a0, a1, a2, a3, a4, a5, a6, a7, a8, a9, a10, a11, a12, a13, maxI_eq, Nat.zero_add, Nat.add_zero, Nat.mul_one, Option.isNone_some, Option.isNone_none, hp, Int.toNat_natCast, c1, c2]
    refine ⟨by omega, by omega, by omega, cmpS_ok fun v1 u1 => ⟨_, rfl, ifC (fun hc2 => ?_) (fun hc2 => ?_)⟩⟩
    · have hlt1 : d.L[m].start < t := by
        by_cases h5 : d.L[m].start < t
        · exact h5
        · rw [if_neg h5] at hc2
          simp at hc2
          split at hc2 <;> omega
      rw [i64id (by omega) (by omega)]
      refine ⟨⟨by omega, by omega, h2, fun k hk hk2 => ?_, h4, u.after u1⟩, by omega⟩
      by_cases hkm : k = m
      · subst hkm; exact hlt1
      · have := hmono k m hk hml (by omega); omega
    · have hge : t ≤ d.L[m].start := by
        by_cases h5 : d.L[m].start < t
        · rw [if_pos h5] at hc2; simp at hc2
        · omega
      refine ⟨⟨h0, by omega, by omega, h3, fun k hk hk2 => ?_, u.after u1⟩, by omega⟩
      by_cases hkm : k = m
      · subst hkm; exact hge
      · have := hmono m k hml hk (by omega); omega
  · simp at hc
    obtain rfl : j = i := by omega
    obtain ⟨m, rfl⟩ : ∃ m : Nat, j = m := ⟨j.toNat, by omega⟩
    refine ifC (fun hc2 => ?_) (fun hc2 => ?_)
    · simp at hc2
      have hml : m < d.L.length := by omega
      obtain ⟨b, off, hp, _, c1, c2⟩ := hv.cell hml
      simp only [NN_some, addN, drw_cell, drw_heap, exS, exI, exB, exP, exM, exStr, exV, a0, a1, a2, a3, a4, a5, a6, a7, a8, a9, a10, a11, a12, a13, maxI_eq, Nat.zero_add, Nat.add_zero, Nat.mul_one, Option.isNone_some, Option.isNone_none, hp, Int.toNat_natCast, c1, c2]
      refine ⟨by omega, by omega, cmpS_ok fun v1 u1 => ⟨_, rfl, ?_⟩⟩
      refine hK m _ v1 (by omega) (fun k hk hk2 => h3 k hk (by omega)) (fun k hk hk2 => h4 k hk (by omega)) ?_ (u.after u1)
      have := h4 m hml (by omega)
      constructor
      · intro hb
        refine ⟨hml, ?_⟩
        simp at hb
        split at hb
        · omega
        · split at hb
          · omega
          · omega
      · rintro ⟨_, he⟩
        rw [he]; simp
    · simp at hc2
      refine hK m _ v (by omega) (fun k hk hk2 => h3 k hk (by omega)) (fun k hk hk2 => h4 k hk (by omega)) ?_ u
      simp; omega

/-- The segment of a cell. -/
theorem Segment_ok {t : Int} {K : Int → World → Prop} (h : Pl w d) (ok : PlOk d) (h0 : 0 ≤ t) (h1 : t < d.top)
    (hK : ∀ (s : Nat) w', s < d.L.length → (∀ hs : s < d.L.length, d.L[s].start ≤ t) → t < endOf d.L d.top s → Upd [] w w' → K s w') : C_pool_Pool_Segment d.a t w K := by
  apply C_pool_Pool_Segment.of
  unfold F_pool_Pool_Segment F_pool_Pool_Segment_L1
  have hn := h.len
  have hlen := ok.len
  have ht := ok.top
  have hlim := ok.lim
  refine made_ok h ok.ne (ifF rfl (ifF (by simp; omega) ?_))
  simp only [PlD.a, NN_some, addN, drw_cell, drw_heap, exS, exI, exB, exP, exM, exStr, exV, a0, a1, a2, a3, a4, a5, a6, a7, a8, a9, a10, a11, a12, a13, maxI_eq, Nat.zero_add, Nat.add_zero, Nat.mul_one, Option.isNone_some, Option.isNone_none, h.blk.cell]
  refine ifF (by simp; omega) (SearchS_ok h ok fun i b w1 hi hlt hge hb u1 => ?_)
  have hfirst := ok.first
  have hv1 := h.keep u1
  cases b with
  | false =>
    refine ifT rfl ?_
    have hne : ∀ hi : i < d.L.length, d.L[i].start ≠ t := fun hi2 he => by
      have := hb.2 ⟨hi2, he⟩; cases this
    have hi0 : 0 < i := by
      by_cases h5 : i = 0
      · subst h5
        have := hge 0 ok.ne (Nat.le_refl _)
        have := hne ok.ne
        omega
      · omega
    rw [i64id (by omega) (by omega), show (i : Int) - 1 = ((i - 1 : Nat) : Int) by omega]
    refine hK (i - 1) w1 (by omega) (fun hs => by have := hlt (i - 1) hs (by omega); omega) ?_ u1
    unfold endOf
    rw [show i - 1 + 1 = i by omega]
    by_cases hil : i < d.L.length
    · rw [List.getElem?_eq_getElem hil]
      have := hge i hil (Nat.le_refl _)
      have := hne hil
      simp only; omega
    · rw [List.getElem?_eq_none (by omega)]; exact h1
  | true =>
    refine ifF rfl ?_
    obtain ⟨hil, hie⟩ := hb.1 rfl
    refine ⟨fun s v => (i : Int) ≤ s.i ∧ s.i < d.L.length ∧ (∀ hs : s.i.toNat < d.L.length, d.L[s.i.toNat].start = t) ∧ Upd [] w v, fun s _ => (d.L.length - s.i).toNat, ⟨by simp, by simp; omega, fun hs => by simpa using hie, u1⟩, ?_⟩
    rintro ⟨m⟩ v ⟨hm0, hm1, hm2, u⟩
    dsimp only at hm0 hm1 hm2
    unfold B_pool_Pool_Segment_L1
    have hv := h.keep u
    simp only [NN_some, addN, drw_cell, drw_heap, exS, exI, exB, exP, exM, exStr, exV, a0, a1, a2, a3, a4, a5, a6, a7, a8, a9, a10, a11, a12, a13, maxI_eq, Nat.zero_add, Nat.add_zero, Nat.mul_one, Option.isNone_some, Option.isNone_none, hv.blk.cell]
    rw [i64id (by omega) (by omega)]
    have hmm : m.toNat < d.L.length := by omega
    have hle : d.L[m.toNat].start = t := hm2 hmm
    have fin : (∀ x : Sg, d.L[m.toNat + 1]? = some x → x.start ≠ t) → K m v := fun hno => by
      have hfin : t < endOf d.L d.top m.toNat := by
        unfold endOf
        by_cases hnl : m.toNat + 1 < d.L.length
        · have b := hno d.L[m.toNat + 1] (List.getElem?_eq_getElem hnl)
          have a := List.pairwise_iff_getElem.1 ok.mono m.toNat (m.toNat + 1) hmm hnl (by omega)
          rw [List.getElem?_eq_getElem hnl]
          simp only; omega
        · rw [List.getElem?_eq_none (by omega)]; exact h1
      have hle' : ∀ hs : m.toNat < d.L.length, d.L[m.toNat].start ≤ t := fun _ => Int.le_of_eq hle
      have := hK m.toNat v hmm hle' hfin u
      rw [show ((m.toNat : Nat) : Int) = m by omega] at this; exact this
    refine ifC (fun hc => ?_) (fun hc => ?_)
    · simp at hc
      have hnl : m.toNat + 1 < d.L.length := by omega
      obtain ⟨lb, off, hp, _, c0, c1⟩ := hv.cell hnl
      have et : (m + 1).toNat = m.toNat + 1 := by omega
      simp only [NN_some, addN, drw_cell, drw_heap, exS, exI, exB, exP, exM, exStr, exV, a0, a1, a2, a3, a4, a5, a6, a7, a8, a9, a10, a11, a12, a13, maxI_eq, Nat.zero_add, Nat.add_zero, Nat.mul_one, Option.isNone_some, Option.isNone_none, hp, et, c0]
      refine ⟨by omega, by omega, ifC (fun hc2 => ?_) (fun hc2 => ?_)⟩
      · have hc2 : d.L[m.toNat + 1].start = t := by simpa using hc2
        exact ⟨⟨by omega, by omega, fun _ => hc2, u⟩, by omega⟩
      · have hc2 : ¬ d.L[m.toNat + 1].start = t := by simpa using hc2
        exact fin fun x hx => by
          rw [List.getElem?_eq_getElem hnl] at hx
          rw [← Option.some.inj hx]; exact hc2
    · simp at hc
      exact fin fun x hx => by
        rw [List.getElem?_eq_none (by omega)] at hx; cases hx

theorem Segment_no {t : Int} {K : Int → World → Prop} (h : Pl w d) (ok : PlOk d) (h0 : t < 0 ∨ d.top ≤ t) (hK : K (-1) w) : C_pool_Pool_Segment d.a t w K := by
  apply C_pool_Pool_Segment.of
  unfold F_pool_Pool_Segment F_pool_Pool_Segment_k1
  refine made_ok h ok.ne (ifF rfl (ifC (fun _ => hK) fun hc => ?_))
  simp at hc
  simp only [PlD.a, NN_some, addN, drw_cell, drw_heap, exS, exI, exB, exP, exM, exStr, exV, a0, a1, a2, a3, a4, a5, a6, a7, a8, a9, a10, a11, a12, a13, maxI_eq, Nat.zero_add, Nat.add_zero, Nat.mul_one, Option.isNone_some, Option.isNone_none, h.blk.cell]
  exact ifT (by simp; omega) hK

/-- Two segments of one cell are one. -/
theorem seg_unique (ok : PlOk d) {t : Int} {s s' : Nat} (hs : s < d.L.length) (hs' : s' < d.L.length) (h1 : d.L[s].start ≤ t) (h2 : t < endOf d.L d.top s) (h3 : d.L[s'].start ≤ t) (h4 : t < endOf d.L d.top s') : s = s' := by
  have hmono := List.pairwise_iff_getElem.1 ok.mono
  have key : ∀ a b : Nat, a < b → (ha : a < d.L.length) → (hb : b < d.L.length) → endOf d.L d.top a ≤ d.L[b].start := fun a b hab ha hb => by
    unfold endOf
    rw [List.getElem?_eq_getElem (by omega)]
    by_cases h : a + 1 = b
    · subst h; exact Int.le_refl _
    · exact hmono (a + 1) b (by omega) hb (by omega)
  by_cases h : s < s'
  · have := key s s' h hs hs'; omega
  · by_cases h' : s' < s
    · have := key s' s h' hs' hs; omega
    · omega

/-- May it be given back? -/
def mayGive (d : PlD) (t m : Int) (s : Nat) : Prop := 1 ≤ m ∧ ∃ hs : s < d.L.length, d.L[s].start ≤ t ∧ t + m ≤ endOf d.L d.top s ∧ ∀ r ∈ d.L[s].runs, ¬ (r.1 < t + m ∧ t < r.1 + r.2)

theorem Give_ok {t m : Int} {K : Int → World → Prop} (h : Pl w d) (ok : PlOk d) (hm : -2 ^ 63 ≤ m ∧ m < 2 ^ 63)
    (hno : (∀ s, ¬ mayGive d t m s) → ∀ w', Pl w' d → Upd [] w w' → K 1 w')
    (hK : ∀ s, mayGive d t m s → ∀ (hs : s < d.L.length) i w' d', i ≤ d.L[s].runs.length → (∀ j (hj : j < d.L[s].runs.length), j < i → d.L[s].runs[j].1 + d.L[s].runs[j].2 ≤ t) → (∀ j (hj : j < d.L[s].runs.length), i ≤ j → t + m ≤ d.L[s].runs[j].1) → Pl w' d' → Kin d d' s d.L[s].start (giveL i (t, m) d.L[s].runs) → Upd d.FT w w' → Sub d'.FT d.FT w → K 0 w') : C_pool_Pool_Give d.a t m w K := by
  apply C_pool_Pool_Give.of
  unfold F_pool_Pool_Give F_pool_Pool_Give_k1
  have ht := ok.top
  have hlim := ok.lim
  have ht0 := ok.top0
  have bad : (∀ s, ¬ mayGive d t m s) → K 1 w := fun hx => hno hx w h (Upd.refl _ _)
  have inTop : ∀ s, mayGive d t m s → 1 ≤ m ∧ 0 ≤ t ∧ t + m ≤ d.top := fun s ⟨a, hs, b, c, _⟩ => by
    have := ok.start0 hs
    have := endOf_le ok s
    exact ⟨a, by omega, by omega⟩
  refine made_ok h ok.ne (ifF rfl (ifC (fun hc => bad fun s hs => ?_) (fun hc => ifC (fun hc2 => bad fun s hs => ?_) (fun hc2 => ?_))))
  · simp at hc; have := inTop s hs; omega
  · simp at hc2; have := inTop s hs; omega
  simp at hc hc2
  simp only [PlD.a, NN_some, addN, drw_cell, drw_heap, exS, exI, exB, exP, exM, exStr, exV, a0, a1, a2, a3, a4, a5, a6, a7, a8, a9, a10, a11, a12, a13, maxI_eq, Nat.zero_add, Nat.add_zero, Nat.mul_one, Option.isNone_some, Option.isNone_none, h.blk.cell]
  refine ifC (fun hc3 => bad fun s hs => ?_) (fun hc3 => ?_)
  · simp at hc3; have := inTop s hs; omega
  simp at hc3
  rw [i64id (x := d.top - t) (by omega) (by omega)]
  refine ifC (fun hc4 => bad fun s hs => ?_) (fun hc4 => ?_)
  · simp at hc4; have := inTop s hs; omega
  simp at hc4
  rw [i64id (x := t + m) (by omega) (by omega), i64id (x := t + m - 1) (by omega) (by omega)]
  refine Segment_ok h ok hc2 hc3 fun s w1 hs hs1 hs2 u1 => ?_
  have h1 := h.keep u1
  refine Segment_ok h1 ok (by omega) (by omega) fun s' w2 hs' hs1' hs2' u2 => ?_
  have h2 := h1.keep u2
  have U2 := u1.after u2
  by_cases hss : s = s'
  · refine ifF (by simp; omega) ?_
    have h3 := h2.keep (drw_upd w2)
    simp only [NN_some, addN, drw_cell, drw_heap, exS, exI, exB, exP, exM, exStr, exV, a0, a1, a2, a3, a4, a5, a6, a7, a8, a9, a10, a11, a12, a13, maxI_eq, Nat.zero_add, Nat.add_zero, Nat.mul_one, Option.isNone_some, Option.isNone_none, h2.blk.cell]
    refine Segment_ok h3 ok hc2 hc3 fun s3 w3 hs3 hs31 hs32 u3 => ?_
    obtain rfl : s3 = s := seg_unique ok hs3 hs (hs31 hs3) hs32 (hs1 hs) hs2
    have h4 := h3.keep u3
    have U3 := (U2.after (drw_upd w2)).after u3
    obtain ⟨lb, off, hp, hG, c0, c1⟩ := h4.cell hs
    have hn := h.len
    simp only [NN_some, addN, drw_cell, drw_heap, exS, exI, exB, exP, exM, exStr, exV, a0, a1, a2, a3, a4, a5, a6, a7, a8, a9, a10, a11, a12, a13, maxI_eq, Nat.zero_add, Nat.add_zero, Nat.mul_one, Option.isNone_some, Option.isNone_none, h4.blk.cell, h2.blk.cell, hp, Int.toNat_natCast]
    refine ⟨trivial, by omega, by omega, meets_ok h4 ok hs hp (by omega) (by omega) fun b w4 hb u4 => ?_⟩
    have h5 := h4.keep u4
    have U4 := U3.after u4
    cases b with
    | true =>
      refine ifT rfl (hno (fun q hq => ?_) w4 h5 U4)
      obtain ⟨a, hq1, hq2, hq3, hq4⟩ := hq
      obtain rfl : q = s3 := seg_unique ok hq1 hs hq2 (by omega) (hs1 hs) hs2
      obtain ⟨r, hr, a1, a2⟩ := hb.1 rfl
      exact hq4 r hr ⟨a1, a2⟩
    | false =>
      refine ifF rfl ?_
      have hnom : ∀ r ∈ d.L[s3].runs, ¬ (r.1 < t + m ∧ t < r.1 + r.2) := fun r hr ha => by
        have := hb.2 ⟨r, hr, ha⟩; cases this
      subst hss
      have hwith : d.L[s3].start ≤ t ∧ 1 ≤ m ∧ t + m ≤ endOf d.L d.top s3 := ⟨hs1 hs, by omega, by omega⟩
      refine sgive_ok (x := (t, m)) h5 ok hs hp hwith hnom fun i w5 d5 hi hlt hge h6 k6 u6 s6 => ?_
      exact hK s3 ⟨by omega, hs, hwith.1, hwith.2.2, hnom⟩ hs i w5 d5 hi hlt hge h6 k6 (U4.after u6) (s6.old U4.size)
  · refine ifT (by simp; omega) (hno (fun q hq => ?_) w2 h2 U2)
    obtain ⟨a, hq1, hq2, hq3, _⟩ := hq
    have e1 := seg_unique ok hq1 hs hq2 (by omega) (hs1 hs) hs2
    have e2 := seg_unique ok (t := t + m - 1) hq1 hs' (by omega) (by omega) (hs1' hs') hs2'
    omega

/-- Is a cell of the pool free? -/
def freeP (d : PlD) (k : Int) : Prop := ∃ x ∈ d.L, isFree x.runs k

theorem free_seg (ok : PlOk d) {k : Int} {s : Nat} (hs : s < d.L.length) (h1 : d.L[s].start ≤ k) (h2 : k < endOf d.L d.top s) : freeP d k ↔ isFree d.L[s].runs k := by
  constructor
  · rintro ⟨x, hx, r, hr, a, b⟩
    obtain ⟨q, hq, rfl⟩ := List.getElem_of_mem hx
    have := (ok.ok q hq).within r hr
    obtain rfl := seg_unique ok hq hs (show d.L[q].start ≤ k by omega) (by omega) h1 h2
    exact ⟨r, hr, a, b⟩
  · exact fun hf => ⟨_, List.getElem_mem hs, hf⟩

theorem Free_ok {t : Int} {K : Bool → World → Prop} (h : Pl w d) (ok : PlOk d) (hK : ∀ b w', (b = true ↔ 0 ≤ t ∧ t < d.top ∧ freeP d t) → Upd [] w w' → K b w') : C_pool_Pool_Free d.a t w K := by
  apply C_pool_Pool_Free.of
  unfold F_pool_Pool_Free
  have ht := ok.top
  have hlim := ok.lim
  by_cases hin : 0 ≤ t ∧ t < d.top
  · refine Segment_ok h ok hin.1 hin.2 fun s w1 hs hs1 hs2 u1 => ?_
    have h1 := h.keep u1
    have hn := h.len
    refine ifT (by simp) ?_
    obtain ⟨lb, off, hp, hG, c0, c1⟩ := h1.cell hs
    simp only [PlD.a, NN_some, addN, drw_cell, drw_heap, exS, exI, exB, exP, exM, exStr, exV, a0, a1, a2, a3, a4, a5, a6, a7, a8, a9, a10, a11, a12, a13, maxI_eq, Nat.zero_add, Nat.add_zero, Nat.mul_one, Option.isNone_some, Option.isNone_none, h1.blk.cell, hp, Int.toNat_natCast]
    refine ⟨by omega, by omega, meets_ok h1 ok hs hp (by omega) (by omega) fun b w2 hb u2 => hK b w2 ?_ (u1.after u2)⟩
    rw [hb, free_seg ok hs (hs1 hs) hs2]
    constructor
    · rintro ⟨r, hr, a, b⟩; exact ⟨hin.1, hin.2, r, hr, by omega, b⟩
    · rintro ⟨_, _, r, hr, a, b⟩; exact ⟨r, hr, by omega, b⟩
  · refine Segment_no h ok (by omega) (ifF rfl (hK false w ?_ (Upd.refl _ _)))
    constructor
    · intro h; cases h
    · rintro ⟨a, b, _⟩; omega

end

end Go.Proofs.Ytcgnligpjfhjlaa
