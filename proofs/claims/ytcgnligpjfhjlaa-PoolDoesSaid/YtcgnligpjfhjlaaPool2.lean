/- A pool: what its functions do. -/
import Derived.Test.YtcgnligpjfhjlaaPool
import Derived.Test.YtcgnligpjfhjlaaOwn9
namespace Go.Proofs.Ytcgnligpjfhjlaa
open Go Go.D Go.Proofs
set_option linter.unusedSimpArgs false
set_option linter.unusedVariables false
set_option maxRecDepth 8000

/-- A pool of which one segment's runs have been turned. -/
structure Kin (d d' : PlD) (s : Nat) (st : Int) (rs : List Run2) : Prop where
  a : d'.a = d.a
  p : d'.p = d.p
  G : d'.G = d.G
  top : d'.top = d.top
  limit : d'.limit = d.limit
  L : ∃ sl, d'.L = d.L.set s ⟨st, sl, rs⟩

theorem kin_put (d : PlD) (s : Nat) (st : Int) (sl : Sl) (rs : List Run2) (F1 : List Nat) : Kin d (d.put s st sl rs F1) s st rs := ⟨rfl, rfl, rfl, rfl, rfl, sl, rfl⟩

theorem Kin.then {d d' d'' : PlD} {s : Nat} {st : Int} {rs rs' : List Run2} (h : Kin d d' s st rs) (k : Kin d' d'' s st rs') : Kin d d'' s st rs' := by
  obtain ⟨sl, h1⟩ := h.L
  obtain ⟨sl', k1⟩ := k.L
  exact ⟨k.a.trans h.a, k.p.trans h.p, k.G.trans h.G, k.top.trans h.top, k.limit.trans h.limit, sl', by rw [k1, h1, List.set_set]⟩

theorem Kin.len {d d' : PlD} {s : Nat} {st : Int} {rs : List Run2} (h : Kin d d' s st rs) : d'.L.length = d.L.length := by
  obtain ⟨sl, h1⟩ := h.L
  rw [h1]; simp

theorem Kin.self {d d' : PlD} {s : Nat} {st : Int} {rs : List Run2} (h : Kin d d' s st rs) (hs : s < d.L.length) : ∃ sl, d'.L[s]'(by rw [h.len]; exact hs) = ⟨st, sl, rs⟩ := by
  obtain ⟨sl, h1⟩ := h.L
  refine ⟨sl, ?_⟩
  have : d'.L[s]? = some ⟨st, sl, rs⟩ := by rw [h1, List.getElem?_set_self (by simpa using hs)]
  rw [List.getElem?_eq_getElem (by rw [h.len]; exact hs)] at this
  exact Option.some.inj this

theorem endOf_set {L : List Sg} {top : Int} {s : Nat} {y : Sg} (hs : s < L.length) (hy : y.start = L[s].start) (i : Nat) : endOf (L.set s y) top i = endOf L top i := by
  unfold endOf
  by_cases his : s = i + 1
  · rw [his] at hs ⊢
    rw [List.getElem?_set_self hs, List.getElem?_eq_getElem hs]
    subst his
    exact hy
  · rw [List.getElem?_set_ne his]

theorem PlOk.kin {d d' : PlD} {s : Nat} {rs : List Run2} (ok : PlOk d) (hs : s < d.L.length) (k : Kin d d' s d.L[s].start rs) (hr : RunsOk d.L[s].start (endOf d.L d.top s) rs) : PlOk d' := by
  obtain ⟨sl, h1⟩ := k.L
  have hst : d'.L.map (·.start) = d.L.map (·.start) := by
    rw [h1, List.map_set]
    apply List.ext_getElem?
    intro j
    by_cases hj : s = j
    · subst hj
      rw [List.getElem?_set_self (by simpa using hs), List.getElem?_map, List.getElem?_eq_getElem hs]; rfl
    · rw [List.getElem?_set_ne hj]
  have hln := k.len
  refine ⟨by rw [hln]; exact ok.ne, by rw [hln]; exact ok.len, ?_, ?_, ?_, by rw [k.top, k.limit]; exact ok.top, by rw [k.limit]; exact ok.lim, fun i hi => ?_⟩
  · have : (d'.L.map (·.start))[0]? = (d.L.map (·.start))[0]? := by rw [hst]
    rw [List.getElem?_map, List.getElem?_map, List.getElem?_eq_getElem (by rw [hln]; exact ok.ne), List.getElem?_eq_getElem ok.ne] at this
    simp at this
    rw [this]; exact ok.first
  · have h2 := ok.mono
    have h3 : (d.L.map (·.start)).Pairwise (· ≤ ·) := List.pairwise_map.2 h2
    rw [← hst] at h3
    exact List.pairwise_map.1 h3
  · intro x hx
    have : x.start ∈ d'.L.map (·.start) := List.mem_map.2 ⟨x, hx, rfl⟩
    rw [hst] at this
    obtain ⟨y, hy, hxy⟩ := List.mem_map.1 this
    rw [k.top, ← hxy]; exact ok.le y hy
  · have e : endOf d'.L d'.top i = endOf d.L d.top i := by rw [k.top, h1]; exact endOf_set (y := ⟨d.L[s].start, sl, rs⟩) hs rfl i
    rw [e]
    have hi' : i < d.L.length := by rw [hln] at hi; exact hi
    have hg : d'.L[i]? = (d.L.set s ⟨d.L[s].start, sl, rs⟩)[i]? := by rw [h1]
    by_cases his : s = i
    · subst his
      rw [List.getElem?_set_self hs, List.getElem?_eq_getElem hi] at hg
      rw [Option.some.inj hg]; exact hr
    · rw [List.getElem?_set_ne his, List.getElem?_eq_getElem hi, List.getElem?_eq_getElem hi'] at hg
      rw [Option.some.inj hg]; exact ok.ok i hi'

section
variable {w : World} {d : PlD}

theorem made_ok {K : Bool → World → Prop} (h : Pl w d) (h0 : 0 < d.L.length) (hK : K true w) : C_pool_Pool_made d.a w K := by
  apply C_pool_Pool_made.of
  unfold F_pool_Pool_made PlD.a
  refine ifT rfl ?_
  have hn := h.len
  simp only [NN_some, addN, drw_cell, drw_heap, exS, exI, exB, exP, exM, exStr, exV, a0, a1, a2, a3, a4, a5, a6, a7, a8, a9, a10, a11, a12, a13, maxI_eq, Nat.zero_add, Nat.add_zero, Nat.mul_one, Option.isNone_some, Option.isNone_none, h.blk.cell]
  have : decide ((d.n : Int) > 0) = true := by simp; omega
  rw [this]; exact hK

theorem made_no {K : Bool → World → Prop} (hK : K false w) : C_pool_Pool_made none w K := by
  apply C_pool_Pool_made.of
  unfold F_pool_Pool_made
  exact ifF rfl hK

theorem last_ok {K : Option Addr → World → Prop} (h : Pl w d) (h0 : 0 < d.L.length) (hl : d.L.length ≤ 4096) (hK : ∀ lb off, d.p = some ⟨lb, off, none⟩ → d.G = [lb] → K (some ⟨lb, off + (d.L.length - 1) * 2, none⟩) (drw w)) : C_pool_Pool_last d.a w K := by
  apply C_pool_Pool_last.of
  unfold F_pool_Pool_last PlD.a
  have hn := h.len
  obtain ⟨lb, off, hp, hG, _, _⟩ := h.cell (i := d.L.length - 1) (by omega)
  simp only [NN_some, addN, drw_cell, drw_heap, exS, exI, exB, exP, exM, exStr, exV, a0, a1, a2, a3, a4, a5, a6, a7, a8, a9, a10, a11, a12, a13, maxI_eq, Nat.zero_add, Nat.add_zero, Nat.mul_one, Option.isNone_some, Option.isNone_none, h.blk.cell]
  rw [i64id (by omega) (by omega)]
  have e : ((d.n : Int) - 1).toNat = d.L.length - 1 := by omega
  simp only [NN_some, addN, drw_cell, drw_heap, exS, exI, exB, exP, exM, exStr, exV, a0, a1, a2, a3, a4, a5, a6, a7, a8, a9, a10, a11, a12, a13, maxI_eq, Nat.zero_add, Nat.add_zero, Nat.mul_one, Option.isNone_some, Option.isNone_none, hp, e]
  exact ⟨by omega, by omega, hK lb off hp hG⟩

/-- A segment's runs are joined. -/
theorem join_kin {s i : Nat} {st : Int} {sl : Sl} {rs : List Run2} {lb off : Nat} {K : World → Prop} (h : Pl w d) (hs : s < d.L.length) (he : d.L[s] = ⟨st, sl, rs⟩) (hp : d.p = some ⟨lb, off, none⟩) (hsm : ∀ r ∈ rs, 0 ≤ r.1 ∧ 1 ≤ r.2 ∧ r.1 + r.2 ≤ 1048576) (hl : rs.length ≤ 2 ^ 21) (hi : i < rs.length)
    (hK : ∀ w' d', Pl w' d' → Kin d d' s st (joinL i rs) → Upd d.FT w w' → Sub d'.FT d.FT w → K w') : C_pool_segment_join (some ⟨lb, off + s * 2, none⟩) i w K := by
  refine join_ok h hs hp (by rw [he]; exact hsm) (by rw [he]; exact hl) (by rw [he]; exact hi) fun w' sl' F1 h' u sub => ?_
  rw [he] at h'
  refine hK w' _ h' (kin_put _ _ _ _ _ _) u ?_
  intro x hx
  have hx : x ∈ d.FT ++ F1 := hx
  rcases List.mem_append.1 hx with hx | hx
  · exact .inl hx
  · exact sub x hx

/-- What is given back. -/
theorem sgive_ok {s : Nat} {x : Run2} {lb off : Nat} {K : World → Prop} (h : Pl w d) (ok : PlOk d) (hs : s < d.L.length) (hp : d.p = some ⟨lb, off, none⟩)
    (hx : d.L[s].start ≤ x.1 ∧ 1 ≤ x.2 ∧ x.1 + x.2 ≤ endOf d.L d.top s) (hno : ∀ r ∈ d.L[s].runs, ¬ (r.1 < x.1 + x.2 ∧ x.1 < r.1 + r.2))
    (hK : ∀ i w' d', i ≤ d.L[s].runs.length → (∀ j (hj : j < d.L[s].runs.length), j < i → d.L[s].runs[j].1 + d.L[s].runs[j].2 ≤ x.1) → (∀ j (hj : j < d.L[s].runs.length), i ≤ j → x.1 + x.2 ≤ d.L[s].runs[j].1) → Pl w' d' → Kin d d' s d.L[s].start (giveL i x d.L[s].runs) → Upd d.FT w w' → Sub d'.FT d.FT w → K w') :
    C_pool_segment_give (some ⟨lb, off + s * 2, none⟩) x.1 x.2 w K := by
  apply C_pool_segment_give.of
  unfold F_pool_segment_give
  have hel := endOf_le ok s
  have ht := ok.top
  have htl := ok.lim
  have hs0 := ok.start0 hs
  refine place_ok h ok hs hp fun i w1 hi hlt hge u1 => ?_
  have h1 := h.keep u1
  obtain ⟨lb', off', hp', hG, c0, c1⟩ := h1.cell hs
  rw [hp] at hp'; simp at hp'
  obtain ⟨rfl, rfl⟩ := hp'
  have hnl := RowAt.len (h1.runs s hs)
  have hrl := ok.rlen hs
  simp only [NN_some, addN, drw_cell, drw_heap, exS, exI, exB, exP, exM, exStr, exV, a0, a1, a2, a3, a4, a5, a6, a7, a8, a9, a10, a11, a12, a13, maxI_eq, Nat.zero_add, Nat.add_zero, Nat.mul_one, Option.isNone_some, Option.isNone_none, c1]
  refine BSlP_rule eS_40 [.agg #[.int .i64 x.1, .int .i64 x.2]] (by rfl) (by simp [Value.cells]) (by rfl) (by omega) fun w2 hs2 hp2 u2 => ?_
  have h2 := h1.keep u2
  have hs2' : RowAt w2 (some ⟨w1.heap.size, 0, none⟩) 1 1 [x] [w1.heap.size] := by simpa [Value.cells, RowAt, eC] using hs2
  have U2 := u1.after u2
  refine Insert_ok (h2.runs s hs) hi (by omega) hs2' hp2 (fun hx => by have := h1.inn _ (h1.iF s _ hx); omega) fun p3 c3 F3 w3 hr3 u3 s3 => ?_
  have U3 : Upd (d.F s) w w3 := U2.after u3
  have S3 : Sub F3 (d.F s) w := s3.old U2.size
  refine h.setRuns (sl := (p3, d.L[s].sl.2.1 + 1, c3)) hs hp hG U3 hr3 S3 fun w4 h4 u4 => ?_
  have k4 := kin_put d s d.L[s].start (p3, d.L[s].sl.2.1 + 1, c3) (d.L[s].runs.take i ++ x :: d.L[s].runs.drop i) F3
  obtain ⟨d4, e4⟩ : ∃ d4, d4 = d.put s d.L[s].start (p3, d.L[s].sl.2.1 + 1, c3) (d.L[s].runs.take i ++ x :: d.L[s].runs.drop i) F3 := ⟨_, rfl⟩
  have S4 : Sub d4.FT d.FT w := by
    rw [e4]
    intro y hy
    have hy : y ∈ d.FT ++ F3 := hy
    rcases List.mem_append.1 hy with hy | hy
    · exact .inl hy
    · exact (S3 y hy).imp (h.iF s y) (fun h => h)
  rw [← e4] at h4 k4
  clear e4
  have hs4 : s < d4.L.length := by rw [k4.len]; exact hs
  obtain ⟨sl4, he4⟩ := k4.self hs
  have hge2 : ∀ j (hj : j < d.L[s].runs.length), i ≤ j → x.1 + x.2 ≤ d.L[s].runs[j].1 := fun j hj hij => by
    have a := hge j hj hij
    have b := hno _ (List.getElem_mem hj)
    omega
  have hsm : ∀ r ∈ d.L[s].runs.take i ++ x :: d.L[s].runs.drop i, 0 ≤ r.1 ∧ 1 ≤ r.2 ∧ r.1 + r.2 ≤ 1048576 := by
    intro r hr
    have hr' : r ∈ d.L[s].runs ∨ r = x := by
      rcases List.mem_append.1 hr with hr | hr
      · exact .inl (List.mem_of_mem_take hr)
      · rcases List.mem_cons.1 hr with rfl | hr
        · exact .inr rfl
        · exact .inl (List.mem_of_mem_drop hr)
    rcases hr' with hr' | rfl
    · have := ok.small hs r hr'; omega
    · omega
  have hil : i < (d.L[s].runs.take i ++ x :: d.L[s].runs.drop i).length := by simp; omega
  have hl2 : (d.L[s].runs.take i ++ x :: d.L[s].runs.drop i).length = d.L[s].runs.length + 1 := by simp; omega
  refine join_kin h4 hs4 he4 (by rw [k4.p]; exact hp) hsm (by omega) hil fun w5 d5 h5 k5 u5 s5 => ?_
  have k45 := k4.then k5
  have U5 : Upd d.FT w w5 := u4.trans u5 (fun x hx => .inl hx) (fun x hx => S4 x hx)
  have S5 : Sub d5.FT d.FT w := S4.trans s5 u4.size
  refine ifC (fun hc => ?_) (fun hc => ?_)
  · simp at hc
    have hs5 : s < d5.L.length := by rw [k5.len]; exact hs4
    obtain ⟨sl5, he5⟩ := k45.self hs
    have hil5 : i - 1 < (joinL i (d.L[s].runs.take i ++ x :: d.L[s].runs.drop i)).length := by
      unfold joinL
      split
      · split
        · simp; omega
        · omega
      · omega
    have hsm5 : ∀ r ∈ joinL i (d.L[s].runs.take i ++ x :: d.L[s].runs.drop i), 0 ≤ r.1 ∧ 1 ≤ r.2 ∧ r.1 + r.2 ≤ 1048576 := joinL_within hsm
    have hl5 : (joinL i (d.L[s].runs.take i ++ x :: d.L[s].runs.drop i)).length ≤ 2 ^ 21 := by
      unfold joinL
      split
      · split
        · simp; omega
        · omega
      · omega
    rw [i64id (by omega) (by omega), show (i : Int) - 1 = ((i - 1 : Nat) : Int) by omega]
    refine join_kin h5 hs5 he5 (by rw [k45.p]; exact hp) hsm5 hl5 hil5 fun w6 d6 h6 k6 u6 s6 => ?_
    refine hK i w6 d6 hi hlt hge2 h6 ?_ (U5.trans u6 (fun x hx => .inl hx) (fun x hx => S5 x hx)) (S5.trans s6 U5.size)
    have := k45.then k6
    unfold giveL
    rw [if_pos hc]; exact this
  · simp at hc
    refine hK i w5 d5 hi hlt hge2 h5 ?_ U5 S5
    unfold giveL
    rw [if_neg (by omega)]; exact k45

/-! ## The pool -/

theorem New_ok {lim : Int} {K : Option Addr → Int → World → Prop} (h0 : 0 ≤ lim) (h1 : lim ≤ 1048576)
    (hK : ∀ w' d', Pl w' d' → PlOk d' → d'.top = 0 → d'.limit = lim → (∃ sl, d'.L = [⟨0, sl, []⟩]) → Upd [] w w' → Since d'.FT w → K d'.a 0 w') : C_pool_New lim w K := by
  apply C_pool_New.of
  unfold F_pool_New
  refine ifF (by simp; omega) (ifF (by simp; omega) (BSlL_rule eS_54 [.agg #[.int .i64 0, .slice none 0 0]] (by rfl) (by simp [Value.cells]) (by rfl) (by omega) fun w1 hs1 u1 => New_rule fun b w2 hb u2 hb2 => ?_))
  have hs2 := hs1.upd u2 (by intro k _ h; cases h)
  have hsz := u1.size
  have hin := hs1.inn w.heap.size (by simp)
  refine hK w2 { b := b, p := some ⟨w.heap.size, 0, none⟩, n := 1, c := 1, top := 0, limit := lim, L := [⟨0, (none, 0, 0), []⟩], G := [w.heap.size], F := fun _ => [], FT := [b, w.heap.size] } ?_ ?_ rfl rfl ⟨(none, 0, 0), rfl⟩ (u1.after u2) ?_
  · refine ⟨hb2, by simpa [Value.cells, sC] using hs2, fun i hi => ?_, fun _ _ => rfl, ?_, by simp, ?_, ?_, by simp, by simp, by simp, ?_⟩
    · have : i = 0 := by simpa using hi
      subst this
      exact SlAt.nil _ _
    · simp; omega
    · intro i x _ hx; cases hx
    · intro i j _ x hx; cases hx
    · intro x hx
      simp at hx
      rcases hx with rfl | rfl
      · exact hb2.lt
      · have := u2.size; omega
  · refine ⟨by simp, by simp, rfl, by simp, by simp, h0, h1, fun i hi => ?_⟩
    have : i = 0 := by simpa using hi
    subst this
    exact RunsOk.nil _ _
  · intro x hx
    simp at hx
    rcases hx with rfl | rfl <;> omega

theorem New_bad {lim : Int} {K : Option Addr → Int → World → Prop} (h : lim < 0 ∨ 1048576 < lim) (hK : K none 1 w) : C_pool_New lim w K := by
  apply C_pool_New.of
  unfold F_pool_New
  by_cases h0 : lim < 0
  · exact ifT (by simpa using h0) hK
  · exact ifF (by simpa using h0) (ifT (by simp; omega) hK)

theorem Top_ok {K : Int → World → Prop} (h : Pl w d) (h0 : 0 < d.L.length) (hK : K d.top w) : C_pool_Pool_Top d.a w K := by
  apply C_pool_Pool_Top.of
  unfold F_pool_Pool_Top
  refine made_ok h h0 (ifF rfl ?_)
  simp only [PlD.a, NN_some, addN, drw_cell, drw_heap, exS, exI, exB, exP, exM, exStr, exV, a0, a1, a2, a3, a4, a5, a6, a7, a8, a9, a10, a11, a12, a13, maxI_eq, Nat.zero_add, Nat.add_zero, Nat.mul_one, Option.isNone_some, Option.isNone_none, h.blk.cell]
  exact hK

theorem Limit_ok {K : Int → World → Prop} (h : Pl w d) (h0 : 0 < d.L.length) (hK : K d.limit w) : C_pool_Pool_Limit d.a w K := by
  apply C_pool_Pool_Limit.of
  unfold F_pool_Pool_Limit
  refine made_ok h h0 (ifF rfl ?_)
  simp only [PlD.a, NN_some, addN, drw_cell, drw_heap, exS, exI, exB, exP, exM, exStr, exV, a0, a1, a2, a3, a4, a5, a6, a7, a8, a9, a10, a11, a12, a13, maxI_eq, Nat.zero_add, Nat.add_zero, Nat.mul_one, Option.isNone_some, Option.isNone_none, h.blk.cell]
  exact hK

/-- A copy of runs. -/
theorem Clone_ok {p : Option Addr} {n c : Nat} {E : List Run2} {G : List Nat} {K : Option Addr → Nat → Nat → World → Prop} (hs : RowAt w p n c E G) (hl : E.length < 2 ^ 40)
    (hK : ∀ p' n' c' F' w', RowAt w' p' n' c' E F' → Upd [] w w' → Since F' w → K p' n' c' w') : C_slices_Clone p n c w K := by
  apply C_slices_Clone.of
  unfold F_slices_Clone
  have hln := hs.len
  refine ifC (fun hc => ?_) (fun hc => ?_)
  · rcases hs.2.2 with ⟨rfl, rfl, rfl⟩ | ⟨b, off, arr, rfl, _⟩
    · have : E = [] := by
        have := hs.2.1
        have h2 : E.length = 0 := by omega
        simpa using h2
      subst this
      exact hK _ _ _ [] w (SlAt.nil _ _) (Upd.refl _ _) (by intro k hk; cases hk)
    · cases hc
  · refine BSl_rule (len := 0) (ps := []) (cs := []) eS_40 (by simp [Instr.fill]) (by simp) (by omega) fun w1 hs1 hu1 => ?_
    refine App_rule (hE := eS_40) hs1 (SlAt.upd hs hu1 (by intro k hk hx; cases hx)) eC_one (by omega) fun p' c' F' w2 hs2 hu2 hsub => ?_
    refine hK _ _ _ F' w2 (by simpa [RowAt] using hs2) (hu1.fresh hu2 (by intro k hk; simp at hk; omega)) ?_
    intro k hk
    rcases hsub k hk with h | h
    · simp at h; omega
    · have := hu1.size; omega

theorem Runs_ok {s : Int} {K : Option Addr → Nat → Nat → World → Prop} (h : Pl w d) (ok : PlOk d) (h0 : 0 ≤ s) (h1 : s < d.L.length)
    (hK : ∀ p' n' c' F' w', RowAt w' p' n' c' (d.L[s.toNat]'(by omega)).runs F' → Upd [] w w' → Since F' w → K p' n' c' w') : C_pool_Pool_Runs d.a s w K := by
  apply C_pool_Pool_Runs.of
  unfold F_pool_Pool_Runs
  have hn := h.len
  refine made_ok h ok.ne (ifF rfl (ifF (by simp; omega) ?_))
  obtain ⟨lb, off, hp, hG, c0, c1⟩ := h.cell (i := s.toNat) (by omega)
  have hL : w.cell? ⟨d.b, 0, none⟩ = some (.slice d.p d.n d.c) := by rw [h.blk.cell]; rfl
  simp only [PlD.a, NN_some, addN, Nat.zero_add, Nat.add_zero, hL, exS]
  refine ifF (by simp; omega) ?_
  simp only [hp, NN_some, addN, Nat.zero_add, Nat.add_zero, c1, exS]
  have hrl := ok.rlen (i := s.toNat) (by omega)
  exact ⟨h0, by omega, Clone_ok (h.runs s.toNat (by omega)) (by omega) hK⟩

theorem Starts_ok {K : Option Addr → Nat → Nat → World → Prop} (h : Pl w d) (ok : PlOk d)
    (hK : ∀ p' n' c' F' w', SlAt w' 1 p' n' c' ((d.L.map (·.start)).map (.int .i64)) F' → Upd [] w w' → Since F' w → K p' n' c' w') : C_pool_Pool_Starts d.a w K := by
  apply C_pool_Pool_Starts.of
  unfold F_pool_Pool_Starts F_pool_Pool_Starts_L1
  have hn := h.len
  have hlen := ok.len
  refine made_ok h ok.ne (ifF rfl ?_)
  simp only [PlD.a, NN_some, addN, drw_cell, drw_heap, exS, exI, exB, exP, exM, exStr, exV, a0, a1, a2, a3, a4, a5, a6, a7, a8, a9, a10, a11, a12, a13, maxI_eq, Nat.zero_add, Nat.add_zero, Nat.mul_one, Option.isNone_some, Option.isNone_none, h.blk.cell]
  refine ⟨fun s v => 0 ≤ s.t14 ∧ s.t14 ≤ d.n ∧ ∃ F, SlAt v 1 s.outP s.outN s.outC (((d.L.take s.t14.toNat).map (·.start)).map (.int .i64)) F ∧ Upd [] w v ∧ Since F w, fun s _ => (d.n - s.t14).toNat, ⟨by simp, by simp, [], by simpa using SlAt.nil w 1, Upd.refl _ _, by intro k hk; cases hk⟩, ?_⟩
  rintro ⟨op, on, oc, i⟩ v ⟨hi0, hi1, F, hs, u, hF⟩
  dsimp only at hi0 hi1 hs
  unfold B_pool_Pool_Starts_L1
  dsimp only
  have hon : on = i.toNat := by have := hs.1; simp at this; omega
  refine ifC (fun hc => ?_) (fun hc => ?_)
  · simp at hc
    obtain ⟨lb, off, hp, hG, c0, c1⟩ := (h.keep u).cell (i := i.toNat) (by omega)
    simp only [NN_some, addN, drw_cell, drw_heap, exS, exI, exB, exP, exM, exStr, exV, a0, a1, a2, a3, a4, a5, a6, a7, a8, a9, a10, a11, a12, a13, maxI_eq, Nat.zero_add, Nat.add_zero, Nat.mul_one, Option.isNone_some, Option.isNone_none, hp, c0, c1]
    refine ⟨hi0, hc, New_rule fun r w1 hr u1 hb1 => ?_⟩
    refine St_acc (Upd.refl _ _) hb1 (by simp) rfl fun w2 u2 hb2 => St_acc u2 hb2 (by simp) rfl fun w3 u3 hb3 => ?_
    simp at hb3
    simp only [NN_some, addN, drw_cell, drw_heap, exS, exI, exB, exP, exM, exStr, exV, a0, a1, a2, a3, a4, a5, a6, a7, a8, a9, a10, a11, a12, a13, maxI_eq, Nat.zero_add, Nat.add_zero, Nat.mul_one, Option.isNone_some, Option.isNone_none, hb3.cell]
    have V3 : Upd [] v w3 := u1.fresh u3 (by intro x hx; simp at hx; omega)
    refine BSlL_rule eS_33 [.int .i64 (d.L[i.toNat]'(by omega)).start] (by rfl) (by simp [Value.cells]) (by rfl) (by omega) fun w4 hs4 u4 => ?_
    have V4 := V3.after u4
    refine App_rule (hE := eS_33) (hs.upd V4 (by intro k _ h; cases h)) hs4 (by simp [Value.cells, Value.oneCell']) (by omega) fun p' c' F' w5 hs5 u5 s5 => ?_
    rw [i64id (by omega) (by omega)]
    refine ⟨⟨by omega, by omega, F', ?_, (u.after V4).fresh u5 hF, hF.step s5 (Nat.le_trans u.size V4.size)⟩, by omega⟩
    rw [show (i + 1).toNat = i.toNat + 1 by omega, List.take_succ_eq_append_getElem (by omega), List.map_append, List.map_append]
    exact hs5
  · simp at hc
    rw [List.take_of_length_le (by omega)] at hs
    exact hK op on oc F v hs u hF

end

end Go.Proofs.Ytcgnligpjfhjlaa
