/- Behind Back a term that is made again has the same word. -/
import Derived.Test.YtdaenijbokialaaGreatLives3
namespace Go.Proofs.YtdaenijbokialaaGreat
open Go Go.D Go.Proofs
set_option linter.unusedSimpArgs false
set_option linter.unusedVariables false
set_option maxRecDepth 8000

theorem need_le (t : Tm) (ks : List Int) : need t ks ≤ 3 * t.size := by
  unfold need
  have := cost_le t
  have := vars_len t ks
  omega

section
variable {w : World}

end

end Go.Proofs.YtdaenijbokialaaGreat

/- Without room nothing is made, and behind Back there is room again. -/
namespace Go.Proofs.YtdaenijbokialaaGreat
open Go Go.D Go.Proofs
set_option linter.unusedSimpArgs false
set_option linter.unusedVariables false
set_option maxRecDepth 8000

section

theorem WF.nil (L : List Slot) (FL : List Fn.Slot) : WF [] L FL := by
  refine ⟨(by intro x hx; cases hx), fun x hx => ?_, (by intro i j h; simp at h)⟩
  cases x with
  | ref i => obtain ⟨y, hy, _⟩ := rightW_ref.1 hx; simp at hy
  | str i => exact ⟨_, 0, .stop (by simp [Wd.tag])⟩
  | atom i => exact ⟨_, 0, .stop (by simp [Wd.tag])⟩
  | int i => exact ⟨_, 0, .stop (by simp [Wd.tag])⟩
  | fn i => exact ⟨_, 0, .stop (by simp [Wd.tag])⟩

theorem Snap.nil (C : List Wd) : Snap [] [] C [] := ⟨by simp, [], by simp, by simp, by simp, by simp⟩

end

section
variable {w : World}

end

end Go.Proofs.YtdaenijbokialaaGreat

/- Rows of terms that came in: too large, all right, encoded together. -/
namespace Go.Proofs.YtdaenijbokialaaGreat
open Go Go.D Go.Proofs
set_option linter.unusedSimpArgs false
set_option linter.unusedVariables false
set_option maxRecDepth 8000

section

end

section
variable {w : World} {E : List Nat} {r : Nat}

end

end Go.Proofs.YtdaenijbokialaaGreat

/- A variable is bound just to what it does not reach. -/
namespace Go.Proofs.YtdaenijbokialaaGreat
open Go Go.D Go.Proofs
set_option linter.unusedSimpArgs false
set_option linter.unusedVariables false
set_option maxRecDepth 8000

/-- A variable's cell is reached just where the variable stands. -/
theorem rch_iff {C : List Wd} {L : List Slot} {FL : List Fn.Slot} {V : List (Int × Nat)} {t : Tm} {x : Wd} {n : Int} {i : Nat} (hv : VmOk (fun _ => False) C V) (hsub : ∀ a ∈ t.vars [], a ∈ V.map (·.1)) (hni : (n, i) ∈ V) (hr : t.right = true) (hx : Rep ⟨fun _ => False, C, L, FL, V⟩ t x) : Rch C L FL (.ref i) x ↔ n ∈ t.vars [] := by
  have ev := Rep.ev hv.once t hx hr
  have hinj := cellOf_inj hv.once hv.two
  have e := vars_ren (f := cellOf V) t [] fun a ha b hb => hinj a (hsub a ha) b (hsub b hb)
  rw [List.map_nil] at e
  have hc := cellOf_in hv.once hni
  have hnk : n ∈ V.map (·.1) := List.mem_map.2 ⟨_, hni, rfl⟩
  constructor
  · intro h
    have := h.vars ev
    rw [e] at this
    obtain ⟨a, ha, g⟩ := List.mem_map.1 this
    rw [← hc] at g
    rw [← hinj a (hsub a ha) n hnk g]; exact ha
  · intro h
    refine vars_rch _ ev ?_
    rw [e, ← hc]
    exact List.mem_map_of_mem h

theorem rep_var {C : List Wd} {L : List Slot} {FL : List Fn.Slot} {V : List (Int × Nat)} {n : Int} {x : Wd} (h : Rep ⟨fun _ => False, C, L, FL, V⟩ (tV n) x) : ∃ i, x = .ref i ∧ (n, i) ∈ V ∧ C[i]? = some (.ref i) := by
  rw [Rep.eq, if_pos (by rfl)] at h
  obtain ⟨i, a, b, _, c⟩ := h
  exact ⟨i, a, b, c⟩

theorem Der.set {C : List Wd} {j : Nat} {x : Wd} (hj : C[j]? = some (.ref j)) (hxx : Der C x x) (hne : x ≠ .ref j) : Der (C.set j x) x x ∧ Der (C.set j x) (.ref j) x := by
  have hjl := (List.getElem?_eq_some_iff.1 hj).1
  have h1 : Der (C.set j x) x x := by
    rcases hxx.last with g | ⟨i, rfl, g⟩
    · exact ⟨0, .stop g⟩
    · refine ⟨0, .root ?_⟩
      rw [set_at hjl, if_neg]
      · exact g
      · rintro rfl; exact hne rfl
  refine ⟨h1, ?_⟩
  obtain ⟨n, hn⟩ := h1
  exact ⟨n + 1, .step (by rw [set_at hjl, if_pos rfl]) hne hn⟩

theorem need_var (n : Int) (ks : List Int) : need (tV n) ks ≤ 1 := by
  unfold need
  have e : (tV n).cost = 0 := by rfl
  rw [e]
  have : (tV n).vars ks = if n ∈ ks then ks else ks ++ [n] := by rw [Tm.vars_eq, if_pos (by rfl)]; rfl
  rw [this]
  split <;> simp

section
variable {w : World}

theorem HeapReaches_law {n : Int} {t : Tm} {p : Option Addr} {c : Nat} (ht : tmIn w t p) : C_law20_HeapReaches t.kind t.n t.s p t.l.length c n w fun r w' => r = true ∧ Upd [] w w' := by
  apply C_law20_HeapReaches.of
  unfold F_law20_HeapReaches
  obtain ⟨ra, sa, _, _⟩ := ht
  have iF : In (List.range w.heap.size) w := fun k hk => List.mem_range.1 hk
  refine New_rule fun r w1 hr U1 b1 => ?_
  simp only [NN_some, addN, drw_cell, drw_heap, exS, exI, exB, exP, exM, exStr, exV, a0, a1, a2, a3, a4, a5, a6, a7, a8, a9, a10, a11, a12, a13, maxI_eq, Nat.zero_add, Nat.add_zero, Nat.mul_one, Option.isNone_some, Option.isNone_none, b1.cell]
  have bad : ∀ {z : World}, Upd [] w z → C_law20_lives z fun t30 w1_7 => t30 = true ∧ Upd [] w w1_7 := fun U => lives_ok fun z' u => ⟨rfl, U.after u⟩
  refine Large_ok t (RdA.keep U1 ra) (iF.upd U1) sa fun w2 u2 => ?_
  have U2 := U1.after u2
  by_cases la : (t.large 0 0).1 = true
  · rw [la]; exact ifT rfl (bad U2)
  have la : (t.large 0 0).1 = false := by simpa using la
  rw [la]
  have hz := not_large la
  have b2 := b1.upd u2 (by simp)
  refine ifF rfl ?_
  simp only [NN_some, addN, drw_cell, drw_heap, exS, exI, exB, exP, exM, exStr, exV, a0, a1, a2, a3, a4, a5, a6, a7, a8, a9, a10, a11, a12, a13, maxI_eq, Nat.zero_add, Nat.add_zero, Nat.mul_one, Option.isNone_some, Option.isNone_none, b2.cell]
  refine rCheck_ok t (RdA.keep U2 ra) (by omega) fun w3 u3 => ?_
  have U3 := U2.after u3
  refine ifC (fun _ => bad U3) (fun g => ?_)
  have ck : checkT t = 0 := by simpa using g
  obtain ⟨hrt, hdp, hsz⟩ := checkT_0 ck
  have b3 := b2.upd u3 (by simp)
  refine ifC (fun _ => bad U3) (fun g0 => ifC (fun _ => bad U3) (fun g1 => ?_))
  have g0 := of_decide_eq_false g0
  have g1 := of_decide_eq_false g1
  have hn64 : -2 ^ 63 ≤ n ∧ n < 2 ^ 63 := by omega
  refine HNew_ok (Upd.refl [] w3) (by omega) (by omega) (by omega) (by omega) fun v1 d1 h1 fr u4 _ => ?_
  refine lives_ok fun v2 u5 => ifF rfl (ifF rfl (ifF rfl ?_))
  have h2 := (h1.keep u5).base
  rw [List.nil_append] at h2
  have V2 := u4.after u5
  have b4 := b3.upd V2 (by simp)
  have sub : ∀ k ∈ List.range w.heap.size, k ∈ List.range w3.heap.size := fun k hk => by
    have := U3.size
    simp only [List.mem_range] at hk ⊢; omega
  have rE : r ∈ List.range w3.heap.size := List.mem_range.2 b3.lt
  refine New_map fun m v3 hm u6 hm3 => ?_
  have hm3 : MapAt v3 m (fun a : Int => Value.int .i64 a) (vmM []) := MapAt.new _ hm3
  have h3 := h2.watch u6 (Y := [m]) (fun k hk => by simp at hk; omega) (fun k hk => by simp at hk; subst hk; exact hm3.lt)
  have mE : m ∉ List.range w3.heap.size := by have := V2.size; simp; omega
  have hmw : w3.heap.size ≤ m := by have := V2.size; omega
  have b5 := b4.upd u6 (by simp)
  simp only [NN_some, addN, drw_cell, drw_heap, exS, exI, exB, exP, exM, exStr, exV, a0, a1, a2, a3, a4, a5, a6, a7, a8, a9, a10, a11, a12, a13, maxI_eq, Nat.zero_add, Nat.add_zero, Nat.mul_one, Option.isNone_some, Option.isNone_none, b5.cell]
  have W3 := (U3.after V2).after u6
  have hn3 := need_le t []
  refine Encode_ok t (V := []) (RdA.keep W3 ra) sub ck h3 fr.hi (by omega) hmw mE hm3 ⟨by simp, by simp, by simp⟩ (fun hl => ?_) (fun hl v4 d4 C4 V4 x h4 hi4 hl4 _ hk4 _ hv4 hm4 rep4 xf kin4 hL4 hF4 _ wx4 f4 => ?_)
  · rw [fr.lim] at hl
    simp at hl
    omega
  have hk4 : V4.map (·.1) = t.vars [] := hk4
  have lim4 : d4.pd.limit = 16384 := by rw [kin4.limit, fr.lim]
  have hl4' : C4.length ≤ 12288 := by rw [hl4]; simp; omega
  refine rVar_ok fun v5 u7 => ?_
  have h5 := h4.keep u7
  have hm5 := hm4.upd u7 (by simp)
  have ckv : checkT (tV n) = 0 := by
    have e : (tV n).right = true := by
      unfold tV
      simp [Tm.right, rightL, partT, noBytes, ByteArray.size]
      omega
    unfold checkT
    rw [e]; rfl
  have rav : RdA v5 [] (tV n).l none 0 := by show RdA v5 [] [] none 0; rw [RdA]; trivial
  rw [← kin4.a]
  refine Encode_ok (F := []) (tV n) rav (by simp) ckv h5 hi4 (by show 0 + t.size + 1 < 16000; omega) hmw mE hm5 hv4 (fun hl => ?_) (fun hl v6 d6 C6 V6 y h6 hi6 hl6 hold6 hk6 hsub6 hv6 hm6 rep6 yf kin6 hL6 hF6 _ wx6 f6 => ?_)
  · rw [lim4] at hl
    have := need_var n (V4.map (·.1))
    have := h4.pl
    omega
  have F6 : Far (List.range w3.heap.size) v3 v6 := (f4.after u7).then f6
  have b6 := F6.blk b5 rE
  refine ifF rfl (ifF rfl ?_)
  simp only [NN_some, addN, drw_cell, drw_heap, exS, exI, exB, exP, exM, exStr, exV, a0, a1, a2, a3, a4, a5, a6, a7, a8, a9, a10, a11, a12, a13, maxI_eq, Nat.zero_add, Nat.add_zero, Nat.mul_one, Option.isNone_some, Option.isNone_none, b6.cell]
  have ra6 := RdA.far F6 sub (RdA.keep W3 ra)
  have in6 : In (List.range w.heap.size) v6 := fun k hk => by
    have := List.mem_range.1 (sub k hk)
    exact h6.inn k (by simp [this])
  obtain ⟨i, rfl, hni, hroot⟩ := rep_var rep6
  have repx : Rep ⟨fun _ => False, C6, d6.L, d6.FL, V6⟩ t x := Rep.mono (q := ⟨fun _ => False, C4, d4.L, d4.FL, V4⟩) ⟨fun j z _ hj => (hold6 j (List.getElem?_eq_some_iff.1 hj).1).trans hj, fun j _ _ (h : False) => h.elim, hL6, hF6, hsub6⟩ t rep4
  have hin := rch_iff hv6 (fun a ha => by rw [hk6, hk4]; exact vars_mem (tV n) _ a ha) hni hrt repx
  obtain ⟨xd, xr⟩ := repx.self hrt
  have yr := (rep6.self (by rw [(checkT_0 ckv).1])).2
  refine rVars_ok t ra6 in6 (by omega) fun v7 lp lc lG hv7 u8 _ => ?_
  have h7 := h6.keep u8
  have b7 := b6.upd u8 (by simp)
  have hvl := vars_len t []
  simp at hvl
  rw [← kin6.a]
  refine ⟨fun s v => v = v7 ∧ ∃ j : Nat, s.i = j ∧ j ≤ (t.vars []).length ∧ s.inx = decide (n ∈ (t.vars []).take j), fun s _ => ((t.vars []).length - s.i).toNat, ⟨rfl, 0, rfl, by omega, by simp⟩, ?_⟩
  rintro ⟨inx, si⟩ v ⟨rfl, j, rfl, hj, rfl⟩
  unfold B_law20_HeapReaches_L1
  refine ifC (fun g => ?_) (fun g => ?_)
  · simp only [decide_eq_true_eq] at g
    have gj : j < (t.vars []).length := by omega
    have ew : IntKind.i64.wrap ((j : Int) + 1) = ((j + 1 : Nat) : Int) := by rw [i64id (by omega) (by omega)]; simp
    have htk : (t.vars []).take (j + 1) = (t.vars []).take j ++ [(t.vars [])[j]] := take_step gj
    refine ifC (fun gi => ?_) (fun gi => ?_)
    · rw [ew]
      have gi : n ∈ (t.vars []).take j := by simpa using gi
      exact ⟨⟨rfl, j + 1, rfl, by omega, by show true = decide _; rw [htk]; exact (decide_eq_true (List.mem_append_left _ gi)).symm⟩, by show ((t.vars []).length - ((j + 1 : Nat) : Int)).toNat < ((t.vars []).length - (j : Int)).toNat; omega⟩
    · have gi : n ∉ (t.vars []).take j := by simpa using gi
      obtain ⟨b, off, e1, e2⟩ := int_cell hv7 gj
      refine ⟨by show (0 : Int) ≤ (j : Int); omega, by show (j : Int) < _; omega, ?_⟩
      rw [e1]
      simp only [NN_some, addN, drw_cell, drw_heap, exS, exI, exB, exP, exM, exStr, exV, a0, a1, a2, a3, a4, a5, a6, a7, a8, a9, a10, a11, a12, a13, maxI_eq, Nat.zero_add, Nat.add_zero, Nat.mul_one, Option.isNone_some, Option.isNone_none, addA, Int.toNat_natCast, Nat.mul_one, e2]
      rw [ew]
      exact ⟨⟨trivial, j + 1, rfl, by omega, by
        show decide ((t.vars [])[j] = n) = _
        rw [htk]; simp only [List.mem_append, gi, false_or, List.mem_singleton]; exact decide_eq_decide.2 eq_comm⟩, by show ((t.vars []).length - ((j + 1 : Nat) : Int)).toNat < ((t.vars []).length - (j : Int)).toNat; omega⟩
  simp only [decide_eq_false_iff_not] at g
  obtain rfl : j = (t.vars []).length := by omega
  rw [List.take_length]
  -- what is reached
  refine Reaches_ok h7 hi6 yf xf yr xr fun bb v8 hb h8 f8 => ?_
  have b8 := f8.blk b7 (by simp [List.mem_range.1 rE])
  have dy : Der C6 (.ref i) (.ref i) := ⟨0, .root hroot⟩
  have hbb : bb = decide (n ∈ t.vars []) := by
    rw [Bool.eq_iff_iff, hb, decide_eq_true_eq, ← hin]
    constructor
    · rintro ⟨q, hq, _, hqr⟩
      rw [hq.uniq dy] at hqr; exact hqr
    · intro h
      exact ⟨_, dy, .inl rfl, h⟩
  refine ifF (by rw [hbb]; simp) ?_
  simp only [NN_some, addN, drw_cell, drw_heap, exS, exI, exB, exP, exM, exStr, exV, a0, a1, a2, a3, a4, a5, a6, a7, a8, a9, a10, a11, a12, a13, maxI_eq, Nat.zero_add, Nat.add_zero, Nat.mul_one, Option.isNone_some, Option.isNone_none, b8.cell]
  -- it is bound
  have st6 : d6.starts = [0] := by rw [kin6.starts, kin4.starts, fr.starts]
  have fin : ∀ {v9 : World}, Hp w3 v9 d6 (m :: List.range w3.heap.size) → Blk v9 r #[.int .i64 t.kind, .int .i64 t.n, .string t.s, .slice p t.l.length c] → F_law20_HeapReaches_k6 (fun r w' => r = true ∧ Upd [] w w') r d6.a x.enc (Wd.ref i).enc (decide (n ∈ t.vars [])) v9 := by
    intro v9 h9 b9
    unfold F_law20_HeapReaches_k6 F_law20_HeapReaches_k3 F_law20_HeapReaches_k4 F_law20_HeapReaches_k5
    have hkr : t.kind = 1 ↔ ∃ j, x = .ref j := by
      have hr := repx
      rw [Rep.eq] at hr
      constructor
      · intro h1
        rw [if_pos h1] at hr
        obtain ⟨j, e, _⟩ := hr
        exact ⟨j, e⟩
      · rintro ⟨j, rfl⟩
        by_cases h1 : t.kind = 1
        · exact h1
        rw [if_neg h1] at hr
        by_cases h2 : t.kind = 2
        · rw [if_pos h2] at hr; cases hr
        rw [if_neg h2] at hr
        by_cases h3 : t.kind = 3
        · rw [if_pos h3] at hr; obtain ⟨_, _, e, _⟩ := hr; cases e
        rw [if_neg h3] at hr
        obtain ⟨_, _, e, _⟩ := hr; cases e
    refine Bind_ok h9 hi6 yf xf yr xr dy xd (by rw [st6]; rfl) (.inl rfl) (fun e z hz fz => ?_) (fun hne hrc z hz fz => ?_) (fun hne hrc z d' hz hiz bd fz => ?_)
    · -- the same variable
      subst e
      have bz := fz.blk b9 (by simp [List.mem_range.1 rE])
      have k1 : t.kind = 1 := hkr.2 ⟨i, rfl⟩
      have hi1 : n ∈ t.vars [] := hin.1 (.here dy)
      have dref : C_heap_Heap_Deref d6.a (Wd.ref i).enc z fun t130 w1_19 => C_heap_Heap_Deref d6.a (Wd.ref i).enc w1_19 fun t133 w1_20 => (t130 == t133) = true ∧ Upd [] w w1_20 :=
        Deref_ok hz hi6 yf yr dy fun z1 hz1 _ => Deref_ok hz1 hi6 yf yr dy fun z2 hz2 _ => ⟨by simp, U3.after hz2.U⟩
      refine ifT rfl (ifF (by simp [hi1]) ?_)
      simp only [NN_some, addN, drw_cell, drw_heap, exS, exI, exB, exP, exM, exStr, exV, a0, a1, a2, a3, a4, a5, a6, a7, a8, a9, a10, a11, a12, a13, maxI_eq, Nat.zero_add, Nat.add_zero, Nat.mul_one, Option.isNone_some, Option.isNone_none, bz.cell]
      exact ifT (by simp [k1]) (ifF rfl dref)
    · have bz := fz.blk b9 (by simp [List.mem_range.1 rE])
      have hi1 : n ∈ t.vars [] := hin.1 hrc
      have k1 : t.kind ≠ 1 := fun h1 => by
        obtain ⟨j, rfl⟩ := hkr.1 h1
        cases hrc with
        | here hd => exact hne (xd.uniq hd)
        | down hd _ _ _ _ => exact absurd (xd.uniq hd) (by simp)
      refine ifT rfl (ifF (by simp [hi1]) ?_)
      simp only [NN_some, addN, drw_cell, drw_heap, exS, exI, exB, exP, exM, exStr, exV, a0, a1, a2, a3, a4, a5, a6, a7, a8, a9, a10, a11, a12, a13, maxI_eq, Nat.zero_add, Nat.add_zero, Nat.mul_one, Option.isNone_some, Option.isNone_none, bz.cell]
      exact ifT (by simp [k1]) (ifT rfl ⟨trivial, U3.after hz.U⟩)
    · have hi1 : n ∉ t.vars [] := fun h => hrc (hin.2 h)
      obtain ⟨e1, e2⟩ := Der.set hroot xd hne
      refine ifT rfl (ifT (by simp [hi1]) (ifT rfl (ifF rfl ?_)))
      rw [← bd.a]
      refine Deref_ok hz hiz yf (by rw [bd.L, bd.rw_]; exact yr) e2 fun z1 hz1 _ => Deref_ok hz1 hiz xf (by rw [bd.L, bd.rw_]; exact xr) e1 fun z2 hz2 _ => ⟨by simp, U3.after hz2.U⟩
  refine ifC (fun g4 => ?_) (fun _ => fin h8 b8)
  have k4 : t.kind = 4 := by simpa using g4
  have hx4 := wx4.1 k4
  refine Reaches_ok h8 hi6 xf xf xr xr fun b2 v9 hb2 h9 f9 => ?_
  have e2 : b2 = true := hb2.2 ⟨x, xd, .inr (by rw [hx4]; rfl), .here xd⟩
  rw [e2]
  exact ifF rfl (fin h9 (f9.blk b8 (by simp [List.mem_range.1 rE])))
end

end Go.Proofs.YtdaenijbokialaaGreat
