/- Behind Back a term that is made again has the same word. -/
import Derived.Test.YtdaenijbokialaaGreatLives3
namespace Go.Proofs.YtdaenijbokialaaGreat
open Go Go.D Go.Proofs
set_option linter.unusedSimpArgs false
set_option linter.unusedVariables false
set_option maxRecDepth 8000

theorem need_le (t : Tm) (ks : List Int) : need t ks ≤ 3 * t.size := by
  unfold need
  have := cost_le t
  have := vars_len t ks
  omega

section
variable {w : World}

/-- What a heap's pool tells. -/
theorem top_ok {d : HpD} {E : List Nat} {C : List Wd} {k : Nat} {v : World} {K : Int → World → Prop} (h : Hp w v d E) (hi : HI d C k) (hK : K C.length v) : C_pool_Pool_Top d.pd.a v K :=
  Po.Top_ok h.pl h.plok.ne (by rw [← hi.ok.len]; exact hK)

end

end Go.Proofs.YtdaenijbokialaaGreat

/- Without room nothing is made, and behind Back there is room again. -/
namespace Go.Proofs.YtdaenijbokialaaGreat
open Go Go.D Go.Proofs
set_option linter.unusedSimpArgs false
set_option linter.unusedVariables false
set_option maxRecDepth 8000

section

theorem cost_ok (F : List Nat) (t : Tm) : ∀ {w : World} {p : Option Addr} {c : Nat} {K : Int → World → Prop}, RdA w F t.l p 0 → t.size < 2 ^ 30 → (∀ w', Upd [] w w' → K t.cost w') → C_law20_cost t.kind t.n t.s p t.l.length c w K := by
  refine Tm.ind (P := fun t => ∀ {w : World} {p : Option Addr} {c : Nat} {K : Int → World → Prop}, RdA w F t.l p 0 → t.size < 2 ^ 30 → (∀ w', Upd [] w w' → K t.cost w') → C_law20_cost t.kind t.n t.s p t.l.length c w K) (fun t ih => ?_) t
  intro w p c K hp hz hK
  apply C_law20_cost.of
  unfold F_law20_cost
  have hts := Tm.size_eq t
  have hce := Tm.cost_eq t
  refine New_rule fun r w1 hr u1 b1 => ?_
  simp only [NN_some, addN, drw_cell, drw_heap, exS, exI, exB, exP, exM, exStr, exV, a0, a1, a2, a3, a4, a5, a6, a7, a8, a9, a10, a11, a12, a13, maxI_eq, Nat.zero_add, Nat.add_zero, Nat.mul_one, Option.isNone_some, Option.isNone_none, b1.cell]
  by_cases k4 : t.kind = 4
  · rw [if_pos k4] at hce
    refine ifF (by simp [k4]) ?_
    have hpos := sizeL_pos (l := t.l)
    have hcl : ∀ i, costL (t.l.take i) ≤ 2 * sizeL t.l := fun i => by
      have : ∀ l : List Tm, costL l ≤ 2 * sizeL l := by
        intro l
        induction l with
        | nil => simp [costL, sizeL]
        | cons u l ih2 => rw [costL, sizeL]; have := cost_le u; omega
      have := this (t.l.take i)
      have := sizeL_take_le (l := t.l) i
      omega
    rw [i64id (by omega) (by omega)]
    unfold F_law20_cost_L1
    refine ⟨fun s z => ∃ i : Nat, s.i = i ∧ i ≤ t.l.length ∧ s.n = 1 + t.l.length + costL (t.l.take i) ∧ Upd [] w1 z, fun s _ => (t.l.length - s.i).toNat, ⟨0, rfl, by omega, by simp [costL], Upd.refl _ _⟩, ?_⟩
    rintro ⟨sn, si⟩ z ⟨i, hi0, hi, hn, uz⟩
    dsimp only at hi0 hn
    subst hi0 hn
    unfold B_law20_cost_L1
    dsimp only
    have bz := b1.upd uz (by simp)
    simp only [NN_some, addN, drw_cell, drw_heap, exS, exI, exB, exP, exM, exStr, exV, a0, a1, a2, a3, a4, a5, a6, a7, a8, a9, a10, a11, a12, a13, maxI_eq, Nat.zero_add, Nat.add_zero, Nat.mul_one, Option.isNone_some, Option.isNone_none, bz.cell]
    have h1 := hcl i
    refine ifC (fun g => ?_) (fun g => ?_)
    · simp only [decide_eq_true_eq] at g
      have gi : i < t.l.length := by omega
      obtain ⟨x, q, cq, f1, f2, f3, f4, f5, f6, f7, f8⟩ := (RdA.keep (u1.after uz) hp).at i gi
      simp only [Nat.zero_add] at f3 f4 f5 f6
      simp only [f1, NN_some, addN, drw_cell, drw_heap, exS, exI, exB, exP, exM, exStr, exV, a0, a1, a2, a3, a4, a5, a6, a7, a8, a9, a10, a11, a12, a13, maxI_eq, Nat.zero_add, Nat.add_zero, Nat.mul_one, Option.isNone_some, Option.isNone_none, addA, Int.toNat_natCast, f3, f4, f5, f6]
      have hle := sizeL_le (List.getElem_mem gi)
      have h2 := hcl (i + 1)
      have h3 := costL_take gi
      refine ⟨by omega, by omega, ih _ (List.getElem_mem gi) f8 (by omega) fun z2 u2 => ?_⟩
      rw [i64id (x := 1 + (t.l.length : Int) + (costL (t.l.take i) : Int) + (t.l[i].cost : Int)) (by omega) (by omega), i64id (x := (i : Int) + 1) (by omega) (by omega)]
      exact ⟨⟨i + 1, by simp, by omega, by rw [h3]; omega, uz.after u2⟩, by simp; omega⟩
    · simp only [decide_eq_false_iff_not] at g
      obtain rfl : i = t.l.length := by omega
      rw [List.take_length]
      have := hK z (u1.after uz)
      rw [hce] at this
      have e : ((1 + t.l.length + costL t.l : Nat) : Int) = 1 + (t.l.length : Int) + (costL t.l : Int) := by omega
      rw [e] at this; exact this
  · rw [if_neg k4] at hce
    refine ifT (by simp [k4]) ?_
    have := hK w1 u1
    rw [hce] at this; exact this

/-- One term, in a row of its own. -/
theorem one_tm {v : World} {F : List Nat} {t : Tm} {p : Option Addr} {c : Nat} {K : Option Addr → Nat → Nat → World → Prop} (hp : RdA v F t.l p 0) (hs : t.s.size < 2 ^ 63) (hF : In F v)
    (hK : ∀ v' q, RdA v' ([v.heap.size] ++ F) [t] q 0 → In ([v.heap.size] ++ F) v' → Upd [] v v' → K q 1 1 v') : BSl Tryz.prog 22 1 [(0, .agg #[.int .i64 t.kind, .int .i64 t.n, .string t.s, .slice p t.l.length c])] v K := by
  refine BSlL_rule eS_22 [.agg #[.int .i64 t.kind, .int .i64 t.n, .string t.s, .slice p t.l.length c]] (by rfl) (by simp [Value.cells]) (by rfl) (by omega) fun v1 hs1 u1 => ?_
  have t1 : TmsAt v1 (some ⟨v.heap.size, 0, none⟩) 1 1 [t] [v.heap.size] F := by
    refine ⟨[(t, p, c)], rfl, ?_, fun x hx => ?_, hF.upd u1⟩
    · have : ([(t, p, c)] : List TmP).flatMap tmC = ([.agg #[.int .i64 t.kind, .int .i64 t.n, .string t.s, .slice p t.l.length c]] : List Value).flatMap fun v => v.cells.toList := by simp [tmC, Value.cells]
      rw [this]; exact hs1
    · simp at hx; subst hx
      exact ⟨hs, RdA.keep u1 hp⟩
  exact hK v1 _ t1.rd (fun k hk => by
    rcases List.mem_append.1 hk with g | g
    · exact t1.inn.1 k g
    · exact t1.inn.2 k g) u1

theorem WF.nil (L : List Slot) (FL : List Fn.Slot) : WF [] L FL := by
  refine ⟨(by intro x hx; cases hx), fun x hx => ?_, (by intro i j h; simp at h)⟩
  cases x with
  | ref i => obtain ⟨y, hy, _⟩ := rightW_ref.1 hx; simp at hy
  | str i => exact ⟨_, 0, .stop (by simp [Wd.tag])⟩
  | atom i => exact ⟨_, 0, .stop (by simp [Wd.tag])⟩
  | int i => exact ⟨_, 0, .stop (by simp [Wd.tag])⟩
  | fn i => exact ⟨_, 0, .stop (by simp [Wd.tag])⟩

theorem Snap.nil (C : List Wd) : Snap [] [] C [] := ⟨by simp, [], by simp, by simp, by simp, by simp⟩

/-- What is told of terms that were made. -/
theorem told_one {V : List (Int × Nat)} {t : Tm} (hV : V.map (·.1) = t.vars []) (h1 : (V.map (·.1)).Nodup) (h2 : (V.map (·.2)).Nodup) : numT (varsL [t.ren (cellOf V)] []) (t.ren (cellOf V)) = numT (varsL [t] []) t := by
  have inj : ∀ a ∈ varsL [t] [], ∀ b ∈ varsL [t] [], cellOf V a = cellOf V b → a = b := by
    have e : varsL [t] [] = V.map (·.1) := by rw [varsL, varsL, hV]
    rw [e]; exact cellOf_inj h1 h2
  have := numL_ren inj
  simpa using this

theorem decE_one {t : Tm} (h1 : t.size ≤ 4096) (h2 : t.depth ≤ 200) : decE [t] = 0 := by
  unfold decE; rw [if_neg (by omega), if_neg (by omega)]; rfl
end

section
variable {w : World}

theorem HeapFull_law {cells : Int} {t : Tm} {p : Option Addr} {c : Nat} (ht : tmIn w t p) : C_law20_HeapFull cells t.kind t.n t.s p t.l.length c w fun r w' => r = true ∧ Upd [] w w' := by
  apply C_law20_HeapFull.of
  unfold F_law20_HeapFull F_law20_HeapFull_k1
  obtain ⟨ra, sa, _, _⟩ := ht
  have iF : In (List.range w.heap.size) w := fun k hk => List.mem_range.1 hk
  have bad : ∀ {z : World}, Upd [] w z → C_law20_lives z fun t30 w1_7 => t30 = true ∧ Upd [] w w1_7 := fun U => lives_ok fun z' u => ⟨rfl, U.after u⟩
  refine New_rule fun r w1 hr u1 b1 => ifC (fun _ => bad u1) (fun g1 => ifC (fun _ => bad u1) (fun g2 => ?_))
  have g1 := of_decide_eq_false g1
  have g2 := of_decide_eq_false g2
  simp only [NN_some, addN, drw_cell, drw_heap, exS, exI, exB, exP, exM, exStr, exV, a0, a1, a2, a3, a4, a5, a6, a7, a8, a9, a10, a11, a12, a13, maxI_eq, Nat.zero_add, Nat.add_zero, Nat.mul_one, Option.isNone_some, Option.isNone_none, b1.cell]
  refine Large_ok t (RdA.keep u1 ra) (iF.upd u1) sa fun w2 u2 => ?_
  have U2 := u1.after u2
  by_cases la : (t.large 0 0).1 = true
  · rw [la]; exact ifT rfl (bad U2)
  have la : (t.large 0 0).1 = false := by simpa using la
  rw [la]
  have za := not_large la
  have b2 := b1.upd u2 (by simp)
  refine ifF rfl ?_
  simp only [NN_some, addN, drw_cell, drw_heap, exS, exI, exB, exP, exM, exStr, exV, a0, a1, a2, a3, a4, a5, a6, a7, a8, a9, a10, a11, a12, a13, maxI_eq, Nat.zero_add, Nat.add_zero, Nat.mul_one, Option.isNone_some, Option.isNone_none, b2.cell]
  refine rCheck_ok t (RdA.keep U2 ra) (by omega) fun w3 u3 => ?_
  have U3 := U2.after u3
  have b3 := b2.upd u3 (by simp)
  refine ifC (fun g => bad U3) (fun g => ?_)
  have ck : checkT t = 0 := by simpa using g
  obtain ⟨hrt, hdp, hsz⟩ := checkT_0 ck
  refine HNew_ok (Upd.refl [] w3) (by omega) (by omega) (by omega) (by omega) fun v1 d1 h1 fr u4 _ => lives_ok fun v2 u5 => ifF rfl (ifF rfl (ifF rfl ?_))
  have h2 := (h1.keep u5).base
  rw [List.nil_append] at h2
  have V2 := u4.after u5
  have W2 := U3.after V2
  have b4 := b3.upd V2 (by simp)
  have sub : ∀ k ∈ List.range w.heap.size, k ∈ List.range w3.heap.size := fun k hk => by
    have := U3.size
    simp only [List.mem_range] at hk ⊢; omega
  have rE : r ∈ List.range w3.heap.size := List.mem_range.2 b3.lt
  refine Open_ok h2 fr.hi (by rw [fr.starts]; decide) (by rw [fr.TL]; decide) fun v3 d3 h3 hi3 kin3 eT3 est3 emk3 f3 => ifF rfl ?_
  have b5 := f3.blk b4 rE
  have st3 : d3.starts = [0, 0] := by rw [est3, fr.starts]; rfl
  have mk3 : d3.marks = [0, 0] := by rw [emk3, fr.marks, fr.TL]; rfl
  have TL3 : d3.TL = [] := by rw [eT3, fr.TL]
  rw [← kin3.a]
  have ra3 := RdA.far f3 sub (RdA.keep W2 ra)
  have ud := drw_upd v3
  simp only [NN_some, addN, drw_cell, drw_heap, exS, exI, exB, exP, exM, exStr, exV, a0, a1, a2, a3, a4, a5, a6, a7, a8, a9, a10, a11, a12, a13, maxI_eq, Nat.zero_add, Nat.add_zero, Nat.mul_one, Option.isNone_some, Option.isNone_none, b5.cell]
  have in3 : In (List.range w3.heap.size) v3 := fun k hk => h3.inn k (by simp only [List.mem_append]; exact .inr hk)
  refine cost_ok _ t (RdA.keep ud ra3) (by omega) fun v4 u6 => ⟨fun i _ => by
    have e := Upd.same (ud.after u6) (a := ⟨r, i, none⟩) (in3 r rE)
    exact e.trans (b5.cell i), ?_⟩
  have U36 := ud.after u6
  refine rVars_ok t (RdA.keep U36 ra3) (fun k hk => by have := in3 k (sub k hk); have := U36.size; omega) (by omega) fun v5 vp vc vG hv u7 _ => ?_
  have U37 := U36.after u7
  have h5 := h3.keep U37
  have b7 := b5.upd U37 (by simp)
  simp only [NN_some, addN, drw_cell, drw_heap, exS, exI, exB, exP, exM, exStr, exV, a0, a1, a2, a3, a4, a5, a6, a7, a8, a9, a10, a11, a12, a13, maxI_eq, Nat.zero_add, Nat.add_zero, Nat.mul_one, Option.isNone_some, Option.isNone_none, b7.cell]
  -- the way back
  have back : ∀ {z : World} {d : HpD} {C : List Wd} {k : Nat}, Hp w3 z d (List.range w3.heap.size) → HI d C k → d.starts = [0, 0] → d.marks = [0, 0] → d.TL = [] → d.pd.limit = cells → F_law20_HeapFull_k3 cells (fun r w' => r = true ∧ Upd [] w w') d.a z := by
    intro z d C k h hi st mk tl lim
    unfold F_law20_HeapFull_k3
    refine Back_ok (C0 := []) (T0 := []) h hi (by rw [st]; rfl) (by rw [mk]; rfl) (by rw [tl]; exact Snap.nil C) (WF.nil _ _) (by rw [tl]; decide) fun z1 d1 h1 hi1 kin _ _ _ _ => ifF rfl ?_
    rw [← kin.a]
    refine (getters h1).1 (top_ok h1 hi1 (ifF rfl ?_))
    refine Var_ok h1 hi1 (fun hl z2 h2 _ => ?_) (fun hl z2 d2 h2 _ _ _ _ _ => ?_)
    · rw [kin.limit, lim] at hl
      simp at hl
      have : decide (cells > 0) = false := by simp; omega
      rw [this]
      exact ⟨rfl, U3.after h2.U⟩
    · rw [kin.limit, lim] at hl
      simp at hl
      have : decide (cells > 0) = true := by simp; omega
      rw [this]
      exact ⟨rfl, U3.after h2.U⟩
  have hneed : (need t [] : Int) = (t.cost : Int) + ((t.vars []).length : Int) := by unfold need; simp
  have hn3 := need_le t []
  rw [i64id (by omega) (by omega)]
  refine Encode_nil t (RdA.keep U37 ra3) sub ck h5 hi3 (by omega) (fun hl v6 d6 C6 k6 h6 hi6 _ kin6 f6 => ?_) (fun hl v6 d6 C6 V6 x h6 hi6 hl6 _ hk6 hv6 rep6 xf kin6 hL6 hF6 _ _ f6 => ?_)
  · rw [kin3.limit, fr.lim] at hl
    simp at hl
    have e : decide ((t.cost : Int) + ((t.vars []).length : Int) ≤ cells) = false := by simp; omega
    rw [e]
    refine ifF rfl (ifT rfl (ifF rfl ?_))
    unfold F_law20_HeapFull_k4
    refine ifF rfl ?_
    rw [← kin6.a]
    exact back h6 hi6 (by rw [kin6.starts, st3]) (by rw [kin6.marks, mk3]) (by rw [kin6.TL, TL3]) (by rw [kin6.limit, kin3.limit, fr.lim])
  · rw [kin3.limit, fr.lim] at hl
    simp at hl
    have e : decide ((t.cost : Int) + ((t.vars []).length : Int) ≤ cells) = true := by simp; omega
    rw [e]
    refine ifF rfl (ifF rfl ?_)
    unfold F_law20_HeapFull_k4
    refine ifT rfl ?_
    rw [← kin6.a]
    have ev6 := Rep.ev hv6.once _ rep6 hrt
    have xr6 := (rep6.self hrt).2
    have b8 := f6.blk b7 rE
    have ra6 := RdA.far f6 sub (RdA.keep U37 ra3)
    refine one_word h6 fun v7 p7 blk7 h7 wr7 u8 => ?_
    refine Decode_ok (xs := [x]) (ts := [t.ren (cellOf V6)]) h7 hi6 wr7 (by show 1 < 2 ^ 16; omega) (by simpa using xf) (by simpa using xr6) rfl (fun k h1 h2 => by
      have : k = 0 := by have : k < 1 := h1; omega
      subst this; exact ev6) (fun hb => absurd (decE_one (by rw [ren_size]; exact hsz) (by rw [ren_depth]; exact hdp)) hb) fun _ v8 p8 c8 vp8 vc8 Y RL h8 ra8 _ _ _ sY inY f8 => ifF rfl ?_
    rw [List.map_singleton, told_one hk6 hv6.once hv6.two] at ra8
    have b9 := f8.blk (b8.upd u8 (by simp)) (by simp [List.mem_range.1 rE])
    have ra8' := RdA.far f8 (fun k hk => by simp [List.mem_range.1 (sub k hk)]) (RdA.keep u8 ra6)
    simp only [NN_some, addN, drw_cell, drw_heap, exS, exI, exB, exP, exM, exStr, exV, a0, a1, a2, a3, a4, a5, a6, a7, a8, a9, a10, a11, a12, a13, maxI_eq, Nat.zero_add, Nat.add_zero, Nat.mul_one, Option.isNone_some, Option.isNone_none, b9.cell]
    have in8 : In (List.range w.heap.size) v8 := fun k hk => by
      have := List.mem_range.1 (sub k hk)
      exact h8.inn k (by simp [this])
    refine one_tm ra8' sa in8 fun v9 q9 ra9 in9 u9 => ?_
    refine Renamed_ok (l := [t]) ra9 in9 ⟨by simpa using right_pv t hrt, by simp [sizeL]; omega⟩ fun v10 q10 c10 F10 ra10 in10 _ u10 => ?_
    have U9 := u9.after u10
    refine Same_ok (l := [numT (varsL [t] []) t]) (RdA.keep U9 ra8) (by simpa using ra10) (by simp [sizeL, numT, ren_size]; omega) fun v11 u11 => ifF rfl ?_
    have h11 := (h8.keep (U9.after u11)).less (E' := List.range w3.heap.size) fun k hk => by simp at hk ⊢; simp [hk]
    exact back h11 hi6 (by rw [kin6.starts, st3]) (by rw [kin6.marks, mk3]) (by rw [kin6.TL, TL3]) (by rw [kin6.limit, kin3.limit, fr.lim])
end

end Go.Proofs.YtdaenijbokialaaGreat

/- Rows of terms that came in: too large, all right, encoded together. -/
namespace Go.Proofs.YtdaenijbokialaaGreat
open Go Go.D Go.Proofs
set_option linter.unusedSimpArgs false
set_option linter.unusedVariables false
set_option maxRecDepth 8000

section

end

section
variable {w : World} {E : List Nat} {r : Nat}

end

end Go.Proofs.YtdaenijbokialaaGreat
