/- Behind Back a term that is made again has the same word. -/
import Derived.Test.YtdaenijbokialaaGreatLives3
namespace Go.Proofs.YtdaenijbokialaaGreat
open Go Go.D Go.Proofs
set_option linter.unusedSimpArgs false
set_option linter.unusedVariables false
set_option maxRecDepth 8000

theorem need_le (t : Tm) (ks : List Int) : need t ks ≤ 3 * t.size := by
  unfold need
  have := cost_le t
  have := vars_len t ks
  omega

/-- One term, one word. -/
theorem word_one {C C' : List Wd} {L L' : List Slot} {FL FL' : List Fn.Slot} {V V' : List (Int × Nat)} {n : Nat} {t : Tm} {x y : Wd} (hr : t.right = true) (hx : Rep ⟨fun _ => False, C, L, FL, V⟩ t x) (hy : Rep ⟨fun _ => False, C', L', FL', V'⟩ t y) (hL : StayL L L') (un : Unq L' FL')
    (wx : (t.kind = 4 → x = .str n) ∧ (t.kind = 1 → x = .ref n)) (wy : (t.kind = 4 → y = .str n) ∧ (t.kind = 1 → y = .ref n)) : x = y := by
  rw [Tm.right_eq, Bool.and_eq_true] at hr
  have hp := hr.1
  unfold partT at hp
  by_cases h1 : t.kind = 1
  · rw [wx.2 h1, wy.2 h1]
  rw [if_neg h1] at hp
  rw [Rep.eq, if_neg h1] at hx hy
  by_cases h2 : t.kind = 2
  · rw [if_pos h2] at hx hy
    rw [hx, hy]
  rw [if_neg h2] at hp hx hy
  by_cases h3 : t.kind = 3
  · rw [if_pos h3] at hx hy
    obtain ⟨i, m, rfl, e1⟩ := hx
    obtain ⟨j, m', rfl, e2⟩ := hy
    rw [un.atom i j t.s m m' (hL _ _ e1 rfl) e2]
  rw [if_neg h3] at hp
  by_cases h4 : t.kind = 4
  · rw [wx.1 h4, wy.1 h4]
  · rw [if_neg h4] at hp; cases hp

section
variable {w : World}

/-- What a heap's pool tells. -/
theorem top_ok {d : HpD} {E : List Nat} {C : List Wd} {k : Nat} {v : World} {K : Int → World → Prop} (h : Hp w v d E) (hi : HI d C k) (hK : K C.length v) : C_pool_Pool_Top d.pd.a v K :=
  Po.Top_ok h.pl h.plok.ne (by rw [← hi.ok.len]; exact hK)

theorem HeapAgain_law {a b : Tm} {pa pb : Option Addr} {ca cb : Nat} (ha : tmIn w a pa) (hb : tmIn w b pb) : C_law20_HeapAgain a.kind a.n a.s pa a.l.length ca b.kind b.n b.s pb b.l.length cb w fun r w' => r = true ∧ Upd [] w w' := by
  apply C_law20_HeapAgain.of
  unfold F_law20_HeapAgain F_law20_HeapAgain_k1
  obtain ⟨ra, sa, _, _⟩ := ha
  obtain ⟨rb, sb, _, _⟩ := hb
  have iF : In (List.range w.heap.size) w := fun k hk => List.mem_range.1 hk
  refine New_rule fun r w1 hr u1 b1 => New_rule fun q w2 hq u2 b2 => ?_
  have U2 := u1.after u2
  have b1' := b1.upd u2 (by simp)
  simp only [NN_some, addN, drw_cell, drw_heap, exS, exI, exB, exP, exM, exStr, exV, a0, a1, a2, a3, a4, a5, a6, a7, a8, a9, a10, a11, a12, a13, maxI_eq, Nat.zero_add, Nat.add_zero, Nat.mul_one, Option.isNone_some, Option.isNone_none, b1'.cell]
  have bad : ∀ {z : World}, Upd [] w z → C_law20_lives z fun t30 w1_7 => t30 = true ∧ Upd [] w w1_7 := fun U => lives_ok fun z' u => ⟨rfl, U.after u⟩
  refine Large_ok a (RdA.keep U2 ra) (iF.upd U2) sa fun w3 u3 => ?_
  have U3 := U2.after u3
  by_cases la : (a.large 0 0).1 = true
  · rw [la]; exact ifT rfl (bad U3)
  have la : (a.large 0 0).1 = false := by simpa using la
  rw [la]
  have b23 := b2.upd u3 (by simp)
  refine ifF rfl ?_
  simp only [NN_some, addN, drw_cell, drw_heap, exS, exI, exB, exP, exM, exStr, exV, a0, a1, a2, a3, a4, a5, a6, a7, a8, a9, a10, a11, a12, a13, maxI_eq, Nat.zero_add, Nat.add_zero, Nat.mul_one, Option.isNone_some, Option.isNone_none, b23.cell]
  refine Large_ok b (RdA.keep U3 rb) (iF.upd U3) sb fun w4 u4 => ?_
  have U4 := U3.after u4
  by_cases lb : (b.large 0 0).1 = true
  · rw [lb]; exact ifT rfl (bad U4)
  have lb : (b.large 0 0).1 = false := by simpa using lb
  rw [lb]
  have za := not_large la
  have zb := not_large lb
  have b14 := (b1'.upd u3 (by simp)).upd u4 (by simp)
  refine ifF rfl ?_
  simp only [NN_some, addN, drw_cell, drw_heap, exS, exI, exB, exP, exM, exStr, exV, a0, a1, a2, a3, a4, a5, a6, a7, a8, a9, a10, a11, a12, a13, maxI_eq, Nat.zero_add, Nat.add_zero, Nat.mul_one, Option.isNone_some, Option.isNone_none, b14.cell]
  refine rCheck_ok a (RdA.keep U4 ra) (by omega) fun w5 u5 => ?_
  have U5 := U4.after u5
  refine ifC (fun g => bad U5) (fun g => ?_)
  have ca0 : checkT a = 0 := by simpa using g
  have b25 := (b23.upd u4 (by simp)).upd u5 (by simp)
  simp only [NN_some, addN, drw_cell, drw_heap, exS, exI, exB, exP, exM, exStr, exV, a0, a1, a2, a3, a4, a5, a6, a7, a8, a9, a10, a11, a12, a13, maxI_eq, Nat.zero_add, Nat.add_zero, Nat.mul_one, Option.isNone_some, Option.isNone_none, b25.cell]
  refine rCheck_ok b (RdA.keep U5 rb) (by omega) fun w6 u6 => ?_
  have U6 := U5.after u6
  refine ifC (fun g => bad U6) (fun g => ?_)
  have cb0 : checkT b = 0 := by simpa using g
  obtain ⟨hra, _, hsa⟩ := checkT_0 ca0
  obtain ⟨hrb, _, hsb⟩ := checkT_0 cb0
  have b16 := (b14.upd u5 (by simp)).upd u6 (by simp)
  have b26 := b25.upd u6 (by simp)
  refine HNew_ok (Upd.refl [] w6) (by omega) (by omega) (by omega) (by omega) fun v1 d1 h1 fr u7 _ => ?_
  refine lives_ok fun v2 u8 => ifF rfl (ifF rfl (ifF rfl ?_))
  have h2 := (h1.keep u8).base
  rw [List.nil_append] at h2
  have V2 := u7.after u8
  have W2 := U6.after V2
  have b12 := b16.upd V2 (by simp)
  have b22 := b26.upd V2 (by simp)
  have sub : ∀ k ∈ List.range w.heap.size, k ∈ List.range w6.heap.size := fun k hk => by
    have := U6.size
    simp only [List.mem_range] at hk ⊢; omega
  have rE : r ∈ List.range w6.heap.size := List.mem_range.2 b16.lt
  have qE : q ∈ List.range w6.heap.size := List.mem_range.2 b26.lt
  simp only [NN_some, addN, drw_cell, drw_heap, exS, exI, exB, exP, exM, exStr, exV, a0, a1, a2, a3, a4, a5, a6, a7, a8, a9, a10, a11, a12, a13, maxI_eq, Nat.zero_add, Nat.add_zero, Nat.mul_one, Option.isNone_some, Option.isNone_none, b12.cell]
  have na := need_le a []
  have nb := need_le b []
  refine Encode_nil a (RdA.keep W2 ra) sub ca0 h2 fr.hi (by omega) (fun hl => by rw [fr.lim] at hl; simp at hl; omega) fun hl3 v3 d3 C3 V3 x3 h3 hi3 hl3' _ _ _ _ _ kin3 hL3 hF3 _ _ f3 => ?_
  have b23' := f3.blk b22 qE
  rw [← kin3.a]
  refine (getters h3).1 (top_ok h3 hi3 ?_)
  have st3 : d3.starts = [0] := by rw [kin3.starts, fr.starts]
  have mk3 : d3.marks = [0] := by rw [kin3.marks, fr.marks]
  have TL3 : d3.TL = [] := by rw [kin3.TL, fr.TL]
  refine Open_ok h3 hi3 (by rw [st3]; decide) (by rw [TL3]; decide) fun v4 d4 h4 hi4 kin4 eT4 est4 emk4 f4 => ifF rfl ?_
  have b24 := f4.blk b23' qE
  simp only [NN_some, addN, drw_cell, drw_heap, exS, exI, exB, exP, exM, exStr, exV, a0, a1, a2, a3, a4, a5, a6, a7, a8, a9, a10, a11, a12, a13, maxI_eq, Nat.zero_add, Nat.add_zero, Nat.mul_one, Option.isNone_some, Option.isNone_none, b24.cell]
  rw [← kin4.a]
  have hC3 : C3.length ≤ 12288 := by rw [hl3']; simp; omega
  have lim4 : d4.pd.limit = 65536 := by rw [kin4.limit, kin3.limit, fr.lim]
  have F4 : Far (List.range w6.heap.size) v2 v4 := f3.then f4
  refine Encode_nil b (RdA.far F4 sub (RdA.keep W2 rb)) sub cb0 h4 hi4 (by omega) (fun hl => by rw [lim4] at hl; omega) fun hl5 v5 d5 C5 V5 x5 h5 hi5 hl5' hold5 _ _ rep5 xf5 kin5 hL5 hF5 _ wx5 f5 => ?_
  have b25' := f5.blk b24 qE
  rw [← kin5.a]
  have TL5 : d5.TL = [] := by rw [kin5.TL, eT4, TL3]
  have st5 : d5.starts = [0, (C3.length : Int)] := by rw [kin5.starts, est4, st3]; rfl
  have mk5 : d5.marks = [0, 0] := by rw [kin5.marks, emk4, mk3, TL3]; rfl
  refine Back_ok (C0 := C3) (T0 := []) h5 hi5 (by rw [st5]; rfl) (by rw [mk5]; rfl) (by rw [TL5]; exact (Snap.refl C3 []).more (by omega) hold5) (hi4.wf.stay hL5 hF5) (by rw [TL5]; decide) fun v6 d6 h6 hi6 kin6 eT6 est6 emk6 f6 => ifF rfl ?_
  have b26' := f6.blk b25' qE
  rw [← kin6.a]
  refine (getters h6).1 (top_ok h6 hi6 (ifF (by simp) ?_))
  simp only [NN_some, addN, drw_cell, drw_heap, exS, exI, exB, exP, exM, exStr, exV, a0, a1, a2, a3, a4, a5, a6, a7, a8, a9, a10, a11, a12, a13, maxI_eq, Nat.zero_add, Nat.add_zero, Nat.mul_one, Option.isNone_some, Option.isNone_none, b26'.cell]
  have lim6 : d6.pd.limit = 65536 := by rw [kin6.limit, kin5.limit, lim4]
  have F6 : Far (List.range w6.heap.size) v2 v6 := (F4.then f5).then f6
  refine Encode_nil b (RdA.far F6 sub (RdA.keep W2 rb)) sub cb0 h6 hi6 (by omega) (fun hl => by rw [lim6] at hl; omega) fun hl7 v7 d7 C7 V7 x7 h7 hi7 _ _ _ _ rep7 xf7 kin7 hL7 hF7 _ wx7 f7 => ifT rfl (ifT rfl ?_)
  have := word_one (n := C3.length) hrb rep5 rep7 (by rw [← kin6.L]; exact hL7) h7.unq wx5 wx7
  subst this
  exact ⟨by simp, U6.after h7.U⟩
end

end Go.Proofs.YtdaenijbokialaaGreat
