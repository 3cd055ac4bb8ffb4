/- A stack of environments and choices: a choice, told. -/
import Derived.Test.YtdmjbkpibgfeiaaRow
namespace Go.Proofs.Ytdmjbkpibgfeiaa
open Go Go.D Go.Proofs
set_option linter.unusedSimpArgs false
set_option linter.unusedVariables false
set_option maxRecDepth 8000

theorem St9n {w : World} {r : Nat} {arr : Array Value} {v0 v1 v2 v3 v4 v5 v6 v7 v8 : Value} {K : World → Prop} (hb : Blk w r arr) (ha : arr.size = 9) (hv : ∀ v ∈ [v0, v1, v2, v3, v4, v5, v6, v7, v8], v.oneCell' = true) (hK : ∀ w', Upd [r] w w' → Blk w' r #[v0, v1, v2, v3, v4, v5, v6, v7, v8] → K w') :
    St w (⟨r, 0, none⟩ : Addr) v0 fun w0 => St w0 (⟨r, 1, none⟩ : Addr) v1 fun w1 => St w1 (⟨r, 2, none⟩ : Addr) v2 fun w2 => St w2 (⟨r, 3, none⟩ : Addr) v3 fun w3 => St w3 (⟨r, 4, none⟩ : Addr) v4 fun w4 => St w4 (⟨r, 5, none⟩ : Addr) v5 fun w5 => St w5 (⟨r, 6, none⟩ : Addr) v6 fun w6 => St w6 (⟨r, 7, none⟩ : Addr) v7 fun w7 => St w7 (⟨r, 8, none⟩ : Addr) v8 fun w8 => K w8 := by
  obtain ⟨c0, c1, c2, c3, c4, c5, c6, c7, c8, rfl⟩ : ∃ c0 c1 c2 c3 c4 c5 c6 c7 c8, arr = #[c0, c1, c2, c3, c4, c5, c6, c7, c8] := by
    rcases arr with ⟨l⟩
    rcases l with _ | ⟨c0, _ | ⟨c1, _ | ⟨c2, _ | ⟨c3, _ | ⟨c4, _ | ⟨c5, _ | ⟨c6, _ | ⟨c7, _ | ⟨c8, _ | ⟨c9, l⟩⟩⟩⟩⟩⟩⟩⟩⟩⟩ <;> simp at ha
    exact ⟨c0, c1, c2, c3, c4, c5, c6, c7, c8, rfl⟩
  refine St_acc (Upd.refl _ _) hb (by simp) (hv _ (by simp)) fun u0 t0 b0 => St_acc t0 b0 (by simp) (hv _ (by simp)) fun u1 t1 b1 => St_acc t1 b1 (by simp) (hv _ (by simp)) fun u2 t2 b2 => St_acc t2 b2 (by simp) (hv _ (by simp)) fun u3 t3 b3 => St_acc t3 b3 (by simp) (hv _ (by simp)) fun u4 t4 b4 => St_acc t4 b4 (by simp) (hv _ (by simp)) fun u5 t5 b5 => St_acc t5 b5 (by simp) (hv _ (by simp)) fun u6 t6 b6 => St_acc t6 b6 (by simp) (hv _ (by simp)) fun u7 t7 b7 => St_acc t7 b7 (by simp) (hv _ (by simp)) fun u8 t8 b8 => ?_
  simp at b8
  exact hK _ t8 b8

theorem St9 {w : World} {r : Nat} {arr : Array Value} {v0 v1 v2 v3 v4 v5 v6 v7 v8 : Value} {K : World → Prop} (hb : Blk w r arr) (ha : arr.size = 9) (hv : ∀ v ∈ [v0, v1, v2, v3, v4, v5, v6, v7, v8], v.oneCell' = true) (hK : ∀ w', Upd [r] w w' → Blk w' r #[v0, v1, v2, v3, v4, v5, v6, v7, v8] → K w') :
    St w ((⟨r, 0, none⟩ : Addr).add 0) v0 fun w0 => St w0 ((⟨r, 0, none⟩ : Addr).add 1) v1 fun w1 => St w1 ((⟨r, 0, none⟩ : Addr).add 2) v2 fun w2 => St w2 ((⟨r, 0, none⟩ : Addr).add 3) v3 fun w3 => St w3 ((⟨r, 0, none⟩ : Addr).add 4) v4 fun w4 => St w4 ((⟨r, 0, none⟩ : Addr).add 5) v5 fun w5 => St w5 ((⟨r, 0, none⟩ : Addr).add 6) v6 fun w6 => St w6 ((⟨r, 0, none⟩ : Addr).add 7) v7 fun w7 => St w7 ((⟨r, 0, none⟩ : Addr).add 8) v8 fun w8 => K w8 := by
  simp only [addN, Nat.zero_add]
  exact St9n hb ha hv hK

section
variable {w : World} {d : FrD} {cur : List Int} {lev : List Level}

theorem Choice_ok {i : Int} {K : Int → Option Addr → Nat → Nat → Int → Int → Int → Int → Int → Int → Int → Bool → World → Prop} (h : Fr w d) (h0 : 0 ≤ i) (h1 : i < d.l.length)
    (hA : (d.l[i.toNat]'(by omega)).2.args.length < 2 ^ 40)
    (hK : ∀ p n c F w', SlAt w' 1 p n c ((d.l[i.toNat]'(by omega)).2.args.map (.int .u64)) F → Fr w' d → Upd [] w w' → Since F w → K (d.l[i.toNat]'(by omega)).2.kind p n c (d.l[i.toNat]'(by omega)).2.c2 (d.l[i.toNat]'(by omega)).2.c3 (d.l[i.toNat]'(by omega)).2.c4 (d.l[i.toNat]'(by omega)).2.c5 (d.l[i.toNat]'(by omega)).2.c6 (d.l[i.toNat]'(by omega)).2.env (d.l[i.toNat]'(by omega)).2.top true w') :
    C_frame_Stack_Choice d.a i w K := by
  apply C_frame_Stack_Choice.of
  unfold F_frame_Stack_Choice
  have hn := h.len
  refine New_rule fun r w1 hr u1 hb1 => ?_
  have f1 := h.keep u1
  refine made_ok f1 (ifF rfl (ifF (by simp; omega) ?_))
  obtain ⟨b, off, hp, _, hcell⟩ := f1.cell (i := i.toNat) (by omega)
  obtain ⟨H1, hs1, hH1⟩ := f1.args.get i.toNat (by omega)
  have c0 := hcell 0 (by omega)
  have c1 := hcell 1 (by omega)
  have c2 := hcell 2 (by omega)
  have c3 := hcell 3 (by omega)
  have c4 := hcell 4 (by omega)
  have c5 := hcell 5 (by omega)
  have c6 := hcell 6 (by omega)
  have c7 := hcell 7 (by omega)
  have c8 := hcell 8 (by omega)
  simp only [chCells, List.getElem?_cons_zero, List.getElem?_cons_succ, Nat.add_zero] at c0 c1 c2 c3 c4 c5 c6 c7 c8
  have hL1 : w1.cell? ⟨d.b, 2, none⟩ = some (.slice d.p d.n d.c) := by rw [f1.blk.cell]; rfl
  simp only [FrD.a, NN_some, addN, Nat.zero_add, Nat.add_zero, hL1, exS]
  refine ifF (by simp; omega) ?_
  simp only [hp, NN_some, addN, Nat.zero_add, Nat.add_zero, c0, c1, c2, c3, c4, c5, c6, c7, c8, exS, exI]
  refine ⟨by omega, by omega, New_rule fun q w2 hq u2 hb2 => ?_⟩
  refine St9 hb2 rfl (by simp [Value.oneCell']) fun w3 u3 hb3 => ?_
  simp only [NN_some, addN, drw_cell, drw_heap, exS, exI, exB, exP, exM, exStr, exV, a0, a1, a2, a3, a4, a5, a6, a7, a8, a9, a10, a11, a12, a13, maxI_eq, Nat.zero_add, Nat.add_zero, Nat.mul_one, Option.isNone_some, Option.isNone_none, hb3.cell]
  have U3 : Upd [] w1 w3 := u2.fresh u3 (by intro k hk; simp at hk; omega)
  have hs3 := hs1.upd U3 (by intro k _ h; cases h)
  refine Clone_ok hs3 hA fun p n c F w4 hs4 u4 nF => ?_
  have hb4 := hb3.upd u4 (by simp)
  refine St_acc (Upd.refl _ _) hb4 (by simp) rfl fun w5 u5 hb5 => ?_
  simp at hb5
  have qF : q ∉ F := fun hx => by have := nF q hx; have := hb3.lt; omega
  simp only [NN_some, addN, drw_cell, drw_heap, exS, exI, exB, exP, exM, exStr, exV, a0, a1, a2, a3, a4, a5, a6, a7, a8, a9, a10, a11, a12, a13, maxI_eq, Nat.zero_add, Nat.add_zero, Nat.mul_one, Option.isNone_some, Option.isNone_none, hb5.cell]
  have U5 : Upd [] w1 w5 := (U3.after u4).fresh u5 (by intro k hk; simp at hk; omega)
  have hs5 := hs4.upd u5 (by intro k hk; simp; rintro rfl; exact qF hk)
  have hbr := hb1.upd U5 (by simp)
  refine St9 hbr rfl (by simp [Value.oneCell']) fun w6 u6 hb6 => ?_
  simp only [NN_some, addN, drw_cell, drw_heap, exS, exI, exB, exP, exM, exStr, exV, a0, a1, a2, a3, a4, a5, a6, a7, a8, a9, a10, a11, a12, a13, maxI_eq, Nat.zero_add, Nat.add_zero, Nat.mul_one, Option.isNone_some, Option.isNone_none, hb6.cell]
  have U6 : Upd [] w w6 := (u1.after U5).fresh u6 (by intro k hk; simp at hk; omega)
  refine hK p n c F w6 (hs5.upd u6 ?_) (h.keep U6) U6 ?_
  · intro k hk; simp; rintro rfl
    have := nF _ hk; have := hb1.lt; have := U3.size; omega
  · intro k hk
    have := nF _ hk; have := U3.size; have := u1.size; omega

theorem Choice_no {i : Int} {K : Int → Option Addr → Nat → Nat → Int → Int → Int → Int → Int → Int → Int → Bool → World → Prop} (h : Fr w d) (h1 : i < 0 ∨ d.l.length ≤ i)
    (hK : ∀ w', Fr w' d → Upd [] w w' → K 0 none 0 0 0 0 0 0 0 0 0 false w') : C_frame_Stack_Choice d.a i w K := by
  apply C_frame_Stack_Choice.of
  unfold F_frame_Stack_Choice
  have hn := h.len
  refine New_rule fun r w1 hr u1 hb1 => ?_
  have f1 := h.keep u1
  refine made_ok f1 (ifF rfl (ifC (fun hc => ?_) (fun hc => ?_)))
  · unfold F_frame_Stack_Choice_k1
    refine St9 hb1 rfl (by simp [Value.oneCell']) fun w6 u6 hb6 => ?_
    simp only [NN_some, addN, drw_cell, drw_heap, exS, exI, exB, exP, exM, exStr, exV, a0, a1, a2, a3, a4, a5, a6, a7, a8, a9, a10, a11, a12, a13, maxI_eq, Nat.zero_add, Nat.add_zero, Nat.mul_one, Option.isNone_some, Option.isNone_none, hb6.cell]
    have U6 : Upd [] w w6 := u1.fresh u6 (by intro k hk; simp at hk; omega)
    exact hK w6 (h.keep U6) U6
  · simp at hc
    have hL1 : w1.cell? ⟨d.b, 2, none⟩ = some (.slice d.p d.n d.c) := by rw [f1.blk.cell]; rfl
    simp only [FrD.a, NN_some, addN, Nat.zero_add, Nat.add_zero, hL1, exS]
    refine ifT (by simp; omega) ?_
    refine St9n hb1 rfl (by simp [Value.oneCell']) fun w6 u6 hb6 => ?_
    simp only [NN_some, addN, drw_cell, drw_heap, exS, exI, exB, exP, exM, exStr, exV, a0, a1, a2, a3, a4, a5, a6, a7, a8, a9, a10, a11, a12, a13, maxI_eq, Nat.zero_add, Nat.add_zero, Nat.mul_one, Option.isNone_some, Option.isNone_none, hb6.cell]
    have U6 : Upd [] w w6 := u1.fresh u6 (by intro k hk; simp at hk; omega)
    exact hK w6 (h.keep U6) U6

theorem Last_ok {K : Int → Option Addr → Nat → Nat → Int → Int → Int → Int → Int → Int → Int → Bool → World → Prop} (h : Fr w d) (hl : d.l.length < 2 ^ 40) (h1 : 0 < d.l.length)
    (hA : (d.l[d.l.length - 1]'(by omega)).2.args.length < 2 ^ 40)
    (hK : ∀ p n c F w', SlAt w' 1 p n c ((d.l[d.l.length - 1]'(by omega)).2.args.map (.int .u64)) F → Fr w' d → Upd [] w w' → Since F w → K (d.l[d.l.length - 1]'(by omega)).2.kind p n c (d.l[d.l.length - 1]'(by omega)).2.c2 (d.l[d.l.length - 1]'(by omega)).2.c3 (d.l[d.l.length - 1]'(by omega)).2.c4 (d.l[d.l.length - 1]'(by omega)).2.c5 (d.l[d.l.length - 1]'(by omega)).2.c6 (d.l[d.l.length - 1]'(by omega)).2.env (d.l[d.l.length - 1]'(by omega)).2.top true w') :
    C_frame_Stack_Last d.a w K := by
  apply C_frame_Stack_Last.of
  unfold F_frame_Stack_Last
  refine New_rule fun r w1 hr u1 hb1 => ?_
  have f1 := h.keep u1
  refine Depth_ok f1 ?_
  rw [i64id (by omega) (by omega)]
  have e : ((d.l.length : Int) - 1).toNat = d.l.length - 1 := by omega
  have hg : ∀ hh, d.l[((d.l.length : Int) - 1).toNat]'hh = d.l[d.l.length - 1]'(by omega) := by
    intro hh; congr 1
  refine Choice_ok f1 (by omega) (by omega) (by rw [hg]; exact hA) fun p n c F w2 hs2 f2 u2 nF => ?_
  rw [hg] at hs2
  simp only [hg]
  have hb2 := hb1.upd u2 (by simp)
  refine St9 hb2 rfl (by simp [Value.oneCell']) fun w6 u6 hb6 => ?_
  simp only [NN_some, addN, drw_cell, drw_heap, exS, exI, exB, exP, exM, exStr, exV, a0, a1, a2, a3, a4, a5, a6, a7, a8, a9, a10, a11, a12, a13, maxI_eq, Nat.zero_add, Nat.add_zero, Nat.mul_one, Option.isNone_some, Option.isNone_none, hb6.cell]
  have U6 : Upd [] w w6 := (u1.after u2).fresh u6 (by intro k hk; simp at hk; omega)
  refine hK p n c F w6 (hs2.upd u6 ?_) (h.keep U6) U6 ?_
  · intro k hk; simp; rintro rfl
    have := nF _ hk; have := hb1.lt; omega
  · intro k hk
    have := nF _ hk; have := u1.size; omega

theorem Last_no {K : Int → Option Addr → Nat → Nat → Int → Int → Int → Int → Int → Int → Int → Bool → World → Prop} (h : Fr w d) (h1 : d.l.length = 0)
    (hK : ∀ w', Fr w' d → Upd [] w w' → K 0 none 0 0 0 0 0 0 0 0 0 false w') : C_frame_Stack_Last d.a w K := by
  apply C_frame_Stack_Last.of
  unfold F_frame_Stack_Last
  refine New_rule fun r w1 hr u1 hb1 => ?_
  have f1 := h.keep u1
  refine Depth_ok f1 ?_
  rw [i64id (by omega) (by omega)]
  refine Choice_no f1 (by omega) fun w2 f2 u2 => ?_
  have hb2 := hb1.upd u2 (by simp)
  refine St9 hb2 rfl (by simp [Value.oneCell']) fun w6 u6 hb6 => ?_
  simp only [NN_some, addN, drw_cell, drw_heap, exS, exI, exB, exP, exM, exStr, exV, a0, a1, a2, a3, a4, a5, a6, a7, a8, a9, a10, a11, a12, a13, maxI_eq, Nat.zero_add, Nat.add_zero, Nat.mul_one, Option.isNone_some, Option.isNone_none, hb6.cell]
  have U6 : Upd [] w w6 := (u1.after u2).fresh u6 (by intro k hk; simp at hk; omega)
  exact hK w6 (h.keep U6) U6

end

end Go.Proofs.Ytdmjbkpibgfeiaa
