/- A nil table; the keys: the laws. -/
import Derived.Test.YtpkfckfdehaamaaLives
namespace Go.Proofs.Ytpkfckfdehaamaa
open Go Go.D Go.Proofs
set_option linter.unusedSimpArgs false
set_option linter.unusedVariables false
set_option maxRecDepth 8000

section
variable {w : World}

theorem Next_nil {id k0 k2 : Int} {k1 : ByteArray} {K : Int → Bool → World → Prop} (hK : ∀ w', Upd [] w w' → K 0 false w') : C_index_Table_Next none id k0 k1 k2 w K := by
  apply C_index_Table_Next.of
  unfold F_index_Table_Next
  exact New_rule fun r w1 hr u1 hb1 => made_no (ifT rfl (hK w1 u1))

theorem Head_nil {k0 k2 : Int} {k1 : ByteArray} {K : Int → Bool → World → Prop} (hK : ∀ w', Upd [] w w' → K 0 false w') : C_index_Table_Head none k0 k1 k2 w K := by
  apply C_index_Table_Head.of
  unfold F_index_Table_Head
  exact New_rule fun r w1 hr u1 hb1 => made_no (ifT rfl (hK w1 u1))

theorem Add_nil {id k0 k2 : Int} {k1 : ByteArray} {front : Bool} {K : Int → World → Prop} (hK : ∀ w', Upd [] w w' → K 6 w') : C_index_Table_Add none id k0 k1 k2 front w K := by
  apply C_index_Table_Add.of
  unfold F_index_Table_Add
  exact New_rule fun r w1 hr u1 hb1 => made_no (ifT rfl (hK w1 u1))

theorem Drop_nil {id : Int} {K : Int → World → Prop} (hK : K 6 w) : C_index_Table_Drop none id w K := by
  apply C_index_Table_Drop.of
  unfold F_index_Table_Drop
  exact made_no (ifT rfl hK)

theorem Len_nil {K : Int → World → Prop} (hK : K 0 w) : C_index_Table_Len none w K := by
  apply C_index_Table_Len.of
  unfold F_index_Table_Len
  exact made_no (ifT rfl hK)

theorem All_nil {k0 k2 : Int} {k1 : ByteArray} {K : Option Addr → Nat → Nat → World → Prop} (hK : ∀ w', Upd [] w w' → K none 0 0 w') : C_index_Table_All none k0 k1 k2 w K := by
  apply C_index_Table_All.of
  unfold F_index_Table_All F_index_Table_All_L1
  refine New_rule fun r w1 hr u1 hb1 => ?_
  simp only [NN_some, addN, drw_cell, drw_heap, exS, exI, exB, exP, exM, exStr, exV, a0, a1, a2, a3, a4, a5, a6, a7, a8, a9, a10, a11, a12, a13, maxI_eq, Nat.zero_add, Nat.add_zero, Nat.mul_one, Option.isNone_some, Option.isNone_none, hb1.cell]
  refine Head_nil fun w2 u2 => ?_
  refine ⟨fun s v => s = ⟨none, 0, 0, 0, false⟩ ∧ Upd [] w v, fun _ _ => 0, ⟨rfl, u1.after u2⟩, ?_⟩
  rintro s v ⟨rfl, u⟩
  unfold B_index_Table_All_L1
  exact ifF rfl (hK v u)

end

theorem IndexNobody_law {w : World} {o0 o1 o2 o4 : Int} {o3 : ByteArray} {o5 : Bool} : C_law18_IndexNobody o0 o1 o2 o3 o4 o5 w fun r w' => r = true ∧ Upd [] w w' := by
  apply C_law18_IndexNobody.of
  unfold F_law18_IndexNobody
  refine New_rule fun r w1 hr u1 hb1 => ?_
  simp only [NN_some, addN, drw_cell, drw_heap, exS, exI, exB, exP, exM, exStr, exV, a0, a1, a2, a3, a4, a5, a6, a7, a8, a9, a10, a11, a12, a13, maxI_eq, Nat.zero_add, Nat.add_zero, Nat.mul_one, Option.isNone_some, Option.isNone_none, Nat.reduceAdd, hb1.cell]
  refine Next_nil fun w2 u2 => ?_
  have hb2 := hb1.upd u2 (by simp)
  simp only [NN_some, addN, drw_cell, drw_heap, exS, exI, exB, exP, exM, exStr, exV, a0, a1, a2, a3, a4, a5, a6, a7, a8, a9, a10, a11, a12, a13, maxI_eq, Nat.zero_add, Nat.add_zero, Nat.mul_one, Option.isNone_some, Option.isNone_none, Nat.reduceAdd, hb2.cell]
  refine Head_nil fun w3 u3 => lives_ok fun w4 u4 => ifT rfl ?_
  have hb4 := (hb2.upd u3 (by simp)).upd u4 (by simp)
  simp only [NN_some, addN, drw_cell, drw_heap, exS, exI, exB, exP, exM, exStr, exV, a0, a1, a2, a3, a4, a5, a6, a7, a8, a9, a10, a11, a12, a13, maxI_eq, Nat.zero_add, Nat.add_zero, Nat.mul_one, Option.isNone_some, Option.isNone_none, Nat.reduceAdd, hb4.cell]
  refine Add_nil fun w5 u5 => ifT rfl ?_
  have hb5 := hb4.upd u5 (by simp)
  simp only [NN_some, addN, drw_cell, drw_heap, exS, exI, exB, exP, exM, exStr, exV, a0, a1, a2, a3, a4, a5, a6, a7, a8, a9, a10, a11, a12, a13, maxI_eq, Nat.zero_add, Nat.add_zero, Nat.mul_one, Option.isNone_some, Option.isNone_none, Nat.reduceAdd, hb5.cell]
  refine Drop_nil (ifT rfl (ifT rfl (ifT rfl (ifT rfl (ifT rfl ?_)))))
  simp only [NN_some, addN, drw_cell, drw_heap, exS, exI, exB, exP, exM, exStr, exV, a0, a1, a2, a3, a4, a5, a6, a7, a8, a9, a10, a11, a12, a13, maxI_eq, Nat.zero_add, Nat.add_zero, Nat.mul_one, Option.isNone_some, Option.isNone_none, Nat.reduceAdd, hb5.cell]
  exact All_nil fun w6 u6 => ifT rfl (Len_nil ⟨rfl, ((((u1.after u2).after u3).after u4).after u5).after u6⟩)

theorem IndexKeys_law {w : World} {t0 t1 ka0 ka2 b0 b2 : Int} {t2 ka1 b1 : ByteArray} {p : Option Addr} {n c : Nat} {k : Key} (hh : HeadT w p n k) : C_law18_IndexKeys t0 t1 t2 p n c ka0 ka1 ka2 b0 b1 b2 w fun r w' => r = true ∧ Upd [] w w' := by
  apply C_law18_IndexKeys.of
  unfold F_law18_IndexKeys
  refine New_rule fun r w1 hr u1 hb1 => New_rule fun r1 w2 hr1 u2 hb2 => New_rule fun r2 w3 hr2 u3 hb3 => lives_ok fun w4 u4 => ifT rfl ?_
  have e1 := (((hb1.upd u2 (by simp)).upd u3 (by simp)).drw).upd u4 (by simp)
  have e2 := ((hb2.upd u3 (by simp)).drw).upd u4 (by simp)
  have e3 := hb3.drw.upd u4 (by simp)
  have U4 := (((u1.after u2).after u3).after (drw_upd w3)).after u4
  simp only [NN_some, addN, drw_cell, drw_heap, exS, exI, exB, exP, exM, exStr, exV, a0, a1, a2, a3, a4, a5, a6, a7, a8, a9, a10, a11, a12, a13, maxI_eq, Nat.zero_add, Nat.add_zero, Nat.mul_one, Option.isNone_some, Option.isNone_none, e1.cell]
  refine KeyOf_ok fun w5 u5 => ?_
  have f1 := e1.upd u5 (by simp)
  have f2 := e2.upd u5 (by simp)
  have f3 := e3.upd u5 (by simp)
  refine ⟨fun i hi => by simp [f1.cell], RKeyOf_ok fun w6 u6 => keyEq (ifT (by simp) ?_)⟩
  have g1 := f1.upd u6 (by simp)
  have g2 := f2.upd u6 (by simp)
  have g3 := f3.upd u6 (by simp)
  have U6 := (U4.after u5).after u6
  simp only [NN_some, addN, drw_cell, drw_heap, exS, exI, exB, exP, exM, exStr, exV, a0, a1, a2, a3, a4, a5, a6, a7, a8, a9, a10, a11, a12, a13, maxI_eq, Nat.zero_add, Nat.add_zero, Nat.mul_one, Option.isNone_some, Option.isNone_none, g1.cell]
  refine First_ok (hh.keep U6) fun w7 u7 => ?_
  have h1 := g1.upd u7 (by simp)
  have h2 := g2.upd u7 (by simp)
  have h3 := g3.upd u7 (by simp)
  refine ⟨fun i hi => by simp [h1.cell], RFirst_ok (hh.keep (U6.after u7)) fun w8 u8 => keyEq (ifT (by simp) ?_)⟩
  have i2 := h2.upd u8 (by simp)
  have i3 := h3.upd u8 (by simp)
  have U8 := (U6.after u7).after u8
  simp only [NN_some, addN, drw_cell, drw_heap, exS, exI, exB, exP, exM, exStr, exV, a0, a1, a2, a3, a4, a5, a6, a7, a8, a9, a10, a11, a12, a13, maxI_eq, Nat.zero_add, Nat.add_zero, Nat.mul_one, Option.isNone_some, Option.isNone_none, i2.cell, i3.cell]
  refine Meet_ok (k := (ka0, ka1, ka2)) (k' := (b0, b1, b2)) fun w9 u9 => ?_
  refine ⟨fun i hi => by simp [(i3.upd u9 (by simp)).cell], fun i hi => by simp [(i2.upd u9 (by simp)).cell], RMeet_ok (k := (ka0, ka1, ka2)) (k' := (b0, b1, b2)) fun wa ua => ?_⟩
  exact ⟨by simp, (U8.after u9).after ua⟩

end Go.Proofs.Ytpkfckfdehaamaa
