/- A nil pool: the law. -/
import Derived.Test.YtcgnligpjfhjlaaLives
namespace Go.Proofs.Ytcgnligpjfhjlaa
open Go Go.D Go.Proofs
set_option linter.unusedSimpArgs false
set_option linter.unusedVariables false
set_option maxRecDepth 8000

theorem Take_nil {w : World} {n : Int} {K : Int → Int → World → Prop} (hK : ∀ w', Upd [] w w' → K 0 6 w') : C_pool_Pool_Take none n w K := by
  apply C_pool_Pool_Take.of
  unfold F_pool_Pool_Take
  exact New_rule fun r w1 hr u1 hb1 => made_no (ifT rfl (hK w1 u1))

theorem Seg_nil {w : World} {t : Int} {K : Int → World → Prop} (hK : K (-1) w) : C_pool_Pool_Segment none t w K := by
  apply C_pool_Pool_Segment.of
  unfold F_pool_Pool_Segment F_pool_Pool_Segment_k1
  exact made_no (ifT rfl hK)

theorem PoolNobody_law {w : World} {o0 o1 o2 : Int} : C_law03_PoolNobody o0 o1 o2 w fun r w' => r = true ∧ Upd [] w w' := by
  apply C_law03_PoolNobody.of
  unfold F_law03_PoolNobody F_law03_PoolNobody_k1
  refine New_rule fun r w1 hr u1 hb1 => ?_
  simp only [NN_some, addN, drw_cell, drw_heap, exS, exI, exB, exP, exM, exStr, exV, a0, a1, a2, a3, a4, a5, a6, a7, a8, a9, a10, a11, a12, a13, maxI_eq, Nat.zero_add, Nat.add_zero, Nat.mul_one, Option.isNone_some, Option.isNone_none, Nat.reduceAdd, hb1.cell]
  refine Take_nil fun w2 u2 => lives_ok fun w3 u3 => ifT rfl (ifT rfl (ifT rfl ?_))
  have hb3 := (hb1.upd u2 (by simp)).upd u3 (by simp)
  have U3 := (u1.after u2).after u3
  simp only [NN_some, addN, drw_cell, drw_heap, exS, exI, exB, exP, exM, exStr, exV, a0, a1, a2, a3, a4, a5, a6, a7, a8, a9, a10, a11, a12, a13, maxI_eq, Nat.zero_add, Nat.add_zero, Nat.mul_one, Option.isNone_some, Option.isNone_none, Nat.reduceAdd, hb3.cell]
  apply C_pool_Pool_Give.of
  unfold F_pool_Pool_Give
  refine made_no (ifT rfl (ifT rfl ?_))
  apply C_pool_Pool_Open.of
  unfold F_pool_Pool_Open
  refine made_no (ifT rfl (ifT rfl ?_))
  apply C_pool_Pool_Close.of
  unfold F_pool_Pool_Close
  refine made_no (ifT rfl (ifT rfl ?_))
  apply C_pool_Pool_Back.of
  unfold F_pool_Pool_Back
  refine made_no (ifT rfl (ifT rfl ?_))
  apply C_pool_Pool_Top.of
  unfold F_pool_Pool_Top
  refine made_no (ifT rfl (ifT rfl ?_))
  apply C_pool_Pool_Limit.of
  unfold F_pool_Pool_Limit
  refine made_no (ifT rfl (ifT rfl ?_))
  apply C_pool_Pool_Starts.of
  unfold F_pool_Pool_Starts
  refine made_no (ifT rfl (ifT rfl ?_))
  simp only [NN_some, addN, drw_cell, drw_heap, exS, exI, exB, exP, exM, exStr, exV, a0, a1, a2, a3, a4, a5, a6, a7, a8, a9, a10, a11, a12, a13, maxI_eq, Nat.zero_add, Nat.add_zero, Nat.mul_one, Option.isNone_some, Option.isNone_none, Nat.reduceAdd, hb3.cell]
  apply C_pool_Pool_Runs.of
  unfold F_pool_Pool_Runs F_pool_Pool_Runs_k1
  refine made_no (ifT rfl (ifT rfl ?_))
  simp only [NN_some, addN, drw_cell, drw_heap, exS, exI, exB, exP, exM, exStr, exV, a0, a1, a2, a3, a4, a5, a6, a7, a8, a9, a10, a11, a12, a13, maxI_eq, Nat.zero_add, Nat.add_zero, Nat.mul_one, Option.isNone_some, Option.isNone_none, Nat.reduceAdd, hb3.cell]
  apply C_pool_Pool_Free.of
  unfold F_pool_Pool_Free
  refine Seg_nil (ifF rfl (ifT rfl ?_))
  apply C_pool_Pool_Left.of
  unfold F_pool_Pool_Left
  refine made_no (ifT rfl (ifT rfl ?_))
  apply C_pool_Pool_Sweep.of
  unfold F_pool_Pool_Sweep
  refine made_no (ifT rfl (ifT rfl ?_))
  simp only [NN_some, addN, drw_cell, drw_heap, exS, exI, exB, exP, exM, exStr, exV, a0, a1, a2, a3, a4, a5, a6, a7, a8, a9, a10, a11, a12, a13, maxI_eq, Nat.zero_add, Nat.add_zero, Nat.mul_one, Option.isNone_some, Option.isNone_none, Nat.reduceAdd, hb3.cell]
  exact Seg_nil ⟨rfl, U3⟩

end Go.Proofs.Ytcgnligpjfhjlaa
