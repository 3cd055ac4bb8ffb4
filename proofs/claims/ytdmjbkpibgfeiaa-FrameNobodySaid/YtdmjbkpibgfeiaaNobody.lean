/- A nil stack: every call of it; the law. -/
import Derived.Test.YtdmjbkpibgfeiaaLives
namespace Go.Proofs.Ytdmjbkpibgfeiaa
open Go Go.D Go.Proofs
set_option linter.unusedSimpArgs false
set_option linter.unusedVariables false
set_option maxRecDepth 8000

section
variable {w : World}

theorem Dealloc_nil {K : Int → Int → Int → World → Prop} (hK : ∀ w', Upd [] w w' → K 0 0 6 w') : C_frame_Stack_Dealloc none w K := by
  apply C_frame_Stack_Dealloc.of
  unfold F_frame_Stack_Dealloc
  refine New_rule fun r w1 hr u1 hb1 => made_no (ifT rfl ?_)
  simp only [NN_some, addN, drw_cell, drw_heap, exS, exI, exB, exP, exM, exStr, exV, a0, a1, a2, a3, a4, a5, a6, a7, a8, a9, a10, a11, a12, a13, maxI_eq, Nat.zero_add, Nat.add_zero, Nat.mul_one, Option.isNone_some, Option.isNone_none]
  refine St_acc (Upd.refl _ _) hb1 (by simp) rfl fun w4 u4 hb4 => St_acc u4 hb4 (by simp) rfl fun w5 u5 hb5 => ?_
  simp at hb5
  simp only [NN_some, addN, drw_cell, drw_heap, exS, exI, exB, exP, exM, exStr, exV, a0, a1, a2, a3, a4, a5, a6, a7, a8, a9, a10, a11, a12, a13, maxI_eq, Nat.zero_add, Nat.add_zero, Nat.mul_one, Option.isNone_some, Option.isNone_none, hb5.cell]
  exact hK w5 (u1.fresh u5 (by intro k hk; simp at hk; omega))

theorem slot_nil {i : Int} {K : Int → Int → World → Prop} (hK : K 0 6 w) : C_frame_Stack_slot none i w K := by
  apply C_frame_Stack_slot.of
  unfold F_frame_Stack_slot
  exact made_no (ifT rfl hK)

theorem Get_nil {i : Int} {K : Int → Int → World → Prop} (hK : K 0 6 w) : C_frame_Stack_Get none i w K := by
  apply C_frame_Stack_Get.of
  unfold F_frame_Stack_Get
  exact slot_nil (ifT rfl hK)

theorem Set_nil {i x : Int} {K : Int → World → Prop} (hK : K 6 w) : C_frame_Stack_Set none i x w K := by
  apply C_frame_Stack_Set.of
  unfold F_frame_Stack_Set
  exact slot_nil (ifT rfl hK)

theorem Choice_nil {i : Int} {K : Int → Option Addr → Nat → Nat → Int → Int → Int → Int → Int → Int → Int → Bool → World → Prop} (hK : ∀ w', Upd [] w w' → K 0 none 0 0 0 0 0 0 0 0 0 false w') : C_frame_Stack_Choice none i w K := by
  apply C_frame_Stack_Choice.of
  unfold F_frame_Stack_Choice F_frame_Stack_Choice_k1
  refine New_rule fun r w1 hr u1 hb1 => made_no (ifT rfl ?_)
  refine St9 hb1 rfl (by simp [Value.oneCell']) fun w6 u6 hb6 => ?_
  simp only [NN_some, addN, drw_cell, drw_heap, exS, exI, exB, exP, exM, exStr, exV, a0, a1, a2, a3, a4, a5, a6, a7, a8, a9, a10, a11, a12, a13, maxI_eq, Nat.zero_add, Nat.add_zero, Nat.mul_one, Option.isNone_some, Option.isNone_none, hb6.cell]
  exact hK w6 (u1.fresh u6 (by intro k hk; simp at hk; omega))

theorem Depth_nil {K : Int → World → Prop} (hK : K 0 w) : C_frame_Stack_Depth none w K := by
  apply C_frame_Stack_Depth.of
  unfold F_frame_Stack_Depth
  exact made_no (ifT rfl hK)

theorem Last_nil {K : Int → Option Addr → Nat → Nat → Int → Int → Int → Int → Int → Int → Int → Bool → World → Prop} (hK : ∀ w', Upd [] w w' → K 0 none 0 0 0 0 0 0 0 0 0 false w') : C_frame_Stack_Last none w K := by
  apply C_frame_Stack_Last.of
  unfold F_frame_Stack_Last
  refine New_rule fun r w1 hr u1 hb1 => Depth_nil (Choice_nil fun w2 u2 => ?_)
  refine St9 (hb1.upd u2 (by simp)) rfl (by simp [Value.oneCell']) fun w6 u6 hb6 => ?_
  simp only [NN_some, addN, drw_cell, drw_heap, exS, exI, exB, exP, exM, exStr, exV, a0, a1, a2, a3, a4, a5, a6, a7, a8, a9, a10, a11, a12, a13, maxI_eq, Nat.zero_add, Nat.add_zero, Nat.mul_one, Option.isNone_some, Option.isNone_none, hb6.cell]
  exact hK w6 ((u1.after u2).fresh u6 (by intro k hk; simp at hk; omega))

theorem Env_nil {K : Int → World → Prop} (hK : K (-1) w) : C_frame_Stack_Env none w K := by
  apply C_frame_Stack_Env.of
  unfold F_frame_Stack_Env
  exact made_no (ifT rfl hK)

theorem Slots_nil {K : Int → World → Prop} (hK : K 0 w) : C_frame_Stack_Slots none w K := by
  apply C_frame_Stack_Slots.of
  unfold F_frame_Stack_Slots
  exact Env_nil (ifT rfl hK)

theorem Trim_nil {n : Int} {K : Bool → World → Prop} (hK : K false w) : C_frame_Stack_Trim none n w K := by
  apply C_frame_Stack_Trim.of
  unfold F_frame_Stack_Trim F_frame_Stack_Trim_k1
  refine Env_nil ?_
  apply C_frame_Stack_kept2.of
  unfold F_frame_Stack_kept2
  exact made_no (ifT rfl (ifT rfl hK))

theorem Alloc_nil {n a b : Int} {K : Int → World → Prop} (hK : ∀ w', Upd [] w w' → K 6 w') : C_frame_Stack_Alloc none n a b w K := by
  apply C_frame_Stack_Alloc.of
  unfold F_frame_Stack_Alloc
  exact New_rule fun r w1 hr u1 hb1 => made_no (ifT rfl (hK w1 u1))

theorem Push_nil {c0 c2 c3 c4 c5 c6 c7 c8 : Int} {p : Option Addr} {n c : Nat} {K : Int → World → Prop} (hK : ∀ w', Upd [] w w' → K 6 w') : C_frame_Stack_Push none c0 p n c c2 c3 c4 c5 c6 c7 c8 w K := by
  apply C_frame_Stack_Push.of
  unfold F_frame_Stack_Push
  exact New_rule fun r w1 hr u1 hb1 => made_no (ifT rfl (hK w1 u1))

theorem last_nil {K : Option Addr → Int → World → Prop} (hK : K none 6 w) : C_frame_Stack_last none w K := by
  apply C_frame_Stack_last.of
  unfold F_frame_Stack_last
  exact made_no (ifT rfl hK)

theorem Turn_nil {n : Int} {K : Int → World → Prop} (hK : K 6 w) : C_frame_Stack_Turn none n w K := by
  apply C_frame_Stack_Turn.of
  unfold F_frame_Stack_Turn F_frame_Stack_Turn_k1
  exact last_nil (ifF rfl hK)

theorem Drop_nil {K : Int → World → Prop} (hK : K 6 w) : C_frame_Stack_Drop none w K := by
  apply C_frame_Stack_Drop.of
  unfold F_frame_Stack_Drop F_frame_Stack_Drop_k1
  exact last_nil (ifF rfl hK)

theorem Restore_nil {K : Int → World → Prop} (hK : K 6 w) : C_frame_Stack_Restore none w K := by
  apply C_frame_Stack_Restore.of
  unfold F_frame_Stack_Restore F_frame_Stack_Restore_k1
  exact last_nil (ifF rfl hK)

theorem Chain_nil {b : Int} {K : Option Addr → Nat → Nat → World → Prop} (hK : ∀ w', Upd [] w w' → K none 0 0 w') : C_frame_Stack_Chain none b w K := by
  apply C_frame_Stack_Chain.of
  unfold F_frame_Stack_Chain
  exact New_rule fun r w1 hr u1 hb1 => made_no (ifT rfl (hK w1 u1))

theorem Change_nil {v : Value} {K : World → Prop} (hK : ∀ w', Upd [] w w' → K w') : C_frame_Stack_Change none v w K := by
  apply C_frame_Stack_Change.of
  unfold F_frame_Stack_Change
  refine New_rule fun r w1 hr u1 hb1 => New_rule fun r1 w2 hr1 u2 hb2 => ?_
  simp only [NN_some, addN, drw_cell, drw_heap, exS, exI, exB, exP, exM, exStr, exV, a0, a1, a2, a3, a4, a5, a6, a7, a8, a9, a10, a11, a12, a13, maxI_eq, Nat.zero_add, Nat.add_zero, Nat.mul_one, Option.isNone_some, Option.isNone_none, (hb1.upd u2 (by simp)).cell]
  exact made_no (ifT rfl (hK w2 (u1.after u2)))

end

/-- The law. -/
theorem FrameNobody_law {w : World} {o0 o1 o2 o3 o4 o5 o7 o8 o9 o10 o11 o12 o13 : Int} {p : Option Addr} {n c : Nat} : C_law22_FrameNobody o0 o1 o2 o3 o4 o5 p n c o7 o8 o9 o10 o11 o12 o13 w fun r w' => r = true ∧ Upd [] w w' := by
  apply C_law22_FrameNobody.of
  unfold F_law22_FrameNobody
  refine New_rule fun r w1 hr u1 hb1 => Dealloc_nil fun w2 u2 => New_rule fun q w3 hq u3 hb3 => ?_
  simp only [NN_some, addN, drw_cell, drw_heap, exS, exI, exB, exP, exM, exStr, exV, a0, a1, a2, a3, a4, a5, a6, a7, a8, a9, a10, a11, a12, a13, maxI_eq, Nat.zero_add, Nat.add_zero, Nat.mul_one, Option.isNone_some, Option.isNone_none]
  refine St_acc (Upd.refl _ _) hb3 (by simp) rfl fun w4 u4 hb4 => St_acc u4 hb4 (by simp) rfl fun w5 u5 hb5 => ?_
  have U5 : Upd [] w1 w5 := (u2.after u3).fresh u5 (by intro k hk; simp at hk; have := u2.size; omega)
  have hr5 := hb1.upd U5 (by simp)
  simp only [NN_some, addN, drw_cell, drw_heap, exS, exI, exB, exP, exM, exStr, exV, a0, a1, a2, a3, a4, a5, a6, a7, a8, a9, a10, a11, a12, a13, maxI_eq, Nat.zero_add, Nat.add_zero, Nat.mul_one, Option.isNone_some, Option.isNone_none, Nat.reduceAdd, hr5.cell]
  refine Get_nil (Last_nil fun w6 u6 => New_rule fun q2 w7 hq2 u7 hb7 => St9n hb7 rfl (by simp [Value.oneCell']) fun w8 u8 hb8 => ?_)
  have U8 : Upd [] w1 w8 := (U5.after (u6.after u7)).fresh u8 (by intro k hk; simp at hk; have := u6.size; have := U5.size; omega)
  have hr8 := hb1.upd U8 (by simp)
  simp only [NN_some, addN, drw_cell, drw_heap, exS, exI, exB, exP, exM, exStr, exV, a0, a1, a2, a3, a4, a5, a6, a7, a8, a9, a10, a11, a12, a13, maxI_eq, Nat.zero_add, Nat.add_zero, Nat.mul_one, Option.isNone_some, Option.isNone_none, Nat.reduceAdd, hr8.cell]
  refine Choice_nil fun w9 u9 => New_rule fun q3 wa hq3 ua hba => St9n hba rfl (by simp [Value.oneCell']) fun wb ub hbb => ?_
  have Ub : Upd [] w1 wb := (U8.after (u9.after ua)).fresh ub (by intro k hk; simp at hk; have := u9.size; have := U8.size; omega)
  refine Change_nil fun wc uc => lives_ok fun wd ud => ifT rfl (ifT rfl (ifT rfl (ifT rfl (ifT rfl ?_))))
  have Ud := (Ub.after uc).after ud
  have hrd := hb1.upd Ud (by simp)
  simp only [NN_some, addN, drw_cell, drw_heap, exS, exI, exB, exP, exM, exStr, exV, a0, a1, a2, a3, a4, a5, a6, a7, a8, a9, a10, a11, a12, a13, maxI_eq, Nat.zero_add, Nat.add_zero, Nat.mul_one, Option.isNone_some, Option.isNone_none, Nat.reduceAdd, hrd.cell]
  refine Alloc_nil fun we ue => ifT rfl ?_
  have Ue := Ud.after ue
  have hre := hb1.upd Ue (by simp)
  simp only [NN_some, addN, drw_cell, drw_heap, exS, exI, exB, exP, exM, exStr, exV, a0, a1, a2, a3, a4, a5, a6, a7, a8, a9, a10, a11, a12, a13, maxI_eq, Nat.zero_add, Nat.add_zero, Nat.mul_one, Option.isNone_some, Option.isNone_none, Nat.reduceAdd, hre.cell]
  refine Set_nil (ifT rfl ?_)
  simp only [NN_some, addN, drw_cell, drw_heap, exS, exI, exB, exP, exM, exStr, exV, a0, a1, a2, a3, a4, a5, a6, a7, a8, a9, a10, a11, a12, a13, maxI_eq, Nat.zero_add, Nat.add_zero, Nat.mul_one, Option.isNone_some, Option.isNone_none, Nat.reduceAdd, hre.cell]
  refine Trim_nil (ifT rfl (Slots_nil (ifT rfl (Env_nil (ifT rfl ?_)))))
  simp only [NN_some, addN, drw_cell, drw_heap, exS, exI, exB, exP, exM, exStr, exV, a0, a1, a2, a3, a4, a5, a6, a7, a8, a9, a10, a11, a12, a13, maxI_eq, Nat.zero_add, Nat.add_zero, Nat.mul_one, Option.isNone_some, Option.isNone_none, Nat.reduceAdd, hre.cell]
  refine Push_nil fun wf uf => ifT rfl ?_
  have Uf := Ue.after uf
  have hrf := hb1.upd Uf (by simp)
  simp only [NN_some, addN, drw_cell, drw_heap, exS, exI, exB, exP, exM, exStr, exV, a0, a1, a2, a3, a4, a5, a6, a7, a8, a9, a10, a11, a12, a13, maxI_eq, Nat.zero_add, Nat.add_zero, Nat.mul_one, Option.isNone_some, Option.isNone_none, Nat.reduceAdd, hrf.cell]
  refine Turn_nil (ifT rfl (Drop_nil (ifT rfl (Restore_nil (ifT rfl (Depth_nil (ifT rfl ?_)))))))
  simp only [NN_some, addN, drw_cell, drw_heap, exS, exI, exB, exP, exM, exStr, exV, a0, a1, a2, a3, a4, a5, a6, a7, a8, a9, a10, a11, a12, a13, maxI_eq, Nat.zero_add, Nat.add_zero, Nat.mul_one, Option.isNone_some, Option.isNone_none, Nat.reduceAdd, hrf.cell]
  exact Chain_nil fun wg ug => ⟨rfl, (u1.after Uf).after ug⟩

end Go.Proofs.Ytdmjbkpibgfeiaa
