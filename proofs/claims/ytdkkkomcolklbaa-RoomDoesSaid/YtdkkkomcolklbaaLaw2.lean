/- The laws on a room's limit and on no room. -/
import Derived.Test.YtdkkkomcolklbaaLives
namespace Go.Proofs.Ytdkkkomcolklbaa
open Go Go.D Go.Proofs
set_option linter.unusedSimpArgs false
set_option linter.unusedVariables false

theorem minI_eq (x y : Int) : minI x y = min x y := by unfold minI; split <;> omega

theorem RoomFills_law {w : World} {limit n : Int} : C_law02_RoomFills limit n w fun r w' => r = true ∧ Upd [] w w' := by
  apply C_law02_RoomFills.of
  unfold F_law02_RoomFills F_law02_RoomFills_L1 F_law02_RoomFills_k1 F_law02_RoomFills_k2
  refine ifC (fun _ => lives_ok fun w1 u => ⟨rfl, u⟩) fun h1 => ifC (fun _ => lives_ok fun w1 u => ⟨rfl, u⟩) fun h2 => ifC (fun _ => lives_ok fun w1 u => ⟨rfl, u⟩) fun h3 => ifC (fun _ => lives_ok fun w1 u => ⟨rfl, u⟩) fun h4 => ?_
  simp at h1 h2 h3 h4
  refine New_ok (by omega) (by omega) fun m w1 F1 hr1 u1 n1 hm => lives_ok fun w2 u2 => ifF rfl (ifF rfl (ifF hm ?_))
  refine ⟨fun s v => 0 ≤ s.i ∧ s.i ≤ n ∧ ∃ L F, RoomAt v m L limit L.length F ∧ (L.length : Int) = min s.i limit ∧ Upd [] w v ∧ Since F w, fun s _ => (n - s.i).toNat, ⟨by simp, by simpa using h3, [], F1, by simpa using hr1.upd u2 (by intro k hk hx; cases hx), by simp; omega, u1.after u2, n1⟩, ?_⟩
  rintro ⟨i⟩ v ⟨hi0, hi1, L, F, hr, hl, hu, hF⟩
  simp only at hi0 hi1 hr hl ⊢
  unfold B_law02_RoomFills_L1 F_law02_RoomFills_k3
  dsimp only
  refine ifC (fun hc => ?_) (fun hc => ?_)
  · simp at hc
    refine ifC (fun hd => ?_) (fun hd => ?_)
    · simp at hd
      refine Push_full hr (by omega) fun v1 hr1 hu1 => ifF (by simp) ?_
      rw [i64id (by omega) (by omega)]
      exact ⟨⟨by omega, by omega, L, F, hr1, by omega, hu.after hu1, hF⟩, by simp; omega⟩
    · simp at hd
      refine Push_ok hr (by omega) (by omega) fun v1 F' hr1 hu1 hs1 => ifF (by simp) ?_
      rw [i64id (by omega) (by omega)]
      refine ⟨⟨by omega, by omega, L ++ [IntKind.u64.wrap i], F', ?_, by simp; omega, hu.fresh hu1 hF, hF.step hs1 hu.size⟩, by simp; omega⟩
      have e : max (L.length : Int) (L.length + 1) = ((L ++ [IntKind.u64.wrap i]).length : Int) := by simp; omega
      rw [← e]; exact hr1
  · simp at hc
    rw [minI_eq]
    exact Len_ok hr (ifT (by simp; omega) (Most_ok hr (Len_ok hr ⟨by simp, hu⟩)))

theorem RoomNobody_law {w : World} {o0 o1 o2 : Int} : C_law02_RoomNobody o0 o1 o2 w fun r w' => r = true ∧ Upd [] w w' := by
  apply C_law02_RoomNobody.of
  unfold F_law02_RoomNobody
  refine New_rule fun b w1 hb u1 hblk => ?_
  have nPop : ∀ {w : World} {K : Int → Int → World → Prop}, K 0 6 w → C_room_Room_Pop none w K := by
    intro w K hK
    apply C_room_Room_Pop.of
    unfold F_room_Room_Pop F_room_Room_Pop_k1
    apply C_room_Room_Len.of
    unfold F_room_Room_Len
    refine ifT rfl ?_
    apply C_room_Room_Get.of
    unfold F_room_Room_Get
    apply C_room_Room_has.of
    unfold F_room_Room_has
    exact ifT rfl (ifT rfl (ifF rfl hK))
  have nGet : ∀ {i : Int} {w : World} {K : Int → Int → World → Prop}, K 0 6 w → C_room_Room_Get none i w K := by
    intro i w K hK
    apply C_room_Room_Get.of
    unfold F_room_Room_Get
    apply C_room_Room_has.of
    unfold F_room_Room_has
    exact ifT rfl (ifT rfl hK)
  have nPush : ∀ {i : Int} {w : World} {K : Int → World → Prop}, K 6 w → C_room_Room_Push none i w K := by
    intro i w K hK
    apply C_room_Room_Push.of
    unfold F_room_Room_Push
    exact ifT rfl hK
  have nSet : ∀ {i x : Int} {w : World} {K : Int → World → Prop}, K 6 w → C_room_Room_Set none i x w K := by
    intro i x w K hK
    apply C_room_Room_Set.of
    unfold F_room_Room_Set
    apply C_room_Room_has.of
    unfold F_room_Room_has
    exact ifT rfl (ifT rfl hK)
  have nCut : ∀ {i : Int} {w : World} {K : Int → World → Prop}, K 6 w → C_room_Room_Cut none i w K := by
    intro i w K hK
    apply C_room_Room_Cut.of
    unfold F_room_Room_Cut
    exact ifT rfl hK
  have nGrow : ∀ {i : Int} {w : World} {K : Int → World → Prop}, K 6 w → C_room_Room_Grow none i w K := by
    intro i w K hK
    apply C_room_Room_Grow.of
    unfold F_room_Room_Grow
    exact ifT rfl hK
  refine nPop ?_
  simp only [NN_some, addN, drw_cell, drw_heap, exS, exI, exB, exP, exM, exStr, exV, a0, a1, a2, a3, a4, a5, a6, a7, maxI_eq, Nat.zero_add, Nat.add_zero, Nat.mul_one, Option.isNone_some, Option.isNone_none, hblk.cell]
  refine nGet (lives_ok fun w2 u2 => ?_)
  have hblk2 := hblk.upd u2 (by simp)
  have U2 := u1.after u2
  simp only [NN_some, addN, drw_cell, drw_heap, exS, exI, exB, exP, exM, exStr, exV, a0, a1, a2, a3, a4, a5, a6, a7, maxI_eq, Nat.zero_add, Nat.add_zero, Nat.mul_one, Option.isNone_some, Option.isNone_none, hblk.cell, hblk2.cell]
  refine ifT rfl (ifT rfl (ifT rfl (ifT rfl (ifT rfl (nPush (ifT rfl ?_))))))
  simp only [NN_some, addN, drw_cell, drw_heap, exS, exI, exB, exP, exM, exStr, exV, a0, a1, a2, a3, a4, a5, a6, a7, maxI_eq, Nat.zero_add, Nat.add_zero, Nat.mul_one, Option.isNone_some, Option.isNone_none, hblk.cell, hblk2.cell]
  refine nSet (ifT rfl ?_)
  simp only [NN_some, addN, drw_cell, drw_heap, exS, exI, exB, exP, exM, exStr, exV, a0, a1, a2, a3, a4, a5, a6, a7, maxI_eq, Nat.zero_add, Nat.add_zero, Nat.mul_one, Option.isNone_some, Option.isNone_none, hblk.cell, hblk2.cell]
  refine nCut (ifT rfl ?_)
  simp only [NN_some, addN, drw_cell, drw_heap, exS, exI, exB, exP, exM, exStr, exV, a0, a1, a2, a3, a4, a5, a6, a7, maxI_eq, Nat.zero_add, Nat.add_zero, Nat.mul_one, Option.isNone_some, Option.isNone_none, hblk.cell, hblk2.cell]
  refine nGrow (ifT rfl ?_)
  apply C_room_Room_Len.of
  unfold F_room_Room_Len
  refine ifT rfl (ifT rfl ?_)
  apply C_room_Room_Limit.of
  unfold F_room_Room_Limit
  refine ifT rfl (ifT rfl ?_)
  apply C_room_Room_Most.of
  unfold F_room_Room_Most
  refine ifT rfl (ifT rfl ?_)
  apply C_room_Room_Words.of
  unfold F_room_Room_Words
  refine ifT rfl (ifT rfl ?_)
  apply C_room_Room_Keep.of
  unfold F_room_Room_Keep
  refine New_rule fun b3 w3 hb3 u3 _ => ifT rfl ⟨rfl, U2.after u3⟩

end Go.Proofs.Ytdkkkomcolklbaa
