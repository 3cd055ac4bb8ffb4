/- The room and its plain twin: the rest of their functions. -/
import Derived.Test.YtdmjbkpibgfeiaaRoom
namespace Go.Proofs.Ytdmjbkpibgfeiaa
open Go Go.D Go.Proofs
set_option linter.unusedSimpArgs false
set_option linter.unusedVariables false
set_option maxRecDepth 8000

/-- The head of a room's words. -/
theorem cut_core {w : World} {b : Nat} {p : Option Addr} {n c k : Nat} {L : List Int} {lim most : Int} {G : List Nat} {K : World → Prop} (hb : Blk w b #[.slice p n c, .int .i64 lim, .int .i64 most]) (hs : SlAt w 1 p n c (L.map (.int .u64)) G) (hn : b ∉ G) (hk : k ≤ L.length)
    (hK : ∀ w', RoomAt w' (some ⟨b, 0, none⟩) (L.take k) lim most (b :: G) → Upd (b :: G) w w' → K w') : St w ⟨b, 0, none⟩ (.slice p k c) K := by
  have hln := len_n hs
  refine St_rule hb (by simp) rfl fun w1 hu hb1 => hK w1 ⟨b, p, k, c, G, rfl, by simpa using hb1, ?_, rfl, hn⟩ (hu.mono (by simp))
  have := hs.take (k := k) (by omega)
  rw [Nat.mul_one, ← List.map_take] at this
  exact this.upd hu (by intro x hx; simp; rintro rfl; exact hn hx)

/-- One word's store. -/
theorem set_core {w : World} {b : Nat} {p : Option Addr} {n c k : Nat} {L : List Int} {lim most x : Int} {G : List Nat} {K : World → Prop} (hb : Blk w b #[.slice p n c, .int .i64 lim, .int .i64 most]) (hs : SlAt w 1 p n c (L.map (.int .u64)) G) (hn : b ∉ G) {b' off : Nat} (hp : p = some ⟨b', off, none⟩) (hk : k < L.length)
    (hK : ∀ w', RoomAt w' (some ⟨b, 0, none⟩) (L.set k x) lim most (b :: G) → Upd (b :: G) w w' → K w') : St w ⟨b', off + k, none⟩ (.int .u64 x) K := by
  have hln := len_n hs
  refine St_elem hs hp (by omega) rfl fun w' hs' hu => hK w' ⟨b, p, n, c, G, rfl, hb.upd hu hn, by simpa [List.map_set] using hs', rfl, hn⟩ (hu.mono (by intro k hk; simp [hk]))

theorem Set_ok {w : World} {m : Option Addr} {L : List Int} {lim most i x : Int} {F : List Nat} {K : Int → World → Prop} (h : RoomAt w m L lim most F) (h0 : 0 ≤ i) (h1 : i < L.length)
    (hK : ∀ w', RoomAt w' m (L.set i.toNat x) lim most F → Upd F w w' → K 0 w') : C_room_Room_Set m i x w K := by
  apply C_room_Room_Set.of
  unfold F_room_Room_Set
  refine has_ok h ?_
  obtain ⟨b, p, n, c, G, rfl, hb, hs, rfl, hn⟩ := h
  have hln := len_n hs
  obtain ⟨b', off, rfl, hc⟩ := word_cell hs h0 h1
  rw [if_pos ⟨h0, h1⟩]
  simp only [NN_some, addN, drw_cell, drw_heap, exS, exI, exB, exP, exM, exStr, exV, a0, a1, a2, a3, a4, a5, a6, a7, a8, a9, a10, a11, a12, a13, maxI_eq, Nat.zero_add, Nat.add_zero, Nat.mul_one, Option.isNone_some, Option.isNone_none, hb.cell]
  exact ifF (by simp) ⟨h0, by omega, set_core hb hs hn rfl (by omega) fun w' hr hu => hK w' hr hu⟩

theorem Set_no {w : World} {m : Option Addr} {L : List Int} {lim most i x : Int} {F : List Nat} {K : Int → World → Prop} (h : RoomAt w m L lim most F) (h1 : ¬ (0 ≤ i ∧ i < L.length)) (hK : K 4 w) : C_room_Room_Set m i x w K := by
  apply C_room_Room_Set.of
  unfold F_room_Room_Set
  refine has_ok h ?_
  rw [if_neg h1]
  exact ifT (by simp) hK

theorem Grow_no {w : World} {m : Option Addr} {L : List Int} {lim most i : Int} {F : List Nat} {K : Int → World → Prop} (h : RoomAt w m L lim most F) (h1 : i < 0) (hK : K 1 w) : C_room_Room_Grow m i w K := by
  apply C_room_Room_Grow.of
  unfold F_room_Room_Grow
  obtain ⟨b, p, n, c, G, rfl, hb, hs, rfl, hn⟩ := h
  simp only [NN_some, addN, drw_cell, drw_heap, exS, exI, exB, exP, exM, exStr, exV, a0, a1, a2, a3, a4, a5, a6, a7, a8, a9, a10, a11, a12, a13, maxI_eq, Nat.zero_add, Nat.add_zero, Nat.mul_one, Option.isNone_some, Option.isNone_none, hb.cell]
  exact ifF rfl (ifT (by simp; omega) hK)

theorem Grow_full {w : World} {m : Option Addr} {L : List Int} {lim most i : Int} {F : List Nat} {K : Int → World → Prop} (h : RoomAt w m L lim most F) (h0 : 0 ≤ i) (h1 : lim - L.length < i) (hlim : 0 ≤ lim) (hlim2 : lim < 2 ^ 40) (hl : L.length < 2 ^ 40)
    (hK : ∀ w', RoomAt w' m L lim most F → Upd [] w w' → K 2 w') : C_room_Room_Grow m i w K := by
  apply C_room_Room_Grow.of
  unfold F_room_Room_Grow
  have h' := h
  obtain ⟨b, p, n, c, G, rfl, hb, hs, rfl, hn⟩ := h
  have hln := len_n hs
  simp only [NN_some, addN, drw_cell, drw_heap, exS, exI, exB, exP, exM, exStr, exV, a0, a1, a2, a3, a4, a5, a6, a7, a8, a9, a10, a11, a12, a13, maxI_eq, Nat.zero_add, Nat.add_zero, Nat.mul_one, Option.isNone_some, Option.isNone_none, hb.cell]
  rw [i64id (by omega) (by omega)]
  exact ifF rfl (ifF (by simp; omega) (ifT (by simp; omega) (hK _ h'.drw (drw_upd w))))

theorem Grow_ok {w : World} {m : Option Addr} {L : List Int} {lim most i : Int} {F : List Nat} {K : Int → World → Prop} (h : RoomAt w m L lim most F) (h0 : 0 ≤ i) (h1 : i ≤ lim - L.length) (hlim2 : lim < 2 ^ 40)
    (hK : ∀ w' F', RoomAt w' m (L ++ List.replicate i.toNat 0) lim (max most (L.length + i)) F' → Upd F w w' → Sub F' F w → K 0 w') : C_room_Room_Grow m i w K := by
  apply C_room_Room_Grow.of
  unfold F_room_Room_Grow
  obtain ⟨b, p, n, c, G, rfl, hb, hs, rfl, hn⟩ := h
  have hln := len_n hs
  simp only [NN_some, addN, drw_cell, drw_heap, exS, exI, exB, exP, exM, exStr, exV, a0, a1, a2, a3, a4, a5, a6, a7, a8, a9, a10, a11, a12, a13, maxI_eq, Nat.zero_add, Nat.add_zero, Nat.mul_one, Option.isNone_some, Option.isNone_none, hb.cell]
  rw [i64id (by omega) (by omega)]
  refine ifF rfl (ifF (by simp; omega) (ifF (by simp; omega) ?_))
  refine AppZ_rule eS_32 ⟨.i64, by rfl⟩ hs.drw h0 (by omega) fun p' c' F' w2 hs2 hu2 hsub => ?_
  have hb2 : Blk w2 b #[.slice p n c, .int .i64 lim, .int .i64 most] := hb.drw.upd hu2 hn
  have hbF : b ∉ F' := fun hx => by
    rcases hsub b hx with h | h
    · exact hn h
    · have := hb.lt; simp at h; omega
  have hu02 : Upd G w w2 := (drw_upd w).after hu2
  refine St_rule hb2 (by simp) rfl fun w3 hu3 hb3 => ?_
  have hr3 : RoomAt w3 (some ⟨b, 0, none⟩) (L ++ List.replicate i.toNat 0) lim most (b :: F') := by
    refine ⟨b, p', n + i.toNat, c', F', rfl, by simpa using hb3, ?_, rfl, hbF⟩
    have := hs2.upd hu3 (by intro k hk; simp; rintro rfl; exact hbF hk)
    simpa [zeroL_one] using this
  have hsub' : Sub (b :: F') (b :: G) w := by
    intro k hk
    rcases List.mem_cons.1 hk with rfl | hk
    · simp
    · exact ((hsub.old (by simp)) k hk).imp (by intro h; simp [h]) id
  refine note_ok hr3 fun w4 hr4 hu4 => hK w4 _ ?_ ?_ hsub'
  · have e : ((L ++ List.replicate i.toNat 0).length : Int) = L.length + i := by simp; omega
    rw [e] at hr4; exact hr4
  · refine Upd.trans (hu02.trans (H := b :: G) hu3 (by intro k hk; simp [hk]) (by intro k hk; simp at hk; simp [hk])) hu4 (fun k hk => .inl hk) hsub'

/-- All words, in a row of their own. -/
theorem Clone_ok {w : World} {p : Option Addr} {n c : Nat} {L : List Int} {G : List Nat} {K : Option Addr → Nat → Nat → World → Prop} (hs : SlAt w 1 p n c (L.map (.int .u64)) G) (hl : L.length < 2 ^ 40)
    (hK : ∀ p' n' c' F' w', SlAt w' 1 p' n' c' (L.map (.int .u64)) F' → Upd [] w w' → Since F' w → K p' n' c' w') : C_slices_Clone p n c w K := by
  apply C_slices_Clone.of
  unfold F_slices_Clone
  have hln := len_n hs
  refine ifC (fun hc => ?_) (fun hc => ?_)
  · rcases hs.2.2 with ⟨rfl, rfl, rfl⟩ | ⟨b, off, arr, rfl, _⟩
    · have : L = [] := by
        have := hs.2.1
        have h2 : L.length = 0 := by omega
        simpa using h2
      subst this
      exact hK _ _ _ [] w (SlAt.nil _ _) (Upd.refl _ _) (by intro k hk; cases hk)
    · cases hc
  · refine BSl_rule (len := 0) (ps := []) (cs := []) eS_32 (by simp [Instr.fill]) (by simp) (by omega) fun w1 hs1 hu1 => ?_
    refine App_rule (hE := eS_32) hs1 (hs.upd hu1 (by intro k hk hx; cases hx)) (by simp [Value.oneCell']) (by omega) fun p' c' F' w2 hs2 hu2 hsub => ?_
    refine hK _ _ _ F' w2 (by simpa using hs2) (hu1.fresh hu2 (by intro k hk; simp at hk; omega)) ?_
    intro k hk
    rcases hsub k hk with h | h
    · simp at h; omega
    · have := hu1.size; omega

end Go.Proofs.Ytdmjbkpibgfeiaa
