/- What must come of every program comes. The law on stacks. -/
import Derived.Test.YtdkkkomcolklbaaRoom2
namespace Go.Proofs.Ytdkkkomcolklbaa
open Go Go.D Go.Proofs
set_option linter.unusedSimpArgs false
set_option linter.unusedVariables false

theorem lives_ok {w : World} {K : Bool → World → Prop} (hK : ∀ w', Upd [] w w' → K true w') : C_law02_lives w K := by
  apply C_law02_lives.of
  unfold F_law02_lives
  refine New_ok (by omega) (by omega) fun m w1 F1 h1 u1 n1 hm => ifF rfl (ifF hm ?_)
  refine Push_ok h1 (by simp) (by simp) fun w2 F2 h2 u2 s2 => ?_
  have U2 := u1.fresh u2 n1
  have N2 := n1.step s2 u1.size
  refine Push_ok h2 (by simp) (by simp) fun w3 F3 h3 u3 s3 => ?_
  have U3 := U2.fresh u3 N2
  have N3 := N2.step s3 U2.size
  refine Push_full h3 (by simp) fun w4 h4 u4 => ?_
  have U4 := U3.after u4
  refine Pop_ok h4 (by simp) (by simp) fun w5 h5 u5 => ?_
  have U5 := U4.fresh u5 N3
  refine Get_ok h5 (by omega) (by simp) (New_bad (.inl (by omega)) ?_)
  refine ifT rfl (ifT rfl (ifT rfl (ifT rfl (ifT (by simp) (ifT rfl (ifT (by simp) (Len_ok h5 (ifT (by simp) ?_))))))))
  refine Limit_ok h5 (ifT rfl (Most_ok h5 (ifT (by simp; omega) ?_)))
  refine Grow_ok h5 (by omega) (by simp) (by omega) fun w6 F6 h6 u6 s6 => ifT rfl ?_
  have U6 := U5.fresh u6 N3
  have N6 := N3.step s6 U5.size
  refine Set_ok h6 (by omega) (by simp) fun w7 h7 u7 => ifT rfl ?_
  have U7 := U6.fresh u7 N6
  refine Cut_ok h7 (by omega) (by simp) fun w8 h8 u8 => ifT rfl (ifT rfl ?_)
  have U8 := U7.fresh u8 N6
  refine Words_ok h8 (by simp) fun p n c F9 w9 h9 u9 n9 => ?_
  have := len_n h9
  simp at this
  subst this
  exact hK w9 (U8.after u9)

/-- A word that came in. -/
theorem rd_word {w : World} {p : Option Addr} {n : Nat} {L : List Int} (h : Rd w 1 p n (L.map (.int .u64))) {i : Int} (h0 : 0 ≤ i) (h1 : i < n) :
    ∃ x, ∃ hi : i.toNat < L.length, p = some x ∧ w.cell? (x.add i.toNat) = some (.int .u64 (L[i.toNat]'hi)) := by
  have hl := h.1
  simp at hl
  obtain ⟨x, hp, hc⟩ := h.at (i := i.toNat) (by omega)
  refine ⟨x, by omega, hp, ?_⟩
  rw [hc, List.getElem?_map, List.getElem?_eq_getElem (by omega)]; rfl

theorem rd_len {w : World} {p : Option Addr} {n : Nat} {L : List Int} (h : Rd w 1 p n (L.map (.int .u64))) : n = L.length := by
  have := h.1; simp at this; exact this.symm

/-- The law. -/
theorem RoomStacks_law {w : World} {p : Option Addr} {n c : Nat} {L : List Int} (hs : Rd w 1 p n (L.map (.int .u64))) : C_law02_RoomStacks p n c w fun r w' => r = true ∧ Upd [] w w' := by
  apply C_law02_RoomStacks.of
  unfold F_law02_RoomStacks F_law02_RoomStacks_L1 F_law02_RoomStacks_L2
  have hn := rd_len hs
  refine New_ok (by omega) (by omega) fun m w1 F1 h1 u1 n1 hm => lives_ok fun w2 u2 => ifF rfl (ifF rfl (ifF hm ?_))
  have U2 := u1.after u2
  refine ifC (fun _ => lives_ok fun w3 u3 => ifT rfl ⟨rfl, U2.after u3⟩) (fun hlen => ?_)
  simp at hlen
  -- pushed
  refine ⟨fun s v => 0 ≤ s.i ∧ s.i ≤ n ∧ ∃ F, RoomAt v m (L.take s.i.toNat) 1048576 s.i F ∧ Upd [] w v ∧ Since F w, fun s _ => (n - s.i).toNat, ⟨by simp, by simp, F1, by simpa using h1.upd u2 (by intro k hk hx; cases hx), U2, n1⟩, ?_⟩
  rintro ⟨i⟩ v ⟨hi0, hi1, F, hr, hu, hF⟩
  simp only at hi0 hi1 hr ⊢
  unfold B_law02_RoomStacks_L1
  refine ifC (fun hc => ?_) (fun hc => ?_)
  · simp at hc
    obtain ⟨x, hx, rfl, hcell⟩ := rd_word (hs.keep hu) hi0 (by omega)
    simp only [NN_some, addN, drw_cell, drw_heap, exS, exI, exB, exP, exM, exStr, exV, a0, a1, a2, a3, a4, a5, a6, a7, maxI_eq, Nat.zero_add, Nat.add_zero, Nat.mul_one, Option.isNone_some, Option.isNone_none, hcell]
    refine ⟨hi0, hc, Push_ok hr (by simp; omega) (by simp; omega) fun v1 F' hr1 hu1 hs1 => ifF rfl ?_⟩
    rw [i64id (by omega) (by omega)]
    refine ⟨⟨by omega, by omega, F', ?_, hu.fresh hu1 hF, hF.step hs1 hu.size⟩, by simp; omega⟩
    have e : (i + 1).toNat = i.toNat + 1 := by omega
    have e2 : max i (((L.take i.toNat).length : Int) + 1) = i + 1 := by simp; omega
    rw [e2] at hr1
    simp only [e, List.take_succ_eq_append_getElem (show i.toNat < L.length by omega)]
    exact hr1
  · simp at hc
    obtain rfl : i = n := by omega
    rw [hn, Int.toNat_natCast, List.take_length, ← hn] at hr
    rw [i64id (by omega) (by omega)]
    -- popped
    refine ⟨fun s v => -1 ≤ s.i_1 ∧ s.i_1 < n ∧ RoomAt v m (L.take (s.i_1 + 1).toNat) 1048576 n F ∧ Upd [] w v, fun s _ => (s.i_1 + 1).toNat, ⟨by simp; omega, by simp; omega, ?_, hu⟩, ?_⟩
    · simpa [hn] using hr
    · rintro ⟨j⟩ v1 ⟨hj0, hj1, hr1, hu1⟩
      simp only at hj0 hj1 hr1 ⊢
      unfold B_law02_RoomStacks_L2
      refine ifC (fun hc => ?_) (fun hc => ?_)
      · simp at hc
        refine Pop_ok hr1 (by simp; omega) (by simp; omega) fun v2 hr2 hu2 => ifF rfl ?_
        have U3 := hu1.fresh hu2 hF
        obtain ⟨x, hx, rfl, hcell⟩ := rd_word (hs.keep U3) hc (by omega)
        simp only [NN_some, addN, drw_cell, drw_heap, exS, exI, exB, exP, exM, exStr, exV, a0, a1, a2, a3, a4, a5, a6, a7, maxI_eq, Nat.zero_add, Nat.add_zero, Nat.mul_one, Option.isNone_some, Option.isNone_none, hcell]
        refine ⟨hc, hj1, ifF ?_ ?_⟩
        · simp; congr 1; omega
        · rw [i64id (by omega) (by omega)]
          refine ⟨⟨by omega, by omega, ?_, U3⟩, by simp; omega⟩
          have e : (j - 1 + 1).toNat = min (j + 1).toNat L.length - 1 := by omega
          rw [List.take_take, List.length_take] at hr2
          simp only [e]
          rw [Nat.min_eq_left (by omega)] at hr2
          exact hr2
      · simp at hc
        obtain rfl : j = -1 := by omega
        refine Pop_no (by simpa using hr1) (ifT rfl (Most_ok hr1 ⟨by simp, hu1⟩))

end Go.Proofs.Ytdkkkomcolklbaa
