/- The law on every call of a room, in every order: one call; the law. -/
import Derived.Test.YtdkkkomcolklbaaDoes
namespace Go.Proofs.Ytdkkkomcolklbaa
open Go Go.D Go.Proofs
set_option linter.unusedSimpArgs false
set_option linter.unusedVariables false

/-- Two of them, alike, apart. -/
structure Pair (w : World) (m x : Option Addr) (L : List Int) (lim most : Int) (F G : List Nat) : Prop where
  m : RoomAt w m L lim most F
  x : RoomAt w x L lim most G
  d : Dis F G

theorem Pair.keep {w w' : World} {m x : Option Addr} {L : List Int} {lim most : Int} {F G : List Nat} (h : Pair w m x L lim most F G) (u : Upd [] w w') : Pair w' m x L lim most F G :=
  ⟨h.m.upd u (by intro k hk hx; cases hx), h.x.upd u (by intro k hk hx; cases hx), h.d⟩

/-- First one has been turned, then the other one. -/
theorem two {w w1 w2 : World} {m x : Option Addr} {L L' : List Int} {lim most most' : Int} {F G F' G' : List Nat} (h : Pair w m x L lim most F G)
    (h1 : RoomAt w1 m L' lim most' F') (u1 : Upd F w w1) (s1 : Sub F' F w)
    (h2 : RoomAt w2 x L' lim most' G') (u2 : Upd G w1 w2) (s2 : Sub G' G w1) : Pair w2 m x L' lim most' F' G' ∧ Upd (F ++ G) w w2 ∧ Sub F' F w ∧ Sub G' G w := by
  have hd1 : Dis F' G := h.d.step s1 h.x.inn
  have hd2 : Dis F' G' := (hd1.symm.step s2 h1.inn).symm
  exact ⟨⟨h1.upd u2 hd1, h2, hd2⟩, u1.trans u2 (by intro k hk; simp [hk]) (by intro k hk; simp [hk]), s1, s2.old u1.size⟩

theorem do_ok {m x : Option Addr} {w : World} {L : List Int} {lim most o0 o1 o2 : Int} {F G : List Nat} {K : Bool → World → Prop} (h : Pair w m x L lim most F G) (hL : L.length ≤ lim) (hlim : lim ≤ 1048576)
    (hK : ∀ w' L' most' F' G', L'.length ≤ lim → Pair w' m x L' lim most' F' G' ∧ Upd (F ++ G) w w' ∧ Sub F' F w ∧ Sub G' G w → K true w') : C_law02_do m x o0 o1 o2 w K := by
  apply C_law02_do.of
  unfold F_law02_do
  refine New_rule fun r w1 hr u1 hb => ?_
  have h1 := h.keep u1
  simp only [NN_some, addN, drw_cell, drw_heap, exS, exI, exB, exP, exM, exStr, exV, a0, a1, a2, a3, a4, a5, a6, a7, maxI_eq, Nat.zero_add, Nat.add_zero, Nat.mul_one, Option.isNone_some, Option.isNone_none, hb.cell]
  have hrF : r ∉ F := fun hx => by have := h.m.inn _ hx; omega
  have hrG : r ∉ G := fun hx => by have := h.x.inn _ hx; omega
  -- from w1 on
  have hK1 : ∀ w' L' most' F' G', L'.length ≤ lim → Pair w' m x L' lim most' F' G' ∧ Upd (F ++ G) w1 w' ∧ Sub F' F w1 ∧ Sub G' G w1 → K true w' := fun w' L' most' F' G' hl ⟨p, u, s, t⟩ =>
    hK w' L' most' F' G' hl ⟨p, u1.after u, s.old u1.size, t.old u1.size⟩
  have hd1 := h1.keep (drw_upd w1)
  have hKd : ∀ w' L' most' F' G', L'.length ≤ lim → Pair w' m x L' lim most' F' G' ∧ Upd (F ++ G) (drw w1) w' ∧ Sub F' F (drw w1) ∧ Sub G' G (drw w1) → K true w' := fun w' L' most' F' G' hl ⟨p, u, s, t⟩ =>
    hK1 w' L' most' F' G' hl ⟨p, (drw_upd w1).after u, s.old (by simp), t.old (by simp)⟩
  have hl20 : L.length ≤ 1048576 := by omega
  -- push
  refine ifC (fun _ => ?_) (fun _ => ifC (fun _ => ?_) (fun _ => ifC (fun _ => ?_) (fun _ => ifC (fun _ => ?_) (fun _ => ifC (fun _ => ?_) (fun _ => ifC (fun _ => ?_) (fun _ => ifC (fun _ => ?_) (fun _ => ?_)))))))
  · by_cases hf : lim ≤ L.length
    · refine Push_full hd1.m hf fun w2 hm2 u2 => ?_
      have hb2 := (hb.drw).upd u2 (by simp)
      simp only [NN_some, addN, drw_cell, drw_heap, exS, exI, exB, exP, exM, exStr, exV, a0, a1, a2, a3, a4, a5, a6, a7, maxI_eq, Nat.zero_add, Nat.add_zero, Nat.mul_one, Option.isNone_some, Option.isNone_none, hb2.cell, hb.cell]
      have h2 := hd1.keep u2
      refine ⟨trivial, RPush_full h2.x hf fun w3 hx3 u3 => ?_⟩
      exact hKd w3 L most F G hL ⟨h2.keep u3, (u2.after u3).mono (by simp), Sub.refl _ _, Sub.refl _ _⟩
    · refine Push_ok hd1.m (by omega) (by omega) fun w2 F2 hm2 u2 s2 => ?_
      have hb2 := (hb.drw).upd u2 hrF
      simp only [NN_some, addN, drw_cell, drw_heap, exS, exI, exB, exP, exM, exStr, exV, a0, a1, a2, a3, a4, a5, a6, a7, maxI_eq, Nat.zero_add, Nat.add_zero, Nat.mul_one, Option.isNone_some, Option.isNone_none, hb2.cell, hb.cell]
      refine ⟨trivial, RPush_ok (hd1.x.upd u2 hd1.d.symm) (by omega) (by omega) fun w3 F3 hx3 u3 s3 => ?_⟩
      exact hKd w3 _ _ F2 F3 (by simp; omega) (two hd1 hm2 u2 s2 hx3 u3 s3)
  · by_cases hz : L.length = 0
    · have : L = [] := by simpa using hz
      subst this
      exact Pop_no h1.m (RPop_no h1.x (ifT rfl (hK1 w1 [] most F G hL ⟨h1, Upd.refl _ _, Sub.refl _ _, Sub.refl _ _⟩)))
    · refine Pop_ok h1.m (by omega) (by omega) fun w2 hm2 u2 => RPop_ok (h1.x.upd u2 h1.d.symm) (by omega) (by omega) fun w3 hx3 u3 => ifT (by simp) ?_
      exact hK1 w3 _ _ F G (by simp; omega) (two h1 hm2 u2 (Sub.refl _ _) hx3 u3 (Sub.refl _ _))
  · have hend : K true (drw w1) := hK1 (drw w1) L most F G hL ⟨hd1, (drw_upd w1).mono (by simp), Sub.refl _ _, Sub.refl _ _⟩
    have hend2 : K true (drw (drw w1)) := hK1 _ L most F G hL ⟨hd1.keep (drw_upd _), ((drw_upd w1).after (drw_upd _)).mono (by simp), Sub.refl _ _, Sub.refl _ _⟩
    obtain ⟨b, p, n, c, XG, hxe, hxb, hxs, _, hxn⟩ := h1.x
    have hln := len_n hxs
    by_cases hin : 0 ≤ o1 ∧ o1 < L.length
    · refine Get_ok h1.m hin.1 hin.2 ?_
      obtain ⟨b', off, rfl, hcell⟩ := word_cell hxs hin.1 hin.2
      subst hxe
      simp only [NN_some, addN, drw_cell, drw_heap, exS, exI, exB, exP, exM, exStr, exV, a0, a1, a2, a3, a4, a5, a6, a7, maxI_eq, Nat.zero_add, Nat.add_zero, Nat.mul_one, Option.isNone_some, Option.isNone_none, hb.cell, hxb.cell, hcell]
      refine ifF (by simp; omega) (ifF (by simp; omega) ⟨hin.1, by omega, ifT (by simp) hend2⟩)
    · refine Get_no h1.m hin ?_
      subst hxe
      simp only [NN_some, addN, drw_cell, drw_heap, exS, exI, exB, exP, exM, exStr, exV, a0, a1, a2, a3, a4, a5, a6, a7, maxI_eq, Nat.zero_add, Nat.add_zero, Nat.mul_one, Option.isNone_some, Option.isNone_none, hb.cell, hxb.cell]
      refine ifC (fun _ => ifT rfl hend) (fun hc => ifT ?_ (ifT rfl hend))
      simp at hc ⊢; omega
  · obtain ⟨b, p, n, c, XG, hxe, hxb, hxs, hG, hxn⟩ := h1.x
    have hln := len_n hxs
    by_cases hin : 0 ≤ o1 ∧ o1 < L.length
    · refine Set_ok h1.m hin.1 hin.2 fun w2 hm2 u2 => ?_
      have hb2 := hb.upd u2 hrF
      have hx2 := h1.x.upd u2 h1.d.symm
      obtain ⟨b, p, n, c, XG, rfl, hxb, hxs, hG, hxn⟩ := hx2
      have hln := len_n hxs
      obtain ⟨b', off, rfl, hcell⟩ := word_cell hxs hin.1 hin.2
      simp only [NN_some, addN, drw_cell, drw_heap, exS, exI, exB, exP, exM, exStr, exV, a0, a1, a2, a3, a4, a5, a6, a7, maxI_eq, Nat.zero_add, Nat.add_zero, Nat.mul_one, Option.isNone_some, Option.isNone_none, hb2.cell, hxb.cell]
      refine ifF (by simp; omega) (ifF (by simp; omega) ⟨hin.1, by omega, set_core hxb.drw.drw hxs.drw.drw hxn rfl (by omega) fun w3 hr3 hu3 => ?_⟩)
      rw [← hG] at hr3 hu3
      exact hK1 w3 _ _ F G (by simp; omega) (two h1 hm2 u2 (Sub.refl _ _) hr3 (((drw_upd w2).after (drw_upd _)).after hu3) (Sub.refl _ _))
    · refine Set_no h1.m hin ?_
      have hend : K true (drw w1) := hK1 (drw w1) L most F G hL ⟨hd1, (drw_upd w1).mono (by simp), Sub.refl _ _, Sub.refl _ _⟩
      subst hxe
      simp only [NN_some, addN, drw_cell, drw_heap, exS, exI, exB, exP, exM, exStr, exV, a0, a1, a2, a3, a4, a5, a6, a7, maxI_eq, Nat.zero_add, Nat.add_zero, Nat.mul_one, Option.isNone_some, Option.isNone_none, hb.cell, hxb.cell]
      refine ifC (fun _ => hend) (fun hc => ifT ?_ hend)
      simp at hc ⊢; omega
  · by_cases hin : 0 ≤ o1 ∧ o1 ≤ L.length
    · refine Cut_ok hd1.m hin.1 hin.2 fun w2 hm2 u2 => ?_
      have hb2 := (hb.drw).upd u2 hrF
      simp only [NN_some, addN, drw_cell, drw_heap, exS, exI, exB, exP, exM, exStr, exV, a0, a1, a2, a3, a4, a5, a6, a7, maxI_eq, Nat.zero_add, Nat.add_zero, Nat.mul_one, Option.isNone_some, Option.isNone_none, hb2.cell, hb.cell]
      refine ⟨trivial, RCut_ok (hd1.x.upd u2 hd1.d.symm) hin.1 hin.2 fun w3 hx3 u3 => ?_⟩
      exact hKd w3 _ _ F G (by simp; omega) (two hd1 hm2 u2 (Sub.refl _ _) hx3 u3 (Sub.refl _ _))
    · refine Cut_no hd1.m hin ?_
      simp only [NN_some, addN, drw_cell, drw_heap, exS, exI, exB, exP, exM, exStr, exV, a0, a1, a2, a3, a4, a5, a6, a7, maxI_eq, Nat.zero_add, Nat.add_zero, Nat.mul_one, Option.isNone_some, Option.isNone_none, hb.cell]
      exact ⟨trivial, RCut_no hd1.x hin (hKd _ L most F G hL ⟨hd1, Upd.refl _ _, Sub.refl _ _, Sub.refl _ _⟩)⟩
  · by_cases hneg : o1 < 0
    · refine Grow_no hd1.m hneg ?_
      simp only [NN_some, addN, drw_cell, drw_heap, exS, exI, exB, exP, exM, exStr, exV, a0, a1, a2, a3, a4, a5, a6, a7, maxI_eq, Nat.zero_add, Nat.add_zero, Nat.mul_one, Option.isNone_some, Option.isNone_none, hb.cell]
      exact ⟨trivial, RGrow_no hd1.x hneg (hKd _ L most F G hL ⟨hd1, Upd.refl _ _, Sub.refl _ _, Sub.refl _ _⟩)⟩
    · by_cases hf : lim - L.length < o1
      · refine Grow_full hd1.m (by omega) hf (by omega) (by omega) (by omega) fun w2 hm2 u2 => ?_
        have hb2 := (hb.drw).upd u2 (by simp)
        have h2 := hd1.keep u2
        simp only [NN_some, addN, drw_cell, drw_heap, exS, exI, exB, exP, exM, exStr, exV, a0, a1, a2, a3, a4, a5, a6, a7, maxI_eq, Nat.zero_add, Nat.add_zero, Nat.mul_one, Option.isNone_some, Option.isNone_none, hb2.cell, hb.cell]
        refine ⟨trivial, RGrow_full h2.x (by omega) hf (by omega) (by omega) (by omega) fun w3 hx3 u3 => ?_⟩
        exact hKd w3 L most F G hL ⟨h2.keep u3, (u2.after u3).mono (by simp), Sub.refl _ _, Sub.refl _ _⟩
      · refine Grow_ok hd1.m (by omega) (by omega) (by omega) fun w2 F2 hm2 u2 s2 => ?_
        have hb2 := (hb.drw).upd u2 hrF
        simp only [NN_some, addN, drw_cell, drw_heap, exS, exI, exB, exP, exM, exStr, exV, a0, a1, a2, a3, a4, a5, a6, a7, maxI_eq, Nat.zero_add, Nat.add_zero, Nat.mul_one, Option.isNone_some, Option.isNone_none, hb2.cell, hb.cell]
        refine ⟨trivial, RGrow_ok (hd1.x.upd u2 hd1.d.symm) (by omega) (by omega) (by omega) fun w3 F3 hx3 u3 s3 => ?_⟩
        exact hKd w3 _ _ F2 F3 (by simp; omega) (two hd1 hm2 u2 s2 hx3 u3 s3)
  · exact kept_ok h1.m h1.x h1.d (by omega) fun w2 L2 F2 G2 hl hm2 hx2 hd2 u2 s2 t2 => hK1 w2 L2 most F2 G2 (by omega) ⟨⟨hm2, hx2, hd2⟩, u2, s2, t2⟩
  · exact hK1 w1 L most F G hL ⟨h1, Upd.refl _ _, Sub.refl _ _, Sub.refl _ _⟩

/-- The law. -/
theorem RoomDoes_law {w : World} {limit : Int} {p : Option Addr} {n c : Nat} {cs : List Value} (hs : Rd w 3 p n cs)
    (hcs : ∀ i, i < n → ∃ a b d, cs[i * 3]? = some (.int .i64 a) ∧ cs[i * 3 + 1]? = some (.int .i64 b) ∧ cs[i * 3 + 2]? = some (.int .u64 d)) : C_law02_RoomDoes limit p n c w fun r w' => r = true ∧ Upd [] w w' := by
  apply C_law02_RoomDoes.of
  have key : ∀ lim : Int, F_law02_RoomDoes_k5 p n c (fun r w' => r = true ∧ Upd [] w w') lim w := by
    intro lim
    unfold F_law02_RoomDoes_k5 F_law02_RoomDoes_k4 F_law02_RoomDoes_k1 F_law02_RoomDoes_L1
    by_cases hbad : lim < 0 ∨ 1048576 < lim
    · refine New_bad hbad (RNew_bad hbad (lives_ok fun w1 u1 => ifF rfl (ifF rfl (ifF rfl (ifT rfl (ifF rfl ?_))))))
      refine ⟨fun s v => v = w1, fun _ _ => 0, rfl, ?_⟩
      rintro ⟨i⟩ v rfl
      unfold B_law02_RoomDoes_L1 F_law02_RoomDoes_k2
      exact ifC (fun _ => ifC (fun _ => ifF rfl ⟨rfl, u1⟩) fun _ => ⟨rfl, u1⟩) fun _ => ⟨rfl, u1⟩
    · refine New_ok (by omega) (by omega) fun m w1 F1 hm1 u1 n1 hm => RNew_ok (by omega) (by omega) fun x w2 G1 hx2 u2 n2 hx => lives_ok fun w3 u3 => ?_
      rw [hm, hx]
      refine ifF rfl (ifF rfl (ifF rfl (ifF rfl ?_)))
      have P2 : Pair w2 m x [] lim 0 F1 G1 := ⟨hm1.upd u2 (by intro k hk hx; cases hx), hx2, by
        intro k hk hg; have := n2 k hg; have := hm1.inn k hk; omega⟩
      refine ⟨fun s v => 0 ≤ s.i ∧ s.i ≤ 60 ∧ ∃ L most F G, L.length ≤ lim ∧ Pair v m x L lim most F G ∧ Upd [] w v ∧ Since F w ∧ Since G w, fun s _ => (60 - s.i).toNat, ⟨by simp, by simp, [], 0, F1, G1, by simp; omega, P2.keep u3, (u1.after u2).after u3, n1, fun k hk => Nat.le_trans u1.size (n2 k hk)⟩, ?_⟩
      rintro ⟨i⟩ v ⟨hi0, hi1, L, most, F, G, hL, hP, hu, hF, hG⟩
      dsimp only at hi0 hi1
      unfold B_law02_RoomDoes_L1 F_law02_RoomDoes_k2 F_law02_RoomDoes_k3
      dsimp only
      refine ifC (fun hc => ifC (fun hc2 => ?_) fun _ => ⟨rfl, hu⟩) fun _ => ⟨rfl, hu⟩
      simp at hc hc2
      have hsv := (hs.keep hu).keep (drw_upd v)
      obtain ⟨xx, rfl, hxx⟩ := hsv.elem (i := i.toNat) (by omega)
      obtain ⟨a, b, d, ha, hb, hd⟩ := hcs i.toNat (by omega)
      have e0 := hxx 0 (by omega)
      have e1 := hxx 1 (by omega)
      have e2 := hxx 2 (by omega)
      rw [Nat.add_zero] at e0
      rw [ha] at e0
      rw [hb] at e1
      rw [hd] at e2
      rw [hx]
      refine ifT rfl ⟨hi0, hc, ?_⟩
      simp only [drw_cell] at e0 e1 e2
      simp only [NN_some, addN, drw_cell, drw_heap, exS, exI, exB, exP, exM, exStr, exV, a0, a1, a2, a3, a4, a5, a6, a7, maxI_eq, Nat.zero_add, Nat.add_zero, Nat.mul_one, Option.isNone_some, Option.isNone_none, addA, e0, e1, e2]
      refine do_ok (hP.keep (drw_upd v)) hL (by omega) fun v2 L2 most2 F2 G2 hL2 ⟨hP2, u2', s2, t2⟩ => ifF rfl ?_
      have U2 : Upd [] w v2 := (hu.after (drw_upd v)).fresh u2' (by
        intro k hk; rcases List.mem_append.1 hk with h | h
        · exact hF k h
        · exact hG k h)
      have F2s := hF.step s2 hu.size
      have G2s := hG.step t2 hu.size
      obtain ⟨xb, xp, xn, xc, XG, rfl, hxb, hxs, hGe, hxn⟩ := hP2.x
      have hln := len_n hxs
      simp only [NN_some, addN, drw_cell, drw_heap, exS, exI, exB, exP, exM, exStr, exV, a0, a1, a2, a3, a4, a5, a6, a7, maxI_eq, Nat.zero_add, Nat.add_zero, Nat.mul_one, Option.isNone_some, Option.isNone_none, hxb.cell]
      refine Len_ok hP2.m ?_
      simp only [NN_some, addN, drw_cell, drw_heap, exS, exI, exB, exP, exM, exStr, exV, a0, a1, a2, a3, a4, a5, a6, a7, maxI_eq, Nat.zero_add, Nat.add_zero, Nat.mul_one, Option.isNone_some, Option.isNone_none, hxb.cell]
      refine ⟨trivial, ifF (by simp; omega) (Most_ok hP2.m ?_)⟩
      simp only [NN_some, addN, drw_cell, drw_heap, exS, exI, exB, exP, exM, exStr, exV, a0, a1, a2, a3, a4, a5, a6, a7, maxI_eq, Nat.zero_add, Nat.add_zero, Nat.mul_one, Option.isNone_some, Option.isNone_none, hxb.cell]
      refine ⟨trivial, ifF (by simp) (Limit_ok hP2.m (ifF (by simp) ?_))⟩
      simp only [NN_some, addN, drw_cell, drw_heap, exS, exI, exB, exP, exM, exStr, exV, a0, a1, a2, a3, a4, a5, a6, a7, maxI_eq, Nat.zero_add, Nat.add_zero, Nat.mul_one, Option.isNone_some, Option.isNone_none, hxb.cell]
      · refine Words_ok hP2.m (by omega) fun wp wn wc F4 v4 hw hu4 nw => ?_
        have hxb4 := hxb.upd hu4 (by simp)
        simp only [NN_some, addN, drw_cell, drw_heap, exS, exI, exB, exP, exM, exStr, exV, a0, a1, a2, a3, a4, a5, a6, a7, maxI_eq, Nat.zero_add, Nat.add_zero, Nat.mul_one, Option.isNone_some, Option.isNone_none, hxb4.cell]
        refine ⟨trivial, Same_ok hw (hxs.upd hu4 (by intro k hk hx; cases hx)) (by omega) fun v5 u5 => ifF rfl ?_⟩
        rw [i64id (by omega) (by omega)]
        refine ⟨⟨by omega, by omega, L2, most2, F2, G2, hL2, (hP2.keep hu4).keep u5, (U2.after hu4).after u5, F2s, G2s⟩, by simp; omega⟩
  unfold F_law02_RoomDoes
  refine ifC (fun _ => ifC (fun _ => key _) fun _ => key _) fun _ => key _

end Go.Proofs.Ytdkkkomcolklbaa
