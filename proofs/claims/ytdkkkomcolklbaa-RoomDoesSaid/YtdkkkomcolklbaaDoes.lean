/- The law on every call of a room, in every order. -/
import Derived.Test.YtdkkkomcolklbaaKeep2
namespace Go.Proofs.Ytdkkkomcolklbaa
open Go Go.D Go.Proofs
set_option linter.unusedSimpArgs false
set_option linter.unusedVariables false

/-- The keeper behind k questions. -/
def KeeperAt (L : List Int) (N : Int) (r : Nat) (k : Nat) (H : List Nat) (w : World) : Prop :=
  ∃ p n c G, Blk w r #[.int .u64 N, .slice p n c, .int .i64 k, .bool true] ∧ SlAt w 1 p n c ((L.take k).map (.int .u64)) G ∧ H = r :: G ∧ r ∉ G

theorem keeperAsks {L : List Int} {N : Int} (hN : N ≠ 0) (hL : L.length < 2 ^ 40) (r : Nat) : KAsks (.func (.func 37) #[.pointer (some ⟨r, 0, none⟩)] #[]) (fun x => x.tmod N != 0) L (KeeperAt L N r) := by
  constructor
  · rintro k H w w' G ⟨p, n, c, G0, hb, hs, rfl, hn⟩ hu hd
    exact ⟨p, n, c, G0, hb.upd hu (hd _ (by simp)), hs.upd hu (fun x hx => hd x (by simp [hx])), rfl, hn⟩
  · rintro k H w ⟨p, n, c, G0, hb, hs, rfl, hn⟩ x hx
    rcases List.mem_cons.1 hx with rfl | hx
    · exact hb.lt
    · exact hs.inn x hx
  · rintro k H w K hk ⟨p, n, c, G, hb, hs, rfl, hn⟩ hK
    have hln : n = k := by have := len_n hs; simp at this; omega
    have hc : C_law02_keeper_keep (some ⟨r, 0, none⟩) k (L[k]) w fun b w' => K (.bool b) w' := by
      apply C_law02_keeper_keep.of
      unfold F_law02_keeper_keep F_law02_keeper_keep_k1
      simp only [NN_some, addN, drw_cell, drw_heap, exS, exI, exB, exP, exM, exStr, exV, a0, a1, a2, a3, a4, a5, a6, a7, maxI_eq, Nat.zero_add, Nat.add_zero, Nat.mul_one, Option.isNone_some, Option.isNone_none, hb.cell]
      refine ifT rfl (St_rule hb (by simp) rfl fun w1 u1 hb1 => ?_)
      simp at hb1
      simp only [NN_some, addN, drw_cell, drw_heap, exS, exI, exB, exP, exM, exStr, exV, a0, a1, a2, a3, a4, a5, a6, a7, maxI_eq, Nat.zero_add, Nat.add_zero, Nat.mul_one, Option.isNone_some, Option.isNone_none, hb1.cell]
      refine St_rule hb1 (by simp) rfl fun w2 u2 hb2 => ?_
      rw [i64id (by omega) (by omega)] at hb2
      simp at hb2
      have hs2 := (hs.upd u1 (by intro x hx; simp; rintro rfl; exact hn hx)).upd u2 (by intro x hx; simp; rintro rfl; exact hn hx)
      simp only [NN_some, addN, drw_cell, drw_heap, exS, exI, exB, exP, exM, exStr, exV, a0, a1, a2, a3, a4, a5, a6, a7, maxI_eq, Nat.zero_add, Nat.add_zero, Nat.mul_one, Option.isNone_some, Option.isNone_none, hb2.cell]
      refine BSl_rule (cs := [.int .u64 L[k]]) eS_22 (fill_one rfl) (by rfl) (by omega) fun w3 hs3 hu3 => ?_
      refine App_rule (hE := eS_22) (hs2.upd hu3 (by intro k hk hx; cases hx)) hs3 (by simp [Value.oneCell']) (by omega) fun p' c' F' w4 hs4 hu4 hsub => ?_
      have hb4 := (hb2.upd hu3 (by simp)).upd hu4 hn
      have hbF : r ∉ F' := fun hx => by
        rcases hsub r hx with h | h
        · exact hn h
        · have := (hb2.upd hu3 (by simp)).lt; omega
      refine St_rule hb4 (by simp) rfl fun w5 u5 hb5 => ?_
      simp at hb5
      simp only [NN_some, addN, drw_cell, drw_heap, exS, exI, exB, exP, exM, exStr, exV, a0, a1, a2, a3, a4, a5, a6, a7, maxI_eq, Nat.zero_add, Nat.add_zero, Nat.mul_one, Option.isNone_some, Option.isNone_none, hb5.cell]
      refine ⟨hN, hK (r :: F') w5 ⟨p', n + 1, c', F', by simpa using hb5, ?_, rfl, hbF⟩ ?_ ?_⟩
      · rw [List.take_succ_eq_append_getElem hk]
        simp only [List.map_append, List.map_cons, List.map_nil]
        exact hs4.upd u5 (by intro x hx; simp; rintro rfl; exact hbF hx)
      · have a1 : Upd (r :: G) w w2 := (u1.both u2).mono (by simp)
        have a2 : Upd (r :: G) w2 w4 := (hu3.after hu4).mono (by intro x hx; simp [hx])
        exact (a1.both a2).both (u5.mono (by simp))
      · intro x hx
        rcases List.mem_cons.1 hx with rfl | hx
        · simp
        · rcases hsub x hx with h | h
          · simp [h]
          · right; have := u1.size; have := u2.size; have := hu3.size; omega
    exact ⟨37, _, _, rfl, rfl, Calls.mono hc fun e w' ⟨v, he, hk⟩ => ⟨_, he, hk⟩⟩

theorem kept_ok {m x : Option Addr} {w : World} {L : List Int} {lim most i : Int} {F G : List Nat} {K : Bool → World → Prop} (hm : RoomAt w m L lim most F) (hx : RoomAt w x L lim most G) (hd : Dis F G) (hL : L.length < 2 ^ 30)
    (hK : ∀ w' L' F' G', L'.length ≤ L.length → RoomAt w' m L' lim most F' → RoomAt w' x L' lim most G' → Dis F' G' → Upd (F ++ G) w w' → Sub F' F w → Sub G' G w → K true w') : C_law02_kept m x i w K := by
  apply C_law02_kept.of
  have key : ∀ N : Int, 1 ≤ N → N ≤ 100 → F_law02_kept_k3 m x K N w := by
    intro N hN1 hN2
    have hw : IntKind.u64.wrap N = N := by
      simp only [IntKind.wrap, IntKind.bits, IntKind.signed]
      simp; omega
    unfold F_law02_kept_k3 F_law02_kept_L1 F_law02_kept_k2
    rw [hw]
    have hmi := hm.inn
    have hxi := hx.inn
    refine New_rule fun r w1 hr u1 hb1 => ?_
    refine Keep_ok (keeperAsks (L := L) (by omega) (by omega) r) rfl (hm.upd u1 (by intro x hx hy; cases hy)) (H := [r]) ⟨none, 0, 0, [], hb1, by simpa using SlAt.nil w1 1, rfl, by simp⟩ (by
      intro y hy hf; simp at hy; subst hy; have := hmi _ hf; omega) (by omega) fun H w2 hm2 hI2 u2 hsub2 => ?_
    obtain ⟨kp, kn, kc, KG, hkb, hks, rfl, hkn⟩ := hI2
    rw [List.take_length] at hks
    have hrG : r ∉ G := fun h => by have := hxi _ h; omega
    have hrF : r ∉ F := fun h => by have := hmi _ h; omega
    have hx2 := (hx.upd u1 (by intro x hx hy; cases hy)).upd u2 (by
      intro y hy hz
      simp at hz
      rcases hz with rfl | hz
      · exact hrG hy
      · exact hd y hz hy)
    -- the keeper's row and the twin's words are apart
    have hKG : Dis (r :: KG) G := by
      intro y hy hg
      rcases hsub2 y hy with h | h
      · simp at h; subst h; exact hrG hg
      · have := hxi _ hg; have := u1.size; omega
    refine ⟨fun s v => 0 ≤ s.i ∧ s.i ≤ L.length ∧ ∃ FL, SlAt v 1 s.leftP s.leftN s.leftC (((L.take s.i.toNat).filter (fun x => x.tmod N != 0)).map (.int .u64)) FL ∧ Upd [] w2 v ∧ Since FL w2, fun s _ => (L.length - s.i).toNat, ⟨by simp, by simp, [], by simpa using SlAt.nil w2 1, Upd.refl _ _, by intro k hk; cases hk⟩, ?_⟩
    rintro ⟨lp, ln, lc, j⟩ v ⟨hj0, hj1, FL, hl, hu, hFL⟩
    dsimp only at hj0 hj1 hl
    unfold B_law02_kept_L1 F_law02_kept_k1
    dsimp only
    have hxv := hx2.upd hu (by intro x hx hy; cases hy)
    have hxv' := hxv
    obtain ⟨xb, xp, xn, xc, XG, rfl, hxb, hxs, rfl, hxn⟩ := hxv
    have hxl := len_n hxs
    simp only [NN_some, addN, drw_cell, drw_heap, exS, exI, exB, exP, exM, exStr, exV, a0, a1, a2, a3, a4, a5, a6, a7, maxI_eq, Nat.zero_add, Nat.add_zero, Nat.mul_one, Option.isNone_some, Option.isNone_none, hxb.cell]
    refine ifC (fun hc => ?_) (fun hc => ?_)
    · simp at hc
      obtain ⟨b', off, rfl, hcell⟩ := word_cell hxs (i := j) hj0 (by omega)
      simp only [NN_some, addN, drw_cell, drw_heap, exS, exI, exB, exP, exM, exStr, exV, a0, a1, a2, a3, a4, a5, a6, a7, maxI_eq, Nat.zero_add, Nat.add_zero, Nat.mul_one, Option.isNone_some, Option.isNone_none, hcell]
      have hjl : j.toNat < L.length := by omega
      have ej : (j + 1).toNat = j.toNat + 1 := by omega
      refine ⟨hj0, hc, by rw [hw]; omega, ?_⟩
      rw [hw]
      refine ifC (fun he => ?_) (fun he => ?_)
      · refine ⟨hj0, hc, ?_⟩
        have hll := len_n hl
        have hfl := List.length_filter_le (fun x : Int => x.tmod N != 0) (L.take j.toNat)
        rw [List.length_take] at hfl
        refine BSl_rule (cs := [.int .u64 L[j.toNat]]) eS_22 (fill_one rfl) (by rfl) (by omega) fun w3 hs3 hu3 => ?_
        refine App_rule (hE := eS_22) (hl.upd hu3 (by intro k hk hx; cases hx)) hs3 (by simp [Value.oneCell']) (by omega) fun p' c' F' w4 hs4 hu4 hsub => ?_
        rw [i64id (by omega) (by omega)]
        refine ⟨⟨by omega, by omega, F', ?_, (hu.after hu3).fresh hu4 hFL, hFL.step hsub (Nat.le_trans hu.size hu3.size)⟩, by simp; omega⟩
        rw [ej, List.take_succ_eq_append_getElem hjl, List.filter_append]
        simp only [List.filter_cons, he, List.filter_nil, if_true, List.map_append, List.map_cons, List.map_nil]
        exact hs4
      · rw [i64id (by omega) (by omega)]
        refine ⟨⟨by omega, by omega, FL, ?_, hu, hFL⟩, by simp; omega⟩
        rw [ej, List.take_succ_eq_append_getElem hjl, List.filter_append]
        simp only [List.filter_cons, he, List.filter_nil, List.append_nil]
        simpa using hl
    · simp at hc
      have hjj : j.toNat = L.length := by omega
      rw [hjj, List.take_length] at hl
      have hkb' := hkb.upd hu (by simp)
      have hks' := hks.upd hu (by intro k hk hx; cases hx)
      simp only [NN_some, addN, drw_cell, drw_heap, exS, exI, exB, exP, exM, exStr, exV, a0, a1, a2, a3, a4, a5, a6, a7, maxI_eq, Nat.zero_add, Nat.add_zero, Nat.mul_one, Option.isNone_some, Option.isNone_none, hkb'.cell, hxb.cell]
      refine ifT rfl (Same_ok hks'.drw hxs.drw (by omega) fun w5 u5 => ifT rfl ?_)
      have U5 : Upd [] v w5 := (drw_upd v).after u5
      have hxb5 := hxb.upd U5 (by simp)
      simp only [NN_some, addN, drw_cell, drw_heap, exS, exI, exB, exP, exM, exStr, exV, a0, a1, a2, a3, a4, a5, a6, a7, maxI_eq, Nat.zero_add, Nat.add_zero, Nat.mul_one, Option.isNone_some, Option.isNone_none, hxb5.cell]
      refine St_rule hxb5 (by simp) rfl fun w6 u6 hxb6 => ?_
      simp at hxb6
      have hll := len_n hl
      have hfl := List.length_filter_le (fun x : Int => x.tmod N != 0) L
      rw [i64id (by omega) (by omega), hll, hxl]
      have hxbF : xb ∉ FL := fun h => by
        have h1 := hFL _ h
        have h2 := hx2.inn xb (by simp)
        omega
      have hxbF1 : xb ∉ F := fun h => hd _ h (by simp)
      have Uw2 : Upd F w w2 := u1.trans u2 (by simp) (by
        intro y hy; simp at hy
        rcases hy with rfl | hy
        · right; omega
        · exact .inl hy)
      have Uw5 : Upd F w w5 := (Uw2.before hu).before U5
      rw [show ((L.length : Int) - (L.filter (fun x => x.tmod N != 0)).length == (L.length : Int) - (L.filter (fun x => x.tmod N != 0)).length) = true from by simp]
      refine hK w6 _ F (xb :: FL) hfl ?_ ⟨xb, lp, ln, lc, FL, rfl, by simpa using hxb6, ?_, rfl, hxbF⟩ ?_ ?_ (Sub.refl _ _) ?_
      · exact ((hm2.upd hu (by intro k hk hx; cases hx)).upd U5 (by intro k hk hx; cases hx)).upd u6 (by intro y hy; simp; rintro rfl; exact hxbF1 hy)
      · exact (hl.upd U5 (by intro k hk hx; cases hx)).upd u6 (by intro y hy; simp; rintro rfl; exact hxbF hy)
      · intro y hy hz
        rcases List.mem_cons.1 hz with rfl | hz
        · exact hxbF1 hy
        · have h1 := hFL _ hz
          have h2 := hmi _ hy
          have := Uw2.size
          omega
      · exact Uw5.trans u6 (by intro y hy; simp [hy]) (by intro y hy; simp at hy; simp [hy])
      · intro y hy
        rcases List.mem_cons.1 hy with rfl | hy
        · simp
        · right; have h1 := hFL _ hy; have := Uw2.size; omega
  unfold F_law02_kept
  refine ifC (fun _ => key 2 (by omega) (by omega)) fun h1 => ifC (fun _ => key 2 (by omega) (by omega)) fun h2 => key i ?_ ?_
  · simp at h1; omega
  · simp at h2; omega

end Go.Proofs.Ytdkkkomcolklbaa
