/- Keeping some of a room's words: the room's own function. The law on keeping all and none. -/
import Derived.Test.YtdkkkomcolklbaaKeep
import Derived.Test.YtdkkkomcolklbaaLaw2
namespace Go.Proofs.Ytdkkkomcolklbaa
open Go Go.D Go.Proofs
set_option linter.unusedSimpArgs false
set_option linter.unusedVariables false

structure KAsks (kv : Value) (f : Int → Bool) (L : List Int) (I : Nat → List Nat → World → Prop) : Prop where
  keep : ∀ k H w w' G, I k H w → Upd G w w' → Dis H G → I k H w'
  inn : ∀ k H w, I k H w → In H w
  ask : ∀ k H w K (hk : k < L.length), I k H w → (∀ H' w', I (k + 1) H' w' → Upd H w w' → Sub H' H w → K (.bool (f L[k])) w') → CallV Try.prog kv [.int .i64 k, .int .u64 L[k]] w K

theorem keepAsks {kv : Value} {f : Int → Bool} {L : List Int} {I : Nat → List Nat → World → Prop} (hA : KAsks kv f L I) (hkv : kv.cells = #[kv]) (hL : L.length < 2 ^ 40) (r r1 : Nat) (hr : r ≠ r1) :
    Asks (.func (.func 35) #[] #[.pointer (some ⟨r1, 0, none⟩), .pointer (some ⟨r, 0, none⟩)]) (fun x => !f x) L
      (fun k H w => ∃ H0, I k H0 w ∧ Blk w r1 #[.int .i64 ((k : Int) - 1)] ∧ Blk w r #[kv] ∧ H = r1 :: r :: H0 ∧ r1 ∉ H0 ∧ r ∉ H0) := by
  constructor
  · rintro k H w w' G ⟨H0, hI, hb1, hb, rfl, h1, h2⟩ hu hd
    exact ⟨H0, hA.keep _ _ _ _ _ hI hu (fun x hx => hd x (by simp [hx])), hb1.upd hu (hd _ (by simp)), hb.upd hu (hd _ (by simp)), rfl, h1, h2⟩
  · rintro k H w ⟨H0, hI, hb1, hb, rfl, h1, h2⟩ x hx
    simp at hx
    rcases hx with rfl | rfl | hx
    · exact hb1.lt
    · exact hb.lt
    · exact hA.inn _ _ _ hI x hx
  · rintro k H w K hk ⟨H0, hI, hb1, hb, rfl, h1, h2⟩ hK
    have hc : C_room_Room_Keep_1 (L[k]) ⟨r1, 0, none⟩ ⟨r, 0, none⟩ w fun b w' => K (.bool b) w' := by
      apply C_room_Room_Keep_1.of
      unfold F_room_Room_Keep_1
      simp only [NN_some, addN, drw_cell, drw_heap, exS, exI, exB, exP, exM, exStr, exV, a0, a1, a2, a3, a4, a5, a6, a7, maxI_eq, Nat.zero_add, Nat.add_zero, Nat.mul_one, Option.isNone_some, Option.isNone_none, hb1.cell]
      refine St_rule hb1 (by simp) rfl fun w1 hu1 hb11 => ?_
      have hbb := hb.upd hu1 (by simp; exact hr)
      rw [i64id (by omega) (by omega)] at hb11
      rw [show (k : Int) - 1 + 1 = k by omega] at hb11
      simp at hb11
      simp only [NN_some, addN, drw_cell, drw_heap, exS, exI, exB, exP, exM, exStr, exV, a0, a1, a2, a3, a4, a5, a6, a7, maxI_eq, Nat.zero_add, Nat.add_zero, Nat.mul_one, Option.isNone_some, Option.isNone_none, hb11.cell, hbb.cell]
      have hI1 := hA.keep _ _ _ _ _ hI hu1 (by intro x hx; simp; rintro rfl; exact h1 hx)
      refine hA.ask k H0 w1 _ hk hI1 fun H' w' hI' hu' hs' => ⟨_, rfl, ?_⟩
      refine hK (r1 :: r :: H') w' ⟨H', hI', ?_, hbb.upd hu' h2, rfl, ?_, ?_⟩ ?_ ?_
      · have := hb11.upd hu' h1
        simpa using this
      · intro hx
        rcases hs' _ hx with h | h
        · exact h1 h
        · have := hb11.lt; omega
      · intro hx
        rcases hs' _ hx with h | h
        · exact h2 h
        · have := hbb.lt; omega
      · exact (hu1.mono (G := r1 :: r :: H0) (by simp)).trans hu' (fun _ h => .inl h) (fun x hx => .inl (by simp [hx]))
      · intro x hx
        simp at hx
        rcases hx with rfl | rfl | hx
        · simp
        · simp
        · rcases hs' x hx with h | h
          · simp [h]
          · right; have := hu1.size; omega
    exact ⟨35, _, _, rfl, rfl, Calls.mono hc fun e w' ⟨v, he, hk⟩ => ⟨_, he, hk⟩⟩

theorem Keep_ok {kv : Value} {f : Int → Bool} {L : List Int} {I : Nat → List Nat → World → Prop} (hA : KAsks kv f L I) (hkv : kv.cells = #[kv]) {w : World} {m : Option Addr} {lim most : Int} {F H : List Nat} {K : Int → World → Prop}
    (h : RoomAt w m L lim most F) (hI : I 0 H w) (hd : Dis H F) (hL : L.length < 2 ^ 40)
    (hK : ∀ H' w', RoomAt w' m (L.filter f) lim most F → I L.length H' w' → Upd (H ++ F) w w' → Sub H' H w → K (L.length - (L.filter f).length : Int) w') : C_room_Room_Keep m kv w K := by
  apply C_room_Room_Keep.of
  unfold F_room_Room_Keep
  have hin := h.inn
  obtain ⟨b, p, n, c, G, rfl, hb, hs, rfl, hn⟩ := h
  have hln := len_n hs
  refine New_rule fun r w1 hr u1 hr1 => ?_
  rw [hkv] at hr1
  have hb1 := hb.upd u1 (by simp)
  simp only [NN_some, addN, drw_cell, drw_heap, exS, exI, exB, exP, exM, exStr, exV, a0, a1, a2, a3, a4, a5, a6, a7, maxI_eq, Nat.zero_add, Nat.add_zero, Nat.mul_one, Option.isNone_some, Option.isNone_none, hb1.cell]
  refine ifF rfl (New_rule fun r1 w2 hr2 u2 hr21 => ?_)
  have hb2 := hb1.upd u2 (by simp)
  refine St_rule hr21 (by simp) rfl fun w3 u3 hr31 => ?_
  have hrr : r ≠ r1 := by have := hr1.lt; omega
  have hbr1 : b ≠ r1 := by have := hb1.lt; omega
  have hbr : b ≠ r := by have := hb.lt; omega
  have hb3 := hb2.upd u3 (by simpa using hbr1)
  have hr3 := (hr1.upd u2 (by simp)).upd u3 (by simpa using hrr)
  simp only [NN_some, addN, drw_cell, drw_heap, exS, exI, exB, exP, exM, exStr, exV, a0, a1, a2, a3, a4, a5, a6, a7, maxI_eq, Nat.zero_add, Nat.add_zero, Nat.mul_one, Option.isNone_some, Option.isNone_none, hb3.cell]
  have hI3 := hA.keep _ _ _ _ _ (hA.keep _ _ _ _ _ (hA.keep _ _ _ _ _ hI u1 (by intro x hx hy; cases hy)) u2 (by intro x hx hy; cases hy)) u3 (by
    intro x hx; simp
    have := hA.inn _ _ _ hI x hx
    have := u1.size
    omega)
  have hG : ∀ x ∈ G, x < w.heap.size := fun x hx => hin x (by simp [hx])
  have hHs : ∀ x ∈ H, x < w.heap.size := hA.inn _ _ _ hI
  have s1 := u1.size
  have hs3 := ((hs.upd u1 (by intro x hx hy; cases hy)).upd u2 (by intro x hx hy; cases hy)).upd u3 (by intro x hx; simp; have := hG x hx; omega)
  refine DeleteFunc_ok (keepAsks hA hkv hL r r1 hrr) hs3 (H := r1 :: r :: H) ⟨H, hI3, by simpa using hr31, hr3, rfl, ?_, ?_⟩ ?_ hL fun H' w4 n' hs4 hI4 hu4 hsub4 => ?_
  · intro hx; have := hHs _ hx; omega
  · intro hx; have := hHs _ hx; omega
  · intro x hx hg
    simp at hx
    rcases hx with rfl | rfl | hx
    · have := hG _ hg; omega
    · have := hG _ hg; omega
    · exact hd x hx (by simp [hg])
  · obtain ⟨H0, hI0, _, _, rfl, _, _⟩ := hI4
    have hb4 := hb3.upd hu4 (by
      simp only [List.cons_append, List.mem_cons, List.mem_append, not_or]
      exact ⟨hbr1, hbr, fun hx => hd b hx (by simp), hn⟩)
    refine St_rule hb4 (by simp) rfl fun w5 u5 hb5 => ?_
    simp at hb5
    simp only [NN_some, addN, drw_cell, drw_heap, exS, exI, exB, exP, exM, exStr, exV, a0, a1, a2, a3, a4, a5, a6, a7, maxI_eq, Nat.zero_add, Nat.add_zero, Nat.mul_one, Option.isNone_some, Option.isNone_none, hb5.cell]
    have e : (fun x => !!f x) = f := by funext x; simp
    replace hs4 : SlAt w4 1 p n' c ((L.filter f).map (.int .u64)) G := by simpa using hs4
    have hln' := len_n hs4
    have hle := List.length_filter_le f L
    have hU3 : Upd [] w w3 := (u1.after u2).fresh u3 (by intro x hx; simp at hx; omega)
    have hU4 : Upd (H ++ b :: G) w w4 := hU3.trans hu4 (by simp) (by
      intro x hx
      simp only [List.cons_append, List.mem_cons, List.mem_append] at hx
      rcases hx with rfl | rfl | hx | hx
      · right; omega
      · right; omega
      · left; simp [hx]
      · left; simp [hx])
    have hsub0 : Sub H0 H w := by
      intro x hx
      rcases hsub4 x (by simp [hx]) with h5 | h5
      · simp at h5
        rcases h5 with rfl | rfl | h5
        · right; omega
        · right; omega
        · exact .inl h5
      · right; have := hU3.size; omega
    have hb0 : b ∉ H0 := by
      intro hx
      rcases hsub0 b hx with h5 | h5
      · exact hd b h5 (by simp)
      · have := hb.lt; omega
    have hres := hK H0 w5 ⟨b, p, n', c, G, rfl, hb5, hs4.upd u5 (by intro x hx; simp; rintro rfl; exact hn hx), rfl, hn⟩ (hA.keep _ _ _ _ _ hI0 u5 (by intro x hx; simp; rintro rfl; exact hb0 hx)) (hU4.trans u5 (fun _ h => .inl h) (by intro x hx; simp at hx; left; simp [hx])) hsub0
    rw [i64id (by omega) (by omega), hln, hln']
    exact hres

/-- An asker that remembers nothing. -/
theorem plainAsks {fn : Nat} {f : Int → Bool} {L : List Int} (hb : hasBody Try.prog fn = true) (hc : ∀ k x w (K : Value → World → Prop), K (.bool (f x)) w → Calls Try.prog fn #[.int .i64 k, .int .u64 x] w fun e w' => ∃ u, e = .returned u ∧ K u w') :
    KAsks (.func (.func fn) #[] #[]) f L (fun _ H _ => H = []) := by
  constructor
  · rintro k H w w' G rfl _ _; rfl
  · rintro k H w rfl x hx; cases hx
  · rintro k H w K hk rfl hK
    exact ⟨fn, _, _, rfl, hb, hc _ _ _ _ (hK [] w rfl (Upd.refl _ _) (Sub.refl _ _))⟩

theorem neverAsks {L : List Int} : KAsks (.func (.func 24) #[] #[]) (fun _ => false) L (fun _ H _ => H = []) := by
  refine plainAsks rfl fun k x w K hK => ?_
  have : C_law02_never k x w fun b w' => K (.bool b) w' := by
    apply C_law02_never.of
    exact hK
  exact Calls.mono this fun e w' ⟨v, he, hk⟩ => ⟨_, he, hk⟩

theorem alwaysAsks {L : List Int} : KAsks (.func (.func 25) #[] #[]) (fun _ => true) L (fun _ H _ => H = []) := by
  refine plainAsks rfl fun k x w K hK => ?_
  have : C_law02_always k x w fun b w' => K (.bool b) w' := by
    apply C_law02_always.of
    exact hK
  exact Calls.mono this fun e w' ⟨v, he, hk⟩ => ⟨_, he, hk⟩

theorem RoomKeeps_law {w : World} {p : Option Addr} {n c : Nat} {L : List Int} (hs : Rd w 1 p n (L.map (.int .u64))) : C_law02_RoomKeeps p n c w fun r w' => r = true ∧ Upd [] w w' := by
  apply C_law02_RoomKeeps.of
  unfold F_law02_RoomKeeps F_law02_RoomKeeps_L1 F_law02_RoomKeeps_L2
  have hn := rd_len hs
  refine New_ok (by omega) (by omega) fun m w1 F1 h1 u1 n1 hm => lives_ok fun w2 u2 => ifF rfl (ifF rfl (ifF hm ?_))
  have U2 := u1.after u2
  refine ifC (fun _ => lives_ok fun w3 u3 => ⟨rfl, U2.after u3⟩) (fun hlen => ?_)
  simp at hlen
  -- pushed
  refine ⟨fun s v => 0 ≤ s.i ∧ s.i ≤ n ∧ ∃ F, RoomAt v m (L.take s.i.toNat) 1000 s.i F ∧ Upd [] w v ∧ Since F w, fun s _ => (n - s.i).toNat, ⟨by simp, by simp, F1, by simpa using h1.upd u2 (by intro k hk hx; cases hx), U2, n1⟩, ?_⟩
  rintro ⟨i⟩ v ⟨hi0, hi1, F, hr, hu, hF⟩
  simp only at hi0 hi1 hr ⊢
  unfold B_law02_RoomKeeps_L1
  refine ifC (fun hc => ?_) (fun hc => ?_)
  · simp at hc
    obtain ⟨x, hx, rfl, hcell⟩ := rd_word (hs.keep hu) hi0 (by omega)
    simp only [NN_some, addN, drw_cell, drw_heap, exS, exI, exB, exP, exM, exStr, exV, a0, a1, a2, a3, a4, a5, a6, a7, maxI_eq, Nat.zero_add, Nat.add_zero, Nat.mul_one, Option.isNone_some, Option.isNone_none, hcell]
    refine ⟨hi0, hc, Push_ok hr (by simp; omega) (by simp; omega) fun v1 F' hr1 hu1 hs1 => ?_⟩
    rw [i64id (by omega) (by omega)]
    refine ⟨⟨by omega, by omega, F', ?_, hu.fresh hu1 hF, hF.step hs1 hu.size⟩, by simp; omega⟩
    have e : (i + 1).toNat = i.toNat + 1 := by omega
    have e2 : max i (((L.take i.toNat).length : Int) + 1) = i + 1 := by simp; omega
    rw [e2] at hr1
    simp only [e, List.take_succ_eq_append_getElem (show i.toNat < L.length by omega)]
    exact hr1
  · simp at hc
    obtain rfl : i = n := by omega
    rw [hn, Int.toNat_natCast, List.take_length, ← hn] at hr
    refine Keep_ok alwaysAsks rfl hr (H := []) rfl (by intro x hx; cases hx) (by omega) fun H1 v1 hr1 _ hu1 _ => ?_
    have e1 : L.filter (fun _ => true) = L := List.filter_eq_self.2 (by simp)
    simp only [e1] at hr1 ⊢
    have U1 : Upd [] w v1 := hu.fresh hu1 (by intro x hx; exact hF x (by simpa using hx))
    refine Words_ok hr1 (by omega) fun wp wn wc F2 v2 hw hu2 nw => ifF (by simp) (ifF ?_ ?_)
    · have := len_n hw; simp; omega
    · have hwn := len_n hw
      have U2 := U1.after hu2
      have hr2 := hr1.upd hu2 (by intro x hx hy; cases hy)
      refine ⟨fun s v => 0 ≤ s.i_1 ∧ s.i_1 ≤ n ∧ Upd [] v2 v, fun s _ => (n - s.i_1).toNat, ⟨by simp, by simp, Upd.refl _ _⟩, ?_⟩
      rintro ⟨j⟩ v3 ⟨hj0, hj1, hu3⟩
      simp only at hj0 hj1 ⊢
      unfold B_law02_RoomKeeps_L2
      refine ifC (fun hc => ?_) (fun hc => ?_)
      · simp at hc
        obtain ⟨x, hx, rfl, hcell⟩ := rd_word (hs.keep (U2.after hu3)) hj0 (by omega)
        obtain ⟨b2, o2, rfl, hcell2⟩ := word_cell (hw.upd hu3 (by intro k hk hx; cases hx)) hj0 (by omega)
        simp only [NN_some, addN, drw_cell, drw_heap, exS, exI, exB, exP, exM, exStr, exV, a0, a1, a2, a3, a4, a5, a6, a7, maxI_eq, Nat.zero_add, Nat.add_zero, Nat.mul_one, Option.isNone_some, Option.isNone_none, hcell, hcell2]
        refine ⟨hj0, by omega, hj0, hc, ifF (by simp) ?_⟩
        rw [i64id (by omega) (by omega)]
        exact ⟨⟨by omega, by omega, hu3.after (drw_upd v3)⟩, by simp; omega⟩
      · have U3 := U2.after hu3
        have hr3 := hr2.upd hu3 (by intro x hx hy; cases hy)
        refine Keep_ok neverAsks rfl hr3 (H := []) rfl (by intro x hx; cases hx) (by omega) fun H4 v4 hr4 _ hu4 _ => ?_
        have U4 : Upd [] w v4 := U3.fresh hu4 (by intro x hx; exact hF x (by simpa using hx))
        have e2 : L.filter (fun _ => false) = [] := by simp
        rw [e2] at hr4 ⊢
        exact ifT (by simp; omega) (Len_ok hr4 (ifT rfl (Most_ok hr4 ⟨by simp, U4⟩)))

end Go.Proofs.Ytdkkkomcolklbaa
