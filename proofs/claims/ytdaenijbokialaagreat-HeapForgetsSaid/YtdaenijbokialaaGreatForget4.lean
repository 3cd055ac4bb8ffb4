import Derived.Test.YtdaenijbokialaaGreatAny
namespace Go.Proofs.YtdaenijbokialaaGreat
open Go Go.D Go.Proofs
set_option linter.unusedSimpArgs false
set_option linter.unusedVariables false
set_option maxRecDepth 8000
namespace Ro
def kp (f : Nat → Bool) : Nat → List Int → List Int
 | _, [] => []
 | k, x :: r => (if f k then [x] else []) ++ kp f (k + 1) r
theorem kp_snoc (f : Nat → Bool) (x : Int) : ∀ (l : List Int) (k : Nat), kp f k (l ++ [x]) = kp f k l ++ if f (k + l.length) then [x] else []
 | [], k => by simp [kp]
 | y :: l, k => by
  rw [List.cons_append, kp, kp, kp_snoc f x l (k + 1), List.append_assoc, List.length_cons, show k + 1 + l.length = k + (l.length + 1) by omega]
theorem kp_all {f : Nat → Bool} : ∀ {l : List Int} {k : Nat}, (∀ q, q < l.length → f (k + q) = true) → kp f k l = l
 | [], _, _ => rfl
 | x :: l, k, h => by
  rw [kp, if_pos (by simpa using h 0 (by simp)), kp_all fun q hq => by have := h (q + 1) (by simpa using hq); rwa [show k + (q + 1) = k + 1 + q by omega] at this]
  rfl
theorem kp_len (f : Nat → Bool) : ∀ (l : List Int) (k : Nat), (kp f k l).length ≤ l.length
 | [], _ => by simp [kp]
 | x :: l, k => by
  have := kp_len f l (k + 1)
  rw [kp, List.length_append, List.length_cons]
  split <;> simp <;> omega
theorem kp_take {f : Nat → Bool} {l : List Int} {i : Nat} (hi : i < l.length) : kp f 0 (l.take (i + 1)) = kp f 0 (l.take i) ++ if f i then [l[i]] else [] := by
 rw [List.take_succ_eq_append_getElem hi, kp_snoc, List.length_take, Nat.min_eq_left (by omega), Nat.zero_add]
structure Asks (del : Value) (f : Nat → Bool) (L : List Int) (I : Nat → List Nat → World → Prop) : Prop where
 keep : ∀ k H w w' G, I k H w → Upd G w w' → Dis H G → I k H w'
 inn : ∀ k H w, I k H w → In H w
 ask : ∀ k H w K (hk : k < L.length), I k H w → (∀ H' w', I (k + 1) H' w' → Upd H w w' → Sub H' H w → K (.bool (f k)) w') → CallV Tryz.prog del [.int .u64 L[k]] w K
theorem IndexFunc_ok {del : Value} {f : Nat → Bool} {L : List Int} {I : Nat → List Nat → World → Prop} (hA : Asks del f L I) {w : World} {p : Option Addr} {n c : Nat} {G H : List Nat} {K : Int → World → Prop}
  (hs : SlAt w 1 p n c (L.map (.int .u64)) G) (hI : I 0 H w) (hd : Dis H G) (hl : L.length < 2 ^ 40)
  (hno : ∀ H' w', (∀ q, q < L.length → f q = false) → I L.length H' w' → Upd H w w' → Sub H' H w → K (-1) w')
  (hyes : ∀ k H' w' (hk : k < L.length), (∀ q, q < k → f q = false) → f k = true → I (k + 1) H' w' → Upd H w w' → Sub H' H w → K k w') : C_slices_IndexFunc__2 p n c del w K := by
 apply C_slices_IndexFunc__2.of
 unfold F_slices_IndexFunc__2 F_slices_IndexFunc__2_L1
 have hn := len_n hs
 refine ⟨fun s v => 0 ≤ s.t8 ∧ s.t8 ≤ n ∧ (∀ q, q < s.t8.toNat → f q = false) ∧ ∃ H', I s.t8.toNat H' v ∧ Upd H w v ∧ Sub H' H w, fun s _ => (n - s.t8).toNat, ⟨by simp, by simp, by simp, H, hI, Upd.refl _ _, Sub.refl _ _⟩, ?_⟩
 rintro ⟨i⟩ v ⟨hi0, hi1, hf, H', hI', hu, hsub⟩
 unfold B_slices_IndexFunc__2_L1
 dsimp only at hi0 hi1 hf hI' ⊢
 have hd' : Dis H' G := hd.step hsub hs.inn
 refine ifC (fun hc => ?_) (fun hc => ?_)
 ·simp at hc
  have hsv := hs.upd hu hd.symm
  obtain ⟨b, o, rfl, hcell⟩ := word_cell hsv hi0 (by omega)
  simp only [NN_some, addN, drw_cell, drw_heap, exS, exI, exB, exP, exM, exStr, exV, a0, a1, a2, a3, a4, a5, a6, a7, a8, a9, a10, a11, a12, a13, maxI_eq, Nat.zero_add, Nat.add_zero, Nat.mul_one, Option.isNone_some, Option.isNone_none, hcell]
  have hlt : i.toNat < L.length := by omega
  refine ⟨hi0, hc, hA.ask i.toNat H' v _ hlt hI' fun H2 v2 hI2 hu2 hs2 => ⟨_, rfl, ?_⟩⟩
  have U2 : Upd H w v2 := hu.trans hu2 (fun _ h => .inl h) hsub
  have S2 : Sub H2 H w := hsub.trans hs2 hu.size
  refine ifC (fun he => ?_) (fun he => ?_)
  ·have := hyes i.toNat H2 v2 hlt hf he hI2 U2 S2
   rwa [Int.toNat_of_nonneg hi0] at this
  ·rw [i64id (by omega) (by omega)]
   have e : (i + 1).toNat = i.toNat + 1 := by omega
   refine ⟨⟨by omega, by omega, ?_, H2, by rw [e]; exact hI2, U2, S2⟩, by simp; omega⟩
   intro q hq
   rw [e] at hq
   by_cases h : q < i.toNat
   ·exact hf q h
   ·rw [show q = i.toNat by omega]; exact he
 ·simp at hc
  have e : i.toNat = L.length := by omega
  rw [e] at hf hI'
  exact hno H' v hf hI' hu hsub
theorem DeleteFunc_ok {del : Value} {f : Nat → Bool} {L : List Int} {I : Nat → List Nat → World → Prop} (hA : Asks del f L I) {w : World} {p : Option Addr} {n c : Nat} {G H : List Nat} {K : Option Addr → Nat → Nat → World → Prop}
  (hs : SlAt w 1 p n c (L.map (.int .u64)) G) (hI : I 0 H w) (hd : Dis H G) (hl : L.length < 2 ^ 40)
  (hK : ∀ H' w' n', SlAt w' 1 p n' c ((kp (fun q => !f q) 0 L).map (.int .u64)) G → I L.length H' w' → Upd (H ++ G) w w' → Sub H' H w → K p n' c w') : C_slices_DeleteFunc p n c del w K := by
 apply C_slices_DeleteFunc.of
 unfold F_slices_DeleteFunc F_slices_DeleteFunc_L1
 have hn := len_n hs
 refine IndexFunc_ok hA hs hI hd hl (fun H' w' hf hI' hu hsub => ifT rfl ?_) (fun k H' w' hk hf hfk hI' hu hsub => ifF (by simp) ?_)
 ·have e : kp (fun q => !f q) 0 L = L := kp_all fun q hq => by rw [Nat.zero_add, hf q hq]; rfl
  refine hK H' w' n ?_ hI' (hu.mono fun k hk => .inl (by simp [hk])) hsub
  rw [e]
  exact hs.upd hu hd.symm
 ·rw [i64id (by omega) (by omega)]
  refine ⟨fun s v => 0 ≤ s.i ∧ s.i < s.j ∧ s.j ≤ n ∧ ∃ C H', SlAt v 1 p n c (C.map (.int .u64)) G ∧ C.take s.i.toNat = kp (fun q => !f q) 0 (L.take s.j.toNat) ∧ s.i.toNat = (kp (fun q => !f q) 0 (L.take s.j.toNat)).length ∧ C.drop s.j.toNat = L.drop s.j.toNat ∧ C.length = L.length ∧ I s.j.toNat H' v ∧ Upd (H ++ G) w v ∧ Sub H' H w, fun s _ => (n - s.j).toNat, ⟨by simp, by dsimp only; omega, by dsimp only; omega, L, H', hs.upd hu hd.symm, ?_, ?_, rfl, rfl, ?_, hu.mono fun k hk => .inl (by simp [hk]), hsub⟩, ?_⟩
  ·have e : ((k : Int) + 1).toNat = k + 1 := by omega
   dsimp only
   rw [e, kp_take hk]
   simp [hfk]
   exact (kp_all fun q hq => by rw [Nat.zero_add, hf q (by simp at hq; omega)]; rfl).symm
  ·have e : ((k : Int) + 1).toNat = k + 1 := by omega
   dsimp only
   rw [e, kp_take hk]
   have : kp (fun q => !f q) 0 (L.take k) = L.take k := kp_all fun q hq => by rw [Nat.zero_add, hf q (by simp at hq; omega)]; rfl
   rw [this]
   simp [hfk]; omega
  ·have e : ((k : Int) + 1).toNat = k + 1 := by omega
   dsimp only; rw [e]; exact hI'
  rintro ⟨i, j⟩ v ⟨hi0, hij, hjn, C, H2, hsC, h1, h2, h3, hCl, hI2, hu2, hsub2⟩
  dsimp only at hi0 hij hjn h1 h2 h3 hI2
  unfold B_slices_DeleteFunc_L1 F_slices_DeleteFunc_k1
  dsimp only
  have hd2 : Dis H2 G := hd.step hsub2 hs.inn
  refine ifC (fun hc => ?_) (fun hc => ?_)
  ·simp at hc
   have hjl : j.toNat < L.length := by omega
   have hCj : C[j.toNat]'(by omega) = L[j.toNat] := by
    have h5 : (C.drop j.toNat)[0]? = (L.drop j.toNat)[0]? := by rw [h3]
    rw [List.getElem?_drop, List.getElem?_drop, Nat.add_zero, List.getElem?_eq_getElem (by omega), List.getElem?_eq_getElem (by omega)] at h5
    simpa using h5
   obtain ⟨b, o, hp, hcell⟩ := word_cell hsC (i := j) (by omega) (by omega)
   rw [hCj] at hcell
   subst hp
   simp only [NN_some, addN, drw_cell, drw_heap, exS, exI, exB, exP, exM, exStr, exV, a0, a1, a2, a3, a4, a5, a6, a7, a8, a9, a10, a11, a12, a13, maxI_eq, Nat.zero_add, Nat.add_zero, Nat.mul_one, Option.isNone_some, Option.isNone_none, hcell]
   have ej : (j + 1).toNat = j.toNat + 1 := by omega
   refine ⟨by omega, hc, hA.ask j.toNat H2 v _ hjl hI2 fun H3 v3 hI3 hu3 hs3 => ⟨_, rfl, ?_⟩⟩
   have U3 : Upd (H ++ G) w v3 := hu2.trans hu3 (fun _ h => .inl h) fun x hx => (hsub2 x hx).imp (by intro h; simp [h]) id
   have S3 : Sub H3 H w := hsub2.trans hs3 hu2.size
   have hsC3 := hsC.upd hu3 hd2.symm
   have hd3 : Dis H3 G := hd.step S3 hs.inn
   refine ifC (fun he => ?_) (fun he => ?_)
   ·simp at he
    refine ⟨hi0, by omega, St_elem hsC3 rfl (by omega) rfl fun v4 hs4 hu4 => ?_⟩
    rw [i64id (by omega) (by omega), i64id (by omega) (by omega)]
    have ei : (i + 1).toNat = i.toNat + 1 := by omega
    rw [← List.map_set] at hs4
    refine ⟨⟨by omega, by omega, by omega, _, H3, hs4, ?_, ?_, ?_, by simpa using hCl, ?_, U3.trans hu4 (fun _ h => .inl h) (fun x hx => .inl (by simp [hx])), S3⟩, by simp; omega⟩
    ·rw [ei, ej, kp_take hjl, List.take_succ_eq_append_getElem (by simp; omega), List.take_set_of_le (Nat.le_refl _), h1]
     simp [he]
    ·rw [ei, ej, kp_take hjl, List.length_append, ← h2]
     simp [he]
    ·rw [ej, List.drop_set_of_lt (by omega)]
     have h6 : (C.drop j.toNat).drop 1 = (L.drop j.toNat).drop 1 := by rw [h3]
     simpa [List.drop_drop, Nat.add_comm] using h6
    ·rw [ej]; exact hA.keep _ _ _ _ _ hI3 hu4 hd3
   ·simp at he
    rw [i64id (by omega) (by omega)]
    refine ⟨⟨hi0, by omega, by omega, C, H3, hsC3, ?_, ?_, ?_, hCl, by rw [ej]; exact hI3, U3, S3⟩, by simp; omega⟩
    ·rw [ej, kp_take hjl, h1]
     simp [he]
    ·rw [ej, kp_take hjl, List.length_append, ← h2]
     simp [he]
    ·rw [ej]
     have h6 : (C.drop j.toNat).drop 1 = (L.drop j.toNat).drop 1 := by rw [h3]
     simpa [List.drop_drop, Nat.add_comm] using h6
  ·simp at hc
   have hjj : j.toNat = L.length := by omega
   rw [hjj, List.take_length] at h1 h2
   have hnc := hsC.2.1
   refine ⟨hi0, by omega, Clr_rule eS_36 hsC (by omega) fun _ v5 hs5 hu5 => ⟨hi0, by omega, hK H2 v5 i.toNat ?_ (by rw [← hjj]; exact hA.keep _ _ _ _ _ hI2 hu5 hd2) (hu2.trans hu5 (fun _ h => .inl h) fun x hx => .inl (by simp [hx])) hsub2⟩⟩
   have h7 := hs5.take (k := i.toNat) (by omega)
   have e7 : ((C.map (Value.int .u64)).take (i.toNat * 1) ++ zeroL #[.int .u64 0] (n - i.toNat)).take (i.toNat * 1) = (kp (fun q => !f q) 0 L).map (.int .u64) := by
    rw [Nat.mul_one, List.take_append_of_le_length (by simp; omega), List.take_take, Nat.min_self, ← List.map_take, h1]
   rw [e7] at h7
   exact h7
structure KAsks (kv : Value) (f : Nat → Bool) (L : List Int) (I : Nat → List Nat → World → Prop) : Prop where
 keep : ∀ k H w w' G, I k H w → Upd G w w' → Dis H G → I k H w'
 inn : ∀ k H w, I k H w → In H w
 ask : ∀ k H w K (hk : k < L.length), I k H w → (∀ H' w', I (k + 1) H' w' → Upd H w w' → Sub H' H w → K (.bool (f k)) w') → CallV Tryz.prog kv [.int .i64 k, .int .u64 L[k]] w K
theorem keepAsks {kv : Value} {f : Nat → Bool} {L : List Int} {I : Nat → List Nat → World → Prop} (hA : KAsks kv f L I) (hkv : kv.cells = #[kv]) (hL : L.length < 2 ^ 40) (r r1 : Nat) (hr : r ≠ r1) :
  Asks (.func (.func 142) #[] #[.pointer (some ⟨r1, 0, none⟩), .pointer (some ⟨r, 0, none⟩)]) (fun q => !f q) L
   (fun k H w => ∃ H0, I k H0 w ∧ Blk w r1 #[.int .i64 ((k : Int) - 1)] ∧ Blk w r #[kv] ∧ H = r1 :: r :: H0 ∧ r1 ∉ H0 ∧ r ∉ H0) := by
 constructor
 ·rintro k H w w' G ⟨H0, hI, hb1, hb, rfl, h1, h2⟩ hu hd
  exact ⟨H0, hA.keep _ _ _ _ _ hI hu (fun x hx => hd x (by simp [hx])), hb1.upd hu (hd _ (by simp)), hb.upd hu (hd _ (by simp)), rfl, h1, h2⟩
 ·rintro k H w ⟨H0, hI, hb1, hb, rfl, h1, h2⟩ x hx
  simp at hx
  rcases hx with rfl | rfl | hx
  ·exact hb1.lt
  ·exact hb.lt
  ·exact hA.inn _ _ _ hI x hx
 ·rintro k H w K hk ⟨H0, hI, hb1, hb, rfl, h1, h2⟩ hK
  have hc : C_room_Room_Keep_1 (L[k]) ⟨r1, 0, none⟩ ⟨r, 0, none⟩ w fun b w' => K (.bool b) w' := by
   apply C_room_Room_Keep_1.of
   unfold F_room_Room_Keep_1
   simp only [NN_some, addN, drw_cell, drw_heap, exS, exI, exB, exP, exM, exStr, exV, a0, a1, a2, a3, a4, a5, a6, a7, a8, a9, a10, a11, a12, a13, maxI_eq, Nat.zero_add, Nat.add_zero, Nat.mul_one, Option.isNone_some, Option.isNone_none, hb1.cell]
   refine St_rule hb1 (by simp) rfl fun w1 hu1 hb11 => ?_
   have hbb := hb.upd hu1 (by simp; exact hr)
   rw [i64id (by omega) (by omega)] at hb11
   rw [show (k : Int) - 1 + 1 = k by omega] at hb11
   simp at hb11
   simp only [NN_some, addN, drw_cell, drw_heap, exS, exI, exB, exP, exM, exStr, exV, a0, a1, a2, a3, a4, a5, a6, a7, a8, a9, a10, a11, a12, a13, maxI_eq, Nat.zero_add, Nat.add_zero, Nat.mul_one, Option.isNone_some, Option.isNone_none, hb11.cell, hbb.cell]
   have hI1 := hA.keep _ _ _ _ _ hI hu1 (by intro x hx; simp; rintro rfl; exact h1 hx)
   refine hA.ask k H0 w1 _ hk hI1 fun H' w' hI' hu' hs' => ⟨_, rfl, ?_⟩
   refine hK (r1 :: r :: H') w' ⟨H', hI', ?_, hbb.upd hu' h2, rfl, ?_, ?_⟩ ?_ ?_
   ·have := hb11.upd hu' h1
    simpa using this
   ·intro hx
    rcases hs' _ hx with h | h
    ·exact h1 h
    ·have := hb11.lt; omega
   ·intro hx
    rcases hs' _ hx with h | h
    ·exact h2 h
    ·have := hbb.lt; omega
   ·exact (hu1.mono (G := r1 :: r :: H0) (by simp)).trans hu' (fun _ h => .inl h) (fun x hx => .inl (by simp [hx]))
   ·intro x hx
    simp at hx
    rcases hx with rfl | rfl | hx
    ·simp
    ·simp
    ·rcases hs' x hx with h | h
     ·simp [h]
     ·right; have := hu1.size; omega
  exact ⟨142, _, _, rfl, rfl, Calls.mono hc fun e w' ⟨v, he, hk⟩ => ⟨_, he, hk⟩⟩
theorem Keep_ok {kv : Value} {f : Nat → Bool} {L : List Int} {I : Nat → List Nat → World → Prop} (hA : KAsks kv f L I) (hkv : kv.cells = #[kv]) {w : World} {m : Option Addr} {lim most : Int} {F H : List Nat} {K : Int → World → Prop}
  (h : RoomAt w m L lim most F) (hI : I 0 H w) (hd : Dis H F) (hL : L.length < 2 ^ 40)
  (hK : ∀ H' w', RoomAt w' m (kp f 0 L) lim most F → I L.length H' w' → Upd (H ++ F) w w' → Sub H' H w → K (L.length - (kp f 0 L).length : Int) w') : C_room_Room_Keep m kv w K := by
 apply C_room_Room_Keep.of
 unfold F_room_Room_Keep
 have hin := h.inn
 obtain ⟨b, p, n, c, G, rfl, hb, hs, rfl, hn⟩ := h
 have hln := len_n hs
 refine New_rule fun r w1 hr u1 hr1 => ?_
 rw [hkv] at hr1
 have hb1 := hb.upd u1 (by simp)
 simp only [NN_some, addN, drw_cell, drw_heap, exS, exI, exB, exP, exM, exStr, exV, a0, a1, a2, a3, a4, a5, a6, a7, a8, a9, a10, a11, a12, a13, maxI_eq, Nat.zero_add, Nat.add_zero, Nat.mul_one, Option.isNone_some, Option.isNone_none, hb1.cell]
 refine ifF rfl (New_rule fun r1 w2 hr2 u2 hr21 => ?_)
 have hb2 := hb1.upd u2 (by simp)
 refine St_rule hr21 (by simp) rfl fun w3 u3 hr31 => ?_
 have hrr : r ≠ r1 := by have := hr1.lt; omega
 have hbr1 : b ≠ r1 := by have := hb1.lt; omega
 have hbr : b ≠ r := by have := hb.lt; omega
 have hb3 := hb2.upd u3 (by simpa using hbr1)
 have hr3 := (hr1.upd u2 (by simp)).upd u3 (by simpa using hrr)
 simp only [NN_some, addN, drw_cell, drw_heap, exS, exI, exB, exP, exM, exStr, exV, a0, a1, a2, a3, a4, a5, a6, a7, a8, a9, a10, a11, a12, a13, maxI_eq, Nat.zero_add, Nat.add_zero, Nat.mul_one, Option.isNone_some, Option.isNone_none, hb3.cell]
 have hI3 := hA.keep _ _ _ _ _ (hA.keep _ _ _ _ _ (hA.keep _ _ _ _ _ hI u1 (by intro x hx hy; cases hy)) u2 (by intro x hx hy; cases hy)) u3 (by
  intro x hx; simp
  have := hA.inn _ _ _ hI x hx
  have := u1.size
  omega)
 have hG : ∀ x ∈ G, x < w.heap.size := fun x hx => hin x (by simp [hx])
 have hHs : ∀ x ∈ H, x < w.heap.size := hA.inn _ _ _ hI
 have s1 := u1.size
 have hs3 := ((hs.upd u1 (by intro x hx hy; cases hy)).upd u2 (by intro x hx hy; cases hy)).upd u3 (by intro x hx; simp; have := hG x hx; omega)
 refine DeleteFunc_ok (keepAsks hA hkv hL r r1 hrr) hs3 (H := r1 :: r :: H) ⟨H, hI3, by simpa using hr31, hr3, rfl, ?_, ?_⟩ ?_ hL fun H' w4 n' hs4 hI4 hu4 hsub4 => ?_
 ·intro hx; have := hHs _ hx; omega
 ·intro hx; have := hHs _ hx; omega
 ·intro x hx hg
  simp at hx
  rcases hx with rfl | rfl | hx
  ·have := hG _ hg; omega
  ·have := hG _ hg; omega
  ·exact hd x hx (by simp [hg])
 ·obtain ⟨H0, hI0, _, _, rfl, _, _⟩ := hI4
  have hb4 := hb3.upd hu4 (by
   simp only [List.cons_append, List.mem_cons, List.mem_append, not_or]
   exact ⟨hbr1, hbr, fun hx => hd b hx (by simp), hn⟩)
  refine St_rule hb4 (by simp) rfl fun w5 u5 hb5 => ?_
  simp at hb5
  simp only [NN_some, addN, drw_cell, drw_heap, exS, exI, exB, exP, exM, exStr, exV, a0, a1, a2, a3, a4, a5, a6, a7, a8, a9, a10, a11, a12, a13, maxI_eq, Nat.zero_add, Nat.add_zero, Nat.mul_one, Option.isNone_some, Option.isNone_none, hb5.cell]
  have e : (fun q => !!f q) = f := by funext q; simp
  replace hs4 : SlAt w4 1 p n' c ((kp f 0 L).map (.int .u64)) G := by simpa using hs4
  have hln' := len_n hs4
  have hle := kp_len f L 0
  have hU3 : Upd [] w w3 := (u1.after u2).fresh u3 (by intro x hx; simp at hx; omega)
  have hU4 : Upd (H ++ b :: G) w w4 := hU3.trans hu4 (by simp) (by
   intro x hx
   simp only [List.cons_append, List.mem_cons, List.mem_append] at hx
   rcases hx with rfl | rfl | hx | hx
   ·right; omega
   ·right; omega
   ·left; simp [hx]
   ·left; simp [hx])
  have hsub0 : Sub H0 H w := by
   intro x hx
   rcases hsub4 x (by simp [hx]) with h5 | h5
   ·simp at h5
    rcases h5 with rfl | rfl | h5
    ·right; omega
    ·right; omega
    ·exact .inl h5
   ·right; have := hU3.size; omega
  have hb0 : b ∉ H0 := by
   intro hx
   rcases hsub0 b hx with h5 | h5
   ·exact hd b h5 (by simp)
   ·have := hb.lt; omega
  have hres := hK H0 w5 ⟨b, p, n', c, G, rfl, hb5, hs4.upd u5 (by intro x hx; simp; rintro rfl; exact hn hx), rfl, hn⟩ (hA.keep _ _ _ _ _ hI0 u5 (by intro x hx; simp; rintro rfl; exact hb0 hx)) (hU4.trans u5 (fun _ h => .inl h) (by intro x hx; simp at hx; left; simp [hx])) hsub0
  rw [i64id (by omega) (by omega), hln, hln']
  exact hres
end Ro
open Ro
section
variable {w : World}
theorem app_u {x : Int} {P : Option Addr} {N C : Nat} {xs : List Value} {G : List Nat} {K : Option Addr → Nat → Nat → World → Prop} (h : SlAt w 1 P N C xs G) (hN : N < 2 ^ 40) (hK : ∀ p' c' G' w', SlAt w' 1 p' (N + 1) c' (xs ++ [.int .u64 x]) G' → Upd G w w' → Sub G' G w → K p' (N + 1) c' w') :
  BSl Tryz.prog 36 1 [(0, .int .u64 x)] w fun p n c w1 => App Tryz.prog #[36, 36] 36 #[.slice P N C, .slice p n c] w1 K := by
 refine BSlL_rule eS_36 [.int .u64 x] (by rfl) (by simp [Value.cells]) (by rfl) (by omega) fun v1 hs u => ?_
 refine App_rule (hE := eS_36) (h.upd u (by intro k _ h; cases h)) hs (by simp [Value.cells, Value.oneCell']) (by omega) fun p' c' G' w' hs' u' s' => ?_
 have hG := h.inn
 refine hK p' c' G' w' (by simpa [Value.cells] using hs') (u.after u') (fun k hk => ?_)
 rcases s' k hk with e | e
 ·exact .inl e
 ·right; have := u.size; omega
theorem app_i {x : Int} {P : Option Addr} {N C : Nat} {xs : List Value} {G : List Nat} {K : Option Addr → Nat → Nat → World → Prop} (h : SlAt w 1 P N C xs G) (hN : N < 2 ^ 40) (hK : ∀ p' c' G' w', SlAt w' 1 p' (N + 1) c' (xs ++ [.int .i64 x]) G' → Upd G w w' → Sub G' G w → K p' (N + 1) c' w') :
  BSl Tryz.prog 55 1 [(0, .int .i64 x)] w fun p n c w1 => App Tryz.prog #[55, 55] 55 #[.slice P N C, .slice p n c] w1 K := by
 refine BSlL_rule eS_55 [.int .i64 x] (by rfl) (by simp [Value.cells]) (by rfl) (by omega) fun v1 hs u => ?_
 refine App_rule (hE := eS_55) (h.upd u (by intro k _ h; cases h)) hs (by simp [Value.cells, Value.oneCell']) (by omega) fun p' c' G' w' hs' u' s' => ?_
 have hG := h.inn
 refine hK p' c' G' w' (by simpa [Value.cells] using hs') (u.after u') (fun k hk => ?_)
 rcases s' k hk with e | e
 ·exact .inl e
 ·right; have := u.size; omega
def kf (n : Nat) (q : Nat) : Bool := !decide (q % n = 0)
theorem keeper_ok {rk n k : Nat} {L : List Int} {wp lp : Option Addr} {wn wc ln lc : Nat} {lw : List Int} {GW GL : List Nat} {K : Bool → World → Prop} (hn : 1 ≤ n) (hn20 : n ≤ 20) (hk : k < L.length) (hL : L.length < 2 ^ 40) (hx0 : 0 ≤ L[k]) (hx1 : L[k] < 2 ^ 62)
  (hb : Blk w rk #[.int .i64 (n : Int), .slice wp wn wc, .slice lp ln lc, .bool true, .int .i64 (k : Int)]) (hw : SlAt w 1 wp wn wc (L.map (.int .u64)) GW) (hl : SlAt w 1 lp ln lc (lw.map (.int .u64)) GL) (hln : lw.length ≤ k) (d1 : rk ∉ GW) (d2 : rk ∉ GL) (d3 : Dis GL GW)
  (hno : kf n k = false → ∀ w', Blk w' rk #[.int .i64 (n : Int), .slice wp wn wc, .slice lp ln lc, .bool true, .int .i64 ((k + 1 : Nat) : Int)] → Upd [rk] w w' → K false w')
  (hyes : kf n k = true → ∀ w' lp' lc' GL', Blk w' rk #[.int .i64 (n : Int), .slice wp wn wc, .slice lp' (ln + 1) lc', .bool true, .int .i64 ((k + 1 : Nat) : Int)] → SlAt w' 1 lp' (ln + 1) lc' ((lw ++ [L[k]]).map (.int .u64)) GL' → Upd (rk :: GL) w w' → Sub GL' GL w → K true w') :
  C_law20_keeper_keep (some ⟨rk, 0, none⟩) (k : Int) (IntKind.i64.wrap L[k]) w K := by
 apply C_law20_keeper_keep.of
 unfold F_law20_keeper_keep
 have hwn := len_n hw
 have hlnn := len_n hl
 obtain ⟨wb, woff, rfl, hwcell⟩ := word_cell hw (i := (k : Int)) (by omega) (by omega)
 simp only [Int.toNat_natCast] at hwcell
 rw [i64id (by omega) (by omega)]
 have eu : IntKind.u64.wrap L[k] = L[k] := by rw [u64w']; omega
 simp only [NN_some, addN, drw_cell, drw_heap, exS, exI, exB, exP, exM, exStr, exV, a0, a1, a2, a3, a4, a5, a6, a7, a8, a9, a10, a11, a12, a13, maxI_eq, Nat.zero_add, Nat.add_zero, Nat.mul_one, Option.isNone_some, Option.isNone_none, hb.cell, eu]
 refine ifT rfl (ifT (by simp) (ifT (by simp; omega) ⟨by omega, by omega, ?_⟩))
 simp only [NN_some, addN, drw_cell, drw_heap, exS, exI, exB, exP, exM, exStr, exV, a0, a1, a2, a3, a4, a5, a6, a7, a8, a9, a10, a11, a12, a13, maxI_eq, Nat.zero_add, Nat.add_zero, Nat.mul_one, Option.isNone_some, Option.isNone_none, Int.toNat_natCast, hwcell]
 refine St_rule hb (by simp) rfl fun w1 u1 b1 => ?_
 have e1 : (L[k] == L[k]) = true := by simp
 rw [e1] at b1
 simp at b1
 unfold F_law20_keeper_keep_k1
 simp only [NN_some, addN, drw_cell, drw_heap, exS, exI, exB, exP, exM, exStr, exV, a0, a1, a2, a3, a4, a5, a6, a7, a8, a9, a10, a11, a12, a13, maxI_eq, Nat.zero_add, Nat.add_zero, Nat.mul_one, Option.isNone_some, Option.isNone_none, b1.cell]
 refine St_rule b1 (by simp) rfl fun w2 u2 b2 => ?_
 rw [i64id (by omega) (by omega)] at b2
 simp at b2
 simp only [NN_some, addN, drw_cell, drw_heap, exS, exI, exB, exP, exM, exStr, exV, a0, a1, a2, a3, a4, a5, a6, a7, a8, a9, a10, a11, a12, a13, maxI_eq, Nat.zero_add, Nat.add_zero, Nat.mul_one, Option.isNone_some, Option.isNone_none, b2.cell]
 have U2 : Upd [rk] w w2 := u1.trans u2 (fun _ h => .inl h) (fun x hx => .inl hx)
 have em : ((k : Int).tmod (n : Int) == 0) = decide (k % n = 0) := by
  rw [Int.tmod_eq_emod_of_nonneg (by omega), Bool.eq_iff_iff]
  simp
  omega
 rw [em]
 refine ⟨by omega, ifC (fun g => ?_) (fun g => ?_)⟩
 ·exact hno (by unfold kf; rw [g]; rfl) w2 b2 U2
 ·refine app_u (hl.upd U2 (by intro x hx; simp; rintro rfl; exact d2 hx)) (by omega) fun p' c' G' w3 hs3 u3 s3 => ?_
  have b3 := b2.upd u3 d2
  refine St_rule b3 (by simp) rfl fun w4 u4 b4 => ?_
  simp at b4
  have rk3 : rk ∉ G' := fun hx => by
   rcases s3 rk hx with e | e
   ·exact d2 e
   ·have := b2.lt; omega
  have hs4 := hs3.upd u4 (by intro x hx hy; rw [List.mem_singleton] at hy; rw [hy] at hx; exact rk3 hx)
  refine hyes (by unfold kf; rw [g]; rfl) w4 p' c' G' b4 (by rw [List.map_append, List.map_singleton]; rw [eu] at hs4; exact hs4) ?_ fun x hx => ?_
  ·refine ((U2.mono (G := rk :: GL) (by intro x hx; simp at hx; simp [hx])).trans u3 (fun x h => .inl (by simp [h])) fun x hx => .inl (by simp [hx])).trans u4 (fun x h => .inl h) fun x hx => .inl (by simp at hx; simp [hx])
  ·rcases s3 x hx with e | e
   ·exact .inl e
   ·right; have := U2.size; omega
end
open Ro
def gone (n k : Nat) : List Int := ((List.range k).filter fun q => decide (q % n = 0)).map fun (q : Nat) => (q : Int)
theorem gone_succ (n k : Nat) : gone n (k + 1) = gone n k ++ if kf n k then [] else [(k : Int)] := by
 unfold gone kf
 rw [List.range_succ, List.filter_append, List.map_append]
 by_cases h : k % n = 0
 ·simp [h]
 ·simp [h]
theorem gone_len (n k : Nat) : (gone n k).length ≤ k := by
 unfold gone
 rw [List.length_map]
 have := List.length_filter_le (fun q => decide (q % n = 0)) (List.range k)
 rwa [List.length_range] at this
def FgI (n rk r0 r1 : Nat) (L : List Int) (wp : Option Addr) (wn wc : Nat) (GW : List Nat) (k : Nat) (H : List Nat) (w : World) : Prop :=
 ∃ (lp : Option Addr) (ln lc : Nat) (GL : List Nat) (gp : Option Addr) (gn gc : Nat) (GG : List Nat),
  Blk w rk #[.int .i64 (n : Int), .slice wp wn wc, .slice lp ln lc, .bool true, .int .i64 (k : Int)] ∧ Blk w r0 #[.func (.func 60) #[.pointer (some ⟨rk, 0, none⟩)] #[]] ∧ Blk w r1 #[.slice gp gn gc] ∧
  SlAt w 1 wp wn wc (L.map (.int .u64)) GW ∧ SlAt w 1 lp ln lc ((kp (kf n) 0 (L.take k)).map (.int .u64)) GL ∧ SlAt w 1 gp gn gc ((gone n k).map (.int .i64)) GG ∧
  H = rk :: r0 :: r1 :: (GW ++ (GL ++ GG)) ∧ [[rk], [r0], [r1], GW, GL, GG].Pairwise Dis
theorem six {A B C D E F : List Nat} (h : [A, B, C, D, E, F].Pairwise Dis) : (Dis A B ∧ Dis A C ∧ Dis A D ∧ Dis A E ∧ Dis A F) ∧ (Dis B C ∧ Dis B D ∧ Dis B E ∧ Dis B F) ∧ (Dis C D ∧ Dis C E ∧ Dis C F) ∧ (Dis D E ∧ Dis D F) ∧ Dis E F := by
 simpa [List.pairwise_cons] using h
theorem mk_six {A B C D E F : List Nat} (h : (Dis A B ∧ Dis A C ∧ Dis A D ∧ Dis A E ∧ Dis A F) ∧ (Dis B C ∧ Dis B D ∧ Dis B E ∧ Dis B F) ∧ (Dis C D ∧ Dis C E ∧ Dis C F) ∧ (Dis D E ∧ Dis D F) ∧ Dis E F) : [A, B, C, D, E, F].Pairwise Dis := by
 simpa [List.pairwise_cons] using h
theorem not_one {x : Nat} {G : List Nat} (h : Dis [x] G) : x ∉ G := fun hx => h x (by simp) hx
theorem forgetAsks {n rk r0 r1 : Nat} {L : List Int} {wp : Option Addr} {wn wc : Nat} {GW : List Nat} (hn : 1 ≤ n) (hn20 : n ≤ 20) (hL : L.length < 2 ^ 40) (hx : ∀ x ∈ L, 0 ≤ x ∧ x < 2 ^ 62) :
  KAsks (.func (.func 113) #[] #[.pointer (some ⟨r0, 0, none⟩), .pointer (some ⟨r1, 0, none⟩)]) (kf n) L (FgI n rk r0 r1 L wp wn wc GW) := by
 constructor
 ·rintro k H w w' G ⟨lp, ln, lc, GL, gp, gn, gc, GG, b1, b2, b3, h1, h2, h3, rfl, pw⟩ u hd
  exact ⟨lp, ln, lc, GL, gp, gn, gc, GG, b1.upd u (hd _ (by simp)), b2.upd u (hd _ (by simp)), b3.upd u (hd _ (by simp)), h1.upd u fun x hx hg => hd x (by simp [hx]) hg, h2.upd u fun x hx hg => hd x (by simp [hx]) hg, h3.upd u fun x hx hg => hd x (by simp [hx]) hg, rfl, pw⟩
 ·rintro k H w ⟨lp, ln, lc, GL, gp, gn, gc, GG, b1, b2, b3, h1, h2, h3, rfl, pw⟩ x hx
  simp only [List.mem_cons, List.mem_append] at hx
  rcases hx with rfl | rfl | rfl | hx | hx | hx
  ·exact b1.lt
  ·exact b2.lt
  ·exact b3.lt
  ·exact h1.inn x hx
  ·exact h2.inn x hx
  ·exact h3.inn x hx
 ·rintro k H w K hk ⟨lp, ln, lc, GL, gp, gn, gc, GG, b1, b2, b3, h1, h2, h3, rfl, pw⟩ hK
  obtain ⟨⟨ab, ac, ad, ae, af⟩, ⟨bc, bd, be, bf⟩, ⟨cd, ce, cf⟩, ⟨de, df⟩, ef⟩ := six pw
  have hxk := hx _ (List.getElem_mem hk)
  have hkl : (kp (kf n) 0 (L.take k)).length ≤ k := by
   have := kp_len (kf n) (L.take k) 0
   rw [List.length_take] at this; omega
  have lnn := len_n h2
  have hc : C_heap_Heap_Forget_1 (k : Int) L[k] ⟨r0, 0, none⟩ ⟨r1, 0, none⟩ w fun b w' => K (.bool b) w' := by
   apply C_heap_Heap_Forget_1.of
   unfold F_heap_Heap_Forget_1 F_heap_Heap_Forget_1_k1
   simp only [NN_some, addN, drw_cell, drw_heap, exS, exI, exB, exP, exM, exStr, exV, a0, a1, a2, a3, a4, a5, a6, a7, a8, a9, a10, a11, a12, a13, maxI_eq, Nat.zero_add, Nat.add_zero, Nat.mul_one, Option.isNone_some, Option.isNone_none, b2.cell]
   have ask : C_law20_keeper_keep (some ⟨rk, 0, none⟩) (k : Int) (IntKind.i64.wrap L[k]) w fun t12 w1 => If (!t12)
     (∃ t15P : Option Addr, ∃ t15N : Nat, ∃ t15C : Nat, w1.cell? ⟨r1, 0, none⟩ = some (.slice t15P t15N t15C) ∧
     BSl Tryz.prog 55 1 [(0, .int .i64 (k : Int))] w1 fun t17P t17N t17C w1_1 =>
     App Tryz.prog #[55, 55] 55 #[.slice t15P t15N t15C, .slice t17P t17N t17C] w1_1 fun t18P t18N t18C w1_2 =>
     St w1_2 ((⟨r1, 0, none⟩ : Addr).add 0) (.slice t18P t18N t18C) fun w1_3 => K (.bool t12) w1_3) (K (.bool t12) w1) := by
    refine keeper_ok hn hn20 hk hL hxk.1 hxk.2 b1 h1 h2 hkl (not_one ad) (not_one ae) de.symm (fun hf w1 c1 u1 => ?_) fun hf w1 lp' lc' GL' c1 hl' u1 s1 => ?_
    ·-- it is gone
     refine ifT rfl ?_
     have c2 := b2.upd u1 (not_one ab.symm)
     have c3 := b3.upd u1 (not_one ac.symm)
     have g1 := h1.upd u1 ad.symm
     have g2 := h2.upd u1 ae.symm
     have g3 := h3.upd u1 af.symm
     simp only [NN_some, addN, drw_cell, drw_heap, exS, exI, exB, exP, exM, exStr, exV, a0, a1, a2, a3, a4, a5, a6, a7, a8, a9, a10, a11, a12, a13, maxI_eq, Nat.zero_add, Nat.add_zero, Nat.mul_one, Option.isNone_some, Option.isNone_none, c3.cell]
     have gln : gn = (gone n k).length := by
      have := g3.1
      rw [List.length_map] at this; omega
     refine app_i g3 (by have := gone_len n k; omega) fun gp' gc' GG' w2 g3' u2 s2 => ?_
     have d3 := c3.upd u2 (not_one cf)
     refine St_rule d3 (by simp) rfl fun w3 u3 e3 => ?_
     simp at e3
     have r1' : r1 ∉ GG' := fun hx => by
      rcases s2 r1 hx with e | e
      ·exact not_one cf e
      ·have := c3.lt; omega
     have hin1 : In GG w1 := g3.inn
     have pw' : [[rk], [r0], [r1], GW, GL, GG'].Pairwise Dis := pw_set (l := [[rk], [r0], [r1], GW, GL, GG]) (j := 5) (v := w1) (by simp) pw (by
      intro P hP
      simp only [List.mem_cons, List.not_mem_nil, or_false] at hP
      rcases hP with rfl | rfl | rfl | rfl | rfl | rfl
      ·intro x hx; simp at hx; subst hx; exact c1.lt
      ·intro x hx; simp at hx; subst hx; exact c2.lt
      ·intro x hx; simp at hx; subst hx; exact c3.lt
      ·exact g1.inn
      ·exact g2.inn
      ·exact g3.inn) s2
     obtain ⟨⟨ab', ac', ad', ae', af'⟩, ⟨bc', bd', be', bf'⟩, ⟨cd', ce', cf'⟩, ⟨de', df'⟩, ef'⟩ := six pw'
     have U3 : Upd (rk :: r0 :: r1 :: (GW ++ (GL ++ GG))) w w3 := (((u1.mono (G := rk :: r0 :: r1 :: (GW ++ (GL ++ GG))) (by intro x hx; simp at hx; simp [hx])).trans u2 (fun x h => .inl h) fun x hx => .inl (by simp [hx])).trans u3 (fun x h => .inl h) fun x hx => .inl (by simp at hx; simp [hx]))
     have := hK (rk :: r0 :: r1 :: (GW ++ (GL ++ GG'))) w3 ⟨lp, ln, lc, GL, gp', gn + 1, gc', GG', (c1.upd u2 (not_one af)).upd u3 (not_one ac), (c2.upd u2 (not_one bf)).upd u3 (not_one bc), e3,
      (g1.upd u2 df).upd u3 cd.symm, ?_, ?_, rfl, pw'⟩ U3 ?_
     ·rw [hf] at this; exact this
     ·rw [kp_take hk, hf]
      simp only [Bool.false_eq_true, if_false, List.append_nil]
      exact (g2.upd u2 ef).upd u3 ce.symm
     ·rw [gone_succ, hf, List.map_append]
      simp only [Bool.false_eq_true, if_false, List.map_singleton]
      exact g3'.upd u3 cf'.symm
     ·intro x hx
      simp only [List.mem_cons, List.mem_append] at hx ⊢
      rcases hx with h | h | h | h | h | h
      ·simp [h]
      ·simp [h]
      ·simp [h]
      ·simp [h]
      ·simp [h]
      ·rcases s2 x h with e | e
       ·simp [e]
       ·right; have := u1.size; omega
    ·-- it is kept
     refine ifF rfl ?_
     have r0' : r0 ∉ rk :: GL := by
      intro hx
      rcases List.mem_cons.1 hx with e | e
      ·exact ab rk (by simp) (by simp [e])
      ·exact not_one be e
     have r1' : r1 ∉ rk :: GL := by
      intro hx
      rcases List.mem_cons.1 hx with e | e
      ·exact ac rk (by simp) (by simp [e])
      ·exact not_one ce e
     have dW : Dis GW (rk :: GL) := fun x hx hy => by
      rcases List.mem_cons.1 hy with e | e
      ·exact ad rk (by simp) (by rw [← e]; exact hx)
      ·exact de x hx e
     have dG : Dis GG (rk :: GL) := fun x hx hy => by
      rcases List.mem_cons.1 hy with e | e
      ·exact af rk (by simp) (by rw [← e]; exact hx)
      ·exact ef x e hx
     have pw' : [[rk], [r0], [r1], GW, GL', GG].Pairwise Dis := pw_set (l := [[rk], [r0], [r1], GW, GL, GG]) (j := 4) (v := w) (by simp) pw (by
      intro P hP
      simp only [List.mem_cons, List.not_mem_nil, or_false] at hP
      rcases hP with rfl | rfl | rfl | rfl | rfl | rfl
      ·intro x hx; simp at hx; subst hx; exact b1.lt
      ·intro x hx; simp at hx; subst hx; exact b2.lt
      ·intro x hx; simp at hx; subst hx; exact b3.lt
      ·exact h1.inn
      ·exact h2.inn
      ·exact h3.inn) s1
     have := hK (rk :: r0 :: r1 :: (GW ++ (GL' ++ GG))) w1 ⟨lp', ln + 1, lc', GL', gp, gn, gc, GG, c1, b2.upd u1 r0', b3.upd u1 r1', h1.upd u1 dW, ?_, ?_, rfl, pw'⟩ (u1.mono fun x hx => .inl (by
      rcases List.mem_cons.1 hx with e | e <;> simp [e])) ?_
     ·rw [hf] at this; exact this
     ·rw [kp_take hk, hf]
      exact hl'
     ·rw [gone_succ, hf]
      simp only [if_true, List.append_nil]
      exact h3.upd u1 dG
     ·intro x hx
      simp only [List.mem_cons, List.mem_append] at hx ⊢
      rcases hx with h | h | h | h | h | h
      ·simp [h]
      ·simp [h]
      ·simp [h]
      ·simp [h]
      ·rcases s1 x h with e | e
       ·simp [e]
       ·right; exact e
      ·simp [h]
   exact ⟨60, _, _, rfl, rfl, Calls.mono ask fun e w' ⟨v, he, hk⟩ => ⟨_, he, _, rfl, hk⟩⟩
  exact ⟨113, _, _, rfl, rfl, Calls.mono hc fun e w' ⟨v, he, hk⟩ => ⟨_, he, hk⟩⟩
theorem gone_sorted (n k : Nat) : (gone n k).Pairwise fun a b => a < b := by
 unfold gone
 rw [List.pairwise_map]
 refine List.Pairwise.imp (fun h => by omega) (List.Pairwise.filter _ List.pairwise_lt_range)
theorem gone_mem {n k : Nat} {x : Int} (h : x ∈ gone n k) : 0 ≤ x ∧ x < k := by
 unfold gone at h
 obtain ⟨q, hq, rfl⟩ := List.mem_map.1 h
 have := List.mem_range.1 (List.mem_filter.1 hq).1
 omega
theorem gone_pre (n : Nat) {m k : Nat} (h : m ≤ k) : ∃ z, gone n k = gone n m ++ z ∧ ∀ x ∈ z, (m : Int) ≤ x := by
 induction k with
 | zero => exact ⟨[], by rw [show m = 0 by omega]; simp, by simp⟩
 | succ k ih =>
  by_cases e : m = k + 1
  ·exact ⟨[], by rw [e]; simp, by simp⟩
  ·obtain ⟨z, hz, hx⟩ := ih (by omega)
   refine ⟨z ++ if kf n k then [] else [(k : Int)], by rw [gone_succ, hz, List.append_assoc], fun x h => ?_⟩
   rcases List.mem_append.1 h with g | g
   ·exact hx x g
   ·split at g
    ·cases g
    ·simp at g; omega
theorem gone_at {n m k i : Nat} (hm : m ≤ k) (hi : i ≤ (gone n k).length) (h1 : ∀ j (h : j < (gone n k).length), j < i → (gone n k)[j] < m) (h2 : ∀ j (h : j < (gone n k).length), i ≤ j → (m : Int) ≤ (gone n k)[j]) : i = (gone n m).length := by
 obtain ⟨z, hz, hx⟩ := gone_pre n hm
 have hl := congrArg List.length hz
 rw [List.length_append] at hl
 rcases Nat.lt_trichotomy i (gone n m).length with h | h | h
 ·exfalso
  have a := h2 i (by omega) (Nat.le_refl _)
  simp only [hz] at a
  rw [List.getElem_append_left h] at a
  have := gone_mem (List.getElem_mem h)
  omega
 ·exact h
 ·exfalso
  have a := h1 (gone n m).length (by omega) h
  simp only [hz] at a
  rw [List.getElem_append_right (Nat.le_refl _)] at a
  have := hx _ (List.getElem_mem (l := z) (n := (gone n m).length - (gone n m).length) (by omega))
  omega
section
variable {w : World}
theorem Less_ok {x y : Int} {K : Bool → World → Prop} (hK : K (decide (x < y)) w) : C_cmp_Less x y w K := by
 apply C_cmp_Less.of
 unfold F_cmp_Less F_cmp_Less_k1
 apply C_cmp_isNaN.of
 unfold F_cmp_isNaN
 exact ifF (by simp) hK
theorem Search_ok {p : Option Addr} {n c : Nat} {L : List Int} {F : List Nat} {t : Int} {K : Int → Bool → World → Prop} (h : SlAt w 1 p n c (L.map (.int .i64)) F) (hr : L.Pairwise fun a b => a < b) (hl : L.length < 2 ^ 38)
  (hK : ∀ (i : Nat) b, i ≤ L.length → (∀ j (hj : j < L.length), j < i → L[j] < t) → (∀ j (hj : j < L.length), i ≤ j → t ≤ L[j]) → K i b w) :
  C_slices_BinarySearch p n c t w K := by
 apply C_slices_BinarySearch.of
 unfold F_slices_BinarySearch F_slices_BinarySearch_L1 F_slices_BinarySearch_k1
 have hn : n = L.length := by have := h.1; rw [List.length_map] at this; omega
 have lt : ∀ {i j : Nat} (hj : j < L.length) (hij : i < j), L[i]'(by omega) < L[j] := fun hj hij => List.pairwise_iff_getElem.1 hr _ _ (by omega) hj hij
 refine ⟨fun s v => v = w ∧ 0 ≤ s.i ∧ s.i ≤ s.j ∧ s.j ≤ n ∧ (∀ j (hj : j < L.length), (j : Int) < s.i → L[j] < t) ∧ (∀ j (hj : j < L.length), s.j ≤ (j : Int) → t ≤ L[j]), fun s _ => (s.j - s.i).toNat, ⟨rfl, by simp, by simp, by simp, fun j hj h => by simp at h; omega, fun j hj h => by simp at h; omega⟩, ?_⟩
 rintro ⟨i, j⟩ v ⟨rfl, h0, h1, h2, h3, h4⟩
 dsimp only at h0 h1 h2 h3 h4
 unfold B_slices_BinarySearch_L1
 dsimp only
 refine ifC (fun hc => ?_) (fun hc => ?_)
 ·simp only [decide_eq_true_eq] at hc
  rw [Po.mid_eq (by omega) (by omega)]
  obtain ⟨m, hm⟩ : ∃ m : Nat, (i + j) / 2 = m := ⟨((i + j) / 2).toNat, by omega⟩
  rw [hm]
  have hm1 : i ≤ m ∧ (m : Int) < j := by omega
  have hml : m < L.length := by omega
  obtain ⟨b, off, hp, c1⟩ := int_cell h hml
  simp only [hp, NN_some, addN, drw_cell, drw_heap, exS, exI, exB, exP, exM, exStr, exV, a0, a1, a2, a3, a4, a5, a6, a7, a8, a9, a10, a11, a12, a13, maxI_eq, Nat.zero_add, Nat.add_zero, Nat.mul_one, Option.isNone_some, Option.isNone_none, Int.toNat_natCast, Nat.mul_one, c1]
  refine ⟨by omega, by omega, by omega, Less_ok (ifC (fun hc2 => ?_) (fun hc2 => ?_))⟩
  ·have hlt := of_decide_eq_true hc2
   rw [i64id (by omega) (by omega)]
   refine ⟨⟨rfl, by omega, by omega, h2, fun k hk hk2 => ?_, h4⟩, by omega⟩
   by_cases hkm : k = m
   ·subst hkm; exact hlt
   ·have := lt hml (show k < m by omega); omega
  ·have hge := of_decide_eq_false hc2
   refine ⟨⟨rfl, h0, by omega, by omega, h3, fun k hk hk2 => ?_⟩, by omega⟩
   by_cases hkm : k = m
   ·subst hkm; omega
   ·have := lt hk (show m < k by omega); omega
 ·simp only [decide_eq_false_iff_not] at hc
  obtain rfl : j = i := by omega
  obtain ⟨m, rfl⟩ : ∃ m : Nat, j = m := ⟨j.toNat, by omega⟩
  have fin : ∀ b, K (m : Int) b v := fun b => hK m b (by omega) (fun k hk hk2 => h3 k hk (by omega)) (fun k hk hk2 => h4 k hk (by omega))
  refine ifC (fun hc2 => ?_) (fun hc2 => fin _)
  simp only [decide_eq_true_eq] at hc2
  have hml : m < L.length := by omega
  obtain ⟨b, off, hp, c1⟩ := int_cell h hml
  simp only [hp, NN_some, addN, drw_cell, drw_heap, exS, exI, exB, exP, exM, exStr, exV, a0, a1, a2, a3, a4, a5, a6, a7, a8, a9, a10, a11, a12, a13, maxI_eq, Nat.zero_add, Nat.add_zero, Nat.mul_one, Option.isNone_some, Option.isNone_none, Int.toNat_natCast, Nat.mul_one, c1]
  refine ⟨by omega, by omega, ifC (fun _ => fin _) fun _ => ⟨by omega, by omega, ?_⟩⟩
  apply C_slices_isNaN.of
  unfold F_slices_isNaN
  exact ifF (by simp) (fin _)
theorem CloneI_ok {p : Option Addr} {n c : Nat} {L : List Int} {G : List Nat} {K : Option Addr → Nat → Nat → World → Prop} (hs : SlAt w 1 p n c (L.map (.int .i64)) G) (hl : L.length < 2 ^ 40)
  (hK : ∀ p' n' c' F' w', SlAt w' 1 p' n' c' (L.map (.int .i64)) F' → Upd [] w w' → Since F' w → K p' n' c' w') : C_slices_Clone__2 p n c w K := by
 apply C_slices_Clone__2.of
 unfold F_slices_Clone__2
 have hln : n = L.length := by have := hs.1; rw [List.length_map] at this; omega
 refine ifC (fun hc => ?_) (fun hc => ?_)
 ·rcases hs.2.2 with ⟨rfl, rfl, rfl⟩ | ⟨b, off, arr, rfl, _⟩
  ·have : L = [] := by
    have := hs.2.1
    have h2 : L.length = 0 := by omega
    simpa using h2
   subst this
   exact hK _ _ _ [] w (SlAt.nil _ _) (Upd.refl _ _) (by intro k hk; cases hk)
  ·cases hc
 ·refine BSl_rule (len := 0) (ps := []) (cs := []) eS_55 (by simp [Instr.fill]) (by simp) (by omega) fun w1 hs1 hu1 => ?_
  refine App_rule (hE := eS_55) hs1 (hs.upd hu1 (by intro k hk hx; cases hx)) (by simp [Value.oneCell']) (by omega) fun p' c' F' w2 hs2 hu2 hsub => ?_
  refine hK _ _ _ F' w2 (by simpa using hs2) (hu1.fresh hu2 (by intro k hk; simp at hk; omega)) ?_
  intro k hk
  rcases hsub k hk with h | h
  ·simp at h; omega
  ·have := hu1.size; omega
end
section
variable {w v v' : World} {d : HpD} {E : List Nat} {C : List Wd} {k0 : Nat}
theorem Hp.trailE {H : List Nat} {TL : List Int} {tmost : Int} {E' : List Nat} (h : Hp w v d E) (hr : Ro.RoomAt v' d.tm TL d.tlim tmost d.TF) (u : Upd (H ++ d.TF) v v') (hH : ∀ x ∈ H, x ∈ E) (hS : Since H w) (hE' : Sub E' E v) (hin : In E' v') : Hp w v' { d with TL := TL, tmost := tmost } E' := by
 have e := h.dis
 have six := h.six
 have m : ∀ {P : List Nat}, P ∈ d.parts → Dis P d.TF → Dis P (H ++ d.TF) := fun hP hd x hx hy => by
  rcases List.mem_append.1 hy with g | g
  ·rw [List.pairwise_append] at e
   exact e.2.2 _ hP E (by simp) x hx (hH x g)
  ·exact hd x hx g
 refine ⟨h.blk.upd u (m (P := [d.b]) (by simp [HpD.parts]) six.1.2.1 _ (by simp)), h.pl.upd u (m (by simp [HpD.parts]) six.2.1.1), h.plok, hr, h.cs.upd u (m (by simp [HpD.parts]) six.2.2.1.1.symm), h.st.upd u (m (by simp [HpD.parts]) six.2.2.1.2.1.symm), h.mr.upd u (m (by simp [HpD.parts]) six.2.2.1.2.2.1.symm), ?_, ?_, h.sf⟩
 ·refine h.bf.own u (fun x hx => ?_) (fun x hx => ?_) (fun k hk => ?_) (fun k hk => ?_)
  ·rcases List.mem_append.1 hx with g | g
   ·simp [hH x g]
   ·simp [HpD.F, g]
  ·rcases List.mem_append.1 hx with g | g
   ·exact hS x g
   ·exact h.sf x (by simp [HpD.F, g])
  ·rcases List.mem_append.1 hk with h1 | h1
   ·left; exact List.mem_append_left _ h1
   ·exact (hE' k h1).imp (by intro h; simp [h]) id
  ·rcases List.mem_append.1 hk with h1 | h1
   ·exact (show In d.F v from fun k hk => h.inn k (by simp [hk])).upd u k h1
   ·exact hin k h1
 ·rw [List.pairwise_append] at e ⊢
  refine ⟨e.1, by simp, fun P hP Q hQ => ?_⟩
  simp at hQ
  subst hQ
  have hPE : Dis P E := e.2.2 P hP E (by simp)
  exact (hPE.symm.step hE' (fun k hk => h.inn k (by simp [mem_F]; left; exact ⟨P, hP, hk⟩))).symm
theorem Hp.mark (h : Hp w v d E) {i : Nat} (hi : i < d.marks.length) : ∃ b off, d.mp = some ⟨b, off, none⟩ ∧ d.MG = [b] ∧ v.cell? ⟨b, off + i, none⟩ = some (.int .i64 d.marks[i]) := by
 rcases h.mr.2.2 with ⟨_, hc, _⟩ | ⟨b, off, arr, hp, hG, hb, hs, hc⟩
 ·have := h.mr.2.1; omega
 ·refine ⟨b, off, hp, hG, ?_⟩
  rw [hb.cell, hc _ (by omega), List.getElem?_map, List.getElem?_eq_getElem hi]; rfl
theorem Hp.setMark (h : Hp w v d E) {i : Nat} (hi : i < d.marks.length) {x : Int} {K : World → Prop} (hK : ∀ v', Hp w v' { d with marks := d.marks.set i x } E → Upd d.MG v v' → K v') {b off : Nat} (hp : d.mp = some ⟨b, off, none⟩) : St v ⟨b, off + i, none⟩ (.int .i64 x) K := by
 rcases h.mr.2.2 with ⟨_, hc, _⟩ | ⟨b', off', arr, hp', hG, hb, hs, hc⟩
 ·have := h.mr.2.1; omega
 rw [hp] at hp'
 cases hp'
 have hsz : d.marks.length ≤ d.mc := h.mr.2.1
 refine St_rule hb (by omega) rfl fun v' u hb' => ?_
 have hu : Upd d.MG v v' := by rw [hG]; exact u
 have six := h.six
 refine hK v' (h.turn hu (fun x hx => by simp [HpD.F, hx]) _ 5 (by simp [HpD.parts]) (X := d.MG) (by rfl) (Sub.refl _ _) ?_ rfl rfl rfl rfl rfl rfl rfl rfl rfl ?_ (h.pl.upd hu (six.2.1.2.2.2.1)) h.plok (h.tr.upd hu six.2.2.1.2.2.1) (h.cs.upd hu six.2.2.2.1.2.1) (h.st.upd hu six.2.2.2.2.1.1) ?_) hu
 ·exact (h.inP d.MG (by simp [HpD.parts])).upd hu
 ·simp only [List.length_set]
  exact h.blk.upd hu (six.1.2.2.2.2.1 _ (by simp))
 ·refine ⟨by simp, by simpa using hsz, .inr ⟨b, off, _, hp, hG, hb', by simpa using hs, fun k hk => ?_⟩⟩
  simp only [List.length_set] at hk
  simp only [List.map_set]
  by_cases hki : k = i
  ·subst hki
   rw [List.getElem?_set_self (by simpa using hi), Array.getElem?_setIfInBounds_self_of_lt (by omega)]
  ·rw [List.getElem?_set_ne (by omega), Array.getElem?_setIfInBounds_ne (by omega)]
   exact hc k hk
theorem Marks_ok {K : Option Addr → Nat → Nat → World → Prop} (h : Hp w v d E) (h1 : 1 ≤ d.marks.length) (hl : d.marks.length < 2 ^ 20) (hK : ∀ p n c G v', Hp w v' d (G ++ E) → SlAt v' 1 p n c ((d.marks.drop 1).map (.int .i64)) G → Since G v → Upd [] v v' → K p n c v') : C_heap_Heap_Marks d.a v K := by
 apply C_heap_Heap_Marks.of
 unfold F_heap_Heap_Marks
 refine hmade_ok h (ifF rfl ?_)
 simp only [HpD.a, NN_some, addN, drw_cell, drw_heap, exS, exI, exB, exP, exM, exStr, exV, a0, a1, a2, a3, a4, a5, a6, a7, a8, a9, a10, a11, a12, a13, maxI_eq, Nat.zero_add, Nat.add_zero, Nat.mul_one, Option.isNone_some, Option.isNone_none, h.blk.cell]
 refine ⟨by omega, by omega, ?_⟩
 have hd := h.mr.drop (k := 1) h1
 have e : ((d.marks.map (Value.int .i64)).drop (1 * 1)) = (d.marks.drop 1).map (.int .i64) := by rw [List.map_drop]
 rw [e] at hd
 have e1 : (1 : Int).toNat = 1 := rfl
 rw [e1]
 refine CloneI_ok hd (by rw [List.length_drop]; omega) fun p n c G v' hs u s => hK p n c G v' (h.watch u s hs.inn) hs s u
theorem Loose_ok {t : Int} {K : Int → World → Prop} (h : Hp w v d E) (hi : HI d C k0) (hno : ¬ (0 ≤ t ∧ t < C.length) → ∀ v', Hp w v' d E → Far E v v' → K 1 v')
  (hK : 0 ≤ t → t < C.length → ∀ v' d', Hp w v' d' E → d'.a = d.a → HOk d' (C.set t.toNat (.ref t.toNat)) → d'.pd = d.pd → Far E v v' → K 0 v') : C_heap_Heap_Loose d.a t v K := by
 apply C_heap_Heap_Loose.of
 unfold F_heap_Heap_Loose
 have hcl := hi.ok.cl
 have hbd := hi.ok.bound h
 refine hmade_ok h (ifF rfl (taken_ok h hi.ok fun v1 h1 u1 => ifC (fun g => ?_) (fun g => ?_)))
 ·simp only [Bool.not_eq_true', decide_eq_false_iff_not] at g
  exact hno g v1 h1 (Far.keep u1)
 ·simp only [Bool.not_eq_false', decide_eq_true_eq] at g
  have hil : t.toNat < C.length := by omega
  have ud := drw_upd v1
  have h2 := h1.keep ud
  obtain ⟨b, off, hp, _, hc⟩ := h1.word hi.ok hil
  have hblk := h1.blk.cell
  obtain ⟨j, rfl⟩ : ∃ j : Nat, t = j := ⟨t.toNat, by omega⟩
  simp only [HpD.a, NN_some, addN, drw_cell, drw_heap, exS, exI, exB, exP, exM, exStr, exV, a0, a1, a2, a3, a4, a5, a6, a7, a8, a9, a10, a11, a12, a13, maxI_eq, Nat.zero_add, Nat.add_zero, Nat.mul_one, Option.isNone_some, Option.isNone_none, hblk]
  refine ref_ok (by omega) ⟨by simp only [NN_some, addN, drw_cell, drw_heap, exS, exI, exB, exP, exM, exStr, exV, a0, a1, a2, a3, a4, a5, a6, a7, a8, a9, a10, a11, a12, a13, maxI_eq, Nat.zero_add, Nat.add_zero, Nat.mul_one, Option.isNone_some, Option.isNone_none, hblk], by omega, by omega, ?_⟩
  simp only [hp, NN_some, addN, drw_cell, drw_heap, exS, exI, exB, exP, exM, exStr, exV, a0, a1, a2, a3, a4, a5, a6, a7, a8, a9, a10, a11, a12, a13, maxI_eq, Nat.zero_add, Nat.add_zero, Nat.mul_one, Option.isNone_some, Option.isNone_none, Int.toNat_natCast, Nat.mul_one, Nat.add_zero]
  refine h2.setCell (by rw [hcl]; simpa using hil) (fun v3 h3 u3 => ?_) hp
  refine hK (by omega) g.2 v3 _ h3 rfl ⟨?_, fun z hz => ?_, hi.ok.nf, ?_, hi.ok.starts, hi.ok.ml⟩ rfl (((Far.keep u1).after ud).then ⟨_, u3, fun k hk hx => ?_⟩)
  ·show d.cells.set j _ = _
   rw [hi.ok.cells, List.map_set]; rfl
  ·rcases List.mem_or_eq_of_mem_set hz with g | g
   ·exact hi.ok.fits z g
   ·rw [g]; exact ref_fits (by omega)
  ·rw [List.length_set]; exact hi.ok.len
  ·exact h2.six.2.2.2.1.2.2 k hx hk
end
open Ro
def lessM (n : Nat) (m : Int) : Int := m - (gone n m.toNat).length
def turned (n : Nat) (M : List Int) (k : Nat) : List Int := (M.take k).map (lessM n) ++ M.drop k
theorem turned_len (n : Nat) (M : List Int) (k : Nat) : (turned n M k).length = M.length := by
 unfold turned
 rw [List.length_append, List.length_map, List.length_take, List.length_drop]; omega
theorem turned_at {n : Nat} {M : List Int} {k : Nat} (h : k < M.length) : (turned n M k)[k]'(by rw [turned_len]; exact h) = M[k] := by
 unfold turned
 rw [List.getElem_append_right (by rw [List.length_map, List.length_take]; omega), List.getElem_drop]
 congr 1
 rw [List.length_map, List.length_take]; omega
theorem turned_succ {n : Nat} {M : List Int} {k : Nat} (h : k < M.length) : (turned n M k).set k (lessM n M[k]) = turned n M (k + 1) := by
 unfold turned
 rw [take_step h, List.map_append, List.set_append_right _ _ (by rw [List.length_map, List.length_take]; omega), List.length_map, List.length_take, Nat.min_eq_left (by omega), Nat.sub_self, List.drop_eq_getElem_cons h, List.append_assoc]
 rfl
section
variable {w v : World} {d : HpD} {E0 : List Nat} {C : List Wd} {k0 : Nat}
theorem Forget_ok {n rk : Nat} {wp : Option Addr} {wn wc : Nat} {GW : List Nat} {K : Int → World → Prop} (h : Hp w v d (rk :: (GW ++ E0))) (hi : HI d C k0) (hn : 1 ≤ n) (hn20 : n ≤ 20) (hl : d.TL.length < 2 ^ 30) (hx : ∀ x ∈ d.TL, 0 ≤ x ∧ x < 2 ^ 62) (hm : ∀ m ∈ d.marks, 0 ≤ m ∧ m ≤ d.TL.length)
  (bk : Blk v rk #[.int .i64 (n : Int), .slice wp wn wc, .slice none 0 0, .bool true, .int .i64 0]) (hw : SlAt v 1 wp wn wc (d.TL.map (.int .u64)) GW) (hrk : rk ∉ GW) (hrw : w.heap.size ≤ rk) (hGw : Since GW w) (hrE : rk ∉ E0) (hGE : Dis GW E0)
  (hK : ∀ v' d' lp lc GL, Hp w v' d' (rk :: (GL ++ E0)) → HI d' C k0 → KinS d d' → d'.TL = kp (kf n) 0 d.TL → d'.starts = d.starts → d'.marks = d.marks.map (lessM n) → Blk v' rk #[.int .i64 (n : Int), .slice wp wn wc, .slice lp (kp (kf n) 0 d.TL).length lc, .bool true, .int .i64 (d.TL.length : Int)] → SlAt v' 1 lp (kp (kf n) 0 d.TL).length lc ((kp (kf n) 0 d.TL).map (.int .u64)) GL → Far E0 v v' → K ((d.TL.length : Int) - ((kp (kf n) 0 d.TL).length : Int)) v') :
  C_heap_Heap_Forget d.a (.func (.func 60) #[.pointer (some ⟨rk, 0, none⟩)] #[]) v K := by
 apply C_heap_Heap_Forget.of
 unfold F_heap_Heap_Forget
 refine New_rule fun r v1 hr1 u1 b1 => ?_
 have h1 := h.watch u1 (Y := [r]) (by intro k hk; simp at hk; omega) (by intro k hk; simp at hk; subst hk; exact b1.lt)
 refine hmade_ok h1 (ifF rfl (New_rule fun r1 v2 hr2 u2 b2 => ?_))
 have h2 := h1.watch u2 (Y := [r1]) (by intro k hk; simp at hk; omega) (by intro k hk; simp at hk; subst hk; exact b2.lt)
 have U2 := u1.after u2
 have s1 := u1.size
 have hrl : rk < v.heap.size := bk.lt
 have hGl : ∀ x ∈ GW, x < v.heap.size := hw.inn
 have hEl : ∀ x ∈ E0, x < v.heap.size := fun x hx => h.inn x (by simp [hx])
 have wv := h.U.size
 simp only [HpD.a, NN_some, addN, drw_cell, drw_heap, exS, exI, exB, exP, exM, exStr, exV, a0, a1, a2, a3, a4, a5, a6, a7, a8, a9, a10, a11, a12, a13, maxI_eq, Nat.zero_add, Nat.add_zero, Nat.mul_one, Option.isNone_some, Option.isNone_none, h2.blk.cell]
 have hk2 := bk.upd U2 (by simp)
 have hw2 := hw.upd U2 (by intro x _ h; cases h)
 have b1' := b1.upd u2 (by simp)
 have hI : FgI n rk r r1 d.TL wp wn wc GW 0 (rk :: r :: r1 :: (GW ++ ([] ++ []))) v2 := by
  refine ⟨none, 0, 0, [], none, 0, 0, [], by simpa using hk2, b1', b2, hw2, ?_, ?_, rfl, ?_⟩
  ·rw [List.take_zero]; exact SlAt.nil _ _
  ·exact SlAt.nil _ _
  ·have z : ∀ X : List Nat, Dis X [] := fun X x _ h => by cases h
   refine mk_six ⟨⟨?_, ?_, ?_, z _, z _⟩, ⟨?_, ?_, z _, z _⟩, ⟨?_, z _, z _⟩, ⟨z _, z _⟩, z _⟩
   ·intro x hx hy; simp at hx hy; omega
   ·intro x hx hy; simp at hx hy; omega
   ·intro x hx hy; simp at hx; subst hx; exact hrk hy
   ·intro x hx hy; simp at hx hy; have := b1.lt; omega
   ·intro x hx hy; simp at hx; have := hGl x hy; omega
   ·intro x hx hy; simp at hx; have := hGl x hy; omega
 have inE : ∀ x ∈ rk :: r :: r1 :: (GW ++ (([] : List Nat) ++ [])), x ∈ [r1] ++ ([r] ++ (rk :: (GW ++ E0))) := fun x hx => by
  simp only [List.mem_cons, List.mem_append, List.not_mem_nil, or_false] at hx ⊢
  rcases hx with g | g | g | g <;> simp [g]
 have hap := h2.six
 have dTF : Dis (rk :: r :: r1 :: (GW ++ (([] : List Nat) ++ []))) d.TF := fun x hx hy => hap.2.2.1.2.2.2 x hy (inE x hx)
 refine Keep_ok (forgetAsks hn hn20 (by omega) hx) (by rfl) h2.tr hI dTF (by omega) fun H' v3 tr3 hI3 u3 sub3 => ?_
 have hS : Since (rk :: r :: r1 :: (GW ++ (([] : List Nat) ++ []))) w := fun x hx => by
  simp only [List.mem_cons, List.mem_append, List.not_mem_nil, or_false] at hx
  rcases hx with g | g | g | g
  ·omega
  ·omega
  ·omega
  ·exact hGw x g
 have inH' : In H' v3 := (forgetAsks (r0 := r) (r1 := r1) hn hn20 (by omega) hx).inn _ _ _ hI3
 have s3 := u3.size
 have s2 := u2.size
 have h3 := h2.trailE (E' := H' ++ E0) tr3 u3 inE hS (fun x hx => by
  rcases List.mem_append.1 hx with g | g
  ·exact (sub3 x g).imp (inE x) id
  ·left; simp [g]) (fun x hx => by
  rcases List.mem_append.1 hx with g | g
  ·exact inH' x g
  ·have := hEl x g; omega)
 have F3 : Far E0 v v3 := (Far.keep U2).then ⟨_, u3, fun x hx hy => by
  have hxl := hEl x hx
  simp only [List.mem_cons, List.mem_append, List.not_mem_nil, or_false] at hy
  rcases hy with (g | g | g | g) | g
  ·exact hrE (by rw [← g]; exact hx)
  ·omega
  ·omega
  ·exact hGE x g hx
  ·exact hap.2.2.1.2.2.2 x g (by simp [hx])⟩
 obtain ⟨lp, ln, lc, GL, gp, gn, gc, GG, c1, c2, c3, r1w, r2w, r3w, rfl, pw⟩ := hI3
 rw [List.take_length] at r2w
 have lnn := len_n r2w
 subst lnn
 obtain ⟨kx, hkx⟩ : ∃ kx, kx = kp (kf n) 0 d.TL := ⟨_, rfl⟩
 have hML : d.marks.length ≤ 4096 := by rw [hi.ok.ml]; exact hi.slen h2
 simp only [NN_some, addN, drw_cell, drw_heap, exS, exI, exB, exP, exM, exStr, exV, a0, a1, a2, a3, a4, a5, a6, a7, a8, a9, a10, a11, a12, a13, maxI_eq, Nat.zero_add, Nat.add_zero, Nat.mul_one, Option.isNone_some, Option.isNone_none, h3.blk.cell]
 refine ⟨fun s z => ∃ k : Nat, s.t25 = k ∧ k ≤ d.marks.length ∧ Hp w z { d with TL := kp (kf n) 0 d.TL, marks := turned n d.marks k } ((rk :: r :: r1 :: (GW ++ (GL ++ GG))) ++ E0) ∧ Far ((rk :: r :: r1 :: (GW ++ (GL ++ GG))) ++ E0) v3 z, fun s _ => (d.marks.length - s.t25).toNat, ⟨0, rfl, by omega, by
  have e : turned n d.marks 0 = d.marks := by simp [turned]
  rw [e]; exact h3, Far.refl _ _⟩, ?_⟩
 rintro ⟨st⟩ z ⟨k, rfl, hk, hz, fz⟩
 unfold B_heap_Heap_Forget_L1
 refine ifC (fun g => ?_) (fun g => ?_)
 ·simp only [decide_eq_true_eq] at g
  have gk : k < d.marks.length := by omega
  have ew : IntKind.i64.wrap ((k : Int) + 1) = ((k + 1 : Nat) : Int) := by rw [i64id (by omega) (by omega)]; simp
  obtain ⟨b, off, hp, _, hc⟩ := hz.mark (i := k) (by rw [turned_len]; exact gk)
  rw [turned_at gk] at hc
  have hp : d.mp = some ⟨b, off, none⟩ := hp
  have cz3 := fz.blk c3 (by simp)
  have gz : SlAt z 1 gp gn gc ((gone n d.TL.length).map (.int .i64)) GG := by
   obtain ⟨X, u, dd⟩ := fz
   exact r3w.upd u fun x hx => dd x (by simp [hx])
  have hblk := hz.blk.cell
  refine ⟨by show (0 : Int) ≤ (k : Int); omega, by show (k : Int) < _; omega, ?_⟩
  simp only [hp, NN_some, addN, drw_cell, drw_heap, exS, exI, exB, exP, exM, exStr, exV, a0, a1, a2, a3, a4, a5, a6, a7, a8, a9, a10, a11, a12, a13, maxI_eq, Nat.zero_add, Nat.add_zero, Nat.mul_one, Option.isNone_some, Option.isNone_none, Int.toNat_natCast, hc, cz3.cell]
  have hmk := hm _ (List.getElem_mem gk)
  have hgl := gone_len n d.TL.length
  refine Search_ok gz (gone_sorted n _) (by omega) fun i bb i1 i2 i3 => ?_
  obtain ⟨m, em⟩ : ∃ m : Nat, d.marks[k] = m := ⟨d.marks[k].toNat, by omega⟩
  have ei := gone_at (n := n) (m := m) (k := d.TL.length) (by omega) i1 (fun j hj hji => by have := i2 j hj hji; omega) (fun j hj hji => by have := i3 j hj hji; omega)
  simp only [HpD.a, NN_some, addN, drw_cell, drw_heap, exS, exI, exB, exP, exM, exStr, exV, a0, a1, a2, a3, a4, a5, a6, a7, a8, a9, a10, a11, a12, a13, maxI_eq, Nat.zero_add, Nat.add_zero, Nat.mul_one, Option.isNone_some, Option.isNone_none, hblk, hp, Int.toNat_natCast, hc]
  have hgm := gone_len n m
  rw [i64id (by omega) (by omega), ew]
  have el : d.marks[k] - (i : Int) = lessM n d.marks[k] := by
   unfold lessM
   rw [em, Int.toNat_natCast, ei]
  rw [el]
  have := hz.setMark (i := k) (by rw [turned_len]; exact gk) (x := lessM n d.marks[k]) (K := fun z' => (∃ q : Nat, ((k + 1 : Nat) : Int) = q ∧ q ≤ d.marks.length ∧ Hp w z' { d with TL := kp (kf n) 0 d.TL, marks := turned n d.marks q } ((rk :: r :: r1 :: (GW ++ (GL ++ GG))) ++ E0) ∧ Far ((rk :: r :: r1 :: (GW ++ (GL ++ GG))) ++ E0) v3 z') ∧ ((d.marks.length : Int) - ((k + 1 : Nat) : Int)).toNat < ((d.marks.length : Int) - (k : Int)).toNat) (fun z' hz' uz' => by
   have hz' : Hp w z' { d with TL := kp (kf n) 0 d.TL, marks := (turned n d.marks k).set k (lessM n d.marks[k]) } ((rk :: r :: r1 :: (GW ++ (GL ++ GG))) ++ E0) := hz'
   rw [turned_succ gk] at hz'
   exact ⟨⟨k + 1, rfl, by omega, hz', fz.then ⟨_, uz', fun x hx hy => hz.six.2.2.2.2.2 x hy hx⟩⟩, by omega⟩) (b := b) (off := off) hp
  simp only [hp] at this
  exact ⟨by omega, by rw [turned_len]; omega, by omega, by rw [turned_len]; omega, this⟩
 ·simp only [decide_eq_false_iff_not] at g
  obtain rfl : k = d.marks.length := by omega
  have e : turned n d.marks d.marks.length = d.marks.map (lessM n) := by simp [turned]
  rw [e] at hz
  have hz' := hz.less (E' := rk :: (GL ++ E0)) fun x hx => by
   simp only [List.mem_cons, List.mem_append] at hx ⊢
   rcases hx with g | g | g <;> simp [g]
  refine hK z _ lp lc GL hz' ?_ ⟨rfl, rfl, rfl, rfl, rfl, rfl, rfl, rfl⟩ rfl rfl rfl (fz.blk c1 (by simp)) ?_ (F3.then (fz.less fun x hx => by simp [hx]))
  ·exact hi.of ⟨rfl, rfl, rfl, rfl, rfl, rfl, rfl, rfl⟩ ⟨hi.ok.cells, hi.ok.fits, hi.ok.nf, hi.ok.len, hi.ok.starts, by show (d.marks.map _).length = _; rw [List.length_map]; exact hi.ok.ml⟩ hi.wf
  ·obtain ⟨X, u, dd⟩ := fz
   exact r2w.upd u fun x hx => dd x (by simp [hx])
end
end Go.Proofs.YtdaenijbokialaaGreat
