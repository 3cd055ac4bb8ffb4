/- Keeping some of a room's words. -/
import Derived.Test.YtdkkkomcolklbaaLives
namespace Go.Proofs.Ytdkkkomcolklbaa
open Go Go.D Go.Proofs
set_option linter.unusedSimpArgs false
set_option linter.unusedVariables false

/-- Words of a row, turned. -/
theorem getD_of {L : List Int} {i : Nat} (h : i < L.length) : L[i]? = some L[i] := List.getElem?_eq_getElem h

/-- What is asked of each word in turn: I k H w: k words have been asked, H is the askers memory. -/
structure Asks (del : Value) (f : Int → Bool) (L : List Int) (I : Nat → List Nat → World → Prop) : Prop where
  keep : ∀ k H w w' G, I k H w → Upd G w w' → Dis H G → I k H w'
  inn : ∀ k H w, I k H w → In H w
  ask : ∀ k H w K (hk : k < L.length), I k H w → (∀ H' w', I (k + 1) H' w' → Upd H w w' → Sub H' H w → K (.bool (f L[k])) w') → CallV Try.prog del [.int .u64 L[k]] w K

theorem IndexFunc_ok {del : Value} {f : Int → Bool} {L : List Int} {I : Nat → List Nat → World → Prop} (hA : Asks del f L I) {w : World} {p : Option Addr} {n c : Nat} {G H : List Nat} {K : Int → World → Prop}
    (hs : SlAt w 1 p n c (L.map (.int .u64)) G) (hI : I 0 H w) (hd : Dis H G) (hl : L.length < 2 ^ 40)
    (hno : ∀ H' w', (∀ x ∈ L, f x = false) → I L.length H' w' → Upd H w w' → Sub H' H w → K (-1) w')
    (hyes : ∀ k H' w' (hk : k < L.length), (∀ x ∈ L.take k, f x = false) → f L[k] = true → I (k + 1) H' w' → Upd H w w' → Sub H' H w → K k w') : C_slices_IndexFunc p n c del w K := by
  apply C_slices_IndexFunc.of
  unfold F_slices_IndexFunc F_slices_IndexFunc_L1
  have hn := len_n hs
  refine ⟨fun s v => 0 ≤ s.t8 ∧ s.t8 ≤ n ∧ (∀ x ∈ L.take s.t8.toNat, f x = false) ∧ ∃ H', I s.t8.toNat H' v ∧ Upd H w v ∧ Sub H' H w, fun s _ => (n - s.t8).toNat, ⟨by simp, by simp, by simp, H, hI, Upd.refl _ _, Sub.refl _ _⟩, ?_⟩
  rintro ⟨i⟩ v ⟨hi0, hi1, hf, H', hI', hu, hsub⟩
  unfold B_slices_IndexFunc_L1
  dsimp only at hi0 hi1 hf hI' ⊢
  have hd' : Dis H' G := hd.step hsub hs.inn
  refine ifC (fun hc => ?_) (fun hc => ?_)
  · simp at hc
    have hsv := hs.upd hu hd.symm
    obtain ⟨b, o, rfl, hcell⟩ := word_cell hsv hi0 (by omega)
    simp only [NN_some, addN, drw_cell, drw_heap, exS, exI, exB, exP, exM, exStr, exV, a0, a1, a2, a3, a4, a5, a6, a7, maxI_eq, Nat.zero_add, Nat.add_zero, Nat.mul_one, Option.isNone_some, Option.isNone_none, hcell]
    have hlt : i.toNat < L.length := by omega
    refine ⟨hi0, hc, hA.ask i.toNat H' v _ hlt hI' fun H2 v2 hI2 hu2 hs2 => ⟨_, rfl, ?_⟩⟩
    have U2 : Upd H w v2 := hu.trans hu2 (fun _ h => .inl h) hsub
    have S2 : Sub H2 H w := hsub.trans hs2 hu.size
    refine ifC (fun he => ?_) (fun he => ?_)
    · have := hyes i.toNat H2 v2 hlt hf he hI2 U2 S2
      rwa [Int.toNat_of_nonneg hi0] at this
    · rw [i64id (by omega) (by omega)]
      have e : (i + 1).toNat = i.toNat + 1 := by omega
      refine ⟨⟨by omega, by omega, ?_, H2, by rw [e]; exact hI2, U2, S2⟩, by simp; omega⟩
      rw [e, List.take_succ_eq_append_getElem hlt]
      intro x hx
      rcases List.mem_append.1 hx with h | h
      · exact hf x h
      · simp at h; rw [h]; exact he
  · simp at hc
    have e : i.toNat = L.length := by omega
    rw [e] at hf hI'
    rw [List.take_length] at hf
    exact hno H' v hf hI' hu hsub

/-- The words of which the answer is no are left. -/
theorem DeleteFunc_ok {del : Value} {f : Int → Bool} {L : List Int} {I : Nat → List Nat → World → Prop} (hA : Asks del f L I) {w : World} {p : Option Addr} {n c : Nat} {G H : List Nat} {K : Option Addr → Nat → Nat → World → Prop}
    (hs : SlAt w 1 p n c (L.map (.int .u64)) G) (hI : I 0 H w) (hd : Dis H G) (hl : L.length < 2 ^ 40)
    (hK : ∀ H' w' n', SlAt w' 1 p n' c ((L.filter (fun x => !f x)).map (.int .u64)) G → I L.length H' w' → Upd (H ++ G) w w' → Sub H' H w → K p n' c w') : C_slices_DeleteFunc p n c del w K := by
  apply C_slices_DeleteFunc.of
  unfold F_slices_DeleteFunc F_slices_DeleteFunc_L1
  have hn := len_n hs
  refine IndexFunc_ok hA hs hI hd hl (fun H' w' hf hI' hu hsub => ifT rfl ?_) (fun k H' w' hk hf hfk hI' hu hsub => ifF (by simp) ?_)
  · have e : L.filter (fun x => !f x) = L := List.filter_eq_self.2 fun x hx => by simp [hf x hx]
    refine hK H' w' n ?_ hI' (hu.mono fun k hk => .inl (by simp [hk])) hsub
    rw [e]
    exact hs.upd hu hd.symm
  · rw [i64id (by omega) (by omega)]
    -- i: where the next one goes; j: the next one asked
    refine ⟨fun s v => 0 ≤ s.i ∧ s.i < s.j ∧ s.j ≤ n ∧ ∃ C H', SlAt v 1 p n c (C.map (.int .u64)) G ∧ C.take s.i.toNat = (L.take s.j.toNat).filter (fun x => !f x) ∧ s.i.toNat = ((L.take s.j.toNat).filter (fun x => !f x)).length ∧ C.drop s.j.toNat = L.drop s.j.toNat ∧ C.length = L.length ∧ I s.j.toNat H' v ∧ Upd (H ++ G) w v ∧ Sub H' H w, fun s _ => (n - s.j).toNat, ⟨by simp, by dsimp only; omega, by dsimp only; omega, L, H', hs.upd hu hd.symm, ?_, ?_, rfl, rfl, ?_, hu.mono fun k hk => .inl (by simp [hk]), hsub⟩, ?_⟩
    · have e : ((k : Int) + 1).toNat = k + 1 := by omega
      dsimp only
      rw [e, List.take_succ_eq_append_getElem hk, List.filter_append]
      simp [hfk]
      exact (List.filter_eq_self.2 fun x hx => by simp [hf x hx]).symm
    · have e : ((k : Int) + 1).toNat = k + 1 := by omega
      dsimp only
      rw [e, List.take_succ_eq_append_getElem hk, List.filter_append]
      have : (L.take k).filter (fun x => !f x) = L.take k := List.filter_eq_self.2 fun x hx => by simp [hf x hx]
      rw [this]
      simp [hfk]; omega
    · have e : ((k : Int) + 1).toNat = k + 1 := by omega
      dsimp only; rw [e]; exact hI'
    rintro ⟨i, j⟩ v ⟨hi0, hij, hjn, C, H2, hsC, h1, h2, h3, hCl, hI2, hu2, hsub2⟩
    dsimp only at hi0 hij hjn h1 h2 h3 hI2
    unfold B_slices_DeleteFunc_L1 F_slices_DeleteFunc_k1
    dsimp only
    have hd2 : Dis H2 G := hd.step hsub2 hs.inn
    refine ifC (fun hc => ?_) (fun hc => ?_)
    · simp at hc
      have hjl : j.toNat < L.length := by omega
      have hCj : C[j.toNat]'(by omega) = L[j.toNat] := by
        have h5 : (C.drop j.toNat)[0]? = (L.drop j.toNat)[0]? := by rw [h3]
        rw [List.getElem?_drop, List.getElem?_drop, Nat.add_zero, List.getElem?_eq_getElem (by omega), List.getElem?_eq_getElem (by omega)] at h5
        simpa using h5
      obtain ⟨b, o, hp, hcell⟩ := word_cell hsC (i := j) (by omega) (by omega)
      rw [hCj] at hcell
      subst hp
      simp only [NN_some, addN, drw_cell, drw_heap, exS, exI, exB, exP, exM, exStr, exV, a0, a1, a2, a3, a4, a5, a6, a7, maxI_eq, Nat.zero_add, Nat.add_zero, Nat.mul_one, Option.isNone_some, Option.isNone_none, hcell]
      have ej : (j + 1).toNat = j.toNat + 1 := by omega
      refine ⟨by omega, hc, hA.ask j.toNat H2 v _ hjl hI2 fun H3 v3 hI3 hu3 hs3 => ⟨_, rfl, ?_⟩⟩
      have U3 : Upd (H ++ G) w v3 := hu2.trans hu3 (fun _ h => .inl h) fun x hx => (hsub2 x hx).imp (by intro h; simp [h]) id
      have S3 : Sub H3 H w := hsub2.trans hs3 hu2.size
      have hsC3 := hsC.upd hu3 hd2.symm
      have hd3 : Dis H3 G := hd.step S3 hs.inn
      refine ifC (fun he => ?_) (fun he => ?_)
      · simp at he
        refine ⟨hi0, by omega, St_elem hsC3 rfl (by omega) rfl fun v4 hs4 hu4 => ?_⟩
        rw [i64id (by omega) (by omega), i64id (by omega) (by omega)]
        have ei : (i + 1).toNat = i.toNat + 1 := by omega
        rw [← List.map_set] at hs4
        refine ⟨⟨by omega, by omega, by omega, _, H3, hs4, ?_, ?_, ?_, by simpa using hCl, ?_, U3.trans hu4 (fun _ h => .inl h) (fun x hx => .inl (by simp [hx])), S3⟩, by simp; omega⟩
        · rw [ei, ej, List.take_succ_eq_append_getElem hjl, List.filter_append, List.take_succ_eq_append_getElem (by simp; omega), List.take_set_of_le (Nat.le_refl _), h1]
          simp [he]
        · rw [ei, ej, List.take_succ_eq_append_getElem hjl, List.filter_append, List.length_append, ← h2]
          simp [he]
        · rw [ej, List.drop_set_of_lt (by omega)]
          have h6 : (C.drop j.toNat).drop 1 = (L.drop j.toNat).drop 1 := by rw [h3]
          simpa [List.drop_drop, Nat.add_comm] using h6
        · rw [ej]; exact hA.keep _ _ _ _ _ hI3 hu4 hd3
      · simp at he
        rw [i64id (by omega) (by omega)]
        refine ⟨⟨hi0, by omega, by omega, C, H3, hsC3, ?_, ?_, ?_, hCl, by rw [ej]; exact hI3, U3, S3⟩, by simp; omega⟩
        · rw [ej, List.take_succ_eq_append_getElem hjl, List.filter_append, h1]
          simp [he]
        · rw [ej, List.take_succ_eq_append_getElem hjl, List.filter_append, List.length_append, ← h2]
          simp [he]
        · rw [ej]
          have h6 : (C.drop j.toNat).drop 1 = (L.drop j.toNat).drop 1 := by rw [h3]
          simpa [List.drop_drop, Nat.add_comm] using h6
    · simp at hc
      have hjj : j.toNat = L.length := by omega
      rw [hjj, List.take_length] at h1 h2
      have hnc := hsC.2.1
      refine ⟨hi0, by omega, Clr_rule eS_22 hsC (by omega) fun _ v5 hs5 hu5 => ⟨hi0, by omega, hK H2 v5 i.toNat ?_ (by rw [← hjj]; exact hA.keep _ _ _ _ _ hI2 hu5 hd2) (hu2.trans hu5 (fun _ h => .inl h) fun x hx => .inl (by simp [hx])) hsub2⟩⟩
      have h7 := hs5.take (k := i.toNat) (by omega)
      have e7 : ((C.map (Value.int .u64)).take (i.toNat * 1) ++ zeroL #[.int .u64 0] (n - i.toNat)).take (i.toNat * 1) = (L.filter (fun x => !f x)).map (.int .u64) := by
        rw [Nat.mul_one, List.take_append_of_le_length (by simp; omega), List.take_take, Nat.min_self, ← List.map_take, h1]
      rw [e7] at h7
      exact h7

end Go.Proofs.Ytdkkkomcolklbaa
