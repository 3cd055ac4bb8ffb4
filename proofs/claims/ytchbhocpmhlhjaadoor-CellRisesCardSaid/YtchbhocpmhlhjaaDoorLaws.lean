/- Cells: the five laws. -/
import Derived.Test.YtchbhocpmhlhjaaDoorCell2
namespace Go.Proofs.YtchbhocpmhlhjaaDoor
open Go Go.D Go.Proofs
set_option linter.unusedSimpArgs false
set_option linter.unusedVariables false
set_option maxRecDepth 8000

section
variable {w : World}

/-! ## The document's -/

theorem RMay_ok {tag n : Int} {K : Bool → World → Prop} (hK : K (decide (1 ≤ tag ∧ tag ≤ 7 ∧ -2 ^ 60 ≤ n ∧ n < 2 ^ 60)) w) : C_ref01_May tag n w K := by
  apply C_ref01_May.of
  unfold F_ref01_May F_ref01_May_k1
  have no : ¬ (1 ≤ tag ∧ tag ≤ 7 ∧ -2 ^ 60 ≤ n ∧ n < 2 ^ 60) → K false w := fun h => by rw [decide_eq_false h] at hK; exact hK
  refine ifC (fun h1 => ifC (fun h2 => ifC (fun h3 => ?_) fun h => no (by simp at h; omega)) fun h => no (by simp at h; omega)) fun h => no (by simp at h; omega)
  simp at h1 h2 h3
  have e : decide (n ≤ (1152921504606846975 : Int)) = decide (1 ≤ tag ∧ tag ≤ 7 ∧ -2 ^ 60 ≤ n ∧ n < 2 ^ 60) := by
    rw [decide_eq_decide]; omega
  rw [e]; exact hK

theorem RMake_ok {tag n : Int} {K : Int → World → Prop} (h1 : 1 ≤ tag) (h2 : tag ≤ 7) (h3 : -2 ^ 60 ≤ n) (h4 : n < 2 ^ 60) (hK : K (mkW tag n) w) : C_ref01_Make tag n w K := by
  apply C_ref01_Make.of
  unfold F_ref01_Make
  unfold mkW at hK
  simp only [u64w', i64w']
  refine ifC (fun h => ?_) fun h => ?_
  · simp at h
    rw [show (8 * (n % 2 ^ 64) % 2 ^ 64 + tag % 2 ^ 64) % 2 ^ 64 = n * 8 % 2 ^ 64 + tag by omega]; exact hK
  · simp at h
    rw [if_neg (by omega), show (8 * ((2305843009213693952 - (0 - n) % 2 ^ 64 % 2 ^ 64) % 2 ^ 64) % 2 ^ 64 + tag % 2 ^ 64) % 2 ^ 64 = n * 8 % 2 ^ 64 + tag by omega]; exact hK

theorem RTag_ok {x : Int} {K : Int → World → Prop} (h0 : 0 ≤ x) (hK : K (x % 8) w) : C_ref01_Tag x w K := by
  apply C_ref01_Tag.of
  unfold F_ref01_Tag
  refine ⟨by omega, ?_⟩
  rw [Int.tmod_eq_emod_of_nonneg h0, i64id (by omega) (by omega)]
  exact hK

theorem RNumber_ok {x : Int} {K : Int → World → Prop} (h0 : 0 ≤ x) (h1 : x < 2 ^ 64) (hK : K (numW x) w) : C_ref01_Number x w K := by
  apply C_ref01_Number.of
  unfold F_ref01_Number
  rw [Int.tmod_eq_emod_of_nonneg h0, Int.tdiv_eq_ediv_of_nonneg h0]
  unfold numW at hK
  simp only [u64w', i64w']
  refine ⟨by omega, ifC (fun h => ?_) fun h => ⟨by omega, ifC (fun h2 => ?_) fun h2 => ?_⟩⟩
  · simp at h
    rw [if_pos (by omega)] at hK; exact hK
  · have h : ¬ x % 8 = 0 := by simpa using h
    simp at h2
    rw [if_neg h, if_pos (by omega)] at hK
    rw [if_neg (by omega), show x / 8 % 2 ^ 64 % 2 ^ 64 = x / 8 by omega]; exact hK
  · have h : ¬ x % 8 = 0 := by simpa using h
    simp at h2
    rw [if_neg h, if_neg (by omega)] at hK
    obtain ⟨a, ha⟩ : ∃ a, a = (2305843009213693952 - x / 8 % 2 ^ 64) % 2 ^ 64 := ⟨_, rfl⟩
    rw [← ha, show a % 2 ^ 64 = a by omega, if_neg (show ¬ a ≥ 2 ^ 63 by omega)]
    have ha2 : a = 2305843009213693952 - x / 8 := by omega
    split
    · rw [show (0 - a) % 2 ^ 64 - 2 ^ 64 = x / 8 - 2 ^ 61 by omega]; exact hK
    · omega

theorem RName_ok {t : Int} {K : ByteArray → World → Prop} (hK : K ⟨(nameT t).toArray⟩ w) : C_ref01_Name t w K := by
  apply C_ref01_Name.of
  unfold F_ref01_Name
  refine ifC (fun h => ?_) fun h1 => ifC (fun h => ?_) fun h2 => ifC (fun h => ?_) fun h3 => ifC (fun h => ?_) fun h4 => ifC (fun h => ?_) fun h5 => ifC (fun h => ?_) fun h6 => ifC (fun h => ?_) fun h7 => ?_
  iterate 7 (first | (simp at h; subst h; exact hK))
  simp at h1 h2 h3 h4 h5 h6 h7
  have e : nameT t = [] := by
    unfold nameT
    split
    · rfl
    · have : t = 0 := by omega
      subst this; rfl
  rw [e] at hK; exact hK

theorem RText_ok {x : Int} {K : ByteArray → World → Prop} (h0 : 0 ≤ x) (h1 : x < 2 ^ 64) (hK : ∀ w', Upd [] w w' → K ⟨(textW x).toArray⟩ w') : C_ref01_Text x w K := by
  apply C_ref01_Text.of
  unfold F_ref01_Text
  unfold textW at hK
  rw [Int.tmod_eq_emod_of_nonneg h0]
  refine ⟨by omega, ifC (fun h => ?_) fun h => RTag_ok h0 (RName_ok ?_)⟩
  · simp at h
    rw [if_pos (by omega)] at hK; exact hK w (Upd.refl _ _)
  · have h : ¬ x % 8 = 0 := by simpa using h
    rw [if_neg h] at hK
    have e1 : (⟨#[58]⟩ : ByteArray) = ⟨([58] : List UInt8).toArray⟩ := rfl
    have hn := name_len (x % 8)
    have hb := numW_bnd h0 h1
    have hi := itoa_len (n := numW x) (by omega) (by omega)
    refine ⟨?_, RNumber_ok h0 h1 (Digits_ok (by omega) (by omega) fun w1 u1 => ⟨?_, ?_⟩)⟩
    · rw [e1, sizeL, sizeL, maxI64]; simp; omega
    · rw [e1, appL, sizeL, sizeL, maxI64]; simp; omega
    · rw [e1, appL, appL]
      have := hK w1 u1
      rw [List.append_assoc]
      exact this

theorem RParse_ok {l : List UInt8} {K : Int → Bool → World → Prop} (hl : l.length ≤ 2 ^ 19) (hdot : l = [46] → K 0 true w) (hK : ∀ tag m, IsT l tag m → ∀ w', Upd [] w w' → K (mkW tag m) true w')
    (hno : l ≠ [46] → (∀ tag m, ¬ IsT l tag m) → ∀ w', Upd [] w w' → K 0 false w') : C_ref01_Parse ⟨l.toArray⟩ w K := by
  apply C_ref01_Parse.of
  unfold F_ref01_Parse F_ref01_Parse_L1
  rw [strEq]
  refine ifC (fun h => hdot (by simpa using h)) fun h => ?_
  have hnd : l ≠ [46] := by simpa using h
  refine ⟨fun s v => 1 ≤ s.tag ∧ s.tag ≤ 8 ∧ (∀ tag m, IsT l tag m → s.tag ≤ tag) ∧ Upd [] w v, fun s _ => (8 - s.tag).toNat, ⟨by simp, by simp, fun tag m hT => hT.1, Upd.refl _ _⟩, ?_⟩
  rintro ⟨t⟩ v ⟨h1, h8, hall, U⟩
  dsimp only at h1 h8 hall
  unfold B_ref01_Parse_L1 F_ref01_Parse_k1
  dsimp only
  refine ifC (fun hc => ?_) (fun hc => ?_)
  · simp at hc
    have hn := name_len t
    have e1 : (⟨#[58]⟩ : ByteArray) = ⟨([58] : List UInt8).toArray⟩ := rfl
    refine RName_ok ?_
    rw [e1, appL, sizeL, sizeL, sizeL, sizeL]
    have hpl : (nameT t ++ [58]).length = (nameT t).length + 1 := by simp
    refine ⟨by rw [maxI64]; simp; omega, ?_⟩
    have next : (∀ m, ¬ IsT l t m) → (1 ≤ IntKind.i64.wrap (t + 1) ∧ IntKind.i64.wrap (t + 1) ≤ 8 ∧ (∀ tag m, IsT l tag m → IntKind.i64.wrap (t + 1) ≤ tag) ∧ Upd [] w v) ∧ (8 - IntKind.i64.wrap (t + 1)).toNat < (8 - t).toNat := fun hno => by
      rw [i64id (by omega) (by omega)]
      refine ⟨⟨by omega, by omega, fun tag m hT => ?_, U⟩, by omega⟩
      have := hall tag m hT
      by_cases he : tag = t
      · subst he; exact absurd hT (hno m)
      · omega
    have ine : ∀ m, Lib.itoa m ≠ [] := fun m => by
      by_cases h : m < 0
      · rw [itoa_neg' h]; simp
      · rw [itoa_pos' (by omega)]; exact (dec_val _).2.2
    refine ifC (fun hlen => ?_) (fun hlen => next fun m hT => ?_)
    · have hlen : ((nameT t ++ [58]).length : Int) < l.length := of_decide_eq_true hlen
      have tn : (((nameT t ++ [58]).length : Nat) : Int).toNat = (nameT t ++ [58]).length := by omega
      refine ⟨by omega, by omega, ?_⟩
      rw [tn, exL, strEq, List.drop_zero]
      refine ifC (fun he => ?_) (fun he => next fun m hT => ?_)
      · have he : l.take (nameT t ++ [58]).length = nameT t ++ [58] := by simpa using he
        have hsplit : l = nameT t ++ 58 :: l.drop (nameT t ++ [58]).length := by
          have h2 := List.take_append_drop (nameT t ++ [58]).length l
          rw [he, List.append_assoc] at h2
          exact h2.symm
        refine ⟨by omega, by omega, ?_⟩
        rw [exL, List.take_of_length_le (Nat.le_refl _)]
        refine number_ok (by rw [List.length_drop]; omega) (fun m hm v1 u1 => ifF rfl ?_) (fun hbad x v1 u1 => ifT rfl ?_)
        · refine RMake_ok h1 (by omega) hm.1 hm.2.1 (hK t m ⟨h1, by omega, hm.1, hm.2.1, ?_⟩ v1 (U.after u1))
          rw [← hm.2.2]; exact hsplit
        · refine hno hnd (fun tag m hT => ?_) v1 (U.after u1)
          obtain ⟨e3, e4⟩ := split_uniq (hsplit.symm.trans hT.2.2.2.2) (name_colon t) (name_colon tag)
          exact hbad m ⟨hT.2.2.1, hT.2.2.2.1, e4⟩
      · have he : ¬ l.take (nameT t ++ [58]).length = nameT t ++ [58] := by simpa using he
        refine he ?_
        rw [hT.2.2.2.2, show nameT t ++ 58 :: Lib.itoa m = (nameT t ++ [58]) ++ Lib.itoa m by simp, List.take_left']
        rfl
    · have hlen : ¬ ((nameT t ++ [58]).length : Int) < l.length := of_decide_eq_false hlen
      refine hlen ?_
      have h2 := congrArg List.length hT.2.2.2.2
      have h3 := List.length_pos_iff.2 (ine m)
      rw [List.length_append, List.length_cons] at h2
      omega
  · simp at hc
    refine hno hnd (fun tag m hT => ?_) v U
    have := hall tag m hT
    have := hT.2.1
    omega

/-! ## The laws -/

theorem mkW_bnd {tag n : Int} (h1 : 1 ≤ tag) (h2 : tag ≤ 7) : 0 ≤ mkW tag n ∧ mkW tag n < 2 ^ 64 ∧ mkW tag n % 8 = tag := by
  unfold mkW; omega

theorem mkW_num {tag n : Int} (h1 : 1 ≤ tag) (h2 : tag ≤ 7) (h3 : -2 ^ 60 ≤ n) (h4 : n < 2 ^ 60) : numW (mkW tag n) = n := by
  unfold numW mkW
  rw [if_neg (by omega)]
  split <;> omega

theorem mkW_back {x : Int} (h0 : 0 ≤ x) (h1 : x < 2 ^ 64) (h : ¬ x % 8 = 0) : mkW (x % 8) (numW x) = x := by
  unfold numW mkW
  rw [if_neg h]
  split <;> omega

/-- Every word's text is its own. -/
theorem text_is {x : Int} (h0 : 0 ≤ x) (h1 : x < 2 ^ 64) (h : ¬ x % 8 = 0) : IsT (textW x) (x % 8) (numW x) := by
  have := numW_bnd h0 h1
  refine ⟨by omega, by omega, this.1, this.2, ?_⟩
  unfold textW
  rw [if_neg h]

theorem text_len {x : Int} (h0 : 0 ≤ x) (h1 : x < 2 ^ 64) : (textW x).length ≤ 30 := by
  have hb := numW_bnd h0 h1
  have := itoa_len (n := numW x) (by omega) (by omega)
  have := name_len (x % 8)
  unfold textW
  split
  · simp
  · simp; omega

theorem lives_ok {K : Bool → World → Prop} (V : Vars w) (hK : ∀ w', Upd [] w w' → K true w') : C_law01_lives w K := by
  apply C_law01_lives.of
  unfold F_law01_lives F_law01_lives_k1
  have i5 : Lib.itoa 5 = [53] := by
    rw [itoa_pos' (by omega)]
    show Lib.decDigits 5 = _
    rw [dec_lt (by omega)]; rfl
  have im1 : Lib.itoa (-1) = [45, 49] := by
    rw [itoa_neg' (by omega)]
    show 45 :: Lib.decDigits 1 = _
    rw [dec_lt (by omega)]; rfl
  have m1 : mkW 4 (-1) = 18446744073709551612 := by decide
  refine Make_ok (fun _ _ _ _ => ?_) (fun h => absurd (by omega) h)
  refine Make_ok (fun h => by omega) (fun _ => ?_)
  have p1 : IsT [97, 116, 111, 109, 58, 53] 3 5 := ⟨by omega, by omega, by omega, by omega, by rw [i5]; rfl⟩
  refine Parse_ok (l := [97, 116, 111, 109, 58, 53]) V (by decide) (fun h => absurd h (by decide)) (fun tag m hT w1 u1 => ?_) (fun _ h => absurd p1 (h 3 5))
  obtain ⟨rfl, rfl⟩ := hT.uniq p1
  have V1 := V.keep u1
  refine Parse_ok (l := [97, 116, 111, 109, 58, 48, 53]) V1 (by decide) (fun h => absurd h (by decide)) (fun tag m hT w2 u2 => ?_) (fun _ _ w2 u2 => ?_)
  · exfalso
    have hs : ([97, 116, 111, 109, 58, 48, 53] : List UInt8) = nameT 3 ++ 58 :: [48, 53] := by decide
    obtain ⟨e1, e2⟩ := split_uniq (hs.symm.trans hT.2.2.2.2) (by decide) (name_colon tag)
    by_cases hm : m < 0
    · rw [itoa_neg' hm] at e2
      exact absurd (List.cons.inj e2).1 (by decide)
    · rw [itoa_pos' (by omega)] at e2
      have hv := (dec_val m.natAbs).1
      rw [← e2] at hv
      have : m.natAbs = 5 := by rw [← hv]; rfl
      rw [this, dec_lt (by omega)] at e2
      exact absurd e2 (by decide)
  · have V2 := V1.keep u2
    have b := mkW_bnd (tag := 4) (n := -1) (by omega) (by omega)
    have hn := mkW_num (tag := 4) (n := -1) (by omega) (by omega) (by omega) (by omega)
    refine ifT rfl (ifT (by rw [m1]; rfl) (ifT rfl (ifT rfl (ifT (by decide) (ifT rfl (Tag_ok b.1 b.2.1 (ifT (by rw [b.2.2]; rfl) (Number_ok b.1 b.2.1 (ifT (by rw [hn]; rfl) (Is_ok b.1 b.2.1 (ifT (by rw [b.2.2]; decide) (Is_ok b.1 b.2.1 (ifT (by rw [b.2.2]; decide) ?_)))))))))))))
    refine Text_ok V2 b.1 b.2.1 fun w3 u3 => ifT ?_ (Name_ok (V2.keep u3) ?_)
    · rw [strEq]
      unfold textW
      rw [b.2.2, hn, if_neg (by omega), im1]
      decide
    · have e : ((⟨(nameT 1).toArray⟩ : ByteArray).toList == (⟨#[114, 101, 102]⟩ : ByteArray).toList) = true := by rw [strEq]; decide
      rw [e]
      exact hK w3 ((u1.after u2).after u3)

theorem CellMakes_law {tag n : Int} (V : Vars w) (hn0 : -2 ^ 63 ≤ n) (hn1 : n < 2 ^ 63) : C_law01_CellMakes tag n w fun r w' => r = true ∧ Upd [] w w' := by
  apply C_law01_CellMakes.of
  unfold F_law01_CellMakes F_law01_CellMakes_k1
  refine Make_ok (fun a1 a2 a3 a4 => ?_) (fun hbad => ?_)
  · refine lives_ok V fun w1 u1 => ifF rfl (RMay_ok ?_)
    rw [decide_eq_true ⟨a1, a2, a3, a4⟩]
    obtain ⟨b1, b2, b3⟩ := mkW_bnd (n := n) a1 a2
    refine ifF rfl (ifT rfl (RMake_ok a1 a2 a3 a4 (ifT (by simp) (Tag_ok b1 b2 (ifT (by rw [b3]; simp) (Number_ok b1 b2 (ifT (by rw [mkW_num a1 a2 a3 a4]; simp) (Is_ok b1 b2 ⟨?_, u1⟩))))))))
    rw [b3, decide_eq_true_eq]; omega
  · refine lives_ok V fun w1 u1 => ifF rfl (RMay_ok ?_)
    rw [decide_eq_false hbad]
    exact ifT rfl (ifT rfl ⟨rfl, u1⟩)

theorem CellReads_law {x tag : Int} (V : Vars w) (h0 : 0 ≤ x) (h1 : x < 2 ^ 64) : C_law01_CellReads x tag w fun r w' => r = true ∧ Upd [] w w' := by
  apply C_law01_CellReads.of
  unfold F_law01_CellReads F_law01_CellReads_k1
  refine RTag_ok h0 (lives_ok V fun w1 u1 => ifF rfl (Tag_ok h0 h1 (ifF (by simp) (Number_ok h0 h1 (RNumber_ok h0 h1 (ifF (by simp) (Is_ok h0 h1 ?_)))))))
  have V1 := V.keep u1
  have rest : ∀ {b : Bool} , b = false → If b (false = true ∧ Upd [] w w1) (C_cell_Text x w1 fun t40 w1_6 => C_ref01_Text x w1_6 fun t42 w1_7 => If (!(t40.toList == t42.toList)) (false = true ∧ Upd [] w w1_7)
      (C_cell_Name tag w1_7 fun t47 w1_8 => C_ref01_Name tag w1_8 fun t49 w1_9 => F_law01_CellReads_k2 x (fun r w' => r = true ∧ Upd [] w w') (x % 8) (!(t47.toList == t49.toList)) w1_9)) := by
    intro b hb
    refine ifF hb (Text_ok V1 h0 h1 fun w2 u2 => RText_ok h0 h1 fun w3 u3 => ifF (by simp) (Name_ok ((V1.keep u2).keep u3) (RName_ok ?_)))
    unfold F_law01_CellReads_k2
    have U := (u1.after u2).after u3
    refine ifF (by simp) (ifC (fun _ => ⟨rfl, U⟩) fun h => ?_)
    have h : ¬ x % 8 = 0 := by simpa using h
    have hb := numW_bnd h0 h1
    refine Tag_ok h0 h1 (Number_ok h0 h1 (Make_ok (fun _ _ _ _ => ifT rfl ⟨?_, U⟩) (fun hbad => absurd ⟨by omega, by omega, hb.1, hb.2⟩ hbad)))
    rw [mkW_back h0 h1 h]; simp
  refine ifC (fun ht => rest ?_) (fun ht => rest ?_)
  · simp at ht
    subst ht
    have : decide (0 < x % 8 ∧ x % 8 = x % 8) = decide (x % 8 > 0) := by rw [decide_eq_decide]; omega
    rw [this]; simp
  · have ht : ¬ x % 8 = tag := by simpa using ht
    rw [decide_eq_false (by omega)]; rfl

theorem CellTexts_law {x : Int} {s : ByteArray} (V : Vars w) (h0 : 0 ≤ x) (h1 : x < 2 ^ 64) : C_law01_CellTexts x s w fun r w' => r = true ∧ Upd [] w w' := by
  apply C_law01_CellTexts.of
  unfold F_law01_CellTexts
  have main : ∀ y : Int, 0 ≤ y → y < 2 ^ 64 → (y % 8 = 0 → y = 0) → F_law01_CellTexts_k3 s (fun r w' => r = true ∧ Upd [] w w') y w := by
    intro y y0 y1 hy
    unfold F_law01_CellTexts_k3 F_law01_CellTexts_k1 F_law01_CellTexts_k2
    refine Text_ok V y0 y1 fun w1 u1 => ?_
    have V1 := V.keep u1
    have tl := text_len y0 y1
    have rest : ∀ (z : Int) (w2 : World), z = y → Upd [] w1 w2 → C_law01_lives w2 fun t20 w1_3 => If (!t20) (false = true ∧ Upd [] w w1_3) (If ((0 : Int) != 0) (false = true ∧ Upd [] w w1_3) (If (z != y) (false = true ∧ Upd [] w w1_3)
        (If (decide ((s.size : Int) > 100)) (true = true ∧ Upd [] w w1_3) (C_cell_Parse s w1_3 fun t360 t361 w1_5 => C_ref01_Parse s w1_5 fun t410 t411 w1_6 =>
          If (t360 == t410) (If ((t361 == (0 : Int)) == t411) (If t411 (true = true ∧ Upd [] w w1_6) ((t361 == (10 : Int)) = true ∧ Upd [] w w1_6)) (false = true ∧ Upd [] w w1_6)) (false = true ∧ Upd [] w w1_6))))) := by
      intro z w2 hz u2
      subst hz
      have V2 := V1.keep u2
      refine lives_ok V2 fun w3 u3 => ifF rfl (ifF rfl (ifF (by simp) (ifC (fun _ => ⟨rfl, (u1.after u2).after u3⟩) fun hs => ?_)))
      have V3 := V2.keep u3
      have U3 := (u1.after u2).after u3
      rw [mkL s, sizeL] at hs
      rw [mkL s]
      obtain ⟨l, hl⟩ : ∃ l, l = s.data.toList := ⟨_, rfl⟩
      rw [← hl] at hs ⊢
      have hs : l.length ≤ 100 := by simp at hs; omega
      refine Parse_ok V3 (by omega) (fun hdot => ?_) (fun t m hT w4 u4 => ?_) (fun hnd hno w4 u4 => ?_)
      · refine RParse_ok (by omega) (fun _ => ifT rfl (ifT rfl (ifT rfl ⟨rfl, U3⟩))) (fun t m hT => ?_) (fun h => absurd hdot h)
        exfalso
        have := hT.2.2.2.2
        rw [hdot] at this
        have h2 := congrArg (fun q => (58 : UInt8) ∈ q) this
        simp at h2
      · refine RParse_ok (by omega) (fun hdot => ?_) (fun u n hU w5 u5 => ?_) (fun _ h => absurd hT (h t m))
        · exfalso
          have := hT.2.2.2.2
          rw [hdot] at this
          have h2 := congrArg (fun q => (58 : UInt8) ∈ q) this
          simp at h2
        · obtain ⟨rfl, rfl⟩ := hT.uniq hU
          exact ifT (by simp) (ifT rfl (ifT rfl ⟨rfl, (U3.after u4).after u5⟩))
      · exact RParse_ok (by omega) (fun hdot => absurd hdot hnd) (fun u n hU => absurd hU (hno u n)) (fun _ _ w5 u5 => ifT rfl (ifT rfl (ifF rfl ⟨rfl, (U3.after u4).after u5⟩)))
    by_cases hz : y % 8 = 0
    · have hy0 := hy hz
      have ht : textW y = [46] := by unfold textW; rw [if_pos hz]
      rw [ht]
      refine Parse_ok (l := [46]) V1 (by decide) (fun _ => rest 0 w1 hy0.symm (Upd.refl _ _)) (fun t m hT => ?_) (fun h => absurd rfl h)
      exfalso
      have h2 := congrArg (fun q => (58 : UInt8) ∈ q) hT.2.2.2.2
      simp at h2
    · have hT0 := text_is y0 y1 hz
      refine Parse_ok V1 (by omega) (fun hdot => ?_) (fun t m hT w2 u2 => ?_) (fun _ h => absurd hT0 (h _ _))
      · exfalso
        have := hT0.2.2.2.2
        rw [hdot] at this
        have h2 := congrArg (fun q => (58 : UInt8) ∈ q) this
        simp at h2
      · obtain ⟨rfl, rfl⟩ := hT.uniq hT0
        exact rest _ w2 (mkW_back y0 y1 hz) u2
  refine ⟨by omega, ?_⟩
  rw [Int.tmod_eq_emod_of_nonneg h0]
  refine ifC (fun h => main 0 (by omega) (by omega) (fun _ => rfl)) fun h => main x h0 h1 (fun hx => by simp at h; omega)

theorem CellApart_law {tag n other m : Int} (V : Vars w) : C_law01_CellApart tag n other m w fun r w' => r = true ∧ Upd [] w w' := by
  apply C_law01_CellApart.of
  unfold F_law01_CellApart F_law01_CellApart_k1 F_law01_CellApart_k2
  have dead : ∀ {w1 : World}, Upd [] w w1 → C_law01_lives w1 fun t35 w1_4 => t35 = true ∧ Upd [] w w1_4 := fun u => lives_ok (V.keep u) fun w2 u2 => ⟨rfl, u.after u2⟩
  refine Make_ok (fun a1 a2 a3 a4 => ?_) (fun _ => ?_)
  · refine Make_ok (fun b1 b2 b3 b4 => ?_) (fun _ => ?_)
    · refine lives_ok V fun w1 u1 => ifF rfl (ifF rfl (ifF rfl ?_))
      have key : (mkW tag n == mkW other m) = decide (tag = other ∧ n = m) := by
        rw [Bool.eq_iff_iff, beq_iff_eq, decide_eq_true_eq]
        constructor
        · intro h
          have e1 := (mkW_bnd (n := n) a1 a2).2.2
          have e2 := (mkW_bnd (n := m) b1 b2).2.2
          have e3 := mkW_num a1 a2 a3 a4
          have e4 := mkW_num b1 b2 b3 b4
          rw [h] at e1 e3
          exact ⟨e1.symm.trans e2, e3.symm.trans e4⟩
        · rintro ⟨rfl, rfl⟩; rfl
      rw [key]
      refine ifC (fun h => ⟨?_, u1⟩) fun h => ⟨?_, u1⟩
      · have h : tag = other := by simpa using h
        by_cases hnm : n = m <;> simp [h, hnm]
      · have h : ¬ tag = other := by simpa using h
        simp [h]
    · exact lives_ok V fun w1 u1 => ifF rfl (ifF rfl (ifT rfl (dead u1)))
  · refine Make_ok (fun b1 b2 b3 b4 => ?_) (fun _ => ?_)
    · exact lives_ok V fun w1 u1 => ifF rfl (ifT rfl (dead u1))
    · exact lives_ok V fun w1 u1 => ifF rfl (ifT rfl (dead u1))

theorem CellRises_law {tag n m : Int} (V : Vars w) : C_law01_CellRises tag n m w fun r w' => r = true ∧ Upd [] w w' := by
  apply C_law01_CellRises.of
  unfold F_law01_CellRises F_law01_CellRises_k1
  have dead : ∀ {w1 : World}, Upd [] w w1 → C_law01_lives w1 fun t35 w1_4 => t35 = true ∧ Upd [] w w1_4 := fun u => lives_ok (V.keep u) fun w2 u2 => ⟨rfl, u.after u2⟩
  refine Make_ok (fun a1 a2 a3 a4 => ?_) (fun _ => ?_)
  · refine Make_ok (fun b1 b2 b3 b4 => ?_) (fun _ => ?_)
    · refine lives_ok V fun w1 u1 => ifF rfl (ifF rfl (ifF rfl (ifC (fun _ => dead u1) fun hn => ifC (fun _ => dead u1) fun hm => ?_)))
      simp at hn hm
      have k1 : decide (mkW tag n < mkW tag m) = decide (n < m) := by rw [decide_eq_decide]; unfold mkW; omega
      have k2 : (mkW tag n == mkW tag m) = (n == m) := by rw [Bool.eq_iff_iff, beq_iff_eq, beq_iff_eq]; unfold mkW; omega
      rw [k1, k2]
      exact ifT (by simp) ⟨by simp, u1⟩
    · exact lives_ok V fun w1 u1 => ifF rfl (ifF rfl (ifT rfl (dead u1)))
  · refine Make_ok (fun b1 b2 b3 b4 => ?_) (fun _ => ?_)
    · exact lives_ok V fun w1 u1 => ifF rfl (ifT rfl (dead u1))
    · exact lives_ok V fun w1 u1 => ifF rfl (ifT rfl (dead u1))

end

end Go.Proofs.YtchbhocpmhlhjaaDoor
