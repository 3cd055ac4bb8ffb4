/- What a text is: the program's, and the document's. -/
import Derived.Test.YtchbhocpmhlhjaaDoorCell
namespace Go.Proofs.YtchbhocpmhlhjaaDoor
open Go Go.D Go.Proofs
set_option linter.unusedSimpArgs false
set_option linter.unusedVariables false
set_option maxRecDepth 8000

/-! ## Texts -/

theorem loop_eq (bs : ByteArray) : ∀ (n i : Nat) (r : List UInt8), bs.size - i = n → ByteArray.toList.loop bs i r = r.reverse ++ bs.data.toList.drop i
  | 0, i, r, h => by
    unfold ByteArray.toList.loop
    have hi : ¬ i < bs.size := by omega
    have hs : bs.data.toList.length = bs.size := rfl
    rw [if_neg hi, List.drop_of_length_le (by omega)]
    simp
  | n + 1, i, r, h => by
    unfold ByteArray.toList.loop
    have hi : i < bs.size := by omega
    have hs : bs.data.toList.length = bs.size := rfl
    have hl : i < bs.data.toList.length := by omega
    have hg : bs.get! i = bs.data.toList[i] := by
      show bs.data[i]! = _
      rw [getElem!_pos bs.data i hi]; rfl
    rw [if_pos hi, loop_eq bs n (i + 1) _ (by omega), List.drop_eq_getElem_cons hl, hg]
    simp

theorem toList_data (bs : ByteArray) : bs.toList = bs.data.toList := by
  unfold ByteArray.toList
  rw [loop_eq bs _ 0 [] rfl]; simp

/-- Two texts are the same. -/
theorem strEq (a b : ByteArray) : (a.toList == b.toList) = decide (a.data.toList = b.data.toList) := by
  rw [toList_data, toList_data]
  by_cases h : a.data.toList = b.data.toList
  · rw [h]; simp
  · rw [decide_eq_false h]; simpa using h

theorem mkL (s : ByteArray) : s = ⟨s.data.toList.toArray⟩ := by apply ByteArray.ext; simp

theorem exL (l : List UInt8) (i j : Nat) : (⟨l.toArray⟩ : ByteArray).extract i j = ⟨((l.take j).drop i).toArray⟩ := by
  apply ByteArray.ext
  rw [ByteArray.data_extract]
  simp [List.drop_take]

theorem atL (l : List UInt8) (i : Nat) : (⟨l.toArray⟩ : ByteArray)[i]? = l[i]? := by
  by_cases h : i < l.length
  · rw [List.getElem?_eq_getElem h, getElem?_pos (⟨l.toArray⟩ : ByteArray) i (by rw [sizeL]; exact h)]
    rfl
  · rw [List.getElem?_eq_none (by omega), getElem?_neg (⟨l.toArray⟩ : ByteArray) i (by rw [sizeL]; exact h)]

/-- A text that is a cell's. -/
def IsT (l : List UInt8) (tag m : Int) : Prop := 1 ≤ tag ∧ tag ≤ 7 ∧ -2 ^ 60 ≤ m ∧ m < 2 ^ 60 ∧ l = nameT tag ++ 58 :: Lib.itoa m

theorem IsT.uniq {l : List UInt8} {t u m n : Int} (h : IsT l t m) (g : IsT l u n) : t = u ∧ m = n := by
  obtain ⟨h1, h2, h3, h4, h5⟩ := h
  obtain ⟨g1, g2, g3, g4, g5⟩ := g
  obtain ⟨e1, e2⟩ := split_uniq (h5.symm.trans g5) (name_colon t) (name_colon u)
  exact ⟨name_inj (by omega) h2 (by omega) g2 e1, itoa_inj e2⟩

section
variable {w : World}

/-! ## The program's -/

/-- The tag of a name. -/
theorem tagOf_ok {l : List UInt8} {K : Int → World → Prop} (V : Vars w) (hK : ∀ t : Int, 0 ≤ t → t ≤ 7 → l = nameT t → K t w) (hno : (∀ t : Int, 0 ≤ t → t ≤ 7 → l ≠ nameT t) → K 0 w) : C_cell_tagOf ⟨l.toArray⟩ w K := by
  apply C_cell_tagOf.of
  unfold F_cell_tagOf F_cell_tagOf_L1
  have n0 := V.nm 0 (by omega)
  have n1 := V.nm 1 (by omega)
  have n2 := V.nm 2 (by omega)
  have n3 := V.nm 3 (by omega)
  have n4 := V.nm 4 (by omega)
  have n5 := V.nm 5 (by omega)
  have n6 := V.nm 6 (by omega)
  have n7 := V.nm 7 (by omega)
  simp only [addN, Nat.zero_add, n0, n1, n2, n3, n4, n5, n6, n7, exStr]
  refine ⟨fun s v => 0 ≤ s.t6 ∧ s.t6 ≤ 8 ∧ v = w ∧ ∀ t : Int, 0 ≤ t → t < s.t6 → l ≠ nameT t, fun s _ => (8 - s.t6).toNat, ⟨by simp, by simp, rfl, fun t h0 h1 => by simp at h1; omega⟩, ?_⟩
  rintro ⟨t⟩ v ⟨h0, h8, rfl, hall⟩
  dsimp only at h0 h8 hall
  unfold B_cell_tagOf_L1
  dsimp only
  refine ifC (fun hc => ?_) (fun hc => ?_)
  · simp at hc
    have hcell : (#[.string ⟨(names[0]?.getD []).toArray⟩, .string ⟨(names[1]?.getD []).toArray⟩, .string ⟨(names[2]?.getD []).toArray⟩, .string ⟨(names[3]?.getD []).toArray⟩, .string ⟨(names[4]?.getD []).toArray⟩, .string ⟨(names[5]?.getD []).toArray⟩, .string ⟨(names[6]?.getD []).toArray⟩, .string ⟨(names[7]?.getD []).toArray⟩] : Array Value)[t.toNat * 1]? = some (.string ⟨(nameT t).toArray⟩) := by
      rcases tag8 h0 (by omega) with rfl | rfl | rfl | rfl | rfl | rfl | rfl | rfl <;> rfl
    refine ⟨h0, by omega, ⟨(nameT t).toArray⟩, hcell, ?_⟩
    rw [strEq]
    refine ifC (fun he => ?_) (fun he => ?_)
    · simp at he
      exact hK t h0 (by omega) he.symm
    · simp at he
      rw [i64id (by omega) (by omega)]
      refine ⟨⟨by omega, by omega, rfl, fun u hu0 hu1 => ?_⟩, by omega⟩
      by_cases hut : u = t
      · subst hut; exact fun e => he e.symm
      · exact hall u hu0 (by omega)
  · simp at hc
    exact hno fun t h0 h7 => hall t h0 (by omega)

theorem Parse_ok {l : List UInt8} {K : Int → Int → World → Prop} (V : Vars w) (hl : l.length ≤ 2 ^ 20) (hdot : l = [46] → K 0 0 w) (hK : ∀ tag m, IsT l tag m → ∀ w', Upd [] w w' → K (mkW tag m) 0 w')
    (hno : l ≠ [46] → (∀ tag m, ¬ IsT l tag m) → ∀ w', Upd [] w w' → K 0 10 w') : C_cell_Parse ⟨l.toArray⟩ w K := by
  apply C_cell_Parse.of
  unfold F_cell_Parse
  rw [strEq]
  refine ifC (fun h => hdot (by simpa using h)) fun h => ?_
  have hnd : l ≠ [46] := by simpa using h
  apply C_strings_Cut.of
  unfold F_strings_Cut
  apply C_internal_stringslite_Cut.of
  unfold F_internal_stringslite_Cut
  refine Index_ok ?_
  -- behind the cut
  have go : ∀ (pre post : List UInt8) (w1 : World), Upd [] w w1 → (58 : UInt8) ∉ pre → post.length ≤ 2 ^ 20 → (∀ tag m, IsT l tag m → pre = nameT tag ∧ post = Lib.itoa m) → (post ≠ [] → l = pre ++ 58 :: post) →
      C_strconv_ParseInt ⟨post.toArray⟩ 10 64 w1 fun t210 t211 w1_1 => isIf t211 ∧ If (!isNilV t211) (K 0 10 w1_1) (C_strconv_FormatInt t210 10 w1_1 fun t28 w1_2 =>
        If (!(t28.toList == (⟨post.toArray⟩ : ByteArray).toList)) (K 0 10 w1_2) (C_cell_tagOf ⟨pre.toArray⟩ w1_2 fun t34 w1_3 => C_cell_Make t34 t210 w1_3 fun t360 t361 w1_4 => If (t361 != 0) (K 0 10 w1_4) (K t360 0 w1_4))) := by
    intro pre post w1 u1 hpre hpl huniq hback
    refine ParseInt_ok (V.keep u1) (by rw [sizeL]; omega) (fun v hv w2 u2 => ?_) (fun hv x t u w2 u2 => ?_)
    · refine ⟨.inl rfl, ifF rfl ?_⟩
      have hb := Lib.parseIntB_bounds (B := 64) hv
      have hb0 : -2 ^ 63 ≤ v ∧ v < 2 ^ 63 := by simp at hb; omega
      refine FormatInt_ok ((V.keep u1).keep u2) hb0.1 hb0.2 fun w3 u3 => ?_
      rw [strEq]
      refine ifC (fun he => ?_) (fun he => ?_)
      · simp at he
        refine hno hnd (fun tag m hT => ?_) w3 ((u1.after u2).after u3)
        obtain ⟨_, hp⟩ := huniq tag m hT
        have hm := parse_itoa (m := m) (by have := hT.2.2.1; omega) (by have := hT.2.2.2.1; omega)
        simp only [hp] at hv he
        rw [hm] at hv
        cases hv
        exact he rfl
      · simp at he
        have hpost : post = Lib.itoa v := he.symm
        have hne : post ≠ [] := by
          rw [hpost]
          by_cases h : v < 0
          · rw [itoa_neg' h]; simp
          · rw [itoa_pos' (by omega)]; exact (dec_val _).2.2
        have V3 := (((V.keep u1).keep u2).keep u3)
        have U3 := ((u1.after u2).after u3)
        refine tagOf_ok V3 (fun t h0 h7 ht => ?_) (fun hnone => ?_)
        · refine Make_ok (fun a1 a2 a3 a4 => ifF rfl (hK t v ⟨a1, a2, a3, a4, ?_⟩ w3 U3)) (fun hbad => ifT rfl (hno hnd (fun tag m hT => ?_) w3 U3))
          · rw [hback hne, ht, hpost]
          · obtain ⟨e1, e2⟩ := huniq tag m hT
            have : t = tag := name_inj h0 h7 (by have := hT.1; omega) hT.2.1 (ht.symm.trans e1)
            have hvm : v = m := itoa_inj (hpost.symm.trans e2)
            subst this hvm
            exact hbad ⟨hT.1, hT.2.1, hT.2.2.1, hT.2.2.2.1⟩
        · refine Make_ok (fun a1 => by omega) (fun _ => ifT rfl (hno hnd (fun tag m hT => ?_) w3 U3))
          exact hnone tag (by have := hT.1; omega) hT.2.1 (huniq tag m hT).1
    · refine ⟨.inr ⟨_, _, rfl⟩, ifT rfl (hno hnd (fun tag m hT => ?_) w2 (u1.after u2))⟩
      obtain ⟨_, hp⟩ := huniq tag m hT
      have hm := parse_itoa (m := m) (by have := hT.2.2.1; omega) (by have := hT.2.2.2.1; omega)
      refine hv m ?_
      simp only [hp]
      exact hm
  rcases indexByte_ok 58 l with ⟨h1, h2⟩ | ⟨pre, post, h1, h2, h3⟩
  · simp only [h1]
    refine ifF rfl ?_
    exact go l [] w (Upd.refl _ _) h2 (by simp) (fun tag m hT => absurd (by rw [hT.2.2.2.2]; simp) h2) (fun h => absurd rfl h)
  · simp only [h3]
    subst h1
    have hlen : (pre ++ 58 :: post).length = pre.length + 1 + post.length := by simp; omega
    refine ifT (by simp) ?_
    have e1 : (⟨#[58]⟩ : ByteArray).size = 1 := rfl
    rw [e1, sizeL, hlen]
    rw [i64id (x := ((pre.length : Nat) : Int) + ((1 : Nat) : Int)) (by omega) (by omega)]
    refine ⟨by omega, by omega, by omega, by omega, ?_⟩
    have t1 : ((pre.length : Nat) : Int).toNat = pre.length := by omega
    have t2 : (((pre.length : Nat) : Int) + ((1 : Nat) : Int)).toNat = pre.length + 1 := by omega
    rw [t1, t2, exL, exL]
    have f1 : ((pre ++ 58 :: post).take pre.length).drop 0 = pre := by simp
    have f2 : ((pre ++ 58 :: post).take (pre.length + 1 + post.length)).drop (pre.length + 1) = post := by
      rw [List.take_of_length_le (Nat.le_of_eq hlen)]
      rw [show pre ++ 58 :: post = (pre ++ [58]) ++ post by simp, List.drop_left' (by simp)]
    rw [f1, f2]
    refine go pre post (drw w) (drw_upd w) h2 (by omega) (fun tag m hT => ?_) (fun _ => rfl)
    exact split_uniq hT.2.2.2.2 h2 (name_colon tag)

/-! ## The document's -/

theorem Digits_ok {n : Int} {K : ByteArray → World → Prop} (h0 : -2 ^ 63 ≤ n) (h1 : n < 2 ^ 63) (hK : ∀ w', Upd [] w w' → K ⟨(Lib.itoa n).toArray⟩ w') : C_ref01_Digits n w K := by
  apply C_ref01_Digits.of
  unfold F_ref01_Digits F_ref01_Digits_k1 F_ref01_Digits_L1
  have hlen : (Lib.decDigits n.natAbs).length ≤ 20 := dec_len (k := 19) (by omega)
  have main : ∀ (u : Int), u = (n.natAbs : Nat) → LoopS (fun s w_1 Kn => B_ref01_Digits_L1 n s w_1 Kn fun out_2 w1_1 => If (decide (n < (0 : Int))) ((((⟨#[45]⟩ : ByteArray).size + out_2.size : Nat) : Int) ≤ IntKind.i64.max ∧ K ((⟨#[45]⟩ : ByteArray) ++ out_2) w1_1) (K out_2 w1_1)) ⟨⟨#[]⟩, u⟩ w := by
    intro u hu
    refine ⟨fun s v => 0 ≤ s.u_1 ∧ s.u_1 < 2 ^ 64 ∧ (∃ r : List UInt8, s.out = ⟨r.toArray⟩ ∧ Lib.decDigits n.natAbs = Lib.decDigits s.u_1.toNat ++ r) ∧ Upd [] w v, fun s _ => s.u_1.toNat, ⟨by simp; omega, by simp; omega, ⟨[], rfl, ?_⟩, Upd.refl _ _⟩, ?_⟩
    · simp only [List.append_nil]; congr 1; omega
    rintro ⟨o, x⟩ v ⟨hx0, hx1, ⟨r, hr, hd⟩, U⟩
    dsimp only at hx0 hx1 hr hd
    unfold B_ref01_Digits_L1
    dsimp only
    subst hr
    have ht : x.tmod 10 = x % 10 := Int.tmod_eq_emod_of_nonneg hx0
    have hq : x.tdiv 10 = x / 10 := Int.tdiv_eq_ediv_of_nonneg hx0
    have hw1 : IntKind.u64.wrap (x % 10 + 1) = x % 10 + 1 := by rw [u64w']; omega
    have hw2 : IntKind.u64.wrap (x / 10) = x / 10 := by rw [u64w']; omega
    rw [ht, hq, hw1, hw2]
    have hdig : (⟨#[48, 49, 50, 51, 52, 53, 54, 55, 56, 57]⟩ : ByteArray).extract (x % 10).toNat (x % 10 + 1).toNat = ⟨([UInt8.ofNat (48 + (x % 10).toNat)] : List UInt8).toArray⟩ := by
      have : x % 10 = 0 ∨ x % 10 = 1 ∨ x % 10 = 2 ∨ x % 10 = 3 ∨ x % 10 = 4 ∨ x % 10 = 5 ∨ x % 10 = 6 ∨ x % 10 = 7 ∨ x % 10 = 8 ∨ x % 10 = 9 := by omega
      rcases this with h | h | h | h | h | h | h | h | h | h <;> rw [h] <;> rfl
    rw [hdig, appL]
    have hrl : r.length ≤ 20 := by
      have := congrArg List.length hd
      rw [List.length_append] at this; omega
    have hdl := congrArg List.length hd
    rw [List.length_append] at hdl
    have hpos : 1 ≤ (Lib.decDigits x.toNat).length := by
      have := (dec_val x.toNat).2.2
      exact List.length_pos_iff.2 this
    have hs10 : (⟨#[48, 49, 50, 51, 52, 53, 54, 55, 56, 57]⟩ : ByteArray).size = 10 := rfl
    refine ⟨by omega, by omega, by omega, by omega, by rw [hs10]; omega, ?_, by omega, ?_⟩
    · rw [sizeL, sizeL, maxI64]; simp; omega
    have hxt : (x % 10).toNat = x.toNat % 10 := by omega
    refine ifC (fun hz => ?_) (fun hz => ?_)
    · simp at hz
      have hlt : x.toNat < 10 := by omega
      have e : [UInt8.ofNat (48 + (x % 10).toNat)] ++ r = Lib.decDigits n.natAbs := by
        rw [hd, dec_lt hlt, hxt, Nat.mod_eq_of_lt hlt]
      rw [e]
      refine ifC (fun hn => ?_) (fun hn => ?_)
      · simp at hn
        have e1 : (⟨#[45]⟩ : ByteArray) = ⟨([45] : List UInt8).toArray⟩ := rfl
        refine ⟨by rw [e1, sizeL, sizeL, maxI64]; simp; omega, ?_⟩
        rw [e1, appL]
        have := hK v U
        rw [itoa_neg' hn] at this
        exact this
      · simp at hn
        have := hK v U
        rw [itoa_pos' hn] at this
        exact this
    · have hz : ¬ x / 10 = 0 := by simpa using hz
      have hge : ¬ x.toNat < 10 := by omega
      refine ⟨⟨by omega, by omega, ⟨_, rfl, ?_⟩, U⟩, by omega⟩
      rw [hd, dec_ge hge, hxt, show (x / 10).toNat = x.toNat / 10 by omega]
      simp
  refine ifC (fun h => ?_) (fun h => ?_)
  · simp at h
    rw [u64w', u64w']
    exact main _ (by omega)
  · simp at h
    rw [u64w']
    exact main _ (by omega)

/-- A numeral of a cell. -/
def IsN (l : List UInt8) (m : Int) : Prop := -2 ^ 60 ≤ m ∧ m < 2 ^ 60 ∧ l = Lib.itoa m

theorem number_ok {l : List UInt8} {K : Int → Bool → World → Prop} (hl : l.length ≤ 2 ^ 20) (hK : ∀ m, IsN l m → ∀ w', Upd [] w w' → K m true w') (hno : (∀ m, ¬ IsN l m) → ∀ x w', Upd [] w w' → K x false w') : C_ref01_number ⟨l.toArray⟩ w K := by
  apply C_ref01_number.of
  unfold F_ref01_number F_ref01_number_k4 F_ref01_number_L1
  -- the digits d, behind a sign
  have main : ∀ (neg : Bool) (d : List UInt8) (KK : Int → World → Prop), d.length ≤ 2 ^ 20 → (∀ m, IsN l m → d = Lib.decDigits m.natAbs ∧ (neg = true ↔ m < 0)) →
      (∀ (x : Int) (v : World), 0 ≤ x → x ≤ 2 ^ 60 → Upd [] w v → (d.length ≤ 20 → x = ((val d : Nat) : Int)) → KK x v) →
      LoopS (fun s w_1 Kn => B_ref01_number_L1 ⟨l.toArray⟩ neg ⟨d.toArray⟩ s w_1 Kn KK (fun t2_1 t3_1 w1_3 => K t2_1 t3_1 w1_3)) ⟨0, 0⟩ w := by
    intro neg d KK hdl hd hend
    have hbig : ∀ m, IsN l m → IsDig d ∧ val d ≤ 2 ^ 60 := fun m hm => by
      obtain ⟨e, _⟩ := hd m hm
      have := dec_val m.natAbs
      rw [← e] at this
      have h1 := hm.1
      have h2 := hm.2.1
      exact ⟨this.2.1, by rw [this.1]; omega⟩
    refine ⟨fun s v => 0 ≤ s.i ∧ s.i ≤ d.length ∧ s.i ≤ 20 ∧ s.n = (val (d.take s.i.toNat) : Nat) ∧ s.n ≤ 2 ^ 60 ∧ Upd [] w v, fun s _ => (d.length - s.i).toNat, ⟨by simp, by simp, by simp, by simp [val], by simp, Upd.refl _ _⟩, ?_⟩
    rintro ⟨n, i⟩ v ⟨hi0, hi1, hi2, hn, hn60, U⟩
    dsimp only at hi0 hi1 hi2 hn hn60
    unfold B_ref01_number_L1 F_ref01_number_k1
    dsimp only
    rw [sizeL]
    have fin : ¬ (i < d.length ∧ i < 20) → KK n v := fun hc => hend n v (by omega) hn60 U fun h20 => by
      rw [hn, List.take_of_length_le (by omega)]
    refine ifC (fun hc => ifC (fun hc2 => ?_) (fun hc2 => fin (by simp at hc2; omega))) (fun hc => fin (by simp at hc; omega))
    simp at hc hc2
    clear fin
    have hil : i.toNat < d.length := by omega
    simp only [atL]
    have hg := List.getElem?_eq_getElem hil
    obtain ⟨c, hcd⟩ : ∃ c, c = d[i.toNat] := ⟨_, rfl⟩
    rw [← hcd] at hg
    refine ⟨hi0, c, hg, ?_⟩
    have bad : ¬ (48 ≤ c.toNat ∧ c.toNat ≤ 57) → ∀ m, ¬ IsN l m := fun hb m hm => hb ((hbig m hm).1 c (by rw [hcd]; exact List.getElem_mem hil))
    refine ifC (fun h => hno (bad (by simp at h; omega)) 0 v U) fun h1 => ⟨hi0, c, hg, ifC (fun h => hno (bad (by simp at h; omega)) 0 v U) fun h2 => ?_⟩
    simp at h1 h2
    refine ifC (fun h => by simp at h; omega) fun _ => ⟨hi0, c, hg, ?_⟩
    have hval : val (d.take (i.toNat + 1)) = val (d.take i.toNat) * 10 + (c.toNat - 48) := by
      rw [List.take_succ_eq_append_getElem hil, val_append, ← hcd]
    have hle := val_take d (i.toNat + 1)
    have n0 : 0 ≤ n := by omega
    have hc57 : c.toNat ≤ 57 := by omega
    have hc48 : 48 ≤ c.toNat := by omega
    obtain ⟨e, hedef⟩ : ∃ e : Int, e = (c.toNat : Int) - 48 := ⟨_, rfl⟩
    have hwe : IntKind.i64.wrap (IntKind.u8.wrap ((c.toNat : Int) - 48)) = e := by
      rw [u8w', i64w']; omega
    rw [hwe]
    obtain ⟨y, hy⟩ : ∃ y, y = IntKind.i64.wrap (IntKind.i64.wrap (10 * n) + e) := ⟨_, rfl⟩
    rw [← hy]
    have hyv : (0 ≤ y ∧ y ≤ 2 ^ 60 → y = 10 * n + e) ∧ (10 * n + e ≤ 2 ^ 60 → y = 10 * n + e) := by
      rw [i64w', i64w'] at hy
      constructor
      · intro h
        split at hy <;> split at hy <;> omega
      · intro h
        split at hy <;> split at hy <;> omega
    have over : ¬ (0 ≤ y ∧ y ≤ 2 ^ 60) → ∀ m, ¬ IsN l m := fun hb m hm => by
      have := (hbig m hm).2
      have h3 := hyv.2 (by omega)
      exact hb (by omega)
    refine ifC (fun h => hno (over (by simp at h; omega)) 0 v U) fun h3 => ifC (fun h => hno (over (by simp at h; omega)) 0 v U) fun h4 => ?_
    simp at h3 h4
    have h5 := hyv.1 ⟨h3, by omega⟩
    rw [i64id (x := i + 1) (by omega) (by omega)]
    refine ⟨⟨by omega, by omega, by omega, ?_, by omega, U⟩, by omega⟩
    rw [show (i + 1).toNat = i.toNat + 1 by omega, hval, h5]
    omega
  -- behind the loop
  have tail : ∀ (n v) (hn0 : -2 ^ 60 ≤ n ∧ n ≤ 2 ^ 60), Upd [] w v → (∀ m, IsN l m → n = m) → ∀ (R' : Int → World → Prop), (∀ x v', R' x v' = K x false v') →
      C_ref01_Digits n v fun t63 w1_5 => If (t63.toList == (⟨l.toArray⟩ : ByteArray).toList) (If (decide (n ≥ (-1152921504606846976))) (K n (decide (n ≤ (1152921504606846975 : Int))) w1_5) (R' n w1_5)) (R' n w1_5) := by
    intro n v hn U huniq R' hR
    refine Digits_ok (by omega) (by omega) fun v1 u1 => ?_
    rw [strEq]
    simp only [hR]
    have U1 := U.after u1
    refine ifC (fun h => ?_) (fun h => hno (fun m hm => ?_) n v1 U1)
    · simp at h
      refine ifT (by simp; omega) ?_
      by_cases hb : n < 2 ^ 60
      · rw [decide_eq_true (by omega)]
        exact hK n ⟨hn.1, hb, h.symm⟩ v1 U1
      · rw [decide_eq_false (by omega)]
        refine hno (fun m hm => ?_) n v1 U1
        have := huniq m hm
        have := hm.2.1
        omega
    · simp at h
      have hnm := huniq m hm
      subst hnm
      exact h hm.2.2.symm
  have len20 : ∀ m, IsN l m → (Lib.decDigits m.natAbs).length ≤ 20 := fun m hm => dec_len (k := 19) (by have := hm.1; have := hm.2.1; omega)
  rw [sizeL]
  refine ifC (fun hc => ?_) (fun hc => ?_)
  · simp at hc
    have hlp : 0 < l.length := by omega
    have t0 : (0 : Int).toNat = 0 := rfl
    simp only [atL, t0]
    obtain ⟨c, r, rfl⟩ : ∃ c r, l = c :: r := by
      cases l with
      | nil => simp at hlp
      | cons c r => exact ⟨c, r, rfl⟩
    refine ⟨by omega, c, rfl, ?_⟩
    have mneg : ∀ m, IsN (c :: r) m → (c.toNat = 45 ↔ m < 0) := fun m hm => by
      have hl := hm.2.2
      by_cases h : m < 0
      · rw [itoa_neg' h] at hl
        have := (List.cons.inj hl).1
        subst this
        exact ⟨fun _ => h, fun _ => rfl⟩
      · rw [itoa_pos' (by omega)] at hl
        have := dec_head m.natAbs c (by rw [← hl]; rfl)
        constructor
        · intro e; omega
        · intro e; omega
    refine ifC (fun hneg => ?_) (fun hneg => ?_)
    · have h45 : c.toNat = 45 := by simp at hneg; omega
      have t1 : (1 : Int).toNat = 1 := rfl
      refine ⟨by omega, by simp; omega, ?_⟩
      rw [t1, exL, List.take_of_length_le (by simp), List.drop_succ_cons, List.drop_zero, hneg]
      have hdd : ∀ m, IsN (c :: r) m → r = Lib.decDigits m.natAbs ∧ ((true = true) ↔ m < 0) := fun m hm => by
        have h0 := (mneg m hm).1 h45
        have hl := hm.2.2
        rw [itoa_neg' h0] at hl
        exact ⟨(List.cons.inj hl).2, by simp [h0]⟩
      refine main true r _ (by simp at hl; omega) hdd fun x v hx0 hx1 U hx => ifT rfl ?_
      rw [i64id (by omega) (by omega)]
      unfold F_ref01_number_k3 F_ref01_number_k2
      refine tail (0 - x) v (by omega) U (fun m hm => ?_) _ (fun _ _ => rfl)
      obtain ⟨e, hs⟩ := hdd m hm
      have h20 := len20 m hm
      rw [← e] at h20
      have := hx h20
      have hv := (dec_val m.natAbs).1
      rw [← e] at hv
      have := hs.1 rfl
      omega
    · have h45 : ¬ c.toNat = 45 := by simp at hneg; omega
      rw [hneg]
      have hdd : ∀ m, IsN (c :: r) m → c :: r = Lib.decDigits m.natAbs ∧ ((false = true) ↔ m < 0) := fun m hm => by
        have h0 : ¬ m < 0 := fun h => h45 ((mneg m hm).2 h)
        have hl := hm.2.2
        rw [itoa_pos' (by omega)] at hl
        exact ⟨hl, by simp; omega⟩
      refine main false (c :: r) _ hl hdd fun x v hx0 hx1 U hx => ifF rfl ?_
      unfold F_ref01_number_k3 F_ref01_number_k2
      refine tail x v (by omega) U (fun m hm => ?_) _ (fun _ _ => rfl)
      obtain ⟨e, hs⟩ := hdd m hm
      have h20 := len20 m hm
      rw [← e] at h20
      have := hx h20
      have hv := (dec_val m.natAbs).1
      rw [← e] at hv
      have : ¬ m < 0 := fun h => by cases hs.2 h
      omega
  · have hl0 : l = [] := by
      have hc : ¬ ((l.length : Int) > 0) := of_decide_eq_false hc
      exact List.length_eq_zero_iff.1 (by omega)
    subst hl0
    have hnone : ∀ m, ¬ IsN [] m := fun m hm => by
      have hl := hm.2.2
      by_cases h : m < 0
      · rw [itoa_neg' h] at hl; cases hl
      · rw [itoa_pos' (by omega)] at hl; exact (dec_val m.natAbs).2.2 hl.symm
    refine main false [] _ hl (fun m hm => absurd hm (hnone m)) fun x v hx0 hx1 U hx => ifF rfl ?_
    unfold F_ref01_number_k6 F_ref01_number_k5
    exact tail x v (by omega) U (fun m hm => absurd hm (hnone m)) _ (fun _ _ => rfl)

end

end Go.Proofs.YtchbhocpmhlhjaaDoor
