/- The document's table of names. -/
import Derived.Test.YtlngmelfjiemlaaAtom6
namespace Go.Proofs.Ytlngmelfjiemlaa
open Go Go.D Go.Proofs
set_option linter.unusedSimpArgs false
set_option linter.unusedVariables false
set_option maxRecDepth 8000

theorem loop_eq (bs : ByteArray) : ∀ (n i : Nat) (r : List UInt8), bs.size - i = n → ByteArray.toList.loop bs i r = r.reverse ++ bs.data.toList.drop i
  | 0, i, r, h => by
    unfold ByteArray.toList.loop
    have hi : ¬ i < bs.size := by omega
    have hs : bs.data.toList.length = bs.size := rfl
    rw [if_neg hi, List.drop_of_length_le (by omega)]
    simp
  | n + 1, i, r, h => by
    unfold ByteArray.toList.loop
    have hi : i < bs.size := by omega
    have hs : bs.data.toList.length = bs.size := rfl
    have hl : i < bs.data.toList.length := by omega
    have hg : bs.get! i = bs.data.toList[i] := by
      show bs.data[i]! = _
      rw [getElem!_pos bs.data i hi]; rfl
    rw [if_pos hi, loop_eq bs n (i + 1) _ (by omega), List.drop_eq_getElem_cons hl, hg]
    simp

theorem toList_data (bs : ByteArray) : bs.toList = bs.data.toList := by
  unfold ByteArray.toList
  rw [loop_eq bs _ 0 [] rfl]; simp

/-- Two texts are the same. -/
theorem strEq (a b : ByteArray) : (a.toList == b.toList) = decide (a = b) := by
  rw [toList_data, toList_data]
  by_cases h : a = b
  · subst h; simp
  · have : a.data.toList ≠ b.data.toList := fun e => h (by
      cases a; cases b; simp at e; simp [e])
    rw [decide_eq_false h]
    simpa using this

structure RtD where
  b : Nat
  lp : Option Addr
  ln : Nat
  lc : Nat
  lim : Int
  made : Int
  L : List Slot
  G : List Nat

def RtD.a (x : RtD) : Option Addr := some ⟨x.b, 0, none⟩
def RtD.FT (x : RtD) : List Nat := x.b :: x.G

structure Rt (w : World) (x : RtD) : Prop where
  blk : Blk w x.b #[.slice x.lp x.ln x.lc, .int .i64 x.lim, .int .i64 x.made]
  l : SlAt w 3 x.lp x.ln x.lc (x.L.flatMap slC) x.G
  bG : x.b ∉ x.G
  ll : x.L.length ≤ 2 ^ 20

section
variable {w : World} {x : RtD}

theorem Rt.upd {w' : World} {F : List Nat} (h : Rt w x) (u : Upd F w w') (hd : Dis x.FT F) : Rt w' x :=
  ⟨h.blk.upd u (hd _ (by simp [RtD.FT])), h.l.upd u (fun k hk => hd k (by simp [RtD.FT, hk])), h.bG, h.ll⟩

theorem Rt.keep {w' : World} (h : Rt w x) (u : Upd [] w w') : Rt w' x := h.upd u (by intro k _ h; cases h)

theorem Rt.inn (h : Rt w x) : In x.FT w := fun k hk => by
  rcases List.mem_cons.1 hk with rfl | hk
  · exact h.blk.lt
  · exact h.l.inn k hk

theorem Rt.len (h : Rt w x) : x.ln = x.L.length := by
  have := h.l.1
  rw [flat_len slC_len] at this; omega

theorem Rt.c0 (h : Rt w x) : w.cell? ⟨x.b, 0, none⟩ = some (.slice x.lp x.ln x.lc) := by rw [h.blk.cell]; rfl
theorem Rt.c1 (h : Rt w x) : w.cell? ⟨x.b, 1, none⟩ = some (.int .i64 x.lim) := by rw [h.blk.cell]; rfl
theorem Rt.c2 (h : Rt w x) : w.cell? ⟨x.b, 2, none⟩ = some (.int .i64 x.made) := by rw [h.blk.cell]; rfl

theorem Rt.slot (h : Rt w x) {i : Nat} (hi : i < x.L.length) : ∃ b off, x.lp = some ⟨b, off, none⟩ ∧ w.cell? ⟨b, off + i * 3, none⟩ = some (.string x.L[i].name) ∧ w.cell? ⟨b, off + i * 3 + 1, none⟩ = some (.bool x.L[i].is) ∧ w.cell? ⟨b, off + i * 3 + 2, none⟩ = some (.bool x.L[i].mark) := by
  have hn := h.len
  rcases h.l.2.2 with ⟨_, hc, _⟩ | ⟨b, off, arr, hp, hG, hb, hs, hc⟩
  · have := h.l.2.1; omega
  · refine ⟨b, off, hp, ?_, ?_, ?_⟩
    · rw [hb.cell, hc _ (by omega), ← Nat.add_zero (i * 3), flat_at slC_len hi (by omega)]; rfl
    · rw [hb.cell, Nat.add_assoc, hc _ (by omega), flat_at slC_len hi (by omega)]; rfl
    · rw [hb.cell, Nat.add_assoc, hc _ (by omega), flat_at slC_len hi (by omega)]; rfl

theorem RefRes_ok {K : Option Addr → Nat → Nat → World → Prop} (hK : ∀ w', SlAt w' 1 (some ⟨w.heap.size, 0, none⟩) 15 15 (resL.map .string) [w.heap.size] → Upd [] w w' → K (some ⟨w.heap.size, 0, none⟩) 15 15 w') : C_ref04_Reserved w K := by
  apply C_ref04_Reserved.of
  unfold F_ref04_Reserved
  refine BSlL_rule eS_69 (resL.map .string) (by rfl) (by simp [Value.cells, resL]) (by rfl) (by omega) fun w1 hs u => hK w1 ?_ u
  have e : (resL.map Value.string).flatMap (fun v => v.cells.toList) = resL.map Value.string := by rfl
  rw [e] at hs
  exact hs

theorem RtNew_bad {lim : Int} {K : Option Addr → World → Prop} (h : lim < 15 ∨ 16384 < lim) (hK : ∀ w', Upd [] w w' → K none w') : C_ref04_New lim w K := by
  apply C_ref04_New.of
  unfold F_ref04_New
  refine RefRes_ok fun w1 hs1 u1 => ?_
  by_cases h0 : lim < 15
  · exact ifT (by simp; omega) (hK w1 u1)
  · exact ifF (by simp; omega) (ifT (by simp; omega) (hK w1 u1))

theorem RtNew_ok {lim : Int} {K : Option Addr → World → Prop} (h0 : 15 ≤ lim) (h1 : lim ≤ 16384) (hK : ∀ w' x, Rt w' x → x.lim = lim → x.made = 0 → x.L = initL → Upd [] w w' → Since x.FT w → K x.a w') : C_ref04_New lim w K := by
  apply C_ref04_New.of
  unfold F_ref04_New F_ref04_New_L1
  refine RefRes_ok fun w1 hs1 u1 => ifF (by simp; omega) (ifF (by simp; omega) (New_rule fun b w2 hb u2 hb2 => ?_))
  have hs2 := hs1.upd u2 (by intro k _ h; cases h)
  have hsz1 := u1.size
  have hsz2 := u2.size
  have hin := hs1.inn w.heap.size (by simp)
  have h15 : resL.length = 15 := rfl
  refine ⟨fun s v => 0 ≤ s.i ∧ s.i ≤ 15 ∧ ∃ lp ln lc G, Blk v b #[.slice lp ln lc, .int .i64 lim, .int .i64 0] ∧ SlAt v 3 lp ln lc ((initL.take s.i.toNat).flatMap slC) G ∧ SlAt v 1 (some ⟨w.heap.size, 0, none⟩) 15 15 (resL.map .string) [w.heap.size] ∧ Since G w2 ∧ Upd [b] w2 v, fun s _ => (15 - s.i).toNat,
    ⟨by simp, by simp, none, 0, 0, [], hb2, SlAt.nil _ _, hs2, (by intro k hk; cases hk), Upd.refl _ _⟩, ?_⟩
  rintro ⟨i⟩ v ⟨hi0, hi1, lp, ln, lc, G, hbv, hl, hs, hG, U⟩
  dsimp only at hi0 hi1 hl
  unfold B_ref04_New_L1
  dsimp only
  have hln : ln = i.toNat := by
    have := hl.1
    rw [flat_len slC_len, List.length_take] at this
    have e : initL.length = 15 := rfl
    omega
  have hbl := hb2.lt
  have hbG : b ∉ G := fun hx => by have := hG b hx; omega
  refine ifC (fun hc => ?_) (fun hc => ?_)
  · simp at hc
    obtain ⟨y, hy, hcy⟩ := hs.rd.at (i := i.toNat) (by omega)
    rw [List.getElem?_map, List.getElem?_eq_getElem (show i.toNat < resL.length by omega)] at hcy
    simp only [Option.map_some] at hcy
    rw [Option.some.injEq] at hy
    subst hy
    simp only [addN, Nat.zero_add] at hcy
    have hb0 : ∀ {z}, Blk z b #[.slice lp ln lc, .int .i64 lim, .int .i64 0] → z.cell? ⟨b, 0, none⟩ = some (.slice lp ln lc) := fun h => by rw [h.cell]; rfl
    simp only [NN_some, addN, Nat.zero_add, Nat.mul_one, Nat.add_zero, drw_cell, hcy, exStr, hb0 hbv, exS]
    refine ⟨hi0, hc, BSlL_rule eS_93 [.agg #[.string resL[i.toNat], .bool true, .bool false]] (by rfl) (by simp [Value.cells]) (by rfl) (by omega) fun v1 hs1 uv1 => ?_⟩
    have V1 := (drw_upd v).after uv1
    refine ⟨hb0 (hbv.upd V1 (by simp)), App_rule (hE := eS_93) (hl.upd V1 (by intro k _ h; cases h)) hs1 (by simp [Value.cells, Value.oneCell']) (by omega) fun p' c' G' v2 hs2 uv2 s2 => ?_⟩
    have V2 : Upd G v v2 := V1.after uv2
    have hG' : Since G' w2 := hG.step s2 (Nat.le_trans U.size V1.size)
    have hbG' : b ∉ G' := fun hx => by have := hG' b hx; omega
    refine St_rule (hbv.upd V2 hbG) (by simp) rfl fun v3 uv3 hb3 => ?_
    simp at hb3
    have nb : ∀ F : List Nat, b ∉ F → Dis F [b] := fun F hF k hk hy => by simp at hy; subst hy; exact hF hk
    have hq : Dis [w.heap.size] G := fun k hk hx => by simp at hk; subst hk; have := hG _ hx; omega
    rw [i64id (x := i + 1) (by omega) (by omega)]
    refine ⟨⟨by omega, by omega, p', ln + 1, c', G', hb3, ?_, (hs.upd V2 hq).upd uv3 (fun k hk hx => by simp at hk hx; omega), hG', U.trans (V2.trans uv3 (H := b :: G) (fun k hk => .inl (by simp [hk])) (fun k hk => .inl (by simp at hk; simp [hk]))) (fun k hk => .inl hk) (fun k hk => ?_)⟩, by omega⟩
    · rw [show (i + 1).toNat = i.toNat + 1 by omega]
      have e : initL.length = 15 := rfl
      rw [List.take_succ_eq_append_getElem (by omega), List.flatMap_append]
      have e2 : initL[i.toNat]'(by omega) = ⟨resL[i.toNat], true, false⟩ := by
        have := init_get (i := i.toNat) (by omega)
        rw [List.getElem?_eq_getElem (by omega), List.getElem?_eq_getElem (show i.toNat < resL.length by omega)] at this
        exact Option.some.inj this
      rw [e2]
      have := hs2.upd uv3 (nb _ hbG')
      simpa [Value.cells, slC] using this
    · rcases List.mem_cons.1 hk with rfl | hk
      · left; simp
      · exact .inr (hG k hk)
  · simp at hc
    obtain rfl : i = 15 := by omega
    refine hK v ⟨b, lp, ln, lc, lim, 0, initL, G⟩ ⟨hbv, hl, hbG, (by show initL.length ≤ 2 ^ 20; decide)⟩ rfl rfl rfl ((u1.after u2).fresh U (by intro k hk; simp at hk; omega)) fun k hk => ?_
    have hk : k ∈ b :: G := hk
    rcases List.mem_cons.1 hk with hk | hk
    · omega
    · have := hG k hk; omega

theorem RtIs_ok {id : Int} {K : Bool → World → Prop} (h : Rt w x) (hK : K (isN x.L id) w) : C_ref04_Table_Is x.a id w K := by
  apply C_ref04_Table_Is.of
  unfold F_ref04_Table_Is F_ref04_Table_Is_k1
  have hln := h.len
  unfold isN at hK
  have eN : NN x.a = NN (some ⟨x.b, 0, none⟩) := rfl
  rw [eN]
  refine ifC (fun hc => ?_) (fun hc => ?_)
  · simp at hc
    rw [decide_eq_true hc] at hK
    simp only [NN_some, addN, Nat.zero_add, Nat.add_zero, h.c0, exS]
    refine ifC (fun hc2 => ?_) (fun hc2 => ?_)
    · simp at hc2
      have hil : id.toNat < x.L.length := by omega
      obtain ⟨b, off, hp, q0, q1, q2⟩ := h.slot hil
      simp only [hp, NN_some, addN, q1, exB]
      rw [List.getElem?_eq_getElem hil] at hK
      exact ⟨hc, hc2, hK⟩
    · simp at hc2
      rw [List.getElem?_eq_none (by omega)] at hK
      exact hK
  · simp at hc
    rw [decide_eq_false (by omega)] at hK
    exact hK

theorem RtLen_ok {K : Int → World → Prop} (h : Rt w x) (hK : ∀ w', Upd [] w w' → K (cntIs x.L) w') : C_ref04_Table_Len x.a w K := by
  apply C_ref04_Table_Len.of
  unfold F_ref04_Table_Len F_ref04_Table_Len_L1
  have hln := h.len
  have hll := h.ll
  refine ⟨fun s v => 0 ≤ s.i ∧ s.i ≤ x.L.length ∧ s.n = cntIs (x.L.take s.i.toNat) ∧ Upd [] w v ∧ Rt v x, fun s _ => (x.L.length - s.i).toNat, ⟨by simp, by simp, by simp [cntIs], Upd.refl _ _, h⟩, ?_⟩
  rintro ⟨m, i⟩ v ⟨hi0, hi1, hm, U, h⟩
  dsimp only at hi0 hi1 hm
  unfold B_ref04_Table_Len_L1 F_ref04_Table_Len_k1
  dsimp only
  have eN : NN x.a = NN (some ⟨x.b, 0, none⟩) := rfl
  rw [eN]
  simp only [NN_some, addN, Nat.zero_add, Nat.add_zero, h.c0, exS]
  have hb := cntIs_bnd (x.L.take i.toNat)
  rw [List.length_take] at hb
  refine ifC (fun hc => ?_) (fun hc => ?_)
  · simp at hc
    have hil : i.toNat < x.L.length := by omega
    obtain ⟨b, off, hp, q0, q1, q2⟩ := h.slot hil
    simp only [hp, NN_some, addN, q1, exB]
    have e : cntIs (x.L.take (i + 1).toNat) = m + if x.L[i.toNat].is then 1 else 0 := by
      rw [show (i + 1).toNat = i.toNat + 1 by omega, List.take_succ_eq_append_getElem hil, cntIs_append, hm]
    rw [i64id (x := i + 1) (by omega) (by omega)]
    refine ⟨hi0, hc, ifC (fun hb2 => ?_) (fun hb2 => ?_)⟩
    · rw [hb2] at e
      simp at e
      rw [i64id (x := m + 1) (by omega) (by omega)]
      exact ⟨⟨by omega, by omega, by rw [e], U, h⟩, by omega⟩
    · rw [hb2] at e
      simp at e
      exact ⟨⟨by omega, by omega, by rw [e], U, h⟩, by omega⟩
  · simp at hc
    rw [List.take_of_length_le (by omega)] at hm
    rw [hm]; exact hK v U

theorem RtFind_ok {name : ByteArray} {K : Int → World → Prop} (h : Rt w x) (hK : ∀ w', Upd [] w w' → K (((findN x.L name).map fun i => ((i : Nat) : Int)).getD (-1)) w') : C_ref04_Table_Find x.a name w K := by
  apply C_ref04_Table_Find.of
  unfold F_ref04_Table_Find F_ref04_Table_Find_L1
  have hln := h.len
  have hll := h.ll
  refine ⟨fun s v => 0 ≤ s.i ∧ s.i ≤ x.L.length ∧ (∀ j (hj : j < x.L.length), (j : Int) < s.i → ¬ (x.L[j].is = true ∧ x.L[j].name = name)) ∧ Upd [] w v ∧ Rt v x, fun s _ => (x.L.length - s.i).toNat, ⟨by simp, by simp, fun j hj h => by simp at h; omega, Upd.refl _ _, h⟩, ?_⟩
  rintro ⟨i⟩ v ⟨hi0, hi1, hno, U, h⟩
  dsimp only at hi0 hi1 hno
  unfold B_ref04_Table_Find_L1 F_ref04_Table_Find_k1
  dsimp only
  have eN : NN x.a = NN (some ⟨x.b, 0, none⟩) := rfl
  rw [eN]
  simp only [NN_some, addN, Nat.zero_add, Nat.add_zero, h.c0, exS]
  refine ifC (fun hc => ?_) (fun hc => ?_)
  · simp at hc
    have hil : i.toNat < x.L.length := by omega
    obtain ⟨b, off, hp, q0, q1, q2⟩ := h.slot hil
    simp only [hp, NN_some, addN, Nat.add_zero, q0, q1, exB, exStr, strEq]
    rw [i64id (x := i + 1) (by omega) (by omega)]
    have step : ¬ (x.L[i.toNat].is = true ∧ x.L[i.toNat].name = name) → (0 ≤ i + 1 ∧ i + 1 ≤ x.L.length ∧ (∀ j (hj : j < x.L.length), (j : Int) < i + 1 → ¬ (x.L[j].is = true ∧ x.L[j].name = name)) ∧ Upd [] w v ∧ Rt v x) ∧ (x.L.length - (i + 1)).toNat < (x.L.length - i).toNat := fun hn => by
      refine ⟨⟨by omega, by omega, fun j hj hji => ?_, U, h⟩, by omega⟩
      by_cases hj2 : j = i.toNat
      · subst hj2; exact hn
      · exact hno j hj (by omega)
    refine ⟨hi0, hc, ifC (fun his => ?_) (fun his => step (by rw [his]; simp))⟩
    refine ⟨hi0, hc, ifC (fun hn => ?_) (fun hn => step (fun hx => by simp at hn; exact hn hx.2))⟩
    have hn : x.L[i.toNat].name = name := by simpa using hn
    have hf : findN x.L name = some i.toNat := by
      unfold findN
      rw [List.findIdx?_eq_some_iff_getElem]
      refine ⟨hil, by simp [his, hn], fun j hj => ?_⟩
      have := hno j (by omega) (by omega)
      simp only [Bool.and_eq_true, decide_eq_true_eq]
      exact this
    have hK := hK v U
    rw [hf] at hK
    simp only [Option.map_some, Option.getD_some] at hK
    rw [show ((i.toNat : Nat) : Int) = i by omega] at hK
    exact hK
  · simp at hc
    have hf : findN x.L name = none := by
      unfold findN
      rw [List.findIdx?_eq_none_iff]
      intro s hs
      obtain ⟨j, hj, rfl⟩ := List.getElem_of_mem hs
      have := hno j hj (by omega)
      cases hb : x.L[j].is with
      | false => simp
      | true =>
        have : x.L[j].name ≠ name := fun e => this ⟨hb, e⟩
        simp [this]
    have hK := hK v U
    rw [hf] at hK
    exact hK

theorem RtIntern_ok {name : ByteArray} {K : Int → Int → World → Prop} (h : Rt w x) (hmade : 0 ≤ x.made ∧ x.made < 2 ^ 40) (hlim : x.lim ≤ 16384)
    (hlong : 64 < name.size → K 0 3 w)
    (hfound : name.size ≤ 64 → ∀ i, findN x.L name = some i → ∀ w', Upd [] w w' → K i 0 w')
    (hfree : name.size ≤ 64 → findN x.L name = none → ∀ i, freeN x.L = some i → ∀ w', Rt w' { x with L := x.L.set i ⟨name, true, false⟩, made := x.made + 1 } → Upd x.FT w w' → K i 0 w')
    (hfull : name.size ≤ 64 → findN x.L name = none → freeN x.L = none → x.lim ≤ x.L.length → ∀ w', Upd [] w w' → K 0 2 w')
    (hgrow : name.size ≤ 64 → findN x.L name = none → freeN x.L = none → x.L.length < x.lim → ∀ w' x', Rt w' x' → x'.a = x.a → x'.L = x.L ++ [⟨name, true, false⟩] → x'.made = x.made + 1 → x'.lim = x.lim → Upd x.FT w w' → Sub x'.FT x.FT w → K x.L.length 0 w') : C_ref04_Table_Intern x.a name w K := by
  apply C_ref04_Table_Intern.of
  unfold F_ref04_Table_Intern F_ref04_Table_Intern_L1
  have hln := h.len
  have hll := h.ll
  refine ifC (fun hc => hlong (by simp at hc; omega)) (fun hc => ?_)
  have hsz : name.size ≤ 64 := by simp at hc; omega
  refine RtFind_ok h fun w0 u0 => ?_
  have h0 := h
  have h := h.keep u0
  have eN : NN x.a = NN (some ⟨x.b, 0, none⟩) := rfl
  have nb : ∀ F : List Nat, x.b ∉ F → Dis F [x.b] := fun F hF k hk hy => by simp at hy; subst hy; exact hF hk
  rcases hf : findN x.L name with _ | i
  · refine ifF (by simp) ?_
    refine ⟨fun s v => 0 ≤ s.i ∧ s.i ≤ x.L.length ∧ (∀ j (hj : j < x.L.length), (j : Int) < s.i → x.L[j].is = true) ∧ Upd [] w v ∧ Rt v x, fun s _ => (x.L.length - s.i).toNat, ⟨by simp, by simp, fun j hj h => by simp at h; omega, u0, h⟩, ?_⟩
    rintro ⟨i⟩ v ⟨hi0, hi1, hno, U, h⟩
    dsimp only at hi0 hi1 hno
    unfold B_ref04_Table_Intern_L1
    dsimp only
    rw [eN]
    simp only [NN_some, addN, Nat.zero_add, Nat.add_zero, h.c0, exS]
    refine ifC (fun hc => ?_) (fun hc => ?_)
    · simp at hc
      have hil : i.toNat < x.L.length := by omega
      obtain ⟨b, off, hp, q0, q1, q2⟩ := h.slot hil
      have ep : ∀ Q, NN x.lp Q = NN (some ⟨b, off, none⟩) Q := fun Q => by rw [hp]
      simp only [ep, NN_some, addN, Nat.add_zero, q1, exB]
      refine ⟨hi0, hc, ifC (fun his => ?_) (fun his => ?_)⟩
      · have his : x.L[i.toNat].is = false := by simpa using his
        have hfr : freeN x.L = some i.toNat := by
          unfold freeN
          rw [List.findIdx?_eq_some_iff_getElem]
          exact ⟨hil, by simp [his], fun j hj => by have := hno j (by omega) (by omega); simp [this]⟩
        refine ⟨hi0, hc, setSlot3 (y := ⟨name, true, false⟩) h.l hil hp fun w1 hl1 u1 => ?_⟩
        have hb1 := h.blk.upd u1 h.bG
        have hc2 : w1.cell? ⟨x.b, 2, none⟩ = some (.int .i64 x.made) := by rw [hb1.cell]; rfl
        simp only [hc2, exI]
        rw [i64id (x := x.made + 1) (by omega) (by omega)]
        refine St_rule hb1 (by simp) rfl fun w2 u2 hb2 => ?_
        simp at hb2
        have := hfree hsz hf i.toNat hfr w2 ⟨hb2, hl1.upd u2 (nb _ h.bG), h.bG, by simpa using hll⟩ (U.after ((u1.mono fun k hk => .inl (by simp [RtD.FT, hk])).both (u2.mono fun k hk => .inl (by simp at hk; simp [RtD.FT, hk]))))
        rw [show ((i.toNat : Nat) : Int) = i by omega] at this
        exact this
      · have his : x.L[i.toNat].is = true := by simpa using his
        rw [i64id (x := i + 1) (by omega) (by omega)]
        refine ⟨⟨by omega, by omega, fun j hj hji => ?_, U, h⟩, by omega⟩
        by_cases hj2 : j = i.toNat
        · subst hj2; exact his
        · exact hno j hj (by omega)
    · simp at hc
      have hfr : freeN x.L = none := by
        unfold freeN
        rw [List.findIdx?_eq_none_iff]
        intro s hs
        obtain ⟨j, hj, rfl⟩ := List.getElem_of_mem hs
        simp [hno j hj (by omega)]
      have hd := h.keep (drw_upd v)
      simp only [hd.c0, hd.c1, exS, exI]
      refine ifC (fun hc3 => hfull hsz hf hfr (by simp at hc3; omega) _ (U.after (drw_upd v))) (fun hc3 => ?_)
      have hlt : (x.L.length : Int) < x.lim := by simp at hc3; omega
      refine BSlL_rule eS_93 [.agg #[.string name, .bool true, .bool false]] (by rfl) (by simp [Value.cells]) (by rfl) (by omega) fun w1 hs1 u1 => ?_
      have V1 := (drw_upd v).after u1
      refine App_rule (hE := eS_93) (h.l.upd V1 (by intro k _ h; cases h)) hs1 (by simp [Value.cells, Value.oneCell']) (by omega) fun p' c' G' w2 hs2 u2 s2 => ?_
      have V2 : Upd x.G v w2 := V1.after u2
      have hG' : ∀ y ∈ G', y ∈ x.G ∨ v.heap.size ≤ y := fun y hy => by
        rcases s2 y hy with e | e
        · exact .inl e
        · have := V1.size; right; omega
      have hbG' : x.b ∉ G' := fun hx => by
        rcases hG' _ hx with e | e
        · exact h.bG e
        · have := h.blk.lt; omega
      refine St_rule (h.blk.upd V2 h.bG) (by simp) rfl fun w3 u3 hb3 => ?_
      simp at hb3
      have hc2 : w3.cell? ⟨x.b, 2, none⟩ = some (.int .i64 x.made) := by rw [hb3.cell]; rfl
      simp only [hc2, exI]
      rw [i64id (x := x.made + 1) (by omega) (by omega)]
      refine St_rule hb3 (by simp) rfl fun w4 u4 hb4 => ?_
      simp at hb4
      have hc0 : w4.cell? ⟨x.b, 0, none⟩ = some (.slice p' (x.ln + 1) c') := by rw [hb4.cell]; rfl
      simp only [hc0, exS]
      rw [i64id (by omega) (by omega), show ((x.ln + 1 : Nat) : Int) - 1 = x.L.length by omega]
      have hl4 : SlAt w4 3 p' (x.ln + 1) c' ((x.L ++ [(⟨name, true, false⟩ : Slot)]).flatMap slC) G' := by
        rw [List.flatMap_append]
        have := (hs2.upd u3 (nb _ hbG')).upd u4 (nb _ hbG')
        simpa [Value.cells, slC] using this
      refine hgrow hsz hf hfr hlt w4 { x with lp := p', ln := x.ln + 1, lc := c', L := x.L ++ [⟨name, true, false⟩], made := x.made + 1, G := G' } ⟨hb4, hl4, hbG', by simp; omega⟩ rfl rfl rfl rfl (U.after (((V2.mono fun k hk => .inl (by simp [RtD.FT, hk])).both (u3.mono fun k hk => .inl (by simp at hk; simp [RtD.FT, hk]))).both (u4.mono fun k hk => .inl (by simp at hk; simp [RtD.FT, hk])))) fun k hk => ?_
      simp only [RtD.FT] at hk ⊢
      rcases List.mem_cons.1 hk with rfl | hk
      · left; simp
      · exact (hG' k hk).imp (fun e => by simp [e]) (fun e => by have := U.size; omega)
  · exact ifT (by simp) (hfound hsz i hf w0 u0)

theorem RtSweep_ok {K : Int → World → Prop} (h : Rt w x) (hK : ∀ w', Rt w' { x with L := swL x.L x.L.length } → Upd x.FT w w' → K (swC x.L x.L.length) w') : C_ref04_Table_Sweep x.a w K := by
  apply C_ref04_Table_Sweep.of
  unfold F_ref04_Table_Sweep F_ref04_Table_Sweep_L1
  have hln := h.len
  have hll := h.ll
  have hbd := swC_bnd x.L
  have eN : NN x.a = NN (some ⟨x.b, 0, none⟩) := rfl
  refine ⟨fun s v => 0 ≤ s.i ∧ s.i ≤ x.L.length ∧ s.n = swC x.L s.i.toNat ∧ Rt v { x with L := swL x.L s.i.toNat } ∧ Upd x.FT w v, fun s _ => (x.L.length - s.i).toNat, ⟨by simp, by simp, by simp [swC], h, Upd.refl _ _⟩, ?_⟩
  rintro ⟨m, i⟩ v ⟨hi0, hi1, hm, hv, U⟩
  dsimp only at hi0 hi1 hm hv
  unfold B_ref04_Table_Sweep_L1 F_ref04_Table_Sweep_k1 F_ref04_Table_Sweep_k2
  dsimp only
  have c0 : ∀ {z L'}, Rt z { x with L := L' } → z.cell? ⟨x.b, 0, none⟩ = some (.slice x.lp x.ln x.lc) := fun h => h.c0
  rw [eN]
  simp only [NN_some, addN, Nat.zero_add, Nat.add_zero, c0 hv, exS]
  refine ifC (fun hc => ?_) (fun hc => ?_)
  · simp at hc
    have hil : i.toNat < x.L.length := by omega
    have hil2 : i.toNat < (swL x.L i.toNat).length := by rw [swL_len]; exact hil
    obtain ⟨b, off, hp, q0, q1, q2⟩ := hv.slot (i := i.toNat) hil2
    have hget : (swL x.L i.toNat)[i.toNat]'hil2 = x.L[i.toNat] := by
      have := swL_get x.L i.toNat i.toNat
      rw [if_neg (by omega), List.getElem?_eq_getElem hil2, List.getElem?_eq_getElem hil] at this
      exact Option.some.inj this
    have q1 : v.cell? ⟨b, off + i.toNat * 3 + 1, none⟩ = some (.bool ((swL x.L i.toNat)[i.toNat]'hil2).is) := q1
    have q2 : v.cell? ⟨b, off + i.toNat * 3 + 2, none⟩ = some (.bool ((swL x.L i.toNat)[i.toNat]'hil2).mark) := q2
    rw [hget] at q1 q2
    have hp : x.lp = some ⟨b, off, none⟩ := hp
    have ep : ∀ Q, NN x.lp Q = NN (some ⟨b, off, none⟩) Q := fun Q => by rw [hp]
    simp only [ep, NN_some, addN, Nat.add_zero, q1, q2, exB]
    have estep : swL x.L (i + 1).toNat = (swL x.L i.toNat).set i.toNat (swS i.toNat x.L[i.toNat]) := by
      rw [show (i + 1).toNat = i.toNat + 1 by omega]
      simp only [swL]
      rw [List.getElem?_eq_getElem hil2, hget]
    have ecnt : swC x.L (i + 1).toNat = m + if goneS i.toNat x.L[i.toNat] then 1 else 0 := by
      rw [show (i + 1).toNat = i.toNat + 1 by omega, hm]
      simp only [swC]
      rw [List.getElem?_eq_getElem hil]
    have hbi := hbd i.toNat
    rw [i64id (x := i + 1) (by omega) (by omega)]
    have fin : ∀ {v' : World} {L' : List Slot} {m' : Int}, Rt v' { x with L := L' } → (hl : i.toNat < L'.length) → L'.set i.toNat ⟨L'[i.toNat].name, L'[i.toNat].is, false⟩ = swL x.L (i + 1).toNat → Upd x.FT w v' → m' = swC x.L (i + 1).toNat →
        ∃ LP_4 : Option Addr, ∃ LN_4 : Nat, ∃ LC_4 : Nat, v'.cell? ⟨x.b, 0, none⟩ = some (.slice LP_4 LN_4 LC_4) ∧ 0 ≤ i ∧ i < (LN_4 : Int) ∧ NN LP_4 fun a_8 => St v' (((a_8.add (i.toNat * 3)).add 2).add 0) (.bool false) fun w1_6 =>
          (0 ≤ i + 1 ∧ i + 1 ≤ x.L.length ∧ m' = swC x.L (i + 1).toNat ∧ Rt w1_6 { x with L := swL x.L (i + 1).toNat } ∧ Upd x.FT w w1_6) ∧ (x.L.length - (i + 1)).toNat < (x.L.length - i).toNat := by
      intro v' L' m' hr hl e1 u1 e2
      refine ⟨_, _, _, c0 hr, hi0, hc, ?_⟩
      rw [ep]
      simp only [NN_some, addN, Nat.add_zero]
      refine setSlot (j := 2) (y := ⟨L'[i.toNat].name, L'[i.toNat].is, false⟩) hr.l hl hp (by omega) rfl (by simp [slC]) fun v2 hl2 u2 => ?_
      rw [e1] at hl2
      have u2 : Upd x.G v' v2 := u2
      refine ⟨⟨by omega, by omega, e2, ⟨hr.blk.upd u2 h.bG, hl2, h.bG, by show (swL x.L _).length ≤ _; rw [swL_len]; exact hll⟩, u1.both (u2.mono fun k hk => .inl (by simp [RtD.FT, hk]))⟩, by omega⟩
    refine ⟨hi0, hc, ifC (fun his => ?_) (fun his => ?_)⟩
    · refine ⟨hi0, hc, ifC (fun hmk => ?_) (fun hmk => ?_)⟩
      · refine RefRes_ok fun v1 hs1 uv1 => ?_
        have hv1 := hv.keep uv1
        refine ifC (fun h15 => ?_) (fun h15 => ?_)
        · have h15 : 15 ≤ i := by simpa using h15
          have hgone : goneS i.toNat x.L[i.toNat] = true := by
            unfold goneS
            have hmk : x.L[i.toNat].mark = false := by simpa using hmk
            rw [his, hmk, decide_eq_true (show 15 ≤ i.toNat by omega)]; rfl
          simp only [c0 hv1, exS, ep, NN_some, addN, Nat.add_zero]
          refine ⟨hi0, hc, setSlot3 (y := ⟨⟨#[]⟩, false, false⟩) hv1.l hil2 hp fun v2 hl2 u2 => ?_⟩
          have u2 : Upd x.G v1 v2 := u2
          have hr2 : Rt v2 { x with L := (swL x.L i.toNat).set i.toNat ⟨⟨#[]⟩, false, false⟩ } := ⟨hv1.blk.upd u2 h.bG, hl2, h.bG, by simp [swL_len]; exact hll⟩
          rw [i64id (x := m + 1) (by omega) (by omega)]
          have := fin hr2 (by simpa using hil2) (by
            rw [estep]
            simp only [List.getElem_set_self, List.set_set]
            congr 1
            unfold swS
            rw [hgone]; rfl) ((U.before uv1).both (u2.mono fun k hk => .inl (by simp [RtD.FT, hk]))) (m' := m + 1) (by rw [ecnt, hgone]; rfl)
          simpa only [ep, NN_some, addN, Nat.add_zero] using this
        · have h15 : ¬ 15 ≤ i := by simpa using h15
          have hgone : goneS i.toNat x.L[i.toNat] = false := by
            unfold goneS
            rw [decide_eq_false (show ¬ 15 ≤ i.toNat by omega)]; simp
          have := fin hv1 hil2 (by
            rw [estep, hget]
            unfold swS
            rw [hgone]; rfl) (U.before uv1) (m' := m) (by rw [ecnt, hgone]; simp)
          simpa only [ep, NN_some, addN, Nat.add_zero] using this
      · have hmk : x.L[i.toNat].mark = true := by simpa using hmk
        have hgone : goneS i.toNat x.L[i.toNat] = false := by unfold goneS; rw [hmk]; simp
        have := fin hv hil2 (by
            rw [estep, hget]
            unfold swS
            rw [hgone]; rfl) U (m' := m) (by rw [ecnt, hgone]; simp)
        simpa only [c0 hv, exS, ep, NN_some, addN, Nat.add_zero] using this
    · have hgone : goneS i.toNat x.L[i.toNat] = false := by unfold goneS; rw [his]; simp
      have := fin hv hil2 (by
            rw [estep, hget]
            unfold swS
            rw [hgone]; rfl) U (m' := m) (by rw [ecnt, hgone]; simp)
      simpa only [c0 hv, exS, ep, NN_some, addN, Nat.add_zero] using this
  · simp at hc
    have hi : i.toNat = x.L.length := by omega
    rw [hi] at hm hv
    rw [hm]
    exact hK v hv U

end

end Go.Proofs.Ytlngmelfjiemlaa
