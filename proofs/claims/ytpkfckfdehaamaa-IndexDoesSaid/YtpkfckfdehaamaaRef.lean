/- The document's table. -/
import Derived.Test.YtpkfckfdehaamaaTells
namespace Go.Proofs.Ytpkfckfdehaamaa
open Go Go.D Go.Proofs
set_option linter.unusedSimpArgs false
set_option linter.unusedVariables false
set_option maxRecDepth 8000

abbrev Re := Int × Key

def rC (x : Re) : List Value := [.int .i64 x.1, .int .i64 x.2.1, .string x.2.2.1, .int .i64 x.2.2.2]
theorem rC_len (x : Re) : (rC x).length = 4 := rfl

theorem rC_one {R : List Re} : ∀ v ∈ R.flatMap rC, v.oneCell' = true := by
  intro v hv
  obtain ⟨e, _, h⟩ := List.mem_flatMap.1 hv
  simp [rC] at h
  rcases h with rfl | rfl | rfl | rfl <;> rfl

/-- The document's table in memory. -/
structure RtAt (w : World) (q : Nat) (p : Option Addr) (n c : Nat) (R : List Re) (G : List Nat) : Prop where
  blk : Blk w q #[.slice p n c]
  row : SlAt w 4 p n c (R.flatMap rC) G
  qG : q ∉ G

theorem RtAt.upd {w w' : World} {q : Nat} {p : Option Addr} {n c : Nat} {R : List Re} {G X : List Nat} (h : RtAt w q p n c R G) (u : Upd X w w') (hd : Dis (q :: G) X) : RtAt w' q p n c R G :=
  ⟨h.blk.upd u (hd _ (by simp)), h.row.upd u (fun k hk => hd k (by simp [hk])), h.qG⟩

theorem RtAt.keep {w w' : World} {q : Nat} {p : Option Addr} {n c : Nat} {R : List Re} {G : List Nat} (h : RtAt w q p n c R G) (u : Upd [] w w') : RtAt w' q p n c R G := h.upd u (by intro k _ h; cases h)

theorem RtAt.len {w : World} {q : Nat} {p : Option Addr} {n c : Nat} {R : List Re} {G : List Nat} (h : RtAt w q p n c R G) : n = R.length := by
  have := h.row.1
  rw [flat_len rC_len] at this; omega

theorem RtAt.get {w : World} {q : Nat} {p : Option Addr} {n c : Nat} {R : List Re} {G : List Nat} (h : RtAt w q p n c R G) {i : Nat} (hi : i < R.length) :
    ∃ b off, p = some ⟨b, off, none⟩ ∧ ∀ j, j < 4 → w.cell? ⟨b, off + i * 4 + j, none⟩ = (rC R[i])[j]? := by
  have hn := h.len
  rcases h.row.2.2 with ⟨_, hc, _⟩ | ⟨b, off, arr, hp, _, hb, hs, hc⟩
  · have := h.row.2.1; omega
  · exact ⟨b, off, hp, fun j hj => by rw [hb.cell, Nat.add_assoc, hc _ (by omega), flat_at rC_len hi hj]⟩

theorem RtAt.inn {w : World} {q : Nat} {p : Option Addr} {n c : Nat} {R : List Re} {G : List Nat} (h : RtAt w q p n c R G) : In (q :: G) w := by
  intro k hk
  rcases List.mem_cons.1 hk with rfl | hk
  · exact h.blk.lt
  · exact h.row.inn k hk

section
variable {w : World} {q : Nat} {p : Option Addr} {n c : Nat} {R : List Re} {G : List Nat}

/-- Where an entry stands. -/
def atR (R : List Re) (id : Int) : Option Nat := R.findIdx? fun x => decide (x.1 = id)

theorem at_ok {id : Int} {K : Int → World → Prop} (h : RtAt w q p n c R G) (hl : R.length < 2 ^ 40) (hK : K (match atR R id with | some i => (i : Int) | none => -1) w) : C_ref18_Table_at (some ⟨q, 0, none⟩) id w K := by
  apply C_ref18_Table_at.of
  unfold F_ref18_Table_at F_ref18_Table_at_L1
  have hn := h.len
  refine ⟨fun s v => v = w ∧ 0 ≤ s.i ∧ s.i ≤ n ∧ ∀ j (hj : j < R.length), (j : Int) < s.i → R[j].1 ≠ id, fun s _ => (n - s.i).toNat, ⟨rfl, by simp, by simp, fun j hj h => by simp at h; omega⟩, ?_⟩
  rintro ⟨i⟩ v ⟨rfl, hi0, hi1, hno⟩
  dsimp only at hi0 hi1 hno
  unfold B_ref18_Table_at_L1
  simp only [NN_some, addN, drw_cell, drw_heap, exS, exI, exB, exP, exM, exStr, exV, a0, a1, a2, a3, a4, a5, a6, a7, a8, a9, a10, a11, a12, a13, maxI_eq, Nat.zero_add, Nat.add_zero, Nat.mul_one, Option.isNone_some, Option.isNone_none, h.blk.cell]
  refine ifC (fun hc => ?_) (fun hc => ?_)
  · simp at hc
    obtain ⟨b, off, hp, hcell⟩ := h.get (i := i.toNat) (by omega)
    have c0 := hcell 0 (by omega)
    simp only [rC, List.getElem?_cons_zero, Nat.add_zero] at c0
    simp only [NN_some, addN, drw_cell, drw_heap, exS, exI, exB, exP, exM, exStr, exV, a0, a1, a2, a3, a4, a5, a6, a7, a8, a9, a10, a11, a12, a13, maxI_eq, Nat.zero_add, Nat.add_zero, Nat.mul_one, Option.isNone_some, Option.isNone_none, hp, c0]
    refine ⟨hi0, hc, ifC (fun hc2 => ?_) (fun hc2 => ?_)⟩
    · simp at hc2
      have : atR R id = some i.toNat := by
        unfold atR
        rw [List.findIdx?_eq_some_iff_getElem]
        exact ⟨by omega, by simp [hc2], fun j hj => by have := hno j (by omega) (by omega); simp [this]⟩
      rw [this] at hK
      have e : ((i.toNat : Nat) : Int) = i := by omega
      rw [← e]; exact hK
    · simp at hc2
      rw [i64id (by omega) (by omega)]
      refine ⟨⟨trivial, by omega, by omega, fun j hj hji => ?_⟩, by omega⟩
      by_cases hj2 : j = i.toNat
      · subst hj2; exact hc2
      · exact hno j hj (by omega)
  · simp at hc
    have : atR R id = none := by
      unfold atR
      rw [List.findIdx?_eq_none_iff]
      intro x hx
      obtain ⟨j, hj, rfl⟩ := List.getElem_of_mem hx
      have := hno j hj (by omega)
      simp [this]
    rw [this] at hK; exact hK

theorem from_ok {i : Int} {k : Key} {K : Int → Bool → World → Prop} (h : RtAt w q p n c R G) (hl : R.length < 2 ^ 40) (h0 : 0 ≤ i) (h1 : i ≤ R.length)
    (hK : ∀ w', Upd [] w w' → K ((((R.drop i.toNat).find? fun x => meets x.2 k).map (·.1)).getD 0) ((R.drop i.toNat).find? fun x => meets x.2 k).isSome w') : C_ref18_Table_from (some ⟨q, 0, none⟩) i k.1 k.2.1 k.2.2 w K := by
  apply C_ref18_Table_from.of
  unfold F_ref18_Table_from F_ref18_Table_from_L1
  have hn := h.len
  refine New_rule fun r w1 hr u1 hb1 => ?_
  refine ⟨fun s v => i ≤ s.i_1 ∧ s.i_1 ≤ n ∧ (R.drop i.toNat).find? (fun x => meets x.2 k) = (R.drop s.i_1.toNat).find? (fun x => meets x.2 k) ∧ Upd [] w1 v, fun s _ => (n - s.i_1).toNat, ⟨by simp, by simp; omega, rfl, Upd.refl _ _⟩, ?_⟩
  rintro ⟨m⟩ v ⟨hm0, hm1, he, u⟩
  dsimp only at hm0 hm1 he
  unfold B_ref18_Table_from_L1
  have hv := (h.keep u1).keep u
  have hbv := hb1.upd u (by simp)
  simp only [NN_some, addN, drw_cell, drw_heap, exS, exI, exB, exP, exM, exStr, exV, a0, a1, a2, a3, a4, a5, a6, a7, a8, a9, a10, a11, a12, a13, maxI_eq, Nat.zero_add, Nat.add_zero, Nat.mul_one, Option.isNone_some, Option.isNone_none, hv.blk.cell, hbv.cell]
  have U := u1.after u
  refine ifC (fun hc => ?_) (fun hc => ?_)
  · simp at hc
    have hml : m.toNat < R.length := by omega
    obtain ⟨b, off, hp, hcell⟩ := hv.get hml
    have c0 := hcell 0 (by omega)
    have c1 := hcell 1 (by omega)
    have c2 := hcell 2 (by omega)
    have c3 := hcell 3 (by omega)
    simp only [rC, List.getElem?_cons_zero, List.getElem?_cons_succ, Nat.add_zero] at c0 c1 c2 c3
    have hdrop : R.drop m.toNat = R[m.toNat] :: R.drop (m.toNat + 1) := List.drop_eq_getElem_cons hml
    simp only [NN_some, addN, drw_cell, drw_heap, exS, exI, exB, exP, exM, exStr, exV, a0, a1, a2, a3, a4, a5, a6, a7, a8, a9, a10, a11, a12, a13, maxI_eq, Nat.zero_add, Nat.add_zero, Nat.mul_one, Option.isNone_some, Option.isNone_none, Nat.add_assoc, Nat.reduceAdd, hp]
    rw [Nat.add_assoc] at c1 c2 c3
    simp only [NN_some, addN, drw_cell, drw_heap, exS, exI, exB, exP, exM, exStr, exV, a0, a1, a2, a3, a4, a5, a6, a7, a8, a9, a10, a11, a12, a13, maxI_eq, Nat.zero_add, Nat.add_zero, Nat.mul_one, Option.isNone_some, Option.isNone_none, c1, c2, c3]
    refine ⟨by omega, hc, RMeet_ok (k := R[m.toNat].2) (k' := k) fun w2 u2 => ifC (fun hc2 => ?_) (fun hc2 => ?_)⟩
    · have h2 := (hv.keep (drw_upd v)).keep u2
      obtain ⟨b', off', hp', hcell'⟩ := h2.get hml
      have hbb : b' = b ∧ off' = off := by rw [hp] at hp'; simp at hp'; exact ⟨hp'.1.symm, hp'.2.symm⟩
      obtain ⟨rfl, rfl⟩ := hbb
      have d0 := hcell' 0 (by omega)
      simp only [rC, List.getElem?_cons_zero, Nat.add_zero] at d0
      simp only [NN_some, addN, drw_cell, drw_heap, exS, exI, exB, exP, exM, exStr, exV, a0, a1, a2, a3, a4, a5, a6, a7, a8, a9, a10, a11, a12, a13, maxI_eq, Nat.zero_add, Nat.add_zero, Nat.mul_one, Option.isNone_some, Option.isNone_none, h2.blk.cell, hp, d0]
      refine ⟨by omega, hc, ?_⟩
      have := hK w2 ((U.after (drw_upd v)).after u2)
      rw [he, hdrop, List.find?_cons, hc2] at this
      exact this
    · rw [i64id (by omega) (by omega)]
      refine ⟨⟨by omega, by omega, ?_, (u.after (drw_upd v)).after u2⟩, by omega⟩
      rw [he, hdrop, List.find?_cons, hc2, show (m + 1).toNat = m.toNat + 1 by omega]
  · simp at hc
    have := hK v U
    rw [he, List.drop_of_length_le (by omega)] at this
    exact this

theorem RHead_ok {k : Key} {K : Int → Bool → World → Prop} (h : RtAt w q p n c R G) (hl : R.length < 2 ^ 40)
    (hK : ∀ w', Upd [] w w' → K (((R.find? fun x => meets x.2 k).map (·.1)).getD 0) (R.find? fun x => meets x.2 k).isSome w') : C_ref18_Table_Head (some ⟨q, 0, none⟩) k.1 k.2.1 k.2.2 w K := by
  apply C_ref18_Table_Head.of
  unfold F_ref18_Table_Head
  refine New_rule fun r w1 hr u1 hb1 => ?_
  simp only [NN_some, addN, drw_cell, drw_heap, exS, exI, exB, exP, exM, exStr, exV, a0, a1, a2, a3, a4, a5, a6, a7, a8, a9, a10, a11, a12, a13, maxI_eq, Nat.zero_add, Nat.add_zero, Nat.mul_one, Option.isNone_some, Option.isNone_none, hb1.cell]
  exact from_ok (h.keep u1) hl (by omega) (by omega) fun w2 u2 => by simpa using hK w2 (u1.after u2)

theorem RNext_ok {id : Int} {k : Key} {K : Int → Bool → World → Prop} (h : RtAt w q p n c R G) (hl : R.length < 2 ^ 40)
    (hK : ∀ w', Upd [] w w' → K ((((atR R id).bind fun i => (R.drop (i + 1)).find? fun x => meets x.2 k).map (·.1)).getD 0) ((atR R id).bind fun i => (R.drop (i + 1)).find? fun x => meets x.2 k).isSome w') : C_ref18_Table_Next (some ⟨q, 0, none⟩) id k.1 k.2.1 k.2.2 w K := by
  apply C_ref18_Table_Next.of
  unfold F_ref18_Table_Next
  refine New_rule fun r w1 hr u1 hb1 => at_ok (h.keep u1) hl ?_
  rcases ha : atR R id with _ | i
  · rw [ha] at hK
    exact ifT rfl (hK w1 u1)
  · rw [ha] at hK
    have hil : i < R.length := by
      unfold atR at ha
      rw [List.findIdx?_eq_some_iff_getElem] at ha
      exact ha.1
    refine ifF (by first | (simp; done) | (simp; omega)) ?_
    simp only [NN_some, addN, drw_cell, drw_heap, exS, exI, exB, exP, exM, exStr, exV, a0, a1, a2, a3, a4, a5, a6, a7, a8, a9, a10, a11, a12, a13, maxI_eq, Nat.zero_add, Nat.add_zero, Nat.mul_one, Option.isNone_some, Option.isNone_none, hb1.cell]
    rw [i64id (by omega) (by omega)]
    refine from_ok (h.keep u1) hl (by omega) (by omega) fun w2 u2 => ?_
    have := hK w2 (u1.after u2)
    rw [show ((i : Int) + 1).toNat = i + 1 by omega]
    exact this

theorem RAll_ok {k : Key} {K : Option Addr → Nat → Nat → World → Prop} (h : RtAt w q p n c R G) (hl : R.length ≤ 2 ^ 20)
    (hK : ∀ p n c F w', SlAt w' 1 p n c (((R.filter fun x => meets x.2 k).map (·.1)).map (.int .i64)) F → Upd [] w w' → Since F w → K p n c w') : C_ref18_Table_All (some ⟨q, 0, none⟩) k.1 k.2.1 k.2.2 w K := by
  apply C_ref18_Table_All.of
  unfold F_ref18_Table_All F_ref18_Table_All_L1
  have hn := h.len
  refine New_rule fun r w1 hr u1 hb1 => ?_
  refine ⟨fun s v => 0 ≤ s.i ∧ s.i ≤ n ∧ ∃ F, SlAt v 1 s.outP s.outN s.outC ((((R.take s.i.toNat).filter fun x => meets x.2 k).map (·.1)).map (.int .i64)) F ∧ Upd [] w1 v ∧ Since F w1, fun s _ => (n - s.i).toNat, ⟨by simp, by simp, [], by simpa using SlAt.nil w1 1, Upd.refl _ _, by intro k hk; cases hk⟩, ?_⟩
  rintro ⟨op, on, oc, m⟩ v ⟨hm0, hm1, F, hs, u, hF⟩
  dsimp only at hm0 hm1 hs
  unfold B_ref18_Table_All_L1 F_ref18_Table_All_k1
  have hv := (h.keep u1).keep u
  have hbv := hb1.upd u (by simp)
  simp only [NN_some, addN, drw_cell, drw_heap, exS, exI, exB, exP, exM, exStr, exV, a0, a1, a2, a3, a4, a5, a6, a7, a8, a9, a10, a11, a12, a13, maxI_eq, Nat.zero_add, Nat.add_zero, Nat.mul_one, Option.isNone_some, Option.isNone_none, hv.blk.cell, hbv.cell]
  have hon : on ≤ R.length := by
    have h1 := hs.1
    simp at h1
    have h2 : ((R.take m.toNat).filter fun x => meets x.2 k).length ≤ (R.take m.toNat).length := List.length_filter_le _ _
    rw [List.length_take] at h2
    omega
  refine ifC (fun hc => ?_) (fun hc => ?_)
  · simp at hc
    have hml : m.toNat < R.length := by omega
    obtain ⟨b, off, hp, hcell⟩ := hv.get hml
    have c1 := hcell 1 (by omega)
    have c2 := hcell 2 (by omega)
    have c3 := hcell 3 (by omega)
    simp only [rC, List.getElem?_cons_zero, List.getElem?_cons_succ, Nat.add_zero] at c1 c2 c3
    simp only [NN_some, addN, drw_cell, drw_heap, exS, exI, exB, exP, exM, exStr, exV, a0, a1, a2, a3, a4, a5, a6, a7, a8, a9, a10, a11, a12, a13, maxI_eq, Nat.zero_add, Nat.add_zero, Nat.mul_one, Option.isNone_some, Option.isNone_none, Nat.add_assoc, Nat.reduceAdd, hp]
    rw [Nat.add_assoc] at c1 c2 c3
    simp only [NN_some, addN, drw_cell, drw_heap, exS, exI, exB, exP, exM, exStr, exV, a0, a1, a2, a3, a4, a5, a6, a7, a8, a9, a10, a11, a12, a13, maxI_eq, Nat.zero_add, Nat.add_zero, Nat.mul_one, Option.isNone_some, Option.isNone_none, c1, c2, c3]
    have htake : R.take (m.toNat + 1) = R.take m.toNat ++ [R[m.toNat]] := List.take_succ_eq_append_getElem hml
    refine ⟨hm0, hc, RMeet_ok (k := R[m.toNat].2) (k' := k) fun w2 u2 => ifC (fun hc2 => ?_) (fun hc2 => ?_)⟩
    · have V2 := (drw_upd v).after u2
      have h2 := hv.keep V2
      obtain ⟨b', off', hp', hcell'⟩ := h2.get hml
      have hbb : b' = b ∧ off' = off := by rw [hp] at hp'; simp at hp'; exact ⟨hp'.1.symm, hp'.2.symm⟩
      obtain ⟨rfl, rfl⟩ := hbb
      have d0 := hcell' 0 (by omega)
      simp only [rC, List.getElem?_cons_zero, Nat.add_zero] at d0
      simp only [NN_some, addN, drw_cell, drw_heap, exS, exI, exB, exP, exM, exStr, exV, a0, a1, a2, a3, a4, a5, a6, a7, a8, a9, a10, a11, a12, a13, maxI_eq, Nat.zero_add, Nat.add_zero, Nat.mul_one, Option.isNone_some, Option.isNone_none, h2.blk.cell, hp, d0]
      refine ⟨hm0, hc, BSlL_rule eS_43 [.int .i64 R[m.toNat].1] (by rfl) (by simp [Value.cells]) (by rfl) (by omega) fun w3 hs3 u3 => ?_⟩
      have V3 := V2.after u3
      refine App_rule (hE := eS_43) (hs.upd V3 (by intro k _ h; cases h)) hs3 (by simp [Value.cells, Value.oneCell']) (by omega) fun p' c' F' w4 hs4 u4 s4 => ?_
      rw [i64id (by omega) (by omega)]
      refine ⟨⟨by omega, by omega, F', ?_, (u.after V3).fresh u4 hF, hF.step s4 (Nat.le_trans u.size V3.size)⟩, by omega⟩
      rw [show (m + 1).toNat = m.toNat + 1 by omega, htake, List.filter_append, List.map_append, List.map_append]
      have e : [R[m.toNat]].filter (fun x => meets x.2 k) = [R[m.toNat]] := by simp [hc2]
      rw [e]
      exact hs4
    · rw [i64id (by omega) (by omega)]
      have V2 := (drw_upd v).after u2
      refine ⟨⟨by omega, by omega, F, ?_, u.after V2, hF⟩, by omega⟩
      rw [show (m + 1).toNat = m.toNat + 1 by omega, htake, List.filter_append]
      have e : [R[m.toNat]].filter (fun x => meets x.2 k) = [] := by simp [hc2]
      rw [e, List.append_nil]
      exact hs.upd V2 (by intro k _ h; cases h)
  · simp at hc
    rw [List.take_of_length_le (by omega)] at hs
    exact hK op on oc F v hs (u1.after u) fun x hx => by have := hF x hx; have := u1.size; omega

theorem RAdd_ok {id : Int} {k : Key} {front : Bool} {K : Int → World → Prop} (h : RtAt w q p n c R G) (hl : R.length ≤ 4096)
    (h5 : (atR R id).isSome = true → ∀ w', Upd [] w w' → K 5 w') (h2 : atR R id = none → 4096 ≤ R.length → ∀ w', Upd [] w w' → K 2 w')
    (hK : atR R id = none → R.length < 4096 → ∀ w' p' n' c' G', RtAt w' q p' n' c' (if front then (id, k) :: R else R ++ [(id, k)]) G' → Upd (q :: G) w w' → Sub (q :: G') (q :: G) w → K 0 w') : C_ref18_Table_Add (some ⟨q, 0, none⟩) id k.1 k.2.1 k.2.2 front w K := by
  apply C_ref18_Table_Add.of
  unfold F_ref18_Table_Add F_ref18_Table_Add_k1
  have hn := h.len
  refine New_rule fun r w1 hr u1 hb1 => at_ok (h.keep u1) (by omega) ?_
  have h1 := h.keep u1
  have hqi := h.inn
  rcases ha : atR R id with _ | i
  · refine ifF rfl ?_
    simp only [NN_some, addN, drw_cell, drw_heap, exS, exI, exB, exP, exM, exStr, exV, a0, a1, a2, a3, a4, a5, a6, a7, a8, a9, a10, a11, a12, a13, maxI_eq, Nat.zero_add, Nat.add_zero, Nat.mul_one, Option.isNone_some, Option.isNone_none, h1.blk.cell, hb1.cell]
    refine ifC (fun hc => ?_) (fun hc => ?_)
    · simp at hc; exact h2 ha (by omega) w1 u1
    · simp at hc
      have hKK := hK ha (by omega)
      cases front with
      | true =>
        refine ifT rfl (BSlL_rule eS_35 [.agg (rC (id, k)).toArray] (by rfl) (by simp [Value.cells, rC]) (by rfl) (by omega) fun w2 hs2 u2 => ?_)
        have V2 := (drw_upd w1).after u2
        have h2' := h1.keep V2
        have e2 : ([Value.agg (rC (id, k)).toArray].flatMap fun v => v.cells.toList) = [(id, k)].flatMap rC := by simp [Value.cells]
        rw [e2] at hs2
        simp only [NN_some, addN, drw_cell, drw_heap, exS, exI, exB, exP, exM, exStr, exV, a0, a1, a2, a3, a4, a5, a6, a7, a8, a9, a10, a11, a12, a13, maxI_eq, Nat.zero_add, Nat.add_zero, Nat.mul_one, Option.isNone_some, Option.isNone_none, h2'.blk.cell, h1.blk.cell]
        refine ⟨trivial, App_rule (hE := eS_35) hs2 h2'.row rC_one (by omega) fun p' c' G' w3 hs3 u3 s3 => ?_⟩
        have hw1 : w1.heap.size ≤ w2.heap.size := V2.size
        have hnew : ∀ x ∈ G', w.heap.size ≤ x := fun x hx => by
          rcases s3 x hx with h7 | h7
          · simp at h7; have := u1.size; omega
          · have := u1.size; omega
        have hqw := h.blk.lt
        have h3b := h2'.blk.upd u3 (by simp; have := u1.size; omega)
        refine St_rule h3b (by simp) rfl fun w4 u4 hb4 => ?_
        simp at hb4
        rw [← List.flatMap_append] at hs3
        refine hKK w4 p' (1 + n) c' G' ⟨hb4, hs3.upd u4 (by intro x hx; simp; rintro rfl; have := hnew _ hx; omega), fun hx => by have := hnew _ hx; omega⟩ ?_ ?_
        · have U3 : Upd [] w w3 := (u1.after V2).fresh u3 (by intro x hx; simp at hx; have := u1.size; omega)
          exact U3.after (u4.mono (by intro x hx; simp at hx; simp [hx]))
        · intro x hx
          rcases List.mem_cons.1 hx with rfl | hx
          · simp
          · exact .inr (hnew x hx)
      | false =>
        refine ifF rfl (BSlL_rule eS_35 [.agg (rC (id, k)).toArray] (by rfl) (by simp [Value.cells, rC]) (by rfl) (by omega) fun w2 hs2 u2 => ?_)
        have V2 := (drw_upd w1).after u2
        have h2' := h1.keep V2
        have e2 : ([Value.agg (rC (id, k)).toArray].flatMap fun v => v.cells.toList) = [(id, k)].flatMap rC := by simp [Value.cells]
        rw [e2] at hs2
        simp only [NN_some, addN, drw_cell, drw_heap, exS, exI, exB, exP, exM, exStr, exV, a0, a1, a2, a3, a4, a5, a6, a7, a8, a9, a10, a11, a12, a13, maxI_eq, Nat.zero_add, Nat.add_zero, Nat.mul_one, Option.isNone_some, Option.isNone_none, h2'.blk.cell, h1.blk.cell]
        refine ⟨trivial, App_rule (hE := eS_35) h2'.row hs2 rC_one (by omega) fun p' c' G' w3 hs3 u3 s3 => ?_⟩
        have hw1 : w1.heap.size ≤ w2.heap.size := V2.size
        have hqw := h.blk.lt
        have hG' : ∀ x ∈ G', x ∈ G ∨ w.heap.size ≤ x := fun x hx => by
          rcases s3 x hx with h7 | h7
          · exact .inl h7
          · have := u1.size; right; omega
        have hqG' : q ∉ G' := fun hx => by
          rcases hG' _ hx with h7 | h7
          · exact h.qG h7
          · omega
        have h3b := h2'.blk.upd u3 h.qG
        refine St_rule h3b (by simp) rfl fun w4 u4 hb4 => ?_
        simp at hb4
        rw [← List.flatMap_append] at hs3
        refine hKK w4 p' (n + 1) c' G' ⟨hb4, hs3.upd u4 (by intro x hx; simp; rintro rfl; exact hqG' hx), hqG'⟩ ?_ ?_
        · exact ((u1.after V2).after u3).trans u4 (by intro x hx; simp [hx]) (by intro x hx; simp at hx; simp [hx])
        · intro x hx
          rcases List.mem_cons.1 hx with rfl | hx
          · simp
          · exact (hG' x hx).imp (fun h => by simp [h]) (fun h => h)
  · refine ifT (by simp) (h5 (by rw [ha]; rfl) w1 u1)

theorem RDrop_ok {id : Int} {K : Int → World → Prop} (h : RtAt w q p n c R G) (hl : R.length ≤ 4096) (h4 : atR R id = none → K 4 w)
    (hK : ∀ i, atR R id = some i → ∀ w' p' n' c' G', RtAt w' q p' n' c' (R.take i ++ R.drop (i + 1)) G' → Upd (q :: G) w w' → Sub (q :: G') (q :: G) w → K 0 w') : C_ref18_Table_Drop (some ⟨q, 0, none⟩) id w K := by
  apply C_ref18_Table_Drop.of
  unfold F_ref18_Table_Drop
  have hn := h.len
  have hnc := h.row.2.1
  refine at_ok h (by omega) ?_
  rcases ha : atR R id with _ | i
  · exact ifT rfl (h4 ha)
  · have hil : i < R.length := by
      unfold atR at ha
      rw [List.findIdx?_eq_some_iff_getElem] at ha
      exact ha.1
    have hqw := h.blk.lt
    refine ifF (by first | (simp; done) | (simp; omega)) ?_
    simp only [NN_some, addN, drw_cell, drw_heap, exS, exI, exB, exP, exM, exStr, exV, a0, a1, a2, a3, a4, a5, a6, a7, a8, a9, a10, a11, a12, a13, maxI_eq, Nat.zero_add, Nat.add_zero, Nat.mul_one, Option.isNone_some, Option.isNone_none, h.blk.cell]
    rw [i64id (by omega) (by omega)]
    have e1 : ((i : Int) + 1).toNat = i + 1 := by omega
    have e2 : (i : Int).toNat = i := by omega
    rw [e1, e2]
    refine ⟨by omega, by omega, by omega, by omega, BSlL_rule eS_35 [] (by rfl) (by simp) (by rfl) (by omega) fun w1 hs1 u1 => ?_⟩
    have V1 := (drw_upd w).after u1
    have h1 := h.keep V1
    simp only [NN_some, addN, drw_cell, drw_heap, exS, exI, exB, exP, exM, exStr, exV, a0, a1, a2, a3, a4, a5, a6, a7, a8, a9, a10, a11, a12, a13, maxI_eq, Nat.zero_add, Nat.add_zero, Nat.mul_one, Option.isNone_some, Option.isNone_none, h1.blk.cell, h.blk.cell]
    refine ⟨trivial, trivial, App_rule (hE := eS_35) hs1 (h1.row.take (k := i) (by omega)) (fun v hv => rC_one v (List.mem_of_mem_take hv)) (by omega) fun p2 c2 G2 w2 hs2 u2 s2 => ?_⟩
    have hs12 : w.heap.size ≤ w1.heap.size := V1.size
    have hnew2 : ∀ x ∈ G2, w.heap.size ≤ x := fun x hx => by
      rcases s2 x hx with h7 | h7
      · simp at h7; omega
      · omega
    have V2 : Upd [] w w2 := V1.fresh u2 (by intro x hx; simp at hx; omega)
    have h2 := h.keep V2
    rw [Nat.zero_add] at hs2
    simp only [NN_some, addN, drw_cell, drw_heap, exS, exI, exB, exP, exM, exStr, exV, a0, a1, a2, a3, a4, a5, a6, a7, a8, a9, a10, a11, a12, a13, maxI_eq, Nat.zero_add, Nat.add_zero, Nat.mul_one, Option.isNone_some, Option.isNone_none, h2.blk.cell]
    refine ⟨trivial, App_rule (hE := eS_35) hs2 (h2.row.drop (k := i + 1) (by omega)) (fun v hv => rC_one v (List.mem_of_mem_drop hv)) (by omega) fun p3 c3 G3 w3 hs3 u3 s3 => ?_⟩
    have V3 : Upd [] w w3 := V2.fresh u3 hnew2
    have hnew3 : ∀ x ∈ G3, w.heap.size ≤ x := fun x hx => by
      rcases s3 x hx with h7 | h7
      · exact hnew2 x h7
      · have := V2.size; omega
    have h3 := h.keep V3
    refine St_rule h3.blk (by simp) rfl fun w4 u4 hb4 => ?_
    simp at hb4
    have e3 : (([] : List Value).flatMap fun v => v.cells.toList) ++ (R.flatMap rC).take (i * 4) ++ (R.flatMap rC).drop ((i + 1) * 4) = (R.take i ++ R.drop (i + 1)).flatMap rC := by
      rw [flat_take rC_len, flat_drop rC_len, List.flatMap_append]; rfl
    rw [e3] at hs3
    have hn3 := hs3.1
    refine hK i ha w4 p3 _ c3 G3 ⟨hb4, hs3.upd u4 (by intro x hx; simp; rintro rfl; have := hnew3 _ hx; omega), fun hx => by have := hnew3 _ hx; omega⟩ (V3.after (u4.mono (by intro x hx; simp at hx; simp [hx]))) ?_
    intro x hx
    rcases List.mem_cons.1 hx with rfl | hx
    · simp
    · exact .inr (hnew3 x hx)

end

end Go.Proofs.Ytpkfckfdehaamaa
