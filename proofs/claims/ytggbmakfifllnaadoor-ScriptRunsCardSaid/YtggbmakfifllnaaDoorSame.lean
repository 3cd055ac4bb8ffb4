/- Two scripts, two runs: are they the same? -/
import Derived.Test.YtggbmakfifllnaaDoorRRun
import Derived.Test.YtggbmakfifllnaaDoorOwn12
namespace Go.Proofs.YtggbmakfifllnaaDoor
open Go Go.D Go.Proofs
set_option linter.unusedSimpArgs false
set_option linter.unusedVariables false
set_option maxRecDepth 8000

theorem loop_eq (bs : ByteArray) : ∀ (n i : Nat) (r : List UInt8), bs.size - i = n → ByteArray.toList.loop bs i r = r.reverse ++ bs.data.toList.drop i
  | 0, i, r, h => by
    unfold ByteArray.toList.loop
    have hi : ¬ i < bs.size := by omega
    have hs : bs.data.toList.length = bs.size := rfl
    rw [if_neg hi, List.drop_of_length_le (by omega)]
    simp
  | n + 1, i, r, h => by
    unfold ByteArray.toList.loop
    have hi : i < bs.size := by omega
    have hs : bs.data.toList.length = bs.size := rfl
    have hl : i < bs.data.toList.length := by omega
    have hg : bs.get! i = bs.data.toList[i] := by
      show bs.data[i]! = _
      rw [getElem!_pos bs.data i hi]; rfl
    rw [if_pos hi, loop_eq bs n (i + 1) _ (by omega), List.drop_eq_getElem_cons hl, hg]
    simp

theorem toList_data (bs : ByteArray) : bs.toList = bs.data.toList := by
  unfold ByteArray.toList
  rw [loop_eq bs _ 0 [] rfl]; simp

/-- Two texts are the same. -/
theorem strEq (a b : ByteArray) : (a.toList == b.toList) = decide (a.data.toList = b.data.toList) := by
  rw [toList_data, toList_data]
  by_cases h : a.data.toList = b.data.toList
  · rw [h]; simp
  · rw [decide_eq_false h]; simpa using h

theorem mkL (s : ByteArray) : s = ⟨s.data.toList.toArray⟩ := by apply ByteArray.ext; simp

theorem i64ne (a b : Int) : (a != b) = !decide (a = b) := by
  by_cases h : a = b <;> simp [h]

/-- Rows are the same, place by place. -/
theorem same_upto {α : Type} {xs ys : List α} (hl : xs.length = ys.length) (h : ∀ j, j < xs.length → xs[j]? = ys[j]?) : xs = ys := by
  apply List.ext_getElem? 
  intro j
  by_cases hj : j < xs.length
  · exact h j hj
  · rw [List.getElem?_eq_none (by omega), List.getElem?_eq_none (by omega)]

theorem capsEq {a b c d e a' b' c' d' e' : Int} {K : Bool → Prop} (h : K (decide ([a, b, c, d, e] = [a', b', c', d', e']))) :
    AggEq Tryd.prog 23 (.agg #[.int .i64 a, .int .i64 b, .int .i64 c, .int .i64 d, .int .i64 e]) (.agg #[.int .i64 a', .int .i64 b', .int .i64 c', .int .i64 d', .int .i64 e']) K :=
  AggEq_ints [(.i64, a), (.i64, b), (.i64, c), (.i64, d), (.i64, e)] [(.i64, a'), (.i64, b'), (.i64, c'), (.i64, d'), (.i64, e')] (by kernel_rfl) (by kernel_rfl) (by kernel_rfl) rfl rfl rfl h

theorem evCells_inj {a b : Evn} (h : evCells a = evCells b) : a = b := by
  obtain ⟨k, t⟩ := a
  obtain ⟨k', t'⟩ := b
  simp [evCells] at h
  rw [h.1, h.2]

theorem evEq {a b : Evn} {K : Bool → Prop} (h : K (decide (a = b))) : AggEq Tryd.prog 45 (.agg #[.int .i64 a.kind, .string ⟨a.text.toArray⟩]) (.agg #[.int .i64 b.kind, .string ⟨b.text.toArray⟩]) K := by
  refine ⟨_, fun w => ?_, h⟩
  unfold Op.equal Op.maxDepth
  rw [run_equalIn_struct w 9999 45 _ _ (by kernel_rfl) (by kernel_rfl)]
  obtain ⟨r, h1, h2⟩ := eqFields_leafs (P := Tryd.prog) (w := w) (d := 9998) (xs := #[.int .i64 a.kind, .string ⟨a.text.toArray⟩]) (ys := #[.int .i64 b.kind, .string ⟨b.text.toArray⟩]) (Tryd.prog.fieldsOf 45).toList 0 (evCells a) (evCells b)
    ⟨by decide, rfl, leaf_int (by rfl) _ _, by decide, rfl, leaf_string (by rfl) _ _, trivial⟩ (fun i hi => by simp [evCells]) (fun i hi => by simp [evCells])
  rw [h1]
  congr 1
  by_cases hk : a = b
  · rw [decide_eq_true hk]; exact h2.2 (by rw [hk])
  · rw [decide_eq_false hk]
    cases r with
    | false => rfl
    | true => exact absurd (evCells_inj (h2.1 rfl)) hk

section
variable {w : World} {p q : Option Addr} {n c m d : Nat}

theorem Same_ok {g0 g1 b0 b1 : ByteArray} {g2 g3 g4 g5 g6 g7 b2 b3 b4 b5 b6 b7 : Int} {xs ys : List Int} {K : Bool → World → Prop} (hp : Rd w 1 p n (xs.map (.int .i64))) (hq : Rd w 1 q m (ys.map (.int .i64))) (hx : xs.length < 2 ^ 40)
    (hK : ∀ w', Upd [] w w' → K (decide (scrOf g0 g1 [g2, g3, g4, g5, g6, g7] xs = scrOf b0 b1 [b2, b3, b4, b5, b6, b7] ys)) w') : C_ref27_Same g0 g1 g2 g3 g4 g5 g6 g7 p n c b0 b1 b2 b3 b4 b5 b6 b7 q m d w K := by
  obtain rfl : n = xs.length := by have := hp.1; simp at this; exact this.symm
  obtain rfl : m = ys.length := by have := hq.1; simp at this; exact this.symm
  apply C_ref27_Same.of
  unfold F_ref27_Same F_ref27_Same_k1
  refine New_rule fun r w1 hr u1 e1 => New_rule fun r' w2 hr' u2 e2 => ?_
  have e1' := e1.upd u2 (by simp)
  have U2 := u1.after u2
  have no : ∀ {w'}, ¬ (scrOf g0 g1 [g2, g3, g4, g5, g6, g7] xs = scrOf b0 b1 [b2, b3, b4, b5, b6, b7] ys) → Upd [] w w' → K false w' := fun h u => by
    have := hK _ u
    rwa [decide_eq_false h] at this
  simp only [NN_some, addN, drw_cell, drw_heap, exS, exI, exB, exP, exM, exStr, exV, a0, a1, a2, a3, a4, a5, a6, a7, a8, a9, a10, a11, a12, a13, maxI_eq, Nat.zero_add, Nat.add_zero, Nat.mul_one, Option.isNone_some, Option.isNone_none, Nat.reduceAdd, e1'.cell, e2.cell]
  rw [strEq, strEq]
  refine ifC (fun h => no (fun h' => by simp at h; simp [scrOf] at h'; exact h h'.1) U2) (fun h1 => ?_)
  refine ifC (fun h => no (fun h' => by simp at h; simp [scrOf] at h'; exact h h'.2.1) U2) (fun h2 => ?_)
  refine capsEq ?_
  refine ifC (fun h => no (fun h' => by simp at h; simp [scrOf] at h'; omega) U2) (fun h3 => ?_)
  refine ifC (fun h => no (fun h' => by simp at h; simp [scrOf] at h'; omega) U2) (fun h4 => ?_)
  refine ifC (fun h => no (fun h' => by simp at h; simp [scrOf] at h'; rw [h'.2.2.2] at h; exact h rfl) U2) (fun h5 => ?_)
  simp at h1 h2 h3 h4 h5
  have hl : xs.length = ys.length := by omega
  unfold F_ref27_Same_L1
  refine ⟨fun s v => ∃ i : Nat, s.i = i ∧ i ≤ xs.length ∧ (∀ j, j < i → xs[j]? = ys[j]?) ∧ Upd [] w2 v, fun s _ => (xs.length - s.i).toNat, ⟨0, rfl, by omega, by intro j hj; omega, Upd.refl _ _⟩, ?_⟩
  rintro ⟨t⟩ v ⟨i, rfl, hi, hs, hu⟩
  unfold B_ref27_Same_L1
  dsimp only
  have f1 := e1'.upd hu (by simp)
  have f2 := e2.upd hu (by simp)
  simp only [NN_some, addN, drw_cell, drw_heap, exS, exI, exB, exP, exM, exStr, exV, a0, a1, a2, a3, a4, a5, a6, a7, a8, a9, a10, a11, a12, a13, maxI_eq, Nat.zero_add, Nat.add_zero, Nat.mul_one, Option.isNone_some, Option.isNone_none, f1.cell, f2.cell]
  refine ifC (fun hc => ?_) (fun hc => ?_)
  · simp at hc
    obtain ⟨x, hx1, hcx⟩ := ((hp.keep U2).keep hu).at (i := i) (by omega)
    obtain ⟨y, hy1, hcy⟩ := ((hq.keep U2).keep hu).at (i := i) (by omega)
    rw [List.getElem?_map, List.getElem?_eq_getElem (by omega)] at hcx hcy
    simp only [Option.map_some] at hcx hcy
    simp only [NN_some, addN, drw_cell, drw_heap, exS, exI, exB, exP, exM, exStr, exV, a0, a1, a2, a3, a4, a5, a6, a7, a8, a9, a10, a11, a12, a13, maxI_eq, Nat.zero_add, Nat.add_zero, Nat.mul_one, Option.isNone_some, Option.isNone_none, Int.toNat_natCast, hx1, hy1, hcx, hcy]
    refine ⟨by omega, by omega, by omega, by omega, ifC (fun h => ?_) (fun h => ?_)⟩
    · simp at h
      refine no (fun h' => ?_) (U2.after (hu.after (drw_upd v)))
      simp [scrOf] at h'
      exact h (by simp [h'.2.2.2])
    · simp at h
      refine ⟨⟨i + 1, by rw [i64id (by omega) (by omega)]; simp, by omega, fun j hj => ?_, hu.after (drw_upd v)⟩, by rw [i64id (by omega) (by omega)]; simp; omega⟩
      by_cases hj2 : j < i
      · exact hs j hj2
      · obtain rfl : j = i := by omega
        rw [List.getElem?_eq_getElem (by omega), List.getElem?_eq_getElem (by omega), h]
  · simp at hc
    obtain rfl : i = xs.length := by omega
    have hxy := same_upto hl hs
    have := hK v (U2.after hu)
    rwa [decide_eq_true (by simp [scrOf, h1, h2, h3, h4, hxy])] at this

theorem SameRun_ok {g0 g2 g3 g4 g5 b0 b2 b3 b4 b5 : Int} {xs ys : List Evn} {K : Bool → World → Prop} (hp : Rd w 2 p n (xs.flatMap evCells)) (hq : Rd w 2 q m (ys.flatMap evCells)) (hx : xs.length < 2 ^ 40)
    (hK : ∀ w', Upd [] w w' → K (decide ((⟨g0, xs, [g2, g3, g4, g5]⟩ : Rn) = ⟨b0, ys, [b2, b3, b4, b5]⟩)) w') : C_ref26_SameRun g0 p n c g2 g3 g4 g5 b0 q m d b2 b3 b4 b5 w K := by
  obtain rfl : n = xs.length := by have := hp.1; rw [flat_len evCells_len] at this; omega
  obtain rfl : m = ys.length := by have := hq.1; rw [flat_len evCells_len] at this; omega
  apply C_ref26_SameRun.of
  unfold F_ref26_SameRun F_ref26_SameRun_k1
  refine New_rule fun r w1 hr u1 e1 => New_rule fun r' w2 hr' u2 e2 => ?_
  have e1' := e1.upd u2 (by simp)
  have U2 := u1.after u2
  have no : ∀ {w'}, ¬ ((⟨g0, xs, [g2, g3, g4, g5]⟩ : Rn) = ⟨b0, ys, [b2, b3, b4, b5]⟩) → Upd [] w w' → K false w' := fun h u => by
    have := hK _ u
    rwa [decide_eq_false h] at this
  simp only [NN_some, addN, drw_cell, drw_heap, exS, exI, exB, exP, exM, exStr, exV, a0, a1, a2, a3, a4, a5, a6, a7, a8, a9, a10, a11, a12, a13, maxI_eq, Nat.zero_add, Nat.add_zero, Nat.mul_one, Option.isNone_some, Option.isNone_none, e1'.cell, e2.cell]
  refine ifC (fun h => no (fun h' => by simp at h h'; omega) U2) (fun h1 => ?_)
  refine ifC (fun h => no (fun h' => by simp at h h'; omega) U2) (fun h2 => ?_)
  refine ifC (fun h => no (fun h' => by simp at h h'; omega) U2) (fun h3 => ?_)
  refine ifC (fun h => no (fun h' => by simp at h h'; omega) U2) (fun h4 => ?_)
  refine ifC (fun h => no (fun h' => by simp at h h'; omega) U2) (fun h5 => ?_)
  refine ifC (fun h => no (fun h' => by simp at h h'; rw [h'.2.1] at h; exact h rfl) U2) (fun h6 => ?_)
  simp at h1 h2 h3 h4 h5 h6
  have hl : xs.length = ys.length := by omega
  unfold F_ref26_SameRun_L1
  refine ⟨fun s v => ∃ i : Nat, s.i = i ∧ i ≤ xs.length ∧ (∀ j, j < i → xs[j]? = ys[j]?) ∧ Upd [] w2 v, fun s _ => (xs.length - s.i).toNat, ⟨0, rfl, by omega, by intro j hj; omega, Upd.refl _ _⟩, ?_⟩
  rintro ⟨t⟩ v ⟨i, rfl, hi, hs, hu⟩
  unfold B_ref26_SameRun_L1
  dsimp only
  have f1 := e1'.upd hu (by simp)
  have f2 := e2.upd hu (by simp)
  simp only [NN_some, addN, drw_cell, drw_heap, exS, exI, exB, exP, exM, exStr, exV, a0, a1, a2, a3, a4, a5, a6, a7, a8, a9, a10, a11, a12, a13, maxI_eq, Nat.zero_add, Nat.add_zero, Nat.mul_one, Option.isNone_some, Option.isNone_none, f1.cell, f2.cell]
  refine ifC (fun hc => ?_) (fun hc => ?_)
  · simp at hc
    obtain ⟨x, hx1, hcx⟩ := ((hp.keep U2).keep hu).elem hc
    obtain ⟨y, hy1, hcy⟩ := ((hq.keep U2).keep hu).elem (i := i) (by omega)
    have hi2 : i < ys.length := by omega
    have xa := hcx 0 (by omega)
    have xb := hcx 1 (by omega)
    have ya := hcy 0 (by omega)
    have yb := hcy 1 (by omega)
    rw [flat_at evCells_len hc (by omega)] at xa xb
    rw [flat_at evCells_len hi2 (by omega)] at ya yb
    have xa' : v.cell? ((x.add (i * 2)).add 0) = some (.int .i64 xs[i].kind) := by rw [addA]; exact xa
    have xb' : v.cell? ((x.add (i * 2)).add 1) = some (.string ⟨xs[i].text.toArray⟩) := by rw [addA]; exact xb
    have ya' : v.cell? ((y.add (i * 2)).add 0) = some (.int .i64 ys[i].kind) := by rw [addA]; exact ya
    have yb' : v.cell? ((y.add (i * 2)).add 1) = some (.string ⟨ys[i].text.toArray⟩) := by rw [addA]; exact yb
    simp only [NN_some, addN, drw_cell, drw_heap, exS, exI, exB, exP, exM, exStr, exV, a0, a1, a2, a3, a4, a5, a6, a7, a8, a9, a10, a11, a12, a13, maxI_eq, Nat.zero_add, Nat.add_zero, Nat.mul_one, Option.isNone_some, Option.isNone_none, Int.toNat_natCast, hx1, hy1, xa', xb', ya', yb']
    refine ⟨by omega, by omega, by omega, by omega, evEq ?_⟩
    refine ifC (fun h => ?_) (fun h => ?_)
    · simp at h
      refine no (fun h' => ?_) (U2.after (hu.after (drw_upd v)))
      simp at h'
      exact h (by simp [h'.2.1])
    · simp at h
      refine ⟨⟨i + 1, by rw [i64id (by omega) (by omega)]; simp, by omega, fun j hj => ?_, hu.after (drw_upd v)⟩, by rw [i64id (by omega) (by omega)]; simp; omega⟩
      by_cases hj2 : j < i
      · exact hs j hj2
      · obtain rfl : j = i := by omega
        rw [List.getElem?_eq_getElem (by omega), List.getElem?_eq_getElem (by omega), h]
  · simp at hc
    obtain rfl : i = xs.length := by omega
    have hxy := same_upto hl hs
    have := hK v (U2.after hu)
    rwa [decide_eq_true (by simp [h1, h2, h3, h4, h5, hxy])] at this
end

end Go.Proofs.YtggbmakfifllnaaDoor
