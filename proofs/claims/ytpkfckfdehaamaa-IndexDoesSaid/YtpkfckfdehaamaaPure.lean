/- Keys: of terms; which meet; numbers that are the same. -/
import Derived.Test.YtpkfckfdehaamaaTable3
namespace Go.Proofs.Ytpkfckfdehaamaa
open Go Go.D Go.Proofs
set_option linter.unusedSimpArgs false
set_option linter.unusedVariables false
set_option maxRecDepth 8000

theorem St3 {w : World} {r : Nat} {arr : Array Value} {v0 v1 v2 : Value} {K : World → Prop} (hb : Blk w r arr) (ha : arr.size = 3) (hv : ∀ v ∈ [v0, v1, v2], v.oneCell' = true) (hK : ∀ w', Upd [r] w w' → Blk w' r #[v0, v1, v2] → K w') :
    St w ((⟨r, 0, none⟩ : Addr).add 0) v0 fun w0 => St w0 ((⟨r, 0, none⟩ : Addr).add 1) v1 fun w1 => St w1 ((⟨r, 0, none⟩ : Addr).add 2) v2 fun w2 => K w2 := by
  obtain ⟨c0, c1, c2, rfl⟩ : ∃ c0 c1 c2, arr = #[c0, c1, c2] := by
    rcases arr with ⟨l⟩
    rcases l with _ | ⟨c0, _ | ⟨c1, _ | ⟨c2, _ | ⟨c3, l⟩⟩⟩⟩ <;> simp at ha
    exact ⟨c0, c1, c2, rfl⟩
  simp only [addN, Nat.zero_add]
  refine St_acc (Upd.refl _ _) hb (by simp) (hv _ (by simp)) fun u0 t0 b0 => St_acc t0 b0 (by simp) (hv _ (by simp)) fun u1 t1 b1 => St_acc t1 b1 (by simp) (hv _ (by simp)) fun u2 t2 b2 => ?_
  simp at b2
  exact hK _ t2 b2

theorem keyEq {a c a' c' : Int} {b b' : ByteArray} {K : Bool → Prop} (h : K (decide (((a, b, c) : Key) = (a', b', c')))) : AggEq Try.prog 26 (.agg #[.int .i64 a, .string b, .int .i64 c]) (.agg #[.int .i64 a', .string b', .int .i64 c']) K := by
  refine ⟨_, fun w => ?_, h⟩
  unfold Op.equal Op.maxDepth
  rw [run_equalIn_struct w 9999 26 _ _ (by kernel_rfl) (by kernel_rfl)]
  obtain ⟨r, h1, h2⟩ := eqFields_leafs (P := Try.prog) (w := w) (d := 9998) (xs := #[.int .i64 a, .string b, .int .i64 c]) (ys := #[.int .i64 a', .string b', .int .i64 c']) (Try.prog.fieldsOf 26).toList 0 (kcs (a, b, c)) (kcs (a', b', c'))
    ⟨by decide, rfl, leaf_int (by rfl) _ _, by decide, rfl, leaf_string (by rfl) _ _, by decide, rfl, leaf_int (by rfl) _ _, trivial⟩ (fun i hi => by simp [kcs]) (fun i hi => by simp [kcs])
  rw [h1]
  congr 1
  have : (kcs (a, b, c) = kcs (a', b', c')) ↔ ((a, b, c) : Key) = (a', b', c') := by simp [kcs]
  rw [this] at h2
  by_cases hk : ((a, b, c) : Key) = (a', b', c')
  · rw [decide_eq_true hk]; exact h2.2 hk
  · rw [decide_eq_false hk]
    cases r with
    | false => rfl
    | true => exact absurd (h2.1 rfl) hk

def keyOfT (t0 t1 : Int) (t2 : ByteArray) (n : Nat) : Key := if t0 = 2 then (1, ⟨#[]⟩, t1) else if t0 = 3 then (2, t2, 0) else if t0 = 4 then (3, t2, n) else zk

section
variable {w : World}

theorem KeyOf_ok {t0 t1 : Int} {t2 : ByteArray} {p : Option Addr} {n c : Nat} {K : Int → ByteArray → Int → World → Prop} (hK : ∀ w', Upd [] w w' → K (keyOfT t0 t1 t2 n).1 (keyOfT t0 t1 t2 n).2.1 (keyOfT t0 t1 t2 n).2.2 w') : C_index_KeyOf t0 t1 t2 p n c w K := by
  apply C_index_KeyOf.of
  unfold F_index_KeyOf
  refine New_rule fun r w1 hr u1 hb1 => New_rule fun q w2 hq u2 hb2 => ?_
  have hb1' := hb1.upd u2 (by simp)
  have U2 := u1.after u2
  have hs1 := u1.size
  unfold keyOfT at hK
  simp only [addN, Nat.zero_add, hb1'.cell, a0, a1, a2, a3, exI, exStr, exS]
  have St3 := fun {v0 v1 v2 : Value} {K : World → Prop} => @St3 w2 q _ v0 v1 v2 K hb2 rfl
  simp only [addN, Nat.zero_add] at St3
  refine ifC (fun hc => ?_) (fun hc => ifC (fun hc2 => ?_) (fun hc2 => ifC (fun hc3 => ?_) (fun hc3 => ?_)))
  · simp at hc
    rw [if_pos hc] at hK
    refine St3 (by simp [Value.oneCell']) fun w3 u3 hb3 => ?_
    simp only [NN_some, addN, drw_cell, drw_heap, exS, exI, exB, exP, exM, exStr, exV, a0, a1, a2, a3, a4, a5, a6, a7, a8, a9, a10, a11, a12, a13, maxI_eq, Nat.zero_add, Nat.add_zero, Nat.mul_one, Option.isNone_some, Option.isNone_none, hb3.cell]
    exact hK w3 (U2.fresh u3 (by intro x hx; simp at hx; omega))
  · simp at hc hc2
    rw [if_neg hc, if_pos hc2] at hK
    refine St3 (by simp [Value.oneCell']) fun w3 u3 hb3 => ?_
    simp only [NN_some, addN, drw_cell, drw_heap, exS, exI, exB, exP, exM, exStr, exV, a0, a1, a2, a3, a4, a5, a6, a7, a8, a9, a10, a11, a12, a13, maxI_eq, Nat.zero_add, Nat.add_zero, Nat.mul_one, Option.isNone_some, Option.isNone_none, hb3.cell]
    exact hK w3 (U2.fresh u3 (by intro x hx; simp at hx; omega))
  · simp at hc hc2 hc3
    rw [if_neg hc, if_neg hc2, if_pos hc3] at hK
    refine St3 (by simp [Value.oneCell']) fun w3 u3 hb3 => ?_
    simp only [NN_some, addN, drw_cell, drw_heap, exS, exI, exB, exP, exM, exStr, exV, a0, a1, a2, a3, a4, a5, a6, a7, a8, a9, a10, a11, a12, a13, maxI_eq, Nat.zero_add, Nat.add_zero, Nat.mul_one, Option.isNone_some, Option.isNone_none, hb3.cell]
    exact hK w3 (U2.fresh u3 (by intro x hx; simp at hx; omega))
  · simp at hc hc2 hc3
    rw [if_neg hc, if_neg hc2, if_neg hc3] at hK
    refine St3 (by simp [Value.oneCell']) fun w3 u3 hb3 => ?_
    simp only [NN_some, addN, drw_cell, drw_heap, exS, exI, exB, exP, exM, exStr, exV, a0, a1, a2, a3, a4, a5, a6, a7, a8, a9, a10, a11, a12, a13, maxI_eq, Nat.zero_add, Nat.add_zero, Nat.mul_one, Option.isNone_some, Option.isNone_none, hb3.cell]
    exact hK w3 (U2.fresh u3 (by intro x hx; simp at hx; omega))

/-- The first of a row of terms can be read. -/
def HeadT (w : World) (p : Option Addr) (n : Nat) (k : Key) : Prop := n ≠ 0 → ∃ x a b s q m c, p = some x ∧ w.cell? (x.add 0) = some (.int .i64 a) ∧ w.cell? (x.add 1) = some (.int .i64 b) ∧ w.cell? (x.add 2) = some (.string s) ∧ w.cell? (x.add 3) = some (.slice q m c) ∧ k = keyOfT a b s m

theorem HeadT.keep {w w' : World} {p : Option Addr} {n : Nat} {k : Key} (h : HeadT w p n k) (u : Upd [] w w') : HeadT w' p n k := fun hn => by
  obtain ⟨x, a, b, s, q, m, c, h1, h2, h3, h4, h5, h6⟩ := h hn
  exact ⟨x, a, b, s, q, m, c, h1, u.cell h2 (by simp), u.cell h3 (by simp), u.cell h4 (by simp), u.cell h5 (by simp), h6⟩

def firstK (t0 : Int) (n : Nat) (k : Key) : Key := if t0 ≠ 4 ∨ n = 0 then zk else k

theorem First_ok {t0 t1 : Int} {t2 : ByteArray} {p : Option Addr} {n c : Nat} {k : Key} {K : Int → ByteArray → Int → World → Prop} (hh : HeadT w p n k) (hK : ∀ w', Upd [] w w' → K (firstK t0 n k).1 (firstK t0 n k).2.1 (firstK t0 n k).2.2 w') : C_index_First t0 t1 t2 p n c w K := by
  apply C_index_First.of
  unfold F_index_First
  refine New_rule fun r w1 hr u1 hb1 => New_rule fun q w2 hq u2 hb2 => ?_
  have hb1' := hb1.upd u2 (by simp)
  have U2 := u1.after u2
  have hs1 := u1.size
  unfold firstK at hK
  simp only [addN, Nat.zero_add, hb1'.cell, a0, a1, a2, a3, exI, exStr, exS]
  refine ifC (fun hc => ?_) (fun hc => ifC (fun hc2 => ?_) (fun hc2 => ?_))
  · simp at hc
    rw [if_pos (.inl hc)] at hK
    have St3 := fun {v0 v1 v2 : Value} {K : World → Prop} => @St3 w2 q _ v0 v1 v2 K hb2 rfl
    simp only [addN, Nat.zero_add] at St3
    refine St3 (by simp [Value.oneCell']) fun w3 u3 hb3 => ?_
    simp only [NN_some, addN, drw_cell, drw_heap, exS, exI, exB, exP, exM, exStr, exV, a0, a1, a2, a3, a4, a5, a6, a7, a8, a9, a10, a11, a12, a13, maxI_eq, Nat.zero_add, Nat.add_zero, Nat.mul_one, Option.isNone_some, Option.isNone_none, hb3.cell]
    exact hK w3 (U2.fresh u3 (by intro x hx; simp at hx; omega))
  · simp at hc hc2
    rw [if_pos (.inr hc2)] at hK
    have St3 := fun {v0 v1 v2 : Value} {K : World → Prop} => @St3 w2 q _ v0 v1 v2 K hb2 rfl
    simp only [addN, Nat.zero_add] at St3
    refine St3 (by simp [Value.oneCell']) fun w3 u3 hb3 => ?_
    simp only [NN_some, addN, drw_cell, drw_heap, exS, exI, exB, exP, exM, exStr, exV, a0, a1, a2, a3, a4, a5, a6, a7, a8, a9, a10, a11, a12, a13, maxI_eq, Nat.zero_add, Nat.add_zero, Nat.mul_one, Option.isNone_some, Option.isNone_none, hb3.cell]
    exact hK w3 (U2.fresh u3 (by intro x hx; simp at hx; omega))
  · simp at hc hc2
    rw [if_neg (by simp [hc, hc2])] at hK
    obtain ⟨x, a, b, s, q', m, c', h1, h2, h3, h4, h5, h6⟩ := (hh.keep U2) hc2
    subst h1 h6
    simp only [NN_some, addA, Int.toNat_zero, Nat.zero_mul, Nat.zero_add, Nat.add_zero, h2, h3, h4, h5, exI, exStr, exS]
    refine ⟨by omega, by omega, KeyOf_ok fun w3 u3 => ?_⟩
    have hb3 := hb2.upd u3 (by simp)
    have St3 := fun {v0 v1 v2 : Value} {K : World → Prop} => @St3 w3 q _ v0 v1 v2 K hb3 rfl
    simp only [addN, Nat.zero_add] at St3
    refine St3 (by simp [Value.oneCell']) fun w4 u4 hb4 => ?_
    simp only [NN_some, addN, drw_cell, drw_heap, exS, exI, exB, exP, exM, exStr, exV, a0, a1, a2, a3, a4, a5, a6, a7, a8, a9, a10, a11, a12, a13, maxI_eq, Nat.zero_add, Nat.add_zero, Nat.mul_one, Option.isNone_some, Option.isNone_none, hb4.cell]
    exact hK w4 ((U2.after u3).fresh u4 (by intro x hx; simp at hx; omega))

theorem Meet_ok {k k' : Key} {K : Bool → World → Prop} (hK : ∀ w', Upd [] w w' → K (meets k k') w') : C_index_Meet k.1 k.2.1 k.2.2 k'.1 k'.2.1 k'.2.2 w K := by
  rcases k with ⟨ka, kb, kc⟩
  rcases k' with ⟨ka', kb', kc'⟩
  dsimp only
  apply C_index_Meet.of
  unfold F_index_Meet F_index_Meet_k1
  refine New_rule fun r w1 hr u1 hb1 => New_rule fun q w2 hq u2 hb2 => ?_
  have hb1' := hb1.upd u2 (by simp)
  have U2 := u1.after u2
  simp only [addN, Nat.zero_add, hb1'.cell, hb2.cell, a0, a1, a2, a3, exI, exStr, exS]
  have := hK w2 U2
  unfold meets at this
  refine ifC (fun hc => ?_) (fun hc => ifC (fun hc2 => ?_) (fun hc2 => ?_))
  · simp at hc; simpa [hc] using this
  · simp at hc2; simpa [hc2] using this
  · simp at hc hc2
    have e2 : meets (ka, kb, kc) (ka', kb', kc') = decide (((ka, kb, kc) : Key) = (ka', kb', kc')) := by simp [meets, hc, hc2]
    rw [e2] at hK
    exact keyEq (hK w2 U2)

theorem RKeyOf_ok {t0 t1 : Int} {t2 : ByteArray} {p : Option Addr} {n c : Nat} {K : Int → ByteArray → Int → World → Prop} (hK : ∀ w', Upd [] w w' → K (keyOfT t0 t1 t2 n).1 (keyOfT t0 t1 t2 n).2.1 (keyOfT t0 t1 t2 n).2.2 w') : C_ref18_KeyOf t0 t1 t2 p n c w K := by
  apply C_ref18_KeyOf.of
  unfold F_ref18_KeyOf
  refine New_rule fun r w1 hr u1 hb1 => New_rule fun q w2 hq u2 hb2 => ?_
  have hb1' := hb1.upd u2 (by simp)
  have U2 := u1.after u2
  have hs1 := u1.size
  unfold keyOfT at hK
  simp only [addN, Nat.zero_add, hb1'.cell, a0, a1, a2, a3, exI, exStr, exS]
  have St3 := fun {v0 v1 v2 : Value} {K : World → Prop} => @St3 w2 q _ v0 v1 v2 K hb2 rfl
  simp only [addN, Nat.zero_add] at St3
  refine ifC (fun hc => ?_) (fun hc => ifC (fun hc2 => ?_) (fun hc2 => ifC (fun hc3 => ?_) (fun hc3 => ?_)))
  · simp at hc
    rw [if_pos hc] at hK
    refine St3 (by simp [Value.oneCell']) fun w3 u3 hb3 => ?_
    simp only [NN_some, addN, drw_cell, drw_heap, exS, exI, exB, exP, exM, exStr, exV, a0, a1, a2, a3, a4, a5, a6, a7, a8, a9, a10, a11, a12, a13, maxI_eq, Nat.zero_add, Nat.add_zero, Nat.mul_one, Option.isNone_some, Option.isNone_none, hb3.cell]
    exact hK w3 (U2.fresh u3 (by intro x hx; simp at hx; omega))
  · simp at hc hc2
    rw [if_neg hc, if_pos hc2] at hK
    refine St3 (by simp [Value.oneCell']) fun w3 u3 hb3 => ?_
    simp only [NN_some, addN, drw_cell, drw_heap, exS, exI, exB, exP, exM, exStr, exV, a0, a1, a2, a3, a4, a5, a6, a7, a8, a9, a10, a11, a12, a13, maxI_eq, Nat.zero_add, Nat.add_zero, Nat.mul_one, Option.isNone_some, Option.isNone_none, hb3.cell]
    exact hK w3 (U2.fresh u3 (by intro x hx; simp at hx; omega))
  · simp at hc hc2 hc3
    rw [if_neg hc, if_neg hc2, if_pos hc3] at hK
    refine St3 (by simp [Value.oneCell']) fun w3 u3 hb3 => ?_
    simp only [NN_some, addN, drw_cell, drw_heap, exS, exI, exB, exP, exM, exStr, exV, a0, a1, a2, a3, a4, a5, a6, a7, a8, a9, a10, a11, a12, a13, maxI_eq, Nat.zero_add, Nat.add_zero, Nat.mul_one, Option.isNone_some, Option.isNone_none, hb3.cell]
    exact hK w3 (U2.fresh u3 (by intro x hx; simp at hx; omega))
  · simp at hc hc2 hc3
    rw [if_neg hc, if_neg hc2, if_neg hc3] at hK
    refine St3 (by simp [Value.oneCell']) fun w3 u3 hb3 => ?_
    simp only [NN_some, addN, drw_cell, drw_heap, exS, exI, exB, exP, exM, exStr, exV, a0, a1, a2, a3, a4, a5, a6, a7, a8, a9, a10, a11, a12, a13, maxI_eq, Nat.zero_add, Nat.add_zero, Nat.mul_one, Option.isNone_some, Option.isNone_none, hb3.cell]
    exact hK w3 (U2.fresh u3 (by intro x hx; simp at hx; omega))

theorem RFirst_ok {t0 t1 : Int} {t2 : ByteArray} {p : Option Addr} {n c : Nat} {k : Key} {K : Int → ByteArray → Int → World → Prop} (hh : HeadT w p n k) (hK : ∀ w', Upd [] w w' → K (firstK t0 n k).1 (firstK t0 n k).2.1 (firstK t0 n k).2.2 w') : C_ref18_First t0 t1 t2 p n c w K := by
  apply C_ref18_First.of
  unfold F_ref18_First
  refine New_rule fun r w1 hr u1 hb1 => New_rule fun q w2 hq u2 hb2 => ?_
  have hb1' := hb1.upd u2 (by simp)
  have U2 := u1.after u2
  have hs1 := u1.size
  unfold firstK at hK
  simp only [addN, Nat.zero_add, hb1'.cell, a0, a1, a2, a3, exI, exStr, exS]
  refine ifC (fun hc => ?_) (fun hc => ifC (fun hc2 => ?_) (fun hc2 => ?_))
  · simp at hc
    rw [if_pos (.inl hc)] at hK
    have St3 := fun {v0 v1 v2 : Value} {K : World → Prop} => @St3 w2 q _ v0 v1 v2 K hb2 rfl
    simp only [addN, Nat.zero_add] at St3
    refine St3 (by simp [Value.oneCell']) fun w3 u3 hb3 => ?_
    simp only [NN_some, addN, drw_cell, drw_heap, exS, exI, exB, exP, exM, exStr, exV, a0, a1, a2, a3, a4, a5, a6, a7, a8, a9, a10, a11, a12, a13, maxI_eq, Nat.zero_add, Nat.add_zero, Nat.mul_one, Option.isNone_some, Option.isNone_none, hb3.cell]
    exact hK w3 (U2.fresh u3 (by intro x hx; simp at hx; omega))
  · simp at hc hc2
    rw [if_pos (.inr hc2)] at hK
    have St3 := fun {v0 v1 v2 : Value} {K : World → Prop} => @St3 w2 q _ v0 v1 v2 K hb2 rfl
    simp only [addN, Nat.zero_add] at St3
    refine St3 (by simp [Value.oneCell']) fun w3 u3 hb3 => ?_
    simp only [NN_some, addN, drw_cell, drw_heap, exS, exI, exB, exP, exM, exStr, exV, a0, a1, a2, a3, a4, a5, a6, a7, a8, a9, a10, a11, a12, a13, maxI_eq, Nat.zero_add, Nat.add_zero, Nat.mul_one, Option.isNone_some, Option.isNone_none, hb3.cell]
    exact hK w3 (U2.fresh u3 (by intro x hx; simp at hx; omega))
  · simp at hc hc2
    rw [if_neg (by simp [hc, hc2])] at hK
    obtain ⟨x, a, b, s, q', m, c', h1, h2, h3, h4, h5, h6⟩ := (hh.keep U2) hc2
    subst h1 h6
    simp only [NN_some, addA, Int.toNat_zero, Nat.zero_mul, Nat.zero_add, Nat.add_zero, h2, h3, h4, h5, exI, exStr, exS]
    refine ⟨by omega, by omega, RKeyOf_ok fun w3 u3 => ?_⟩
    have hb3 := hb2.upd u3 (by simp)
    have St3 := fun {v0 v1 v2 : Value} {K : World → Prop} => @St3 w3 q _ v0 v1 v2 K hb3 rfl
    simp only [addN, Nat.zero_add] at St3
    refine St3 (by simp [Value.oneCell']) fun w4 u4 hb4 => ?_
    simp only [NN_some, addN, drw_cell, drw_heap, exS, exI, exB, exP, exM, exStr, exV, a0, a1, a2, a3, a4, a5, a6, a7, a8, a9, a10, a11, a12, a13, maxI_eq, Nat.zero_add, Nat.add_zero, Nat.mul_one, Option.isNone_some, Option.isNone_none, hb4.cell]
    exact hK w4 ((U2.after u3).fresh u4 (by intro x hx; simp at hx; omega))

theorem RMeet_ok {k k' : Key} {K : Bool → World → Prop} (hK : ∀ w', Upd [] w w' → K (meets k k') w') : C_ref18_Meet k.1 k.2.1 k.2.2 k'.1 k'.2.1 k'.2.2 w K := by
  rcases k with ⟨ka, kb, kc⟩
  rcases k' with ⟨ka', kb', kc'⟩
  dsimp only
  apply C_ref18_Meet.of
  unfold F_ref18_Meet F_ref18_Meet_k1
  refine New_rule fun r w1 hr u1 hb1 => New_rule fun q w2 hq u2 hb2 => ?_
  have hb1' := hb1.upd u2 (by simp)
  have U2 := u1.after u2
  simp only [addN, Nat.zero_add, hb1'.cell, hb2.cell, a0, a1, a2, a3, exI, exStr, exS]
  have := hK w2 U2
  unfold meets at this
  refine ifC (fun hc => ?_) (fun hc => ifC (fun hc2 => ?_) (fun hc2 => ?_))
  · simp at hc; simpa [hc] using this
  · simp at hc2; simpa [hc2] using this
  · simp at hc hc2
    have e2 : meets (ka, kb, kc) (ka', kb', kc') = decide (((ka, kb, kc) : Key) = (ka', kb', kc')) := by simp [meets, hc, hc2]
    rw [e2] at hK
    exact keyEq (hK w2 U2)

theorem SameInts_ok {p q : Option Addr} {n c m e : Nat} {L : List Int} {K : Bool → World → Prop} (hp : Rd w 1 p n (L.map (.int .i64))) (hq : Rd w 1 q m (L.map (.int .i64))) (hL : L.length < 2 ^ 40) (hK : ∀ w', Upd [] w w' → K true w') : C_ref15_SameInts p n c q m e w K := by
  apply C_ref15_SameInts.of
  unfold F_ref15_SameInts F_ref15_SameInts_L1
  have hn : n = L.length := by have := hp.1; simp at this; exact this.symm
  have hm : m = L.length := by have := hq.1; simp at this; exact this.symm
  refine ifF (by simp; omega) ⟨fun s v => 0 ≤ s.i ∧ s.i ≤ n ∧ Upd [] w v, fun s _ => (n - s.i).toNat, ⟨by simp, by simp, Upd.refl _ _⟩, ?_⟩
  rintro ⟨i⟩ v ⟨hi0, hi1, u⟩
  dsimp only at hi0 hi1
  unfold B_ref15_SameInts_L1
  dsimp only
  refine ifC (fun hc => ?_) (fun hc => hK v u)
  simp at hc
  obtain ⟨x, hx, hcx⟩ := (hp.keep u).at (i := i.toNat) (by omega)
  obtain ⟨y, hy, hcy⟩ := (hq.keep u).at (i := i.toNat) (by omega)
  have hil : i.toNat < L.length := by omega
  rw [List.getElem?_map, List.getElem?_eq_getElem hil] at hcx hcy
  simp only [Option.map_some] at hcx hcy
  simp only [NN_some, addN, drw_cell, drw_heap, exS, exI, exB, exP, exM, exStr, exV, a0, a1, a2, a3, a4, a5, a6, a7, a8, a9, a10, a11, a12, a13, maxI_eq, Nat.zero_add, Nat.add_zero, Nat.mul_one, Option.isNone_some, Option.isNone_none, hx, hy, hcx, hcy]
  refine ⟨hi0, hc, hi0, by omega, ifF (by simp) ?_⟩
  rw [i64id (by omega) (by omega)]
  exact ⟨⟨by omega, by omega, u.after (drw_upd v)⟩, by simp; omega⟩

end

end Go.Proofs.Ytpkfckfdehaamaa
