/- Decode, from its beginning. -/
import Derived.Test.YtggbmakfifllnaaDoorDec3
namespace Go.Proofs.YtggbmakfifllnaaDoor
open Go Go.D Go.Proofs
set_option linter.unusedSimpArgs false
set_option linter.unusedVariables false
set_option maxRecDepth 8000

/-- No script. -/
def noScr : Scr := scrOf ⟨#[]⟩ ⟨#[]⟩ [0, 0, 0, 0, 0, 0] []

theorem otext_le {st : Option (List UInt8)} {r : List UInt8} (h : (otext st).2 = some r) : ∃ l, st = some l ∧ r.length ≤ l.length := by
  rcases st with _ | l
  · simp [otext] at h
  · rcases hd : dtext l with _ | ⟨x, r'⟩
    · simp [otext, hd] at h
    · simp [otext, hd] at h
      subst h
      exact ⟨l, rfl, dtext_len hd⟩

theorem texts_le {l r : List UInt8} (h : (otext (otext (some l)).2).2 = some r) : r.length ≤ l.length := by
  obtain ⟨l1, h1, h2⟩ := otext_le h
  obtain ⟨l2, h3, h4⟩ := otext_le h1
  simp at h3
  subst h3
  omega

theorem Rd_lo {w : World} {p : Option Addr} {n : Nat} {cs : List Value} (h : Rd w 1 p n cs) {b : Nat} (hb : w.heap.size ≤ b) : Lo p n w.heap.size b := ⟨hb, Rd_low h (by omega)⟩

section
variable {w : World} {p : Option Addr} {n c : Nat} {l : List UInt8}

theorem Decode_ok {K : ByteArray → ByteArray → Int → Int → Int → Int → Int → Int → Option Addr → Nat → Nat → Int → World → Prop} (hp : Rd w 1 p n (bc l)) (hnc : n ≤ c) (hlen : l.length < 2 ^ 40)
    (hK : ∀ s0 s1 c1 c2 c3 c4 c5 c6 q m d col w', Upd [] w w' → (dscr l).getD noScr = scrOf s0 s1 [c1, c2, c3, c4, c5, c6] col → Rd w' 1 q m (col.map (.int .i64)) → K s0 s1 c1 c2 c3 c4 c5 c6 q m d (if (dscr l).isSome then 0 else 270) w') :
    C_script_Decode p n c w K := by
  apply C_script_Decode.of
  unfold F_script_Decode
  refine New_rule fun r w1 hr u1 b0 => ?_
  refine New_rule fun r1 w2 hr1 u2 b1 => ?_
  refine New_rule fun r2 w3 hr2 u3 b2 => ?_
  simp only [NN_some, addN, drw_cell, drw_heap, exS, exI, exB, exP, exM, exStr, exV, a0, a1, a2, a3, a4, a5, a6, a7, a8, a9, a10, a11, a12, a13, maxI_eq, Nat.zero_add, Nat.add_zero, Nat.mul_one, Option.isNone_some, Option.isNone_none]
  have h01 : r < r1 := by have := b0.lt; omega
  have h12 : r1 < r2 := by have := b1.lt; omega
  refine St_rule b2 (by simp) rfl fun w4 u4 b2 => ?_
  simp at b2
  have b04 := ((b0.upd u2 (by simp)).upd u3 (by simp)).upd u4 (by simp; omega)
  have b14 := (b1.upd u3 (by simp)).upd u4 (by simp; omega)
  have uw4 : Upd [] w w4 := ((u1.after u2).after u3).fresh u4 (by simp; have := u1.size; have := u2.size; omega)
  have R0 : RdO w.heap.size (drw w4) r1 (some l) := ⟨p, n, c, b14.drw, hp.keep (uw4.before (drw_upd w4)), hnc, Rd_lo hp (by omega)⟩
  have ud : Upd [] w4 (drw w4) := drw_upd w4
  have uds := ud.size
  obtain ⟨t0, ht0⟩ : ∃ t, t = otext (some l) := ⟨_, rfl⟩
  obtain ⟨t1, ht1⟩ : ∃ t, t = otext t0.2 := ⟨_, rfl⟩
  have hdscr : dscr l = (fin t1.2).map fun ns => ⟨t0.1, t1.1, (onums 6 t1.2).1, ns⟩ := by rw [ht1, ht0]; exact dscr_fin l
  have hst : ∀ l', t1.2 = some l' → l'.length < 2 ^ 40 := fun l' h => by
    rw [ht1, ht0] at h
    have := texts_le h; omega
  -- the end
  have fini : ∀ (r3 : Nat) (v : World), r2 < r3 → Upd [r1] (drw w4) v → Blk v r3 #[.string ⟨t0.1.toArray⟩, .string ⟨t1.1.toArray⟩, .int .i64 0, .int .i64 0, .int .i64 0, .int .i64 0, .int .i64 0, .int .i64 0, .slice none 0 0] → RdO w.heap.size v r1 t1.2 → F_script_Decode_k1 K r r2 ⟨r3, 0, none⟩ v := by
    intro r3 v h23 hu b3 hR
    have hwv : Upd [] w v := (uw4.before ud).fresh hu (by simp; have := u1.size; omega)
    have hfr : ∀ w', Upd [r, r1, r3] v w' → Upd [] w w' := fun w' h => hwv.fresh h (by simp; have := u1.size; have := u2.size; omega)
    refine dec_k1 (by omega) h01 h12 h23 hst ((b04.upd ud (by simp)).upd hu (by simp; omega)) ((b2.upd ud (by simp)).upd hu (by simp; omega)) b3 hR (fun c1 c2 c3 c4 c5 c6 q m d ns w' hf hc hu' hrd => ?_) (fun w' hf hu' => ?_)
    · rw [hf, hc] at hdscr
      have := hK ⟨t0.1.toArray⟩ ⟨t1.1.toArray⟩ c1 c2 c3 c4 c5 c6 q m d ns w' (hfr w' hu') (by rw [hdscr]; simp [scrOf]) hrd
      rw [hdscr] at this
      simpa using this
    · rw [hf] at hdscr
      have := hK ⟨#[]⟩ ⟨#[]⟩ 0 0 0 0 0 0 none 0 0 [] w' (hfr w' hu') (by rw [hdscr]; rfl) ⟨rfl, .inl rfl⟩
      rw [hdscr] at this
      simpa using this
  simp only [b2.cell, NN_some, addN, drw_cell, drw_heap, exS, exI, exB, exP, exM, exStr, exV, a0, a1, a2, a3, a4, a5, a6, a7, a8, a9, a10, a11, a12, a13, maxI_eq, Nat.zero_add, Nat.add_zero, Nat.mul_one, Option.isNone_some, Option.isNone_none]
  refine ⟨?_, ?_⟩
  · refine textO R0 fun w5 R1 u5 => ?_
    rw [← ht0] at R1 ⊢
    have hb5 := (b2.upd ud (by simp)).upd u5 (by simp; omega)
    refine ⟨by rw [hb5.cell]; rfl, ?_, ?_⟩
    · refine textO R1 fun w6 R2 u6 => ?_
      rw [← ht1] at R2 ⊢
      refine New_rule fun r3 w7 hr3 u7 b3 => ?_
      try simp only [NN_some, addN, drw_cell, drw_heap, exS, exI, exB, exP, exM, exStr, exV, a0, a1, a2, a3, a4, a5, a6, a7, a8, a9, a10, a11, a12, a13, maxI_eq, Nat.zero_add, Nat.add_zero, Nat.mul_one, Option.isNone_some, Option.isNone_none]
      refine St9n b3 (by simp) (by simp [Value.oneCell']) fun w8 u8 b3' => ?_
      have hr2l := ((b2.upd ud (by simp)).upd (u5.both u6) (by simp; omega)).lt
      refine fini r3 w8 (by omega) (((u5.both u6).before u7).trans u8 (fun x hx => .inl hx) (by simp; have := (u5.both u6).size; omega)) b3' ?_
      exact (R2.upd u7 (by simp) (by simp)).upd u8 (by simp; omega) (by simp; have := R2.low; omega)
    · refine New_rule fun r3 w7 hr3 u7 b3 => ?_
      have hb7 := hb5.upd u7 (by simp)
      refine ⟨by rw [hb7.cell]; rfl, ?_⟩
      refine textO (R1.upd u7 (by simp) (by simp)) fun w6 R2 u6 => ?_
      rw [← ht1] at R2 ⊢
      try simp only [NN_some, addN, drw_cell, drw_heap, exS, exI, exB, exP, exM, exStr, exV, a0, a1, a2, a3, a4, a5, a6, a7, a8, a9, a10, a11, a12, a13, maxI_eq, Nat.zero_add, Nat.add_zero, Nat.mul_one, Option.isNone_some, Option.isNone_none]
      have hr2l := hb5.lt
      refine St9n (b3.upd u6 (by simp; omega)) (by simp) (by simp [Value.oneCell']) fun w8 u8 b3' => ?_
      refine fini r3 w8 (by omega) (((u5.before u7).both u6).trans u8 (fun x hx => .inl hx) (by simp; have := u5.size; omega)) b3' ?_
      exact R2.upd u8 (by simp; omega) (by simp; have := R2.low; omega)
  · refine New_rule fun r3 w7 hr3 u7 b3 => ?_
    have hb7 := (b2.upd ud (by simp)).upd u7 (by simp)
    refine ⟨by rw [hb7.cell]; rfl, by rw [hb7.cell]; rfl, ?_⟩
    refine textO (R0.upd u7 (by simp) (by simp)) fun w5 R1 u5 => ?_
    rw [← ht0] at R1 ⊢
    have hb5 := hb7.upd u5 (by simp; omega)
    refine ⟨by rw [hb5.cell]; rfl, ?_⟩
    refine textO R1 fun w6 R2 u6 => ?_
    rw [← ht1] at R2 ⊢
    try simp only [NN_some, addN, drw_cell, drw_heap, exS, exI, exB, exP, exM, exStr, exV, a0, a1, a2, a3, a4, a5, a6, a7, a8, a9, a10, a11, a12, a13, maxI_eq, Nat.zero_add, Nat.add_zero, Nat.mul_one, Option.isNone_some, Option.isNone_none]
    have hr2l := (b2.upd ud (by simp)).lt
    refine St9n (b3.upd (u5.both u6) (by simp; omega)) (by simp) (by simp [Value.oneCell']) fun w8 u8 b3' => ?_
    refine fini r3 w8 (by omega) ((u7.after (u5.both u6)).trans u8 (fun x hx => .inl hx) (by simp; omega)) b3' ?_
    exact R2.upd u8 (by simp; omega) (by simp; have := R2.low; omega)
end

end Go.Proofs.YtggbmakfifllnaaDoor
