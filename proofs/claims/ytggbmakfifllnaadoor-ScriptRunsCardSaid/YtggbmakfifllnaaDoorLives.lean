/- What must come of every program. -/
import Derived.Test.YtggbmakfifllnaaDoorList2
namespace Go.Proofs.YtggbmakfifllnaaDoor
open Go Go.D Go.Proofs
set_option linter.unusedSimpArgs false
set_option linter.unusedVariables false
set_option maxRecDepth 8000

def scr1 : Scr := scrOf ⟨#[97, 46]⟩ ⟨#[98, 46]⟩ [0, 0, 0, 0, 0, -1] [64]
def code1 : List UInt8 := [4, 97, 46, 4, 98, 46, 0, 0, 0, 0, 0, 1, 2, 128, 1]

theorem vl_64 : vl 128 = [128, 1] := by rw [vl_ge (by omega), vl_lt (by omega)]; rfl
theorem enc1 : encS scr1 = code1 := by
  have h : ∀ n, zig n < 128 → enc n = [UInt8.ofNat (zig n)] := fun n h => vl_lt h
  have h64 : enc 64 = [128, 1] := vl_64
  unfold encS scr1 scrOf encT encL
  simp only [List.flatMap_cons, List.flatMap_nil, List.append_nil, h64, List.length_cons, List.length_nil]
  rw [h _ (by decide), h _ (by decide), h _ (by decide), h _ (by decide)]
  rfl

theorem fits1 : Fits ([0, 0, 0, 0, 0, -1] ++ [64]) := by unfold Fits; decide
theorem ok1 : scr1.ok := ⟨by decide, by decide, by decide, by decide, by unfold Fits; decide, by unfold Fits; decide⟩
theorem dec1 : dscr code1 = some scr1 := by rw [← enc1]; exact dscr_enc ok1
theorem dec2 : dscr [1] = none := by rfl

def evs1 : List Evn := [⟨1, [88, 32, 61, 32, 49]⟩, ⟨4, []⟩]
def run1 : Rn := ⟨4, evs1, [5, 0, 0, 0]⟩
theorem okr1 : run1.ok := ⟨by decide, by decide, by decide, by unfold Evn.ok; decide, by decide, by unfold Fits; decide⟩
theorem decr1 : drun (encR run1) = some run1 := drun_enc okr1
theorem lst1 : listP run1 = [97, 110, 115, 119, 101, 114, 32, 39, 88, 32, 61, 32, 49, 39, 10, 110, 111, 10, 100, 111, 110, 101, 10] := by decide +kernel

theorem ByS.nc {w0 w : World} {p : Option Addr} {n c : Nat} {l : List UInt8} (h : ByS w0 w p n c l) : n ≤ c := by obtain ⟨G, h, _⟩ := h; exact h.2.1

theorem ByS.byteAt {w0 w : World} {p : Option Addr} {n c : Nat} {l : List UInt8} (h : ByS w0 w p n c l) {i : Nat} (hi : i < l.length) : ∃ x, p = some x ∧ w.cell? (x.add i) = some (.int .u8 (l[i].toNat : Int)) := by
  have hn := h.len
  obtain ⟨x, hx, hc⟩ := h.rd.at (i := i) (by omega)
  exact ⟨x, hx, by rw [hc]; simp [bc, hi]⟩

theorem encE_len {e : Evn} (h : e.ok) : (encE e).length ≤ 20 + e.text.length := by
  have h1 := enc_len h.1 h.2.1
  have h2 := enc_len (n := (e.text.length : Int)) (by omega) (by have := h.2.2; omega)
  unfold encE encT
  simp only [List.length_append]
  omega

theorem flat_encE_len : ∀ {evs : List Evn}, (∀ e ∈ evs, e.ok) → (evs.flatMap encE).length ≤ 20 * evs.length + (evs.flatMap (·.text)).length
  | [], _ => by simp
  | e :: evs, h => by
    have h1 := encE_len (h e (by simp))
    have h2 := flat_encE_len (evs := evs) (fun x hx => h x (by simp [hx]))
    simp only [List.flatMap_cons, List.length_append, List.length_cons]
    omega

theorem encR_len {r : Rn} (h : r.ok) : (encR r).length ≤ 60 + 20 * r.evs.length + (r.evs.flatMap (·.text)).length := by
  have h1 := enc_len h.1 h.2.1
  have h2 := enc_len (n := (r.evs.length : Int)) (by omega) (by have := h.2.2.1; omega)
  have h3 := flat_encE_len h.2.2.2.1
  have h4 := encL_len h.2.2.2.2.2
  have h5 := h.2.2.2.2.1
  unfold encR
  simp only [List.length_append]
  omega

section
variable {w : World}

theorem scrOf_inj {a0 a1 b0 b1 : ByteArray} {xs ys c d : List Int} (h : scrOf a0 a1 xs c = scrOf b0 b1 ys d) : a0 = b0 ∧ a1 = b1 ∧ xs = ys ∧ c = d := by
  unfold scrOf at h
  simp only [Scr.mk.injEq] at h
  obtain ⟨h0, h1, h2, h3⟩ := h
  refine ⟨?_, ?_, h2, h3⟩
  · apply ByteArray.ext; exact Array.toList_inj.1 h0
  · apply ByteArray.ext; exact Array.toList_inj.1 h1

theorem lives_ok {K : Bool → World → Prop} (h : Tab w) (hK : ∀ w', Upd [] w w' → K true w') : C_law27_lives w K := by
  apply C_law27_lives.of
  unfold F_law27_lives
  refine BSl_rule (cs := [.int .i64 64]) eS_24 (fill_one rfl) (by rfl) (by omega) fun w1 hs1 u1 => ?_
  refine New_rule fun r w2 hr u2 b2 => ?_
  simp only [addN, Nat.zero_add]
  refine St9n b2 (by rfl) (by simp [Value.oneCell']) fun w3 u3 b3 => ?_
  simp only [NN_some, addN, drw_cell, drw_heap, exS, exI, exB, exP, exM, exStr, exV, a0, a1, a2, a3, a4, a5, a6, a7, a8, a9, a10, a11, a12, a13, maxI_eq, Nat.zero_add, Nat.add_zero, Nat.mul_one, Option.isNone_some, Option.isNone_none, b3.cell]
  have hs3 := (hs1.upd u2 (by intro k _ h; cases h)).upd u3 (by intro k hk h; simp at h; subst h; have := hs1.inn k hk; omega)
  have U3 : Upd [] w w3 := (u1.after u2).fresh u3 (by intro k hk; simp at hk; subst hk; have := u1.size; omega)
  refine Encode_both (col := [64]) hs3.rd (by decide) (by decide) (by decide) fits1 fun q m d e w4 u4 hy _ => ?_
  obtain ⟨rfl, B4⟩ := hy ⟨by decide, by decide, by decide⟩
  have e1 : encS (scrOf ⟨#[97, 46]⟩ ⟨#[98, 46]⟩ [0, 0, 0, 0, 0, -1] [64]) = code1 := enc1
  rw [e1] at B4
  have hm : m = 15 := B4.len
  subst hm
  refine Decode_ok B4.rd B4.nc (by decide) fun s0 s1 c1 c2 c3 c4 c5 c6 q2 m2 d2 col w5 u5 hd hq2 => ?_
  rw [dec1] at hd ⊢
  obtain ⟨rfl, rfl, hcc, rfl⟩ := scrOf_inj (show scrOf _ _ _ _ = scrOf _ _ _ _ from hd)
  simp only [List.cons.injEq, and_true] at hcc
  obtain ⟨rfl, rfl, rfl, rfl, rfl, rfl⟩ := hcc
  refine New_rule fun r1 w6 hr1 u6 b6 => ?_
  refine St9n b6 (by rfl) (by simp [Value.oneCell']) fun w7 u7 b7 => ?_
  have U67 : Upd [] w5 w7 := u6.fresh u7 (by intro k hk; simp at hk; omega)
  refine BSl_rule (cs := bc [1]) eS_28 (fill_one rfl) (by rfl) (by omega) fun w8 hs8 u8 => ?_
  refine Decode_ok hs8.rd (by omega) (by decide) fun s0 s1 c1 c2 c3 c4 c5 c6 q3 m3 d3 col w9 u9 hd3 hq3 => ?_
  rw [dec2] at hd3 ⊢
  refine New_rule fun r2 w10 hr2 u10 b10 => ?_
  refine St9n b10 (by rfl) (by simp [Value.oneCell']) fun w11 u11 b11 => ?_
  have U11 : Upd [] w9 w11 := u10.fresh u11 (by intro k hk; simp at hk; omega)
  refine BSlP_rule (hE := eS_41) (evs1.map fun e => .agg (evCells e).toArray) (by rfl) (by intro v hv; simp [evs1] at hv; rcases hv with h | h <;> (subst h; rfl)) rfl (by simp [evs1]) fun w12 hs12 _ u12 => ?_
  have hrow : ((evs1.map fun e => (.agg (evCells e).toArray : Value)).flatMap fun v => v.cells.toList) = evs1.flatMap evCells := rfl
  rw [hrow] at hs12
  refine New_rule fun r3 w13 hr3 u13 b13 => ?_
  refine St6n b13 (by rfl) (by simp [Value.oneCell']) fun w14 u14 b14 => ?_
  simp only [NN_some, addN, drw_cell, drw_heap, exS, exI, exB, exP, exM, exStr, exV, a0, a1, a2, a3, a4, a5, a6, a7, a8, a9, a10, a11, a12, a13, maxI_eq, Nat.zero_add, Nat.add_zero, Nat.mul_one, Option.isNone_some, Option.isNone_none, b14.cell]
  have hs14 := (hs12.upd u13 (by intro k _ h; cases h)).upd u14 (by intro k hk h; simp at h; subst h; have := hs12.inn k hk; omega)
  have U14 : Upd [] w12 w14 := u13.fresh u14 (by intro k hk; simp at hk; omega)
  refine EncodeRun_both (evs := evs1) (tag := 4) (x2 := 5) (x3 := 0) (x4 := 0) (x5 := 0) hs14.rd ?_ (by decide) (by unfold Fits; decide) (fun e he x hx => by simp at hx; subst hx; have := okr1.2.2.2.1 e he; exact ⟨this.1, this.2.1⟩) fun q4 m4 d4 e4 w15 u15 hy4 _ => ?_
  · have := flat_encE_len (evs := evs1) okr1.2.2.2.1
    have h2 : (evs1.flatMap (·.text)).length = 5 := by decide
    have h3 : evs1.length = 2 := by decide
    omega
  obtain ⟨rfl, B15⟩ := hy4 ⟨by decide, fun e he => (okr1.2.2.2.1 e he).2.2⟩
  have B15' : ByS w14 w15 q4 m4 d4 (encR run1) := B15
  have hlen15 : (encR run1).length < 2 ^ 40 := by
    have := encR_len okr1
    have h2 : (evs1.flatMap (·.text)).length = 5 := by decide
    have h3 : evs1.length = 2 := by decide
    simp only [run1] at this ⊢
    omega
  refine DecodeRun_ok B15'.rd B15'.nc hlen15 fun tag q5 m5 d5 c2 c3 c4 c5 es w16 u16 hd5 hq5 => ?_
  rw [decr1] at hd5 ⊢
  obtain ⟨rfl, rfl, hcc⟩ : 4 = tag ∧ evs1 = es ∧ [5, 0, 0, 0] = [c2, c3, c4, c5] := by
    have : run1 = ⟨tag, es, [c2, c3, c4, c5]⟩ := hd5
    unfold run1 at this
    simp only [Rn.mk.injEq] at this
    exact this
  simp only [List.cons.injEq, and_true] at hcc
  obtain ⟨rfl, rfl, rfl, rfl⟩ := hcc
  refine New_rule fun r4 w17 hr4 u17 b17 => ?_
  refine St6n b17 (by rfl) (by simp [Value.oneCell']) fun w18 u18 b18 => ?_
  have U18 : Upd [] w16 w18 := u17.fresh u18 (by intro k hk; simp at hk; omega)
  -- what is still there
  have Ua : Upd [] w4 w18 := (((((((((u5.after U67).after u8).after u9).after U11).after u12).after U14).after u15).after u16).after U18)
  have B18 := B4.keep Ua
  have Ub : Upd [] w3 w18 := u4.after Ua
  have b3' := b3.upd Ub (by simp)
  have Uc : Upd [] w7 w18 := (((((((u8.after u9).after U11).after u12).after U14).after u15).after u16).after U18)
  have b7' := b7.upd Uc (by simp)
  have Ud : Upd [] w14 w18 := (u15.after u16).after U18
  have b14' := b14.upd Ud (by simp)
  have gb : ∀ {i : Nat} {x : UInt8} {A : Addr → Prop}, code1[i]? = some x → (∀ a, w18.cell? (a.add (i * 1)) = some (.int .u8 (x.toNat : Int)) → A a) → NN q A := by
    intro i x A hx hA
    obtain ⟨hi, hx⟩ := List.getElem?_eq_some_iff.1 hx
    obtain ⟨a, ha, hc⟩ := B18.byteAt hi
    exact ⟨a, ha, hA a (by rw [Nat.mul_one, hc, hx])⟩
  refine ifT (by decide) (ifT (by decide) ?_)
  refine ⟨by decide, by decide, gb (i := 0) rfl fun a ha => ⟨_, ha, ifT (by decide) ?_⟩⟩
  refine ⟨by decide, by decide, gb (i := 11) rfl fun a ha => ⟨_, ha, ifT (by decide) ?_⟩⟩
  refine ⟨by decide, by decide, gb (i := 13) rfl fun a ha => ⟨_, ha, ifT (by decide) ?_⟩⟩
  refine ⟨by decide, by decide, gb (i := 14) rfl fun a ha => ⟨_, ha, ifT (by decide) ?_⟩⟩
  refine ifT (by decide) ?_
  simp only [NN_some, addN, drw_cell, drw_heap, exS, exI, exB, exP, exM, exStr, exV, a0, a1, a2, a3, a4, a5, a6, a7, a8, a9, a10, a11, a12, a13, maxI_eq, Nat.zero_add, Nat.add_zero, Nat.mul_one, Option.isNone_some, Option.isNone_none, b7'.cell, b3'.cell]
  have hcol : Rd w18 1 (some ⟨w.heap.size, 0, none⟩) 1 ([64].map (.int .i64)) := hs3.rd.keep Ub
  have hcol2 : Rd w18 1 q2 m2 ([64].map (.int .i64)) := hq2.keep (U67.after Uc)
  refine Same_ok hcol2 hcol (by decide) fun w19 u19 => ?_
  refine ifT (by decide) ?_
  refine ifT (by decide) (ifT (by decide) (ifT (by decide) ?_))
  have b18' := b18.upd u19 (by simp)
  have b14'' := b14'.upd u19 (by simp)
  simp only [NN_some, addN, drw_cell, drw_heap, exS, exI, exB, exP, exM, exStr, exV, a0, a1, a2, a3, a4, a5, a6, a7, a8, a9, a10, a11, a12, a13, maxI_eq, Nat.zero_add, Nat.add_zero, Nat.mul_one, Option.isNone_some, Option.isNone_none, b18'.cell, b14''.cell]
  have hev : Rd w19 2 (some ⟨w11.heap.size, 0, none⟩) 2 (evs1.flatMap evCells) := (hs14.rd.keep Ud).keep u19
  have hev2 : Rd w19 2 q5 m5 (evs1.flatMap evCells) := (hq5.keep U18).keep u19
  refine SameRun_ok hev2 hev (by decide) fun w20 u20 => ?_
  refine ifT (by decide) ?_
  have b14c := b14''.upd u20 (by simp)
  simp only [NN_some, addN, drw_cell, drw_heap, exS, exI, exB, exP, exM, exStr, exV, a0, a1, a2, a3, a4, a5, a6, a7, a8, a9, a10, a11, a12, a13, maxI_eq, Nat.zero_add, Nat.add_zero, Nat.mul_one, Option.isNone_some, Option.isNone_none, b14c.cell]
  have Uall : Upd [] w w20 := ((U3.after Ub).after u19).after u20
  refine Listing_ok (h.keep Uall) (hev.keep u20) (by decide) (by decide) fun w21 u21 => ?_
  have hl : listP ⟨4, evs1, [5, 0, 0, 0]⟩ = [97, 110, 115, 119, 101, 114, 32, 39, 88, 32, 61, 32, 49, 39, 10, 110, 111, 10, 100, 111, 110, 101, 10] := lst1
  rw [hl]
  simp only [beq_self_eq_true]
  exact hK w21 (Uall.after u21)
end

end Go.Proofs.YtggbmakfifllnaaDoor
