/- The document's DecodeRun. -/
import Derived.Test.YtggbmakfifllnaaDoorRun
namespace Go.Proofs.YtggbmakfifllnaaDoor
open Go Go.D Go.Proofs
set_option linter.unusedSimpArgs false
set_option linter.unusedVariables false
set_option maxRecDepth 8000

section
variable {N : Nat} {v M : World} {r r1 r2 r3 : Nat} {tag : Int} {st : Option (List UInt8)}

theorem rrun_bad {n : Int} {K : World → Prop} (h : RdO N M r1 none) (hK : K M) : F_ref27_DecodeRun_L1 ⟨r, 0, none⟩ ⟨r1, 0, none⟩ ⟨r3, 0, none⟩ n ⟨0⟩ M K := by
  obtain ⟨l, p, m, c, z1, z2, z3, z4⟩ := h
  unfold F_ref27_DecodeRun_L1
  refine ⟨fun s w => w = M, fun _ _ => 0, rfl, ?_⟩
  rintro s w rfl
  unfold B_ref27_DecodeRun_L1
  simp only [NN_some, addN, drw_cell, drw_heap, exS, exI, exB, exP, exM, exStr, exV, a0, a1, a2, a3, a4, a5, a6, a7, a8, a9, a10, a11, a12, a13, maxI_eq, Nat.zero_add, Nat.add_zero, Nat.mul_one, Option.isNone_some, Option.isNone_none, z1.cell]
  exact ifC (fun _ => ifF rfl hK) (fun _ => hK)

/-- A number of a good reader. -/
theorem rnumberG {l : List UInt8} {K : Int → World → Prop} (h : RdAt N v r1 l false) (hK : ∀ w', RdO N w' r1 (onum (some l)).2 → Upd [r1] v w' → K (onum (some l)).1 w') : C_ref27_reader_number (some ⟨r1, 0, none⟩) v K := by
  refine rnumber_ok h (fun x r w' hd h' u => ?_) (fun w' hd h' u => ?_)
  · have e : onum (some l) = (x, some r) := by simp [onum, hd]
    rw [e] at hK; exact hK w' h' u
  · have e : onum (some l) = (0, none) := by simp [onum, hd]
    rw [e] at hK; exact hK w' ⟨[], h'⟩ u

theorem rrun_loop {n : Int} {l3 : List UInt8} {K : World → Prop} (hl3 : l3.length < 2 ^ 40) (hn : 0 ≤ n ∧ n ≤ 10000) (h13 : r1 < r3) (h : RdAt N M r1 l3 false)
    (hb3 : Blk M r3 #[.int .i64 tag, .slice none 0 0, .int .i64 0, .int .i64 0, .int .i64 0, .int .i64 0])
    (hK : ∀ w' st2 cp cn cc, RdO N w' r1 st2 → Upd [r1, r3] M w' → Blk w' r3 #[.int .i64 tag, .slice cp cn cc, .int .i64 0, .int .i64 0, .int .i64 0, .int .i64 0] → (match devs n.toNat l3 with
      | none => st2 = none
      | some (es, q) => st2 = some q ∧ ∃ G, SlAt w' 2 cp cn cc (es.flatMap evCells) G ∧ ∀ k ∈ G, M.heap.size ≤ k) → K w') :
    F_ref27_DecodeRun_L1 ⟨r, 0, none⟩ ⟨r1, 0, none⟩ ⟨r3, 0, none⟩ n ⟨0⟩ M K := by
  have hN : N ≤ r1 := by obtain ⟨p, m, c, _, _, _, z⟩ := h; exact z.1
  have h3M := hb3.lt
  unfold F_ref27_DecodeRun_L1
  refine ⟨fun s v => ∃ i : Nat, s.i = i ∧ i ≤ n.toNat ∧ SEv N M r1 r3 tag l3 i v, fun s _ => (n - s.i).toNat, ⟨0, rfl, by omega, Upd.refl _ _, none, 0, 0, hb3, h, [], SlAt.nil M 2, by simp⟩, ?_⟩
  rintro ⟨t⟩ v ⟨i, rfl, hi, hu, cp, cn, cc, hb, hm⟩
  unfold B_ref27_DecodeRun_L1
  dsimp only
  rcases hd : devs i l3 with _ | ⟨es, q⟩
  · rw [hd] at hm
    have hnone : devs n.toNat l3 = none := by
      have := devs_more hd (n.toNat - i)
      rwa [show i + (n.toNat - i) = n.toNat by omega] at this
    obtain ⟨l', hr⟩ := hm
    have hr' := hr
    obtain ⟨p, m, c, z1, z2, z3, z4⟩ := hr
    have hk : K v := hK v none cp cn cc ⟨l', hr'⟩ hu hb (by rw [hnone])
    simp only [NN_some, addN, drw_cell, drw_heap, exS, exI, exB, exP, exM, exStr, exV, a0, a1, a2, a3, a4, a5, a6, a7, a8, a9, a10, a11, a12, a13, maxI_eq, Nat.zero_add, Nat.add_zero, Nat.mul_one, Option.isNone_some, Option.isNone_none, z1.cell]
    exact ifC (fun _ => ifF rfl hk) (fun _ => hk)
  · rw [hd] at hm
    obtain ⟨hr, G, hs, hG⟩ := hm
    have hnl := devs_len hd
    refine ifC (fun hc => ?_) (fun hc => ?_)
    · simp at hc
      have hr' := hr
      obtain ⟨p, m, c, z1, z2, z3, z4⟩ := hr
      simp only [NN_some, addN, drw_cell, drw_heap, exS, exI, exB, exP, exM, exStr, exV, a0, a1, a2, a3, a4, a5, a6, a7, a8, a9, a10, a11, a12, a13, maxI_eq, Nat.zero_add, Nat.add_zero, Nat.mul_one, Option.isNone_some, Option.isNone_none, z1.cell]
      refine ifT rfl ?_
      have hd1 : devs (i + 1) l3 = match dev q with
        | none => none
        | some (e, r') => some (es ++ [e], r') := by rw [devs, hd]; rfl
      refine rnumberG hr' fun w1 R1 u1 => ?_
      have hb1 := hb.upd u1 (by simp; omega)
      simp only [NN_some, addN, drw_cell, drw_heap, exS, exI, exB, exP, exM, exStr, exV, a0, a1, a2, a3, a4, a5, a6, a7, a8, a9, a10, a11, a12, a13, maxI_eq, Nat.zero_add, Nat.add_zero, Nat.mul_one, Option.isNone_some, Option.isNone_none, hb1.cell]
      refine rrtextO (R1.upd (drw_upd w1) (by simp) (by simp)) fun w2 R2 u2 => ?_
      have u2' : Upd [r1] v w2 := u1.both ((drw_upd w1).after u2)
      have hb22 := hb.upd u2' (by simp; omega)
      simp only [NN_some, addN, drw_cell, drw_heap, exS, exI, exB, exP, exM, exStr, exV, a0, a1, a2, a3, a4, a5, a6, a7, a8, a9, a10, a11, a12, a13, maxI_eq, Nat.zero_add, Nat.add_zero, Nat.mul_one, Option.isNone_some, Option.isNone_none, hb22.cell]
      refine ⟨trivial, put_ev (by omega) hN (by omega) h3M hu hb hs hG u2' fun w' cp cn cc G' g1 g2 g3 g4 g5 => ⟨⟨i + 1, by rw [i64id (by omega) (by omega)]; simp, by omega, g1, cp, cn, cc, g2, ?_⟩, by rw [i64id (by omega) (by omega)]; omega⟩⟩
      rw [hd1]
      unfold dev
      rcases h1 : dnum q with _ | ⟨k, q1⟩
      · have e1 : onum (some q) = (0, none) := by simp [onum, h1]
        rw [e1] at R2
        obtain ⟨l', R2⟩ : ∃ l', RdAt N w2 r1 l' true := by simpa [otext, RdO] using R2
        exact ⟨l', g5 _ _ R2⟩
      · have e1 : onum (some q) = (k, some q1) := by simp [onum, h1]
        rw [e1] at R2 g3
        simp only
        rcases h2 : dtext q1 with _ | ⟨t, q2⟩
        · have e2 : otext (some q1) = ([], none) := by simp [otext, h2]
          simp only [e2] at R2
          obtain ⟨l', R2⟩ := R2
          exact ⟨l', g5 _ _ R2⟩
        · have e2 : otext (some q1) = (t, some q2) := by simp [otext, h2]
          simp only [e2] at R2 g3
          exact ⟨g5 _ _ R2, G', g3, g4⟩
    · simp at hc
      obtain rfl : i = n.toNat := by omega
      exact hK v (some q) cp cn cc hr hu hb (by rw [hd]; exact ⟨rfl, G, hs, hG⟩)

theorem RDecodeRun_ok {w : World} {p : Option Addr} {n c : Nat} {l : List UInt8} {K : Int → Option Addr → Nat → Nat → Int → Int → Int → Int → Bool → World → Prop} (hp : Rd w 1 p n (bc l)) (hnc : n ≤ c) (hlen : l.length < 2 ^ 40)
    (hK : ∀ tag q m d c2 c3 c4 c5 es w', Upd [] w w' → (drun l).getD noRun = ⟨tag, es, [c2, c3, c4, c5]⟩ → Rd w' 2 q m (es.flatMap evCells) → K tag q m d c2 c3 c4 c5 (drun l).isSome w') :
    C_ref27_DecodeRun p n c w K := by
  apply C_ref27_DecodeRun.of
  unfold F_ref27_DecodeRun
  refine New_rule fun r w1 hr u1 b0 => ?_
  refine New_rule fun r1 w2 hr1 u2 b1 => ?_
  have h01 : r < r1 := by have := b0.lt; omega
  have R0 : RdAt w.heap.size w2 r1 l false := ⟨p, n, c, b1, hp.keep (u1.after u2), hnc, Rd_lo hp (by omega)⟩
  obtain ⟨t0, ht0⟩ : ∃ t, t = onum (some l) := ⟨_, rfl⟩
  refine rnumberG R0 fun w3 R1 u3 => ?_
  rw [← ht0] at R1 ⊢
  refine New_rule fun r3 w5 hr3 u5 b3 => ?_
  simp only [NN_some, addN, drw_cell, drw_heap, exS, exI, exB, exP, exM, exStr, exV, a0, a1, a2, a3, a4, a5, a6, a7, a8, a9, a10, a11, a12, a13, maxI_eq, Nat.zero_add, Nat.add_zero, Nat.mul_one, Option.isNone_some, Option.isNone_none, Nat.reduceAdd]
  refine St6n b3 (by simp) (by simp [Value.oneCell']) fun w6 u6 b3' => ?_
  have h13 : r1 < r3 := by have := R1.lt; omega
  have uw2 : Upd [] w w2 := u1.after u2
  have u26 : Upd [r1] w2 w6 := (u3.before u5).trans u6 (fun x hx => .inl hx) (by simp; have := u3.size; omega)
  have R3 : RdO w.heap.size w6 r1 t0.2 := (R1.upd u5 (by simp) (by simp)).upd u6 (by simp; omega) (by simp; have := R1.low; omega)
  have hlow := R3.low
  have hwu : ∀ {w'}, Upd [r1, r3] w6 w' → Upd [] w w' := fun h => uw2.fresh ((u26.mono (by intro k hk; simp at hk; simp [hk])).both h) (by simp; have := u1.size; have := u26.size; have := u2.size; omega)
  have b0' : ∀ {w'}, Upd [r1, r3] w6 w' → Blk w' r #[.int .i64 0, .slice none 0 0, .int .i64 0, .int .i64 0, .int .i64 0, .int .i64 0] := fun h => ((b0.upd u2 (by simp)).upd u26 (by simp; omega)).upd h (by simp; omega)
  have hfr : ∀ {w' w''}, Upd [r1, r3] w6 w' → Upd [r] w' w'' → Upd [] w w'' := fun h h' => (hwu h).fresh h' (by simp; omega)
  have hst0 : ∀ l', t0.2 = some l' → l'.length < 2 ^ 40 := fun l' h => by
    rw [ht0] at h
    have := onum_len (l := l) h (fun l' h' => by simp at h'; rw [h']; exact Nat.le_refl _)
    omega
  have ebad : ∀ {w'}, drun l = none → Upd [] w w' → K 0 none 0 0 0 0 0 0 false w' := by
    intro w' hd hu
    have := hK 0 none 0 0 0 0 0 0 [] w' hu (by rw [hd]; rfl) ⟨rfl, .inl rfl⟩
    rw [hd] at this
    exact this
  -- the numbers behind the row
  have tl : ∀ (v : World) (st2 : Option (List UInt8)) (cp : Option Addr) (cn cc : Nat) (M : World), r3 < M.heap.size → RdO w.heap.size v r1 st2 → Upd [r1, r3] w6 v → Blk v r3 #[.int .i64 t0.1, .slice cp cn cc, .int .i64 0, .int .i64 0, .int .i64 0, .int .i64 0] → EvOut M v t0.2 st2 cp cn cc → ∀ (K' : Int → Int → Int → Int → World → Prop),
      (∀ t41 t44 t47 t50 w', (∃ st4, RdO w.heap.size w' r1 st4 ∧ Upd [r1, r3] w6 w' ∧ ((st4 ≠ some [] → drun l = none) ∧ (st4 = some [] → ∃ es G, drun l = some ⟨t0.1, es, [t41, t44, t47, t50]⟩ ∧ Blk w' r3 #[.int .i64 t0.1, .slice cp cn cc, .int .i64 t41, .int .i64 t44, .int .i64 t47, .int .i64 t50] ∧ SlAt w' 2 cp cn cc (es.flatMap evCells) G ∧ r ∉ G))) → K' t41 t44 t47 t50 w') →
      C_ref27_reader_number (some ⟨r1, 0, none⟩) v fun t41 w1_17 => St w1_17 ⟨r3, 2, none⟩ (.int .i64 t41) fun w1_18 =>
      C_ref27_reader_number (some ⟨r1, 0, none⟩) w1_18 fun t44 w1_19 => St w1_19 ⟨r3, 3, none⟩ (.int .i64 t44) fun w1_20 =>
      C_ref27_reader_number (some ⟨r1, 0, none⟩) w1_20 fun t47 w1_21 => St w1_21 ⟨r3, 4, none⟩ (.int .i64 t47) fun w1_22 =>
      C_ref27_reader_number (some ⟨r1, 0, none⟩) w1_22 fun t50 w1_23 => St w1_23 ⟨r3, 5, none⟩ (.int .i64 t50) fun w' => K' t41 t44 t47 t50 w' := by
    intro v st2 cp cn cc M hM Q U B C K' hK'
    obtain ⟨eb, eg⟩ := run_end ht0 C
    have o4 : onums 4 st2 = ([(onum st2).1, (onum (onum st2).2).1, (onum (onum (onum st2).2).2).1, (onum (onum (onum (onum st2).2).2).2).1], (onum (onum (onum (onum st2).2).2).2).2) := rfl
    rw [o4] at eb eg
    refine rnumberO Q fun x1 v1 A1 Q1 U1 => ?_
    have B1 := B.upd U1 (by simp; omega)
    refine St_rule B1 (by simp) rfl fun v2 U2 B2 => ?_
    simp at B2
    refine rnumberO (Q1.upd U2 (by simp; omega) (by simp; omega)) fun x2 v3 A2 Q2 U3 => ?_
    have B3 := B2.upd U3 (by simp; omega)
    refine St_rule B3 (by simp) rfl fun v4 U4 B4 => ?_
    simp at B4
    refine rnumberO (Q2.upd U4 (by simp; omega) (by simp; omega)) fun x3 v5 A3 Q3 U5 => ?_
    have B5 := B4.upd U5 (by simp; omega)
    refine St_rule B5 (by simp) rfl fun v6 U6 B6 => ?_
    simp at B6
    refine rnumberO (Q3.upd U6 (by simp; omega) (by simp; omega)) fun x4 v7 A4 Q4 U7 => ?_
    have B7 := B6.upd U7 (by simp; omega)
    refine St_rule B7 (by simp) rfl fun v8 U8 B8 => ?_
    simp at B8
    have UU : Upd [r1, r3] v v8 := (U1.mono (by intro k hk; simp at hk; simp [hk])).both ((U2.mono (by intro k hk; simp at hk; simp [hk])).both ((U3.mono (by intro k hk; simp at hk; simp [hk])).both ((U4.mono (by intro k hk; simp at hk; simp [hk])).both ((U5.mono (by intro k hk; simp at hk; simp [hk])).both ((U6.mono (by intro k hk; simp at hk; simp [hk])).both ((U7.mono (by intro k hk; simp at hk; simp [hk])).both (U8.mono (by intro k hk; simp at hk; simp [hk]))))))))
    refine hK' x1 x2 x3 x4 v8 ⟨_, Q4.upd U8 (by simp; omega) (by simp; omega), U.both UU, eb, fun h => ?_⟩
    obtain ⟨es, G, hd, hs, hG⟩ := eg h
    have i4 : (onum (onum (onum (onum st2).2).2).2).2.isSome = true := by rw [h]; rfl
    have i3 := onum_prev i4
    have i2 := onum_prev i3
    have i1 := onum_prev i2
    refine ⟨es, G, by rw [hd, A1 i1, A2 i2, A3 i3, A4 i4], B8, hs.upd UU (fun k hk => by have := hG k hk; simp; omega), fun hx => by have := hG _ hx; omega⟩
  have count : ∀ Kx : World → Prop, (∀ v st2 cp cn cc M, r3 < M.heap.size → RdO w.heap.size v r1 st2 → Upd [r1, r3] w6 v → Blk v r3 #[.int .i64 t0.1, .slice cp cn cc, .int .i64 0, .int .i64 0, .int .i64 0, .int .i64 0] → EvOut M v t0.2 st2 cp cn cc → Kx v) → C_ref27_reader_count (some ⟨r1, 0, none⟩) 10000 w6 fun t16 w1_10 => F_ref27_DecodeRun_L1 ⟨r, 0, none⟩ ⟨r1, 0, none⟩ ⟨r3, 0, none⟩ t16 ⟨0⟩ w1_10 Kx := by
    intro Kx hKx
    refine rcountO R3 (fun x l3 v7 hc R7 U7 => ?_) (fun x v7 hc R7 U7 => ?_)
    · have hl3 : l3.length < 2 ^ 40 ∧ 0 ≤ x ∧ x ≤ 10000 := by
        rcases hs : t0.2 with _ | l'
        · rw [hs] at hc; cases hc
        · rw [hs] at hc
          have h1 := dcount_len hc
          have := hst0 l' hs
          exact ⟨by omega, h1.2.1, h1.2.2⟩
      have B7 := b3'.upd U7 (by simp; omega)
      refine rrun_loop hl3.1 hl3.2 h13 R7 B7 fun w' st2 cp cn cc Q U B C => hKx w' st2 cp cn cc v7 B7.lt Q ((U7.mono (by intro k hk; simp at hk; simp [hk])).both U) B ?_
      unfold EvOut evFin
      rw [hc]
      exact C
    · refine rrun_bad R7 (hKx v7 none none 0 0 v7 (b3'.upd U7 (by simp; omega)).lt R7 (U7.mono (by intro k hk; simp at hk; simp [hk])) (b3'.upd U7 (by simp; omega)) ?_)
      unfold EvOut evFin
      rw [hc]
  refine count _ fun v st2 cp cn cc M hM Q U B C => ?_
  refine tl v st2 cp cn cc M hM Q U B C _ fun x1 x2 x3 x4 w' ⟨st4, hr4, U4, eb, eg⟩ => ?_
  have b0w := b0' U4
  rcases st4 with _ | q
  · obtain ⟨l', p', m', c', z1, z2, z3, z4⟩ := hr4
    simp only [NN_some, addN, drw_cell, drw_heap, exS, exI, exB, exP, exM, exStr, exV, a0, a1, a2, a3, a4, a5, a6, a7, a8, a9, a10, a11, a12, a13, maxI_eq, Nat.zero_add, Nat.add_zero, Nat.mul_one, Option.isNone_some, Option.isNone_none, z1.cell]
    refine ifT rfl (St6n b0w (by simp) (by simp [Value.oneCell']) fun w'' u'' b'' => ?_)
    simp only [NN_some, addN, drw_cell, drw_heap, exS, exI, exB, exP, exM, exStr, exV, a0, a1, a2, a3, a4, a5, a6, a7, a8, a9, a10, a11, a12, a13, maxI_eq, Nat.zero_add, Nat.add_zero, Nat.mul_one, Option.isNone_some, Option.isNone_none, b''.cell]
    exact ebad (eb (by simp)) (hfr U4 u'')
  · obtain ⟨p', m', c', z1, z2, z3, z4⟩ := hr4
    have hm' : m' = q.length := by have := z2.1; rw [bc_len] at this; omega
    simp only [NN_some, addN, drw_cell, drw_heap, exS, exI, exB, exP, exM, exStr, exV, a0, a1, a2, a3, a4, a5, a6, a7, a8, a9, a10, a11, a12, a13, maxI_eq, Nat.zero_add, Nat.add_zero, Nat.mul_one, Option.isNone_some, Option.isNone_none, z1.cell]
    refine ifF rfl (ifC (fun hc => ?_) (fun hc => ?_))
    · simp at hc
      refine St6n b0w (by simp) (by simp [Value.oneCell']) fun w'' u'' b'' => ?_
      simp only [NN_some, addN, drw_cell, drw_heap, exS, exI, exB, exP, exM, exStr, exV, a0, a1, a2, a3, a4, a5, a6, a7, a8, a9, a10, a11, a12, a13, maxI_eq, Nat.zero_add, Nat.add_zero, Nat.mul_one, Option.isNone_some, Option.isNone_none, b''.cell]
      refine ebad (eb (fun h => ?_)) (hfr U4 u'')
      simp at h
      rw [h] at hm'
      simp at hm'
      omega
    · simp at hc
      have hq : q = [] := List.length_eq_zero_iff.1 (by omega)
      obtain ⟨es, G, hd, hb, hs, hrG⟩ := eg (by rw [hq])
      simp only [NN_some, addN, drw_cell, drw_heap, exS, exI, exB, exP, exM, exStr, exV, a0, a1, a2, a3, a4, a5, a6, a7, a8, a9, a10, a11, a12, a13, maxI_eq, Nat.zero_add, Nat.add_zero, Nat.mul_one, Option.isNone_some, Option.isNone_none, hb.cell]
      refine St6n b0w (by simp) (by simp [Value.oneCell']) fun w'' u'' b'' => ?_
      simp only [NN_some, addN, drw_cell, drw_heap, exS, exI, exB, exP, exM, exStr, exV, a0, a1, a2, a3, a4, a5, a6, a7, a8, a9, a10, a11, a12, a13, maxI_eq, Nat.zero_add, Nat.add_zero, Nat.mul_one, Option.isNone_some, Option.isNone_none, b''.cell]
      have := hK t0.1 cp cn cc x1 x2 x3 x4 es w'' (hfr U4 u'') (by rw [hd]; rfl) (hs.upd u'' (by intro k hk; simp; rintro rfl; exact hrG hk)).rd
      rw [hd] at this
      exact this
end

end Go.Proofs.YtggbmakfifllnaaDoor
