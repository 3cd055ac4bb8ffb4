/- The document's Decode. -/
import Derived.Test.YtggbmakfifllnaaDoorRRead
namespace Go.Proofs.YtggbmakfifllnaaDoor
open Go Go.D Go.Proofs
set_option linter.unusedSimpArgs false
set_option linter.unusedVariables false
set_option maxRecDepth 8000

theorem onum_prev {st : Option (List UInt8)} (h : (onum st).2.isSome = true) : st.isSome = true := by
  rcases st with _ | l
  · simp [onum] at h
  · rfl

section
variable {N : Nat} {v M : World} {r r1 r3 : Nat} {s0 s1 : ByteArray} {st : Option (List UInt8)} {c1 c2 c3 c4 c5 c6 : Int}

/-- A number, stored. -/
theorem rdec_num {j : Nat} {xs : List Int} {K : World → Prop} (hj : j < 6) (h13 : r1 < r3) (hx : xs.length = j) (hr : RdO N v r1 (onums j st).2) (hb : Blk v r3 (cellsJ s0 s1 xs).toArray) (hag : (onums j st).2.isSome = true → xs = (onums j st).1)
    (hK : ∀ x w', RdO N w' r1 (onums (j + 1) st).2 → Blk w' r3 (cellsJ s0 s1 (xs ++ [x])).toArray → ((onums (j + 1) st).2.isSome = true → xs ++ [x] = (onums (j + 1) st).1) → Upd [r1, r3] v w' → K w') :
    C_ref27_reader_number (some ⟨r1, 0, none⟩) v fun t w1 => St w1 ⟨r3, 2 + j, none⟩ (.int .i64 t) K := by
  have hlow := hr.low
  refine rnumberO hr fun x w1 he hr1 u1 => ?_
  have hb1 := hb.upd u1 (by simp; omega)
  refine St_rule hb1 (by rw [List.size_toArray, cellsJ_len (by omega)]; omega) rfl fun w2 u2 hb2 => hK x w2 (hr1.upd u2 (by simp; omega) (by simp; omega)) ?_ (fun hs => ?_) ((u1.mono (by intro k hk; simp at hk; simp [hk])).both (u2.mono (by intro k hk; simp at hk; simp [hk])))
  · have := cellsJ_set (s0 := s0) (s1 := s1) (xs := xs) (x := x) (by omega)
    rw [hx] at this
    rw [this] at hb2
    exact hb2
  · show xs ++ [x] = (onums j st).1 ++ [(onum (onums j st).2).1]
    rw [he hs, hag (onum_prev hs)]

/-- A number put behind the row. -/
theorem put_one {w1 : World} {cp : Option Addr} {cn cc : Nat} {G : List Nat} {ns : List Int} {x : Int} {K : World → Prop} (hl : ns.length < 2 ^ 40) (hN : N ≤ r1) (h13 : r1 < r3) (h3M : r3 < M.heap.size) (hu : Upd [r1, r3] M v)
    (hb3 : Blk v r3 #[.string s0, .string s1, .int .i64 c1, .int .i64 c2, .int .i64 c3, .int .i64 c4, .int .i64 c5, .int .i64 c6, .slice cp cn cc]) (hs : SlAt v 1 cp cn cc (ns.map (.int .i64)) G) (hG : ∀ k ∈ G, M.heap.size ≤ k) (u1 : Upd [r1] v w1)
    (hK : ∀ w' cp cn cc G', Upd [r1, r3] M w' → Blk w' r3 #[.string s0, .string s1, .int .i64 c1, .int .i64 c2, .int .i64 c3, .int .i64 c4, .int .i64 c5, .int .i64 c6, .slice cp cn cc] → SlAt w' 1 cp cn cc ((ns ++ [x]).map (.int .i64)) G' → (∀ k ∈ G', M.heap.size ≤ k) → (∀ q' bd, RdAt N w1 r1 q' bd → RdAt N w' r1 q' bd) → K w') :
    BSl Tryd.prog 24 1 [(0, .int .i64 x)] w1 fun t6P t6N t6C w1_1 => w1_1.cell? ⟨r3, 8, none⟩ = some (.slice cp cn cc) ∧ App Tryd.prog #[24, 24] 24 #[.slice cp cn cc, .slice t6P t6N t6C] w1_1 fun t7P t7N t7C w1_2 => St w1_2 ⟨r3, 8, none⟩ (.slice t7P t7N t7C) K := by
  have hMs := hu.size
  have hcn : cn = ns.length := by have := hs.1; simp at this; omega
  refine BSl_rule (cs := [.int .i64 x]) eS_24 (fill_one rfl) (by rfl) (by omega) fun w2 hs2 u2 => ?_
  have u12 : Upd [r1] v w2 := u1.before u2
  have hGr : Dis G [r1] := fun k hk hx => by simp at hx; have := hG k hk; omega
  have hb2' := hb3.upd u12 (by simp; omega)
  refine ⟨by rw [hb2'.cell]; rfl, ?_⟩
  refine App_rule (hE := eS_24) (hs.upd u12 hGr) hs2 (by simp [Value.oneCell']) (by omega) fun p' c' F' w3 hs3 u3 s3 => ?_
  have hrG : r3 ∉ G := fun hx => by have := hG _ hx; omega
  have hF' : ∀ k ∈ F', M.heap.size ≤ k := fun k hk => (s3 k hk).elim (hG k) (fun h => by have := u12.size; omega)
  have hb4 := hb2'.upd u3 hrG
  refine St_rule hb4 (by simp) rfl fun w4 u4 hb5 => ?_
  have hM3 : Upd [r1, r3] M w3 := (hu.both (u12.mono (by intro k hk; simp at hk; simp [hk]))).trans u3 (fun x hx => .inl hx) (fun x hx => .inr (hG x hx))
  refine hK w4 p' (cn + 1) c' F' (hM3.both (u4.mono (by intro k hk; simp at hk; simp [hk]))) (by simpa using hb5) ?_ hF' ?_
  · rw [List.map_append]
    exact hs3.upd u4 (by intro k hk; simp; rintro rfl; have := hF' _ hk; omega)
  · intro q' bd hq
    have h1 := (hq.keep u2).upd u3 (fun hx => by have := hG _ hx; omega) (fun k hk => by have := hG k hk; omega)
    exact h1.upd u4 (by simp; omega) (by simp; omega)

theorem rdec_bad {n : Int} {K : World → Prop} (h : RdO N M r1 none) (hK : K M) : F_ref27_Decode_L1 ⟨r, 0, none⟩ ⟨r1, 0, none⟩ ⟨r3, 0, none⟩ n ⟨0⟩ M K := by
  obtain ⟨l, p, m, c, z1, z2, z3, z4⟩ := h
  unfold F_ref27_Decode_L1
  refine ⟨fun s w => w = M, fun _ _ => 0, rfl, ?_⟩
  rintro s w rfl
  unfold B_ref27_Decode_L1
  simp only [NN_some, addN, drw_cell, drw_heap, exS, exI, exB, exP, exM, exStr, exV, a0, a1, a2, a3, a4, a5, a6, a7, a8, a9, a10, a11, a12, a13, maxI_eq, Nat.zero_add, Nat.add_zero, Nat.mul_one, Option.isNone_some, Option.isNone_none, z1.cell]
  exact ifC (fun _ => ifF rfl hK) (fun _ => hK)

theorem rdec_loop {n : Int} {l3 : List UInt8} {K : World → Prop} (hl3 : l3.length < 2 ^ 40) (hn : 0 ≤ n ∧ n ≤ 1000) (h13 : r1 < r3) (h3M : r3 < M.heap.size) (h : RdAt N M r1 l3 false)
    (hb3 : Blk M r3 #[.string s0, .string s1, .int .i64 c1, .int .i64 c2, .int .i64 c3, .int .i64 c4, .int .i64 c5, .int .i64 c6, .slice none 0 0])
    (hbad : ∀ w', dnums n.toNat l3 = none → RdO N w' r1 none → Upd [r1, r3] M w' → K w')
    (hgood : ∀ w' ns q cp cn cc G, dnums n.toNat l3 = some (ns, q) → RdAt N w' r1 q false → Upd [r1, r3] M w' → Blk w' r3 #[.string s0, .string s1, .int .i64 c1, .int .i64 c2, .int .i64 c3, .int .i64 c4, .int .i64 c5, .int .i64 c6, .slice cp cn cc] → SlAt w' 1 cp cn cc (ns.map (.int .i64)) G → (∀ k ∈ G, M.heap.size ≤ k) → K w') :
    F_ref27_Decode_L1 ⟨r, 0, none⟩ ⟨r1, 0, none⟩ ⟨r3, 0, none⟩ n ⟨0⟩ M K := by
  have hN : N ≤ r1 := by obtain ⟨p, m, c, _, _, _, z⟩ := h; exact z.1
  unfold F_ref27_Decode_L1
  refine ⟨fun s v => ∃ i : Nat, s.i = i ∧ i ≤ n.toNat ∧ (match dnums i l3 with
      | some (ns, q) => RdAt N v r1 q false ∧ ∃ cp cn cc G, Blk v r3 #[.string s0, .string s1, .int .i64 c1, .int .i64 c2, .int .i64 c3, .int .i64 c4, .int .i64 c5, .int .i64 c6, .slice cp cn cc] ∧ SlAt v 1 cp cn cc (ns.map (.int .i64)) G ∧ ∀ k ∈ G, M.heap.size ≤ k
      | none => ∃ l', RdAt N v r1 l' true) ∧ Upd [r1, r3] M v, fun s _ => (n - s.i).toNat, ⟨0, rfl, by omega, ⟨h, none, 0, 0, [], hb3, SlAt.nil M 1, by simp⟩, Upd.refl _ _⟩, ?_⟩
  rintro ⟨t⟩ v ⟨i, rfl, hi, hm, hu⟩
  unfold B_ref27_Decode_L1
  dsimp only
  rcases hd : dnums i l3 with _ | ⟨ns, q⟩
  · rw [hd] at hm
    have hnone : dnums n.toNat l3 = none := by
      have := dnums_more hd (n.toNat - i)
      rwa [show i + (n.toNat - i) = n.toNat by omega] at this
    obtain ⟨l', hr⟩ := hm
    have hr' := hr
    obtain ⟨p, m, c, z1, z2, z3, z4⟩ := hr
    simp only [NN_some, addN, drw_cell, drw_heap, exS, exI, exB, exP, exM, exStr, exV, a0, a1, a2, a3, a4, a5, a6, a7, a8, a9, a10, a11, a12, a13, maxI_eq, Nat.zero_add, Nat.add_zero, Nat.mul_one, Option.isNone_some, Option.isNone_none, z1.cell]
    exact ifC (fun _ => ifF rfl (hbad v hnone ⟨l', hr'⟩ hu)) (fun _ => hbad v hnone ⟨l', hr'⟩ hu)
  · rw [hd] at hm
    obtain ⟨hr, cp, cn, cc, G, hb, hs, hG⟩ := hm
    have hnl := dnums_len hd
    refine ifC (fun hc => ?_) (fun hc => ?_)
    · simp at hc
      have hr' := hr
      obtain ⟨p, m, c, z1, z2, z3, z4⟩ := hr
      simp only [NN_some, addN, drw_cell, drw_heap, exS, exI, exB, exP, exM, exStr, exV, a0, a1, a2, a3, a4, a5, a6, a7, a8, a9, a10, a11, a12, a13, maxI_eq, Nat.zero_add, Nat.add_zero, Nat.mul_one, Option.isNone_some, Option.isNone_none, z1.cell, hb.cell]
      refine ifT rfl ?_
      have hd1 := dnums_succ i l3
      rw [hd] at hd1
      simp only at hd1
      refine rnumber_ok (hr'.keep (drw_upd v)) (fun x r' w1 hn1 h1 u1 => ?_) (fun w1 hn1 h1 u1 => ?_)
      · have u1' : Upd [r1] v w1 := (drw_upd v).after u1
        have hb1 := hb.upd u1' (by simp; omega)
        simp only [NN_some, addN, drw_cell, drw_heap, exS, exI, exB, exP, exM, exStr, exV, a0, a1, a2, a3, a4, a5, a6, a7, a8, a9, a10, a11, a12, a13, maxI_eq, Nat.zero_add, Nat.add_zero, Nat.mul_one, Option.isNone_some, Option.isNone_none, hb1.cell]
        refine ⟨trivial, put_one (by omega) hN h13 h3M hu hb hs hG u1' fun w' cp cn cc G' g1 g2 g3 g4 g5 => ⟨⟨i + 1, by rw [i64id (by omega) (by omega)]; simp, by omega, ?_, g1⟩, by rw [i64id (by omega) (by omega)]; omega⟩⟩
        rw [hn1] at hd1
        simp only at hd1
        rw [hd1]
        exact ⟨g5 _ _ h1, cp, cn, cc, G', g2, g3, g4⟩
      · have u1' : Upd [r1] v w1 := (drw_upd v).after u1
        have hb1 := hb.upd u1' (by simp; omega)
        simp only [NN_some, addN, drw_cell, drw_heap, exS, exI, exB, exP, exM, exStr, exV, a0, a1, a2, a3, a4, a5, a6, a7, a8, a9, a10, a11, a12, a13, maxI_eq, Nat.zero_add, Nat.add_zero, Nat.mul_one, Option.isNone_some, Option.isNone_none, hb1.cell]
        refine ⟨trivial, put_one (by omega) hN h13 h3M hu hb hs hG u1' fun w' cp cn cc G' g1 g2 g3 g4 g5 => ⟨⟨i + 1, by rw [i64id (by omega) (by omega)]; simp, by omega, ?_, g1⟩, by rw [i64id (by omega) (by omega)]; omega⟩⟩
        rw [hn1] at hd1
        simp only at hd1
        rw [hd1]
        exact ⟨[], g5 _ _ h1⟩
    · simp at hc
      obtain rfl : i = n.toNat := by omega
      exact hgood v ns q cp cn cc G hd hr hu hb hs hG

theorem RDecode_ok {w : World} {p : Option Addr} {n c : Nat} {l : List UInt8} {K : ByteArray → ByteArray → Int → Int → Int → Int → Int → Int → Option Addr → Nat → Nat → Bool → World → Prop} (hp : Rd w 1 p n (bc l)) (hnc : n ≤ c) (hlen : l.length < 2 ^ 40)
    (hK : ∀ s0 s1 c1 c2 c3 c4 c5 c6 q m d col w', Upd [] w w' → (dscr l).getD noScr = scrOf s0 s1 [c1, c2, c3, c4, c5, c6] col → Rd w' 1 q m (col.map (.int .i64)) → K s0 s1 c1 c2 c3 c4 c5 c6 q m d (dscr l).isSome w') :
    C_ref27_Decode p n c w K := by
  apply C_ref27_Decode.of
  unfold F_ref27_Decode
  refine New_rule fun r w1 hr u1 b0 => ?_
  refine New_rule fun r1 w2 hr1 u2 b1 => ?_
  have h01 : r < r1 := by have := b0.lt; omega
  have R0 : RdO w.heap.size w2 r1 (some l) := ⟨p, n, c, b1, hp.keep (u1.after u2), hnc, Rd_lo hp (by omega)⟩
  obtain ⟨t0, ht0⟩ : ∃ t, t = otext (some l) := ⟨_, rfl⟩
  obtain ⟨t1, ht1⟩ : ∃ t, t = otext t0.2 := ⟨_, rfl⟩
  have hdscr : dscr l = (fin t1.2).map fun ns => ⟨t0.1, t1.1, (onums 6 t1.2).1, ns⟩ := by rw [ht1, ht0]; exact dscr_fin l
  have hst : ∀ l', t1.2 = some l' → l'.length < 2 ^ 40 := fun l' h => by
    rw [ht1, ht0] at h
    have := texts_le h; omega
  refine rrtextO R0 fun w3 R1 u3 => ?_
  rw [← ht0] at R1 ⊢
  refine rrtextO R1 fun w4 R2 u4 => ?_
  rw [← ht1] at R2 ⊢
  refine New_rule fun r3 w5 hr3 u5 b3 => ?_
  simp only [NN_some, addN, drw_cell, drw_heap, exS, exI, exB, exP, exM, exStr, exV, a0, a1, a2, a3, a4, a5, a6, a7, a8, a9, a10, a11, a12, a13, maxI_eq, Nat.zero_add, Nat.add_zero, Nat.mul_one, Option.isNone_some, Option.isNone_none, Nat.reduceAdd]
  refine St9n b3 (by simp) (by simp [Value.oneCell']) fun w6 u6 b3' => ?_
  have h13 : r1 < r3 := by have := R2.lt; omega
  have uw2 : Upd [] w w2 := u1.after u2
  have u26 : Upd [r1] w2 w6 := ((u3.both u4).before u5).trans u6 (fun x hx => .inl hx) (by simp; have := u3.size; have := u4.size; omega)
  have R3 : RdO w.heap.size w6 r1 (onums 0 t1.2).2 := (R2.upd u5 (by simp) (by simp)).upd u6 (by simp; omega) (by simp; have := R2.low; omega)
  have hc0 : Blk w6 r3 (cellsJ ⟨t0.1.toArray⟩ ⟨t1.1.toArray⟩ []).toArray := b3'
  refine rdec_num (j := 0) (by omega) h13 rfl R3 hc0 (fun _ => rfl) fun c1 v1 Q1 B1 A1 U1 => ?_
  refine rdec_num (j := 1) (by omega) h13 rfl Q1 B1 A1 fun c2 v2 Q2 B2 A2 U2 => ?_
  refine rdec_num (j := 2) (by omega) h13 rfl Q2 B2 A2 fun c3 v3 Q3 B3 A3 U3 => ?_
  refine rdec_num (j := 3) (by omega) h13 rfl Q3 B3 A3 fun c4 v4 Q4 B4 A4 U4 => ?_
  refine rdec_num (j := 4) (by omega) h13 rfl Q4 B4 A4 fun c5 v5 Q5 B5 A5 U5 => ?_
  refine rdec_num (j := 5) (by omega) h13 rfl Q5 B5 A5 fun c6 v6 Q6 B6 A6 U6 => ?_
  have U06 : Upd [r1, r3] w6 v6 := U1.both (U2.both (U3.both (U4.both (U5.both U6))))
  have hcell : (cellsJ ⟨t0.1.toArray⟩ ⟨t1.1.toArray⟩ ([] ++ [c1] ++ [c2] ++ [c3] ++ [c4] ++ [c5] ++ [c6])).toArray = #[.string ⟨t0.1.toArray⟩, .string ⟨t1.1.toArray⟩, .int .i64 c1, .int .i64 c2, .int .i64 c3, .int .i64 c4, .int .i64 c5, .int .i64 c6, .slice none 0 0] := rfl
  rw [hcell] at B6
  have hwu : ∀ {w'}, Upd [r1, r3] w6 w' → Upd [] w w' := fun h => uw2.fresh ((u26.mono (by intro k hk; simp at hk; simp [hk])).both h) (by simp; have := u1.size; have := u26.size; have := u2.size; omega)
  have b0' : ∀ {w'}, Upd [r1, r3] w6 w' → Blk w' r #[.string ⟨#[]⟩, .string ⟨#[]⟩, .int .i64 0, .int .i64 0, .int .i64 0, .int .i64 0, .int .i64 0, .int .i64 0, .slice none 0 0] := fun h => ((b0.upd u2 (by simp)).upd u26 (by simp; omega)).upd h (by simp; omega)
  have hfr : ∀ {w' w''}, Upd [r1, r3] w6 w' → Upd [r] w' w'' → Upd [] w w'' := fun h h' => (hwu h).fresh h' (by simp; omega)
  -- the ends
  have ebad : ∀ {w'}, dscr l = none → Upd [] w w' → K ⟨#[]⟩ ⟨#[]⟩ 0 0 0 0 0 0 none 0 0 false w' := by
    intro w' hd hu
    have := hK ⟨#[]⟩ ⟨#[]⟩ 0 0 0 0 0 0 none 0 0 [] w' hu (by rw [hd]; rfl) ⟨rfl, .inl rfl⟩
    rw [hd] at this
    exact this
  have hfin : fin t1.2 = match (onums 6 t1.2).2.bind (dcount 1000) with
    | none => none
    | some (n, r) => match dnums n.toNat r with
      | none => none
      | some (ns, r2) => if r2 = [] then some ns else none := rfl
  refine rcountO Q6 (fun x l3 v7 hc R7 U7 => ?_) (fun x v7 hc R7 U7 => ?_)
  · rw [hc] at hfin
    simp only at hfin
    have hsome : (onums 6 t1.2).2.isSome = true := by
      rcases h : (onums 6 t1.2).2 with _ | _
      · rw [h] at hc; cases hc
      · rfl
    have hag := A6 hsome
    have hl3 : l3.length < 2 ^ 40 := by
      rcases hs6 : (onums 6 t1.2).2 with _ | l2
      · rw [hs6] at hc; cases hc
      · rw [hs6] at hc
        have h1 := (dcount_len hc).1
        rcases hs : t1.2 with _ | l'
        · rw [hs, onums_bad] at hs6; cases hs6
        · rw [hs] at hs6
          have h2 := onums_le hs6
          have h3 := hst l' hs
          omega
    have hn : 0 ≤ x ∧ x ≤ 1000 := by
      rcases hs6 : (onums 6 t1.2).2 with _ | l2
      · rw [hs6] at hc; cases hc
      · rw [hs6] at hc; exact (dcount_len hc).2
    have B7 := B6.upd U7 (by simp; omega)
    have U67 : Upd [r1, r3] w6 v7 := U06.both (U7.mono (by intro k hk; simp at hk; simp [hk]))
    refine rdec_loop hl3 hn h13 B7.lt R7 B7 (fun w' hd hr' hu' => ?_) (fun w' ns q cp cn cc G hd hr' hu' hb' hs' hG' => ?_)
    · obtain ⟨l', p', m', c', z1, z2, z3, z4⟩ := hr'
      have b0w := b0' (U67.both hu')
      simp only [NN_some, addN, drw_cell, drw_heap, exS, exI, exB, exP, exM, exStr, exV, a0, a1, a2, a3, a4, a5, a6, a7, a8, a9, a10, a11, a12, a13, maxI_eq, Nat.zero_add, Nat.add_zero, Nat.mul_one, Option.isNone_some, Option.isNone_none, z1.cell]
      refine ifT rfl (St9n b0w (by simp) (by simp [Value.oneCell']) fun w'' u'' b'' => ?_)
      simp only [NN_some, addN, drw_cell, drw_heap, exS, exI, exB, exP, exM, exStr, exV, a0, a1, a2, a3, a4, a5, a6, a7, a8, a9, a10, a11, a12, a13, maxI_eq, Nat.zero_add, Nat.add_zero, Nat.mul_one, Option.isNone_some, Option.isNone_none, b''.cell]
      refine ebad ?_ (hfr (U67.both hu') u'')
      rw [hdscr, hfin, hd]; rfl
    · obtain ⟨p', m', c', z1, z2, z3, z4⟩ := hr'
      have hm' : m' = q.length := by have := z2.1; rw [bc_len] at this; omega
      have b0w := b0' (U67.both hu')
      simp only [NN_some, addN, drw_cell, drw_heap, exS, exI, exB, exP, exM, exStr, exV, a0, a1, a2, a3, a4, a5, a6, a7, a8, a9, a10, a11, a12, a13, maxI_eq, Nat.zero_add, Nat.add_zero, Nat.mul_one, Option.isNone_some, Option.isNone_none, z1.cell]
      refine ifF rfl (ifC (fun hc => ?_) (fun hc => ?_))
      · simp at hc
        refine St9n b0w (by simp) (by simp [Value.oneCell']) fun w'' u'' b'' => ?_
        simp only [NN_some, addN, drw_cell, drw_heap, exS, exI, exB, exP, exM, exStr, exV, a0, a1, a2, a3, a4, a5, a6, a7, a8, a9, a10, a11, a12, a13, maxI_eq, Nat.zero_add, Nat.add_zero, Nat.mul_one, Option.isNone_some, Option.isNone_none, b''.cell]
        refine ebad ?_ (hfr (U67.both hu') u'')
        rw [hdscr, hfin, hd]
        simp only
        rw [if_neg (by intro h; rw [h] at hm'; simp at hm'; omega)]; rfl
      · simp at hc
        have hq : q = [] := List.length_eq_zero_iff.1 (by omega)
        simp only [NN_some, addN, drw_cell, drw_heap, exS, exI, exB, exP, exM, exStr, exV, a0, a1, a2, a3, a4, a5, a6, a7, a8, a9, a10, a11, a12, a13, maxI_eq, Nat.zero_add, Nat.add_zero, Nat.mul_one, Option.isNone_some, Option.isNone_none, hb'.cell]
        refine St9n b0w (by simp) (by simp [Value.oneCell']) fun w'' u'' b'' => ?_
        simp only [NN_some, addN, drw_cell, drw_heap, exS, exI, exB, exP, exM, exStr, exV, a0, a1, a2, a3, a4, a5, a6, a7, a8, a9, a10, a11, a12, a13, maxI_eq, Nat.zero_add, Nat.add_zero, Nat.mul_one, Option.isNone_some, Option.isNone_none, b''.cell]
        rw [hd] at hfin
        simp only at hfin
        rw [if_pos hq] at hfin
        rw [hfin] at hdscr
        have hrG : r ∉ G := fun hx => by have := hG' _ hx; have := B7.lt; omega
        have := hK ⟨t0.1.toArray⟩ ⟨t1.1.toArray⟩ c1 c2 c3 c4 c5 c6 cp cn cc ns w'' (hfr (U67.both hu') u'') (by rw [hdscr, ← hag]; simp [scrOf]) (hs'.upd u'' (by intro k hk; simp; rintro rfl; exact hrG hk)).rd
        rw [hdscr] at this
        exact this
  · rw [hc] at hfin
    have U67 : Upd [r1, r3] w6 v7 := U06.both (U7.mono (by intro k hk; simp at hk; simp [hk]))
    refine rdec_bad R7 ?_
    obtain ⟨l', p', m', c', z1, z2, z3, z4⟩ := R7
    have b0w := b0' U67
    simp only [NN_some, addN, drw_cell, drw_heap, exS, exI, exB, exP, exM, exStr, exV, a0, a1, a2, a3, a4, a5, a6, a7, a8, a9, a10, a11, a12, a13, maxI_eq, Nat.zero_add, Nat.add_zero, Nat.mul_one, Option.isNone_some, Option.isNone_none, z1.cell]
    refine ifT rfl (St9n b0w (by simp) (by simp [Value.oneCell']) fun w'' u'' b'' => ?_)
    simp only [NN_some, addN, drw_cell, drw_heap, exS, exI, exB, exP, exM, exStr, exV, a0, a1, a2, a3, a4, a5, a6, a7, a8, a9, a10, a11, a12, a13, maxI_eq, Nat.zero_add, Nat.add_zero, Nat.mul_one, Option.isNone_some, Option.isNone_none, b''.cell]
    refine ebad ?_ (hfr U67 u'')
    rw [hdscr, hfin]; rfl
end

end Go.Proofs.YtggbmakfifllnaaDoor
