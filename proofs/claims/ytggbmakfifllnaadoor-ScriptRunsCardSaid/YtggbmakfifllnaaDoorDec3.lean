/- Decode: the whole. -/
import Derived.Test.YtggbmakfifllnaaDoorDec2
namespace Go.Proofs.YtggbmakfifllnaaDoor
open Go Go.D Go.Proofs
set_option linter.unusedSimpArgs false
set_option linter.unusedVariables false
set_option maxRecDepth 8000

theorem six_of {xs : List Int} (h : xs.length = 6) : ∃ c1 c2 c3 c4 c5 c6, xs = [c1, c2, c3, c4, c5, c6] := by
  rcases xs with _ | ⟨c1, _ | ⟨c2, _ | ⟨c3, _ | ⟨c4, _ | ⟨c5, _ | ⟨c6, _ | ⟨c7, l⟩⟩⟩⟩⟩⟩⟩ <;> simp at h
  exact ⟨c1, c2, c3, c4, c5, c6, rfl⟩

theorem onum_len {st : Option (List UInt8)} {l r : List UInt8} (h : (onum st).2 = some r) (hs : ∀ l', st = some l' → l'.length ≤ l.length) : r.length ≤ l.length := by
  rcases st with _ | l'
  · simp [onum] at h
  · rcases hd : dnum l' with _ | ⟨x, r'⟩
    · simp [onum, hd] at h
    · simp [onum, hd] at h
      subst h
      have := dnum_len hd
      have := hs l' rfl
      omega

theorem onums_le {l r : List UInt8} : ∀ {k : Nat}, (onums k (some l)).2 = some r → r.length ≤ l.length
  | 0, h => by simp [onums] at h; rw [h]; exact Nat.le_refl _
  | k + 1, h => onum_len (l := l) h (fun l' h' => onums_le (k := k) h')

theorem dtext_len {l r s : List UInt8} (h : dtext l = some (s, r)) : r.length ≤ l.length := by
  have := (dtext_is h).1
  rw [this]; simp

theorem dcount_len {most n : Int} {l r : List UInt8} (h : dcount most l = some (n, r)) : r.length ≤ l.length ∧ 0 ≤ n ∧ n ≤ most := by
  unfold dcount at h
  split at h
  · cases h
  rename_i n' r' hd
  split at h
  · cases h
  · simp only [Option.some.injEq, Prod.mk.injEq] at h
    obtain ⟨rfl, rfl⟩ := h
    have := dnum_len hd
    exact ⟨by omega, by omega, by omega⟩

section
variable {N : Nat} {v : World} {r r1 r2 r3 : Nat} {s0 s1 : ByteArray} {st : Option (List UInt8)}

theorem dec_k1 {K : ByteArray → ByteArray → Int → Int → Int → Int → Int → Int → Option Addr → Nat → Nat → Int → World → Prop} (hNr : N ≤ r) (h01 : r < r1) (h12 : r1 < r2) (h23 : r2 < r3) (hlen : ∀ l, st = some l → l.length < 2 ^ 40)
    (b0 : Blk v r #[.string ⟨#[]⟩, .string ⟨#[]⟩, .int .i64 0, .int .i64 0, .int .i64 0, .int .i64 0, .int .i64 0, .int .i64 0, .slice none 0 0]) (b2 : Blk v r2 #[.pointer (some ⟨r1, 0, none⟩)])
    (b3 : Blk v r3 #[.string s0, .string s1, .int .i64 0, .int .i64 0, .int .i64 0, .int .i64 0, .int .i64 0, .int .i64 0, .slice none 0 0]) (hst : RdO N v r1 st)
    (hg : ∀ c1 c2 c3 c4 c5 c6 p n c ns w', fin st = some ns → (onums 6 st).1 = [c1, c2, c3, c4, c5, c6] → Upd [r, r1, r3] v w' → Rd w' 1 p n (ns.map (.int .i64)) → K s0 s1 c1 c2 c3 c4 c5 c6 p n c 0 w')
    (hb : ∀ w', fin st = none → Upd [r, r1, r3] v w' → K ⟨#[]⟩ ⟨#[]⟩ 0 0 0 0 0 0 none 0 0 270 w') : F_script_Decode_k1 K r r2 ⟨r3, 0, none⟩ v := by
  unfold F_script_Decode_k1
  simp only [addN, Nat.zero_add, Nat.reduceAdd]
  refine dec_six h12 h23 b2 b3 hst fun w1 hr1 hb1 u1 => ?_
  have hlow := hst.low
  obtain ⟨c1, c2, c3, c4, c5, c6, hc⟩ := six_of (onums_len 6 st)
  rw [hc] at hb1
  have hcell : cellsJ s0 s1 [c1, c2, c3, c4, c5, c6] = [.string s0, .string s1, .int .i64 c1, .int .i64 c2, .int .i64 c3, .int .i64 c4, .int .i64 c5, .int .i64 c6, .slice none 0 0] := rfl
  rw [hcell] at hb1
  have b2' := b2.upd u1 (by simp; omega)
  simp only [NN_some, addN, drw_cell, drw_heap, exS, exI, exB, exP, exM, exStr, exV, a0, a1, a2, a3, a4, a5, a6, a7, a8, a9, a10, a11, a12, a13, maxI_eq, Nat.zero_add, Nat.add_zero, Nat.mul_one, Option.isNone_some, Option.isNone_none, b2'.cell]
  -- what is left to do, once the row is read
  have final : ∀ (w2 : World) (st' : Option (List UInt8)), RdO N w2 r1 st' → Upd [r1, r3] v w2 → (st' ≠ some [] → fin st = none) → (st' = some [] → ∃ cp cn cc ns G, fin st = some ns ∧ Blk w2 r3 #[.string s0, .string s1, .int .i64 c1, .int .i64 c2, .int .i64 c3, .int .i64 c4, .int .i64 c5, .int .i64 c6, .slice cp cn cc] ∧ SlAt w2 1 cp cn cc (ns.map (.int .i64)) G ∧ r ∉ G) →
      ∃ t41 : Option Addr, w2.cell? ⟨r2, 0, none⟩ = some (.pointer t41) ∧ C_script_reader_whole t41 w2 fun t42 w1_45 =>
        If (!t42)
        (St w1_45 ⟨r, 0, none⟩ (.string ⟨#[]⟩) fun w1_46 =>
        St w1_46 ⟨r, 1, none⟩ (.string ⟨#[]⟩) fun w1_47 =>
        St w1_47 ⟨r, 2, none⟩ (.int .i64 0) fun w1_48 =>
        St w1_48 ⟨r, 3, none⟩ (.int .i64 0) fun w1_49 =>
        St w1_49 ⟨r, 4, none⟩ (.int .i64 0) fun w1_50 =>
        St w1_50 ⟨r, 5, none⟩ (.int .i64 0) fun w1_51 =>
        St w1_51 ⟨r, 6, none⟩ (.int .i64 0) fun w1_52 =>
        St w1_52 ⟨r, 7, none⟩ (.int .i64 0) fun w1_53 =>
        St w1_53 ⟨r, 8, none⟩ (.slice none 0 0) fun w1_54 =>
        ∃ r_7 : ByteArray, w1_54.cell? ⟨r, 0, none⟩ = some (.string r_7) ∧
        ∃ r_8 : ByteArray, w1_54.cell? ⟨r, 1, none⟩ = some (.string r_8) ∧
        ∃ r_9 : Int, w1_54.cell? ⟨r, 2, none⟩ = some (.int .i64 r_9) ∧
        ∃ r_10 : Int, w1_54.cell? ⟨r, 3, none⟩ = some (.int .i64 r_10) ∧
        ∃ r_11 : Int, w1_54.cell? ⟨r, 4, none⟩ = some (.int .i64 r_11) ∧
        ∃ r_12 : Int, w1_54.cell? ⟨r, 5, none⟩ = some (.int .i64 r_12) ∧
        ∃ r_13 : Int, w1_54.cell? ⟨r, 6, none⟩ = some (.int .i64 r_13) ∧
        ∃ r_14 : Int, w1_54.cell? ⟨r, 7, none⟩ = some (.int .i64 r_14) ∧
        ∃ rP : Option Addr, ∃ rN : Nat, ∃ rC : Nat, w1_54.cell? ⟨r, 8, none⟩ = some (.slice rP rN rC) ∧
        K r_7 r_8 r_9 r_10 r_11 r_12 r_13 r_14 rP rN rC (270 : Int) w1_54)
        (∃ t450 : ByteArray, w1_45.cell? ⟨r3, 0, none⟩ = some (.string t450) ∧
        ∃ t451 : ByteArray, w1_45.cell? ⟨r3, 1, none⟩ = some (.string t451) ∧
        ∃ t452 : Int, w1_45.cell? ⟨r3, 2, none⟩ = some (.int .i64 t452) ∧
        ∃ t453 : Int, w1_45.cell? ⟨r3, 3, none⟩ = some (.int .i64 t453) ∧
        ∃ t454 : Int, w1_45.cell? ⟨r3, 4, none⟩ = some (.int .i64 t454) ∧
        ∃ t455 : Int, w1_45.cell? ⟨r3, 5, none⟩ = some (.int .i64 t455) ∧
        ∃ t456 : Int, w1_45.cell? ⟨r3, 6, none⟩ = some (.int .i64 t456) ∧
        ∃ t457 : Int, w1_45.cell? ⟨r3, 7, none⟩ = some (.int .i64 t457) ∧
        ∃ t458P : Option Addr, ∃ t458N : Nat, ∃ t458C : Nat, w1_45.cell? ⟨r3, 8, none⟩ = some (.slice t458P t458N t458C) ∧
        St w1_45 ⟨r, 0, none⟩ (.string t450) fun w1_55 =>
        St w1_55 ⟨r, 1, none⟩ (.string t451) fun w1_56 =>
        St w1_56 ⟨r, 2, none⟩ (.int .i64 t452) fun w1_57 =>
        St w1_57 ⟨r, 3, none⟩ (.int .i64 t453) fun w1_58 =>
        St w1_58 ⟨r, 4, none⟩ (.int .i64 t454) fun w1_59 =>
        St w1_59 ⟨r, 5, none⟩ (.int .i64 t455) fun w1_60 =>
        St w1_60 ⟨r, 6, none⟩ (.int .i64 t456) fun w1_61 =>
        St w1_61 ⟨r, 7, none⟩ (.int .i64 t457) fun w1_62 =>
        St w1_62 ⟨r, 8, none⟩ (.slice t458P t458N t458C) fun w1_63 =>
        ∃ r_15 : ByteArray, w1_63.cell? ⟨r, 0, none⟩ = some (.string r_15) ∧
        ∃ r_16 : ByteArray, w1_63.cell? ⟨r, 1, none⟩ = some (.string r_16) ∧
        ∃ r_17 : Int, w1_63.cell? ⟨r, 2, none⟩ = some (.int .i64 r_17) ∧
        ∃ r_18 : Int, w1_63.cell? ⟨r, 3, none⟩ = some (.int .i64 r_18) ∧
        ∃ r_19 : Int, w1_63.cell? ⟨r, 4, none⟩ = some (.int .i64 r_19) ∧
        ∃ r_20 : Int, w1_63.cell? ⟨r, 5, none⟩ = some (.int .i64 r_20) ∧
        ∃ r_21 : Int, w1_63.cell? ⟨r, 6, none⟩ = some (.int .i64 r_21) ∧
        ∃ r_22 : Int, w1_63.cell? ⟨r, 7, none⟩ = some (.int .i64 r_22) ∧
        ∃ rP_1 : Option Addr, ∃ rN_1 : Nat, ∃ rC_1 : Nat, w1_63.cell? ⟨r, 8, none⟩ = some (.slice rP_1 rN_1 rC_1) ∧
        K r_15 r_16 r_17 r_18 r_19 r_20 r_21 r_22 rP_1 rN_1 rC_1 (0 : Int) w1_63) := by
    intro w2 st' hr hu hbad hgood
    have b22 := b2.upd hu (by simp; omega)
    have b02 := b0.upd hu (by simp; omega)
    simp only [NN_some, addN, drw_cell, drw_heap, exS, exI, exB, exP, exM, exStr, exV, a0, a1, a2, a3, a4, a5, a6, a7, a8, a9, a10, a11, a12, a13, maxI_eq, Nat.zero_add, Nat.add_zero, Nat.mul_one, Option.isNone_some, Option.isNone_none, b22.cell]
    refine wholeO hr (ifC (fun h => ?_) (fun h => ?_))
    · simp at h
      refine St9n b02 (by simp) (by simp [Value.oneCell']) fun w3 u3 b3' => ?_
      simp only [NN_some, addN, drw_cell, drw_heap, exS, exI, exB, exP, exM, exStr, exV, a0, a1, a2, a3, a4, a5, a6, a7, a8, a9, a10, a11, a12, a13, maxI_eq, Nat.zero_add, Nat.add_zero, Nat.mul_one, Option.isNone_some, Option.isNone_none, b3'.cell]
      exact hb w3 (hbad h) ((hu.mono (by intro k hk; simp at hk ⊢; omega)).both (u3.mono (by intro k hk; simp at hk; simp [hk])))
    · simp at h
      obtain ⟨cp, cn, cc, ns, G, hf, b32, hs, hG⟩ := hgood h
      simp only [NN_some, addN, drw_cell, drw_heap, exS, exI, exB, exP, exM, exStr, exV, a0, a1, a2, a3, a4, a5, a6, a7, a8, a9, a10, a11, a12, a13, maxI_eq, Nat.zero_add, Nat.add_zero, Nat.mul_one, Option.isNone_some, Option.isNone_none, b32.cell]
      refine St9n b02 (by simp) (by simp [Value.oneCell']) fun w3 u3 b3' => ?_
      simp only [NN_some, addN, drw_cell, drw_heap, exS, exI, exB, exP, exM, exStr, exV, a0, a1, a2, a3, a4, a5, a6, a7, a8, a9, a10, a11, a12, a13, maxI_eq, Nat.zero_add, Nat.add_zero, Nat.mul_one, Option.isNone_some, Option.isNone_none, b3'.cell]
      exact hg c1 c2 c3 c4 c5 c6 cp cn cc ns w3 hf hc ((hu.mono (by intro k hk; simp at hk ⊢; omega)).both (u3.mono (by intro k hk; simp at hk; simp [hk]))) (hs.upd u3 (by intro k hk; simp; rintro rfl; exact hG hk)).rd
  have hfin : fin st = match (onums 6 st).2.bind (dcount 1000) with
    | none => none
    | some (n, r) => match dnums n.toNat r with
      | none => none
      | some (ns, r2) => if r2 = [] then some ns else none := rfl
  rcases hcnt : (onums 6 st).2.bind (dcount 1000) with _ | ⟨n, l3⟩
  · rw [hcnt] at hfin
    refine rowO (S := fun _ _ => False) (good := fun _ => true) hr1 (by omega) (by omega) (fun _ _ h => h.elim) (fun _ _ _ h => h.elim) (fun x r w' h => by rw [hcnt] at h; cases h) fun w2 _ h2 u2 => ?_
    exact final w2 none h2 (u1.both (u2.mono (by intro k hk; simp at hk; simp [hk]))) (fun _ => hfin) (fun h => by cases h)
  · rw [hcnt] at hfin
    simp only at hfin
    have hl3 : l3.length < 2 ^ 40 := by
      rcases hs6 : (onums 6 st).2 with _ | l2
      · rw [hs6] at hcnt; cases hcnt
      · rw [hs6] at hcnt
        have h1 := (dcount_len hcnt).1
        rcases st with _ | l
        · rw [onums_bad] at hs6; cases hs6
        · have h2 := onums_le hs6
          have h3 := hlen l rfl
          omega
    have hn : 0 ≤ n ∧ n ≤ 1000 := by
      rcases hs6 : (onums 6 st).2 with _ | l2
      · rw [hs6] at hcnt; cases hcnt
      · rw [hs6] at hcnt; exact (dcount_len hcnt).2
    have hb1lt := hb1.lt
    refine rowO (S := fun i v => (match dnums i l3 with
      | some (ns, q) => RdAt N v r1 q false ∧ ∃ cp cn cc G, Blk v r3 #[.string s0, .string s1, .int .i64 c1, .int .i64 c2, .int .i64 c3, .int .i64 c4, .int .i64 c5, .int .i64 c6, .slice cp cn cc] ∧ SlAt v 1 cp cn cc (ns.map (.int .i64)) G ∧ ∀ k ∈ G, w1.heap.size ≤ k
      | none => ∃ l', RdAt N v r1 l' true) ∧ Upd [r1, r3] w1 v) (good := fun i => (dnums i l3).isSome) hr1 (by omega) (by omega) ?_ (fun i v hg h => dec_one hl3 hlow h12 h23 hb1lt b2' _ rfl i v hg h) ?_ (fun w' h => by rw [hcnt] at h; cases h)
    · rintro i v ⟨h, hu⟩
      rcases hd : dnums i l3 with _ | ⟨ns, q⟩
      · rw [hd] at h; simpa using h
      · rw [hd] at h; exact ⟨q, h.1⟩
    · intro x q w2 hx h2 u2
      rw [hcnt] at hx
      simp only [Option.some.injEq, Prod.mk.injEq] at hx
      obtain ⟨rfl, rfl⟩ := hx
      refine ⟨⟨⟨h2, none, 0, 0, [], hb1.upd u2 (by simp; omega), SlAt.nil w2 1, by simp⟩, u2.mono (by intro k hk; simp at hk; simp [hk])⟩, ?_⟩
      rintro i v' ⟨h, hu⟩ hi hor
      have hu' : Upd [r1, r3] v v' := u1.both hu
      rcases hd : dnums i l3 with _ | ⟨ns, q⟩
      · rw [hd] at h
        have hfn : fin st = none := by
          have := dnums_more hd (n.toNat - i)
          rw [show i + (n.toNat - i) = n.toNat by omega] at this
          rw [hfin, this]
        exact final v' none (by simpa [RdO] using h) hu' (fun _ => hfn) (fun h => by cases h)
      · rw [hd] at h hor
        simp at hor
        subst hor
        rw [hd] at hfin
        simp only at hfin h
        obtain ⟨hr, cp, cn, cc, G, hb3', hs, hG⟩ := h
        refine final v' (some q) hr hu' (fun hq => ?_) (fun hq => ?_)
        · rw [hfin, if_neg (by simpa using hq)]
        · simp at hq
          refine ⟨cp, cn, cc, ns, G, by rw [hfin, if_pos hq], hb3', hs, fun hx => ?_⟩
          have := hG _ hx
          omega
end

end Go.Proofs.YtggbmakfifllnaaDoor
