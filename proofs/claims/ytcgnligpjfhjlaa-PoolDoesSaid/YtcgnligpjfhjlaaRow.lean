/- Runs in memory: where they stand; what is put in and taken out. -/
import Derived.Test.YtcgnligpjfhjlaaGenAll
import Derived.Test.YtcgnligpjfhjlaaGenT
import Derived.Test.YtcgnligpjfhjlaaRuns
import Derived.Test.YtcgnligpjfhjlaaOwn11
import Derived.Lib.Overlaps
namespace Go.Proofs.Ytcgnligpjfhjlaa
open Go Go.D Go.Proofs
set_option linter.unusedSimpArgs false
set_option linter.unusedVariables false
set_option maxRecDepth 8000

/-- An entry's cells. -/
def eC (e : Int × Int) : List Value := [.int .i64 e.1, .int .i64 e.2]

theorem eC_len (e : Int × Int) : (eC e).length = 2 := rfl

theorem eC_one {E : List (Int × Int)} : ∀ v ∈ E.flatMap eC, v.oneCell' = true := by
  intro v hv
  obtain ⟨e, _, h⟩ := List.mem_flatMap.1 hv
  simp [eC] at h
  rcases h with rfl | rfl <;> rfl

/-- A row in memory. -/
abbrev RowAt (w : World) (p : Option Addr) (n c : Nat) (E : List (Int × Int)) (F : List Nat) : Prop := SlAt w 2 p n c (E.flatMap eC) F

theorem RowAt.len {w : World} {p : Option Addr} {n c : Nat} {E : List (Int × Int)} {F : List Nat} (h : RowAt w p n c E F) : n = E.length := by
  have := h.1
  rw [flat_len eC_len] at this; omega

theorem RowAt.get {w : World} {p : Option Addr} {n c : Nat} {E : List (Int × Int)} {F : List Nat} (h : RowAt w p n c E F) {i : Nat} (hi : i < E.length) :
    ∃ b off, p = some ⟨b, off, none⟩ ∧ w.cell? ⟨b, off + i * 2, none⟩ = some (.int .i64 E[i].1) ∧ w.cell? ⟨b, off + i * 2 + 1, none⟩ = some (.int .i64 E[i].2) := by
  have hn := h.len
  rcases h.2.2 with ⟨_, hc, _⟩ | ⟨b, off, arr, hp, _, hb, hs, hc⟩
  · have := h.2.1; omega
  · refine ⟨b, off, hp, ?_, ?_⟩
    · rw [hb.cell, hc _ (by omega), ← Nat.add_zero (i * 2), flat_at eC_len hi (by omega)]; rfl
    · rw [hb.cell, Nat.add_assoc, hc _ (by omega), flat_at eC_len hi (by omega)]; rfl

section
variable {w : World}

theorem Compare_ok {x y : Int} {K : Int → World → Prop} (hK : K (if x < y then -1 else if y < x then 1 else 0) w) : C_cmp_Compare x y w K := by
  have nan : ∀ {x : Int} {K : Bool → World → Prop}, K false w → C_cmp_isNaN x w K := by
    intro x K h
    apply C_cmp_isNaN.of
    unfold F_cmp_isNaN
    simpa using h
  apply C_cmp_Compare.of
  unfold F_cmp_Compare
  refine nan (nan (ifF rfl (ifF rfl ?_)))
  by_cases h1 : x < y
  · rw [if_pos h1] at hK; exact ifT (by simpa using h1) hK
  · rw [if_neg h1] at hK
    refine ifF (by simpa using h1) ?_
    by_cases h2 : y < x
    · rw [if_pos h2] at hK; exact ifT (by simpa using h2) hK
    · rw [if_neg h2] at hK; exact ifF (by simpa using h2) hK

theorem cmpV_ok {a b t : Int} {K : Value → World → Prop} (hab : -2 ^ 40 ≤ a ∧ a ≤ 2 ^ 40 ∧ -2 ^ 40 ≤ b ∧ b ≤ 2 ^ 40) (hK : ∀ w', Upd [] w w' → K (.int .i64 (if a + b - 1 < t then -1 else if t < a + b - 1 then 1 else 0)) w') : CallV Try.prog (.func (.func 58) #[] #[]) [.agg #[.int .i64 a, .int .i64 b], .int .i64 t] w K := by
  refine ⟨_, _, _, rfl, rfl, ?_⟩
  refine Calls.mono (C_pool_segment_place_1.of (r0 := a) (r1 := b) (atx := t) (R := fun x w' => K (.int .i64 x) w') ?_) fun e w2 ⟨x, he, hx⟩ => ⟨_, he, hx⟩
  unfold F_pool_segment_place_1
  refine New_rule fun r w1 hr u1 hb1 => ?_
  simp only [NN_some, addN, drw_cell, drw_heap, exS, exI, exB, exP, exM, exStr, exV, a0, a1, a2, a3, a4, a5, a6, a7, a8, a9, a10, a11, a12, a13, maxI_eq, Nat.zero_add, Nat.add_zero, Nat.mul_one, Option.isNone_some, Option.isNone_none, hb1.cell]
  rw [i64id (x := a + b) (by omega) (by omega), i64id (x := a + b - 1) (by omega) (by omega)]
  exact Compare_ok (hK w1 u1)

theorem mid_eq {x : Int} (h0 : 0 ≤ x) (h1 : x < 2 ^ 40) : IntKind.i64.wrap (shrI .u64 (IntKind.u64.wrap (IntKind.i64.wrap x)) (1 : Int)) = x / 2 := by
  rw [i64id (x := x) (by omega) (by omega)]
  have e : IntKind.u64.wrap x = x := by
    simp only [IntKind.wrap, IntKind.bits, IntKind.signed]
    simp; omega
  rw [e]
  unfold shrI
  have e2 : x.fdiv (2 ^ (min (1 : Int).toNat IntKind.u64.bits)) = x / 2 := by
    have : min (1 : Int).toNat IntKind.u64.bits = 1 := by rfl
    rw [this, Int.fdiv_eq_ediv_of_nonneg _ (by omega)]; rfl
  rw [e2, i64id (by omega) (by omega)]


/-- Searched, by a number that each run has. -/
theorem Search_ok {p : Option Addr} {n c : Nat} {E : List (Int × Int)} {F : List Nat} {t : Int} {K : Int → Bool → World → Prop} (h : RowAt w p n c E F) (hw : ∀ e ∈ E, -2 ^ 40 ≤ e.1 ∧ e.1 ≤ 2 ^ 40 ∧ -2 ^ 40 ≤ e.2 ∧ e.2 ≤ 2 ^ 40) (hl : E.length < 2 ^ 38)
    (hr : E.Pairwise fun a b => a.1 + a.2 < b.1 + b.2)
    (hK : ∀ (i : Nat) b w', i ≤ E.length → (∀ j (hj : j < E.length), j < i → E[j].1 + E[j].2 - 1 < t) → (∀ j (hj : j < E.length), i ≤ j → t ≤ E[j].1 + E[j].2 - 1) → Upd [] w w' → K i b w') :
    C_slices_BinarySearchFunc__2 p n c t (.func (.func 58) #[] #[]) w K := by
  apply C_slices_BinarySearchFunc__2.of
  unfold F_slices_BinarySearchFunc__2 F_slices_BinarySearchFunc__2_L1
  have hn := h.len
  have hlt := List.pairwise_iff_getElem.1 hr
  refine ⟨fun s v => 0 ≤ s.i ∧ s.i ≤ s.j ∧ s.j ≤ n ∧ (∀ j (hj : j < E.length), (j : Int) < s.i → E[j].1 + E[j].2 - 1 < t) ∧ (∀ j (hj : j < E.length), s.j ≤ (j : Int) → t ≤ E[j].1 + E[j].2 - 1) ∧ Upd [] w v, fun s _ => (s.j - s.i).toNat, ⟨by simp, by simp, by simp, fun j hj h => by simp at h; omega, fun j hj h => by simp at h; omega, Upd.refl _ _⟩, ?_⟩
  rintro ⟨i, j⟩ v ⟨h0, h1, h2, h3, h4, u⟩
  dsimp only at h0 h1 h2 h3 h4
  unfold B_slices_BinarySearchFunc__2_L1
  dsimp only
  have hv : RowAt v p n c E F := SlAt.upd h u (by intro k _ h; cases h)
  refine ifC (fun hc => ?_) (fun hc => ?_)
  · simp at hc
    rw [mid_eq (by omega) (by omega)]
    obtain ⟨m, hm⟩ : ∃ m : Nat, (i + j) / 2 = m := ⟨((i + j) / 2).toNat, by omega⟩
    rw [hm]
    have hm1 : i ≤ m ∧ (m : Int) < j := by omega
    have hml : m < E.length := by omega
    obtain ⟨b, off, hp, c1, c2⟩ := hv.get hml
    simp only [NN_some, addN, drw_cell, drw_heap, exS, exI, exB, exP, exM, exStr, exV, a0, a1, a2, a3, a4, a5, a6, a7, a8, a9, a10, a11, a12, a13, maxI_eq, Nat.zero_add, Nat.add_zero, Nat.mul_one, Option.isNone_some, Option.isNone_none, hp, Int.toNat_natCast, c1, c2]
    refine ⟨by omega, by omega, by omega, cmpV_ok (hw _ (List.getElem_mem hml)) fun v1 u1 => ⟨_, rfl, ifC (fun hc2 => ?_) (fun hc2 => ?_)⟩⟩
    · have hlt1 : E[m].1 + E[m].2 - 1 < t := by
        by_cases h5 : E[m].1 + E[m].2 - 1 < t
        · exact h5
        · rw [if_neg h5] at hc2
          simp at hc2
          split at hc2 <;> omega
      rw [i64id (by omega) (by omega)]
      refine ⟨⟨by omega, by omega, h2, fun k hk hk2 => ?_, h4, u.after u1⟩, by omega⟩
      by_cases hkm : k = m
      · subst hkm; exact hlt1
      · have := hlt k m hk hml (by omega); omega
    · have hge : t ≤ E[m].1 + E[m].2 - 1 := by
        by_cases h5 : E[m].1 + E[m].2 - 1 < t
        · rw [if_pos h5] at hc2; simp at hc2
        · omega
      refine ⟨⟨h0, by omega, by omega, h3, fun k hk hk2 => ?_, u.after u1⟩, by omega⟩
      by_cases hkm : k = m
      · subst hkm; exact hge
      · have := hlt m k hml hk (by omega); omega
  · simp at hc
    obtain rfl : j = i := by omega
    obtain ⟨m, rfl⟩ : ∃ m : Nat, j = m := ⟨j.toNat, by omega⟩
    refine ifC (fun hc2 => ?_) (fun hc2 => ?_)
    · simp at hc2
      have hml : m < E.length := by omega
      obtain ⟨b, off, hp, c1, c2⟩ := hv.get hml
      simp only [NN_some, addN, drw_cell, drw_heap, exS, exI, exB, exP, exM, exStr, exV, a0, a1, a2, a3, a4, a5, a6, a7, a8, a9, a10, a11, a12, a13, maxI_eq, Nat.zero_add, Nat.add_zero, Nat.mul_one, Option.isNone_some, Option.isNone_none, hp, Int.toNat_natCast, c1, c2]
      refine ⟨by omega, by omega, cmpV_ok (hw _ (List.getElem_mem hml)) fun v1 u1 => ⟨_, rfl, ?_⟩⟩
      exact hK m _ v1 (by omega) (fun k hk hk2 => h3 k hk (by omega)) (fun k hk hk2 => h4 k hk (by omega)) (u.after u1)
    · exact hK m _ v (by omega) (fun k hk hk2 => h3 k hk (by omega)) (fun k hk hk2 => h4 k hk (by omega)) u

theorem overlaps_ok {vb b off la ca lb cb : Nat} {arr : Array Value} {K : Value → World → Prop} (hp : Plain w vb) (hb : Blk w b arr) (hne : vb ≠ b) (ha : arr.size ≠ 0) (hK : K (.bool false) w) :
    CallX Try.prog 59 [.slice (some ⟨vb, 0, none⟩) la ca, .slice (some ⟨b, off, none⟩) lb cb] w K := by
  refine ⟨.bool false, w, ?_, hK⟩
  obtain ⟨va, T, hv⟩ := hp
  obtain ⟨T', fz, hb1, _⟩ := hb
  rw [run_callFunc_extern (P := Try.prog) (fn := Try.f59) (e := Extern.SlicesOverlaps.overlaps #[40, 40] #[4]) (by rfl) (by kernel_rfl) (by rfl) (by kernel_rfl) (by kernel_rfl)]
  have := Go.Lib.run_overlaps_apart (P := Try.prog) w 40 4 58 (by rfl) 2 (fun w => by rfl) ⟨vb, 0, none⟩ ⟨b, off, none⟩ la ca lb cb hne T T' va.size arr.size (by simp [World.shape?, hv]) (by simp [World.shape?, hb1]) ha (by simp [World.frozen?, hv]) (by simp [World.frozen?, hv])
  rw [show ([Value.slice (some ⟨vb, 0, none⟩) la ca, Value.slice (some ⟨b, off, none⟩) lb cb] : List Value).toArray = #[Value.slice (some ⟨vb, 0, none⟩) la ca, Value.slice (some ⟨b, off, none⟩) lb cb] from rfl, this]
  rfl

end

theorem zero2 (n : Nat) : zeroL #[.int .i64 0, .int .i64 0] n = (List.replicate n ((0 : Int), (0 : Int))).flatMap eC := by
  unfold zeroL Builtin.zeroCells
  apply List.ext_getElem?
  intro i
  by_cases hi : i < n * 2
  · rw [Array.getElem?_toList]
    have h2 : i = i / 2 * 2 + i % 2 := by omega
    have h3 : i / 2 < (List.replicate n ((0 : Int), (0 : Int))).length := by simp; omega
    rw [show ((List.replicate n ((0 : Int), (0 : Int))).flatMap eC)[i]? = (eC (List.replicate n ((0 : Int), (0 : Int)))[i / 2])[i % 2]? from by rw [← flat_at eC_len h3 (show i % 2 < 2 by omega), ← h2]]
    have h4 : i % 2 = 0 ∨ i % 2 = 1 := by omega
    rcases h4 with h | h <;> simp [hi, h, eC]
  · rw [List.getElem?_eq_none (by simp; omega), List.getElem?_eq_none (by rw [flat_len eC_len]; simp; omega)]

section
variable {w : World}

theorem Insert_ok {p : Option Addr} {n c i vb : Nat} {E : List (Int × Int)} {e : Int × Int} {F : List Nat} {K : Option Addr → Nat → Nat → World → Prop} (h : RowAt w p n c E F) (hi : i ≤ E.length) (hl : E.length ≤ 2 ^ 30)
    (hv : RowAt w (some ⟨vb, 0, none⟩) 1 1 [e] [vb]) (hpl : Plain w vb) (hvF : vb ∉ F)
    (hK : ∀ p' c' F' w', RowAt w' p' (n + 1) c' (E.take i ++ e :: E.drop i) F' → Upd F w w' → Sub F' F w → K p' (n + 1) c' w') : C_slices_Insert p n c i (some ⟨vb, 0, none⟩) 1 1 w K := by
  apply C_slices_Insert.of
  unfold F_slices_Insert
  have hn := h.len
  have hnc := h.2.1
  have hone := eC_one (E := [e])
  have hxl : (E.flatMap eC).length = n * 2 := h.1
  have key : (E.take i ++ e :: E.drop i).flatMap eC = (E.flatMap eC).take (i * 2) ++ (eC e ++ (E.flatMap eC).drop (i * 2)) := by
    rw [flat_take eC_len, flat_drop eC_len, List.flatMap_append, List.flatMap_cons]
  refine ⟨by omega, by omega, ifF rfl ?_⟩
  by_cases hin : i = n
  · refine ifT (by simp; omega) ?_
    refine App2_rule (hE := eS_40) (by rfl) h hv hone (by omega) fun p' c' F' w' hs u s => hK p' c' F' w' ?_ u s
    show SlAt w' 2 p' (n + 1) c' _ F'
    rw [key, hin, List.take_of_length_le (by omega), List.drop_of_length_le (by omega)]
    simpa using hs
  · refine ifF (by simp; omega) ?_
    rw [i64id (x := (n : Int) + ((1 : Nat) : Int)) (by omega) (by omega), i64id (x := (i : Int) + ((1 : Nat) : Int)) (by omega) (by omega)]
    rw [i64id (x := (n : Int) + ((1 : Nat) : Int) - (i : Int)) (by omega) (by omega)]
    have e1 : ((i : Int) + ((1 : Nat) : Int)).toNat = i + 1 := by omega
    have e2 : ((n : Int) + ((1 : Nat) : Int)).toNat = n + 1 := by omega
    have e3 : (i : Int).toNat = i := by omega
    have e4 : (n : Int).toNat = n := by omega
    rw [e1, e2, e3]
    refine ifC (fun hc => ?_) (fun hc => ?_)
    · -- anew
      simp at hc
      refine ⟨by omega, by omega, ?_⟩
      have ht := h.take (k := i) (by omega)
      have em : ((n : Int) + ((1 : Nat) : Int) - (i : Int)).toNat = n + 1 - i := by omega
      refine AppZ_grow (hE := eS_40) (I := 3) ⟨_, by rfl⟩ ht (by omega) (by rw [em]; omega) (by rw [em]; omega) fun c1 w1 hs1 u1 => ?_
      rw [em] at hs1 ⊢
      have en : i + (n + 1 - i) = n + 1 := by omega
      rw [en] at hs1 ⊢
      have hv1 : RowAt w1 (some ⟨vb, 0, none⟩) 1 1 [e] [vb] := hv.upd u1 (by intro k _ h; cases h)
      refine ⟨by omega, by omega, CpyAt_rule (hE := eS_40) hs1 (k := i) (m := 1) (by omega) hv1 hone fun w2 hs2 u2 => ?_⟩
      have U2 : Upd [] w w2 := u1.fresh u2 (by intro k hk; simp at hk; omega)
      have h2 := (h.upd U2 (by intro k _ h; cases h)).drw
      refine ⟨by omega, by omega, by omega, by omega, CpyAt_rule (hE := eS_40) hs2.drw (k := i + 1) (m := n - i) (by omega) (h2.drop (k := i) (by omega)) (fun v hv => eC_one v (List.mem_of_mem_drop hv)) fun w3 hs3 u3 => ?_⟩
      have U3 : Upd [] w w3 := (U2.after (drw_upd w2)).fresh u3 (by intro k hk; simp at hk; omega)
      refine hK _ c1 [w.heap.size] w3 ?_ (U3.mono (by simp)) (by intro k hk; simp at hk; right; omega)
      show SlAt w3 2 _ (n + 1) c1 _ _
      rw [key]
      have hzl : (zeroL #[Value.int IntKind.i64 0, Value.int IntKind.i64 0] (n + 1 - i)).length = (n + 1 - i) * 2 := by rw [zeroL_length]; rfl
      have e5 : ((((E.flatMap eC).take (i * 2) ++ zeroL #[Value.int IntKind.i64 0, Value.int IntKind.i64 0] (n + 1 - i)).take (i * 2) ++ [e].flatMap eC ++ ((E.flatMap eC).take (i * 2) ++ zeroL #[Value.int IntKind.i64 0, Value.int IntKind.i64 0] (n + 1 - i)).drop ((i + 1) * 2)).take ((i + 1) * 2) ++ (E.flatMap eC).drop (i * 2) ++ (((E.flatMap eC).take (i * 2) ++ zeroL #[Value.int IntKind.i64 0, Value.int IntKind.i64 0] (n + 1 - i)).take (i * 2) ++ [e].flatMap eC ++ ((E.flatMap eC).take (i * 2) ++ zeroL #[Value.int IntKind.i64 0, Value.int IntKind.i64 0] (n + 1 - i)).drop ((i + 1) * 2)).drop ((i + 1 + (n - i)) * 2)) = (E.flatMap eC).take (i * 2) ++ (eC e ++ (E.flatMap eC).drop (i * 2)) := by
        have hA : ((E.flatMap eC).take (i * 2)).length = i * 2 := by rw [List.length_take, hxl]; omega
        have hB : ([e].flatMap eC) = eC e := by simp
        rw [hB]
        have hC : (((E.flatMap eC).take (i * 2) ++ zeroL #[Value.int IntKind.i64 0, Value.int IntKind.i64 0] (n + 1 - i)).take (i * 2)) = (E.flatMap eC).take (i * 2) := by
          rw [List.take_append_of_le_length (by omega), List.take_of_length_le (by omega)]
        rw [hC]
        have hD : ((E.flatMap eC).take (i * 2) ++ eC e).length = (i + 1) * 2 := by rw [List.length_append, hA, eC_len]; omega
        rw [List.take_append_of_le_length (by omega), List.take_of_length_le (by omega)]
        rw [List.drop_of_length_le (l := (E.flatMap eC).take (i * 2) ++ eC e ++ _) (by rw [List.length_append, hD, List.length_drop, List.length_append, hA, hzl]; omega)]
        simp
      rw [← e5]
      exact hs3
    · -- moved on
      simp at hc
      refine ⟨by omega, by omega, by omega, by omega, ?_⟩
      rcases h.2.2 with ⟨hp, hc0, _⟩ | ⟨b, off, arr, rfl, rfl, hblk, hsz, hcell⟩
      · omega
      have hadv : adv (some ⟨b, off, none⟩) c (i + 1) 2 = some ⟨b, off + (i + 1) * 2, none⟩ := by unfold adv; rw [if_neg (by omega)]; simp [addN]
      rw [hadv]
      refine overlaps_ok hpl hblk (by simpa using hvF) (by omega) ⟨_, rfl, ifT rfl ?_⟩
      rw [← hadv]
      obtain ⟨xs, hw, hxs⟩ := h.widen (k := n + 1) (by omega) (by omega)
      have hxl1 : (E.flatMap eC ++ xs).length = (n + 1) * 2 := hw.1
      have hxs1 : xs.length = 2 := by omega
      -- the source is longer than the place: what fits is copied
      have hsrc := hw.drop (k := i) (by omega)
      have hmin : Nat.min (n + 1 - i) (n + 1 - (i + 1)) = n - i := by
        rw [show n + 1 - (i + 1) = n - i by omega]; exact Nat.min_eq_right (by omega)
      have hpart : ((E.flatMap eC ++ xs).drop (i * 2)).take ((n - i) * 2) = (E.flatMap eC).drop (i * 2) := by
        rw [List.drop_append_of_le_length (by omega), List.take_append_of_le_length (by rw [List.length_drop]; omega), List.take_of_length_le (by rw [List.length_drop]; omega)]
      refine ⟨by omega, by omega, by omega, by omega, CpyMin_rule (hE := eS_40) (n - i) (k := i + 1) hw.drw (by omega) hmin hsrc.drw (fun v hv => by rw [hpart] at hv; exact eC_one v (List.mem_of_mem_drop hv)) fun w1 hs1 u1 => ?_⟩
      have U1 : Upd [b] w w1 := (drw_upd w).after u1
      rw [hpart] at hs1
      have hv1 : RowAt w1 (some ⟨vb, 0, none⟩) 1 1 [e] [vb] := hv.upd U1 (by intro k hk; simp at hk; subst hk; exact hvF)
      refine ⟨by omega, by omega, CpyAt_rule (hE := eS_40) hs1 (k := i) (m := 1) (by omega) hv1 hone fun w2 hs2 u2 => ?_⟩
      refine hK _ c [b] w2 ?_ (U1.both u2) (Sub.refl _ _)
      show SlAt w2 2 _ (n + 1) c _ _
      rw [key]
      have hB : ([e].flatMap eC) = eC e := by simp
      rw [hB] at hs2
      have e5 : ((E.flatMap eC ++ xs).take ((i + 1) * 2) ++ (E.flatMap eC).drop (i * 2) ++ (E.flatMap eC ++ xs).drop ((i + 1 + (n - i)) * 2)).take (i * 2) ++ eC e ++ ((E.flatMap eC ++ xs).take ((i + 1) * 2) ++ (E.flatMap eC).drop (i * 2) ++ (E.flatMap eC ++ xs).drop ((i + 1 + (n - i)) * 2)).drop ((i + 1) * 2) = (E.flatMap eC).take (i * 2) ++ (eC e ++ (E.flatMap eC).drop (i * 2)) := by
        have hA : ((E.flatMap eC ++ xs).take ((i + 1) * 2)).length = (i + 1) * 2 := by rw [List.length_take]; omega
        have hZ : (E.flatMap eC ++ xs).drop ((i + 1 + (n - i)) * 2) = [] := List.drop_of_length_le (by omega)
        rw [hZ, List.append_nil, List.drop_append_of_le_length (by omega), List.drop_of_length_le (l := (E.flatMap eC ++ xs).take ((i + 1) * 2)) (by omega), List.take_append_of_le_length (by omega), List.take_take, List.take_append_of_le_length (by omega)]
        rw [show min (i * 2) ((i + 1) * 2) = i * 2 by omega]
        simp
      rw [← e5]
      exact hs2

theorem Delete_ok {p : Option Addr} {n c i : Nat} {E : List (Int × Int)} {F : List Nat} {K : Option Addr → Nat → Nat → World → Prop} (h : RowAt w p n c E F) (hi : i < E.length) (hl : E.length ≤ 2 ^ 30)
    (hK : ∀ p' c' F' w', RowAt w' p' (n - 1) c' (E.take i ++ E.drop (i + 1)) F' → Upd F w w' → Sub F' F w → K p' (n - 1) c' w') : C_slices_Delete p n c i ((i : Int) + 1) w K := by
  apply C_slices_Delete.of
  unfold F_slices_Delete
  have hn := h.len
  have hnc := h.2.1
  have hxl : (E.flatMap eC).length = n * 2 := h.1
  have e1 : ((i : Int) + 1).toNat = i + 1 := by omega
  have e2 : (i : Int).toNat = i := by omega
  refine ⟨by omega, by omega, by omega, by omega, ifF (by simp; omega) ⟨by omega, by omega, by omega, by omega, ?_⟩⟩
  rw [e1, e2]
  have hin : i + (n - (i + 1)) = n - 1 := by omega
  refine AppIn_rule (hE := eS_40) h.drw (n := i) (by omega) (h.drop (k := i + 1) (by omega)).drw (fun v hv => eC_one v (List.mem_of_mem_drop hv)) fun w1 hs1 u1 => ?_
  rw [hin] at hs1 ⊢
  have U1 : Upd F w w1 := (drw_upd w).after u1
  have e3 : ((n - 1 : Nat) : Int).toNat = n - 1 := by omega
  have e4 : (n : Int).toNat = n := by omega
  rw [e3, e4]
  refine ⟨by omega, by omega, by omega, Clr_rule (hE := eS_40) hs1 (k := n - 1) (by omega) fun v w2 hs2 u2 => ?_⟩
  have hs3 := hs2.take (k := n - 1) (by omega)
  refine hK p c F w2 ?_ (U1.both u2) (Sub.refl _ _)
  have key : (E.take i ++ E.drop (i + 1)).flatMap eC = (E.flatMap eC).take (i * 2) ++ (E.flatMap eC).drop ((i + 1) * 2) := by
    rw [flat_take eC_len, flat_drop eC_len, List.flatMap_append]
  show SlAt w2 2 p (n - 1) c _ F
  rw [key]
  have hlen : ((E.flatMap eC).take (i * 2) ++ (E.flatMap eC).drop ((i + 1) * 2)).length = (n - 1) * 2 := by rw [List.length_append, List.length_take, List.length_drop]; omega
  rw [List.take_append_of_le_length (l₁ := (E.flatMap eC).take (i * 2) ++ (E.flatMap eC).drop ((i + 1) * 2)) (by omega), List.take_of_length_le (l := (E.flatMap eC).take (i * 2) ++ (E.flatMap eC).drop ((i + 1) * 2)) (by omega), List.take_append_of_le_length (by omega), List.take_of_length_le (by omega)] at hs3
  exact hs3

end

end Go.Proofs.Ytcgnligpjfhjlaa
