/- Rows of entries: what stands in them; where a rank stands; what is put in and taken out. -/
import Derived.Test.YtlndgaijekihiaaGreatGenAll
import Derived.Test.YtlndgaijekihiaaGreatGenT
import Derived.Test.YtlndgaijekihiaaGreatOwn12
import Derived.Lib.Overlaps
namespace Go.Proofs.YtlndgaijekihiaaGreat
open Go Go.D Go.Proofs
namespace Ix
set_option linter.unusedSimpArgs false
set_option linter.unusedVariables false
set_option maxRecDepth 8000

/-- An entry's cells. -/
def eC (e : Int × Int) : List Value := [.int .i64 e.1, .int .i64 e.2]

theorem eC_len (e : Int × Int) : (eC e).length = 2 := rfl

theorem eC_one {E : List (Int × Int)} : ∀ v ∈ E.flatMap eC, v.oneCell' = true := by
  intro v hv
  obtain ⟨e, _, h⟩ := List.mem_flatMap.1 hv
  simp [eC] at h
  rcases h with rfl | rfl <;> rfl

/-- A row in memory. -/
abbrev RowAt (w : World) (p : Option Addr) (n c : Nat) (E : List (Int × Int)) (F : List Nat) : Prop := SlAt w 2 p n c (E.flatMap eC) F

theorem RowAt.len {w : World} {p : Option Addr} {n c : Nat} {E : List (Int × Int)} {F : List Nat} (h : RowAt w p n c E F) : n = E.length := by
  have := h.1
  rw [flat_len eC_len] at this; omega

theorem RowAt.get {w : World} {p : Option Addr} {n c : Nat} {E : List (Int × Int)} {F : List Nat} (h : RowAt w p n c E F) {i : Nat} (hi : i < E.length) :
    ∃ b off, p = some ⟨b, off, none⟩ ∧ w.cell? ⟨b, off + i * 2, none⟩ = some (.int .i64 E[i].1) ∧ w.cell? ⟨b, off + i * 2 + 1, none⟩ = some (.int .i64 E[i].2) := by
  have hn := h.len
  rcases h.2.2 with ⟨_, hc, _⟩ | ⟨b, off, arr, hp, _, hb, hs, hc⟩
  · have := h.2.1; omega
  · refine ⟨b, off, hp, ?_, ?_⟩
    · rw [hb.cell, hc _ (by omega), ← Nat.add_zero (i * 2), flat_at eC_len hi (by omega)]; rfl
    · rw [hb.cell, Nat.add_assoc, hc _ (by omega), flat_at eC_len hi (by omega)]; rfl

section
variable {w : World}

theorem Compare_ok {x y : Int} {K : Int → World → Prop} (hK : K (if x < y then -1 else if y < x then 1 else 0) w) : C_cmp_Compare__2 x y w K := by
  have nan : ∀ {x : Int} {K : Bool → World → Prop}, K false w → C_cmp_isNaN__2 x w K := by
    intro x K h
    apply C_cmp_isNaN__2.of
    unfold F_cmp_isNaN__2
    simpa using h
  apply C_cmp_Compare__2.of
  unfold F_cmp_Compare__2
  refine nan (nan (ifF rfl (ifF rfl ?_)))
  by_cases h1 : x < y
  · rw [if_pos h1] at hK; exact ifT (by simpa using h1) hK
  · rw [if_neg h1] at hK
    refine ifF (by simpa using h1) ?_
    by_cases h2 : y < x
    · rw [if_pos h2] at hK; exact ifT (by simpa using h2) hK
    · rw [if_neg h2] at hK; exact ifF (by simpa using h2) hK

theorem cmpV_ok {a b t : Int} {K : Value → World → Prop} (hK : ∀ w', Upd [] w w' → K (.int .i64 (if a < t then -1 else if t < a then 1 else 0)) w') : CallV Tryz.prog (.func (.func 90) #[] #[]) [.agg #[.int .i64 a, .int .i64 b], .int .i64 t] w K := by
  refine ⟨_, _, _, rfl, rfl, ?_⟩
  refine Calls.mono (C_index_row_place_1.of (e0 := a) (e1 := b) (rank := t) (R := fun x w' => K (.int .i64 x) w') ?_) fun e w2 ⟨x, he, hx⟩ => ⟨_, he, hx⟩
  unfold F_index_row_place_1
  refine New_rule fun r w1 hr u1 hb1 => ?_
  simp only [NN_some, addN, drw_cell, drw_heap, exS, exI, exB, exP, exM, exStr, exV, a0, a1, a2, a3, a4, a5, a6, a7, a8, a9, a10, a11, a12, a13, maxI_eq, Nat.zero_add, Nat.add_zero, Nat.mul_one, Option.isNone_some, Option.isNone_none, hb1.cell]
  exact Compare_ok (hK w1 u1)

theorem mid_eq {x : Int} (h0 : 0 ≤ x) (h1 : x < 2 ^ 40) : IntKind.i64.wrap (shrI .u64 (IntKind.u64.wrap (IntKind.i64.wrap x)) (1 : Int)) = x / 2 := by
  rw [i64id (x := x) (by omega) (by omega)]
  have e : IntKind.u64.wrap x = x := by
    simp only [IntKind.wrap, IntKind.bits, IntKind.signed]
    simp; omega
  rw [e]
  unfold shrI
  have e2 : x.fdiv (2 ^ (min (1 : Int).toNat IntKind.u64.bits)) = x / 2 := by
    have : min (1 : Int).toNat IntKind.u64.bits = 1 := by rfl
    rw [this, Int.fdiv_eq_ediv_of_nonneg _ (by omega)]; rfl
  rw [e2, i64id (by omega) (by omega)]

/-- By rising ranks. -/
def Rising (E : List (Int × Int)) : Prop := E.Pairwise fun a b => a.1 < b.1

theorem Rising.lt {E : List (Int × Int)} (h : Rising E) {i j : Nat} (hj : j < E.length) (hij : i < j) : (E[i]'(by omega)).1 < E[j].1 := List.pairwise_iff_getElem.1 h i j (by omega) hj hij

theorem Search_ok {p : Option Addr} {n c : Nat} {E : List (Int × Int)} {F : List Nat} {t : Int} {K : Int → Bool → World → Prop} (h : RowAt w p n c E F) (hr : Rising E) (hl : E.length < 2 ^ 38)
    (hK : ∀ (i : Nat) b w', i ≤ E.length → (∀ j (hj : j < E.length), j < i → E[j].1 < t) → (∀ j (hj : j < E.length), i ≤ j → t ≤ E[j].1) → Upd [] w w' → K i b w') :
    C_slices_BinarySearchFunc p n c t (.func (.func 90) #[] #[]) w K := by
  apply C_slices_BinarySearchFunc.of
  unfold F_slices_BinarySearchFunc F_slices_BinarySearchFunc_L1
  have hn := h.len
  refine ⟨fun s v => 0 ≤ s.i ∧ s.i ≤ s.j ∧ s.j ≤ n ∧ (∀ j (hj : j < E.length), (j : Int) < s.i → E[j].1 < t) ∧ (∀ j (hj : j < E.length), s.j ≤ (j : Int) → t ≤ E[j].1) ∧ Upd [] w v, fun s _ => (s.j - s.i).toNat, ⟨by simp, by simp, by simp, fun j hj h => by simp at h; omega, fun j hj h => by simp at h; omega, Upd.refl _ _⟩, ?_⟩
  rintro ⟨i, j⟩ v ⟨h0, h1, h2, h3, h4, u⟩
  dsimp only at h0 h1 h2 h3 h4
  unfold B_slices_BinarySearchFunc_L1
  dsimp only
  have hv : RowAt v p n c E F := SlAt.upd h u (by intro k _ h; cases h)
  refine ifC (fun hc => ?_) (fun hc => ?_)
  · simp at hc
    rw [mid_eq (by omega) (by omega)]
    obtain ⟨m, hm⟩ : ∃ m : Nat, (i + j) / 2 = m := ⟨((i + j) / 2).toNat, by omega⟩
    rw [hm]
    have hm1 : i ≤ m ∧ (m : Int) < j := by omega
    have hml : m < E.length := by omega
    obtain ⟨b, off, hp, c1, c2⟩ := hv.get hml
    simp only [NN_some, addN, drw_cell, drw_heap, exS, exI, exB, exP, exM, exStr, exV, a0, a1, a2, a3, a4, a5, a6, a7, a8, a9, a10, a11, a12, a13, maxI_eq, Nat.zero_add, Nat.add_zero, Nat.mul_one, Option.isNone_some, Option.isNone_none, hp, Int.toNat_natCast, c1, c2]
    refine ⟨by omega, by omega, by omega, cmpV_ok fun v1 u1 => ⟨_, rfl, ifC (fun hc2 => ?_) (fun hc2 => ?_)⟩⟩
    · have hlt : E[m].1 < t := by
        by_cases h5 : E[m].1 < t
        · exact h5
        · rw [if_neg h5] at hc2
          simp at hc2
          split at hc2 <;> omega
      rw [i64id (by omega) (by omega)]
      refine ⟨⟨by omega, by omega, h2, fun k hk hk2 => ?_, h4, u.after u1⟩, by omega⟩
      by_cases hkm : k = m
      · subst hkm; exact hlt
      · have := hr.lt hml (show k < m by omega); omega
    · have hge : t ≤ E[m].1 := by
        by_cases h5 : E[m].1 < t
        · rw [if_pos h5] at hc2; simp at hc2
        · omega
      refine ⟨⟨h0, by omega, by omega, h3, fun k hk hk2 => ?_, u.after u1⟩, by omega⟩
      by_cases hkm : k = m
      · subst hkm; exact hge
      · have := hr.lt hk (show m < k by omega); omega
  · simp at hc
    obtain rfl : j = i := by omega
    obtain ⟨m, rfl⟩ : ∃ m : Nat, j = m := ⟨j.toNat, by omega⟩
    refine ifC (fun hc2 => ?_) (fun hc2 => ?_)
    · simp at hc2
      have hml : m < E.length := by omega
      obtain ⟨b, off, hp, c1, c2⟩ := hv.get hml
      simp only [NN_some, addN, drw_cell, drw_heap, exS, exI, exB, exP, exM, exStr, exV, a0, a1, a2, a3, a4, a5, a6, a7, a8, a9, a10, a11, a12, a13, maxI_eq, Nat.zero_add, Nat.add_zero, Nat.mul_one, Option.isNone_some, Option.isNone_none, hp, Int.toNat_natCast, c1, c2]
      refine ⟨by omega, by omega, cmpV_ok fun v1 u1 => ⟨_, rfl, ?_⟩⟩
      exact hK m _ v1 (by omega) (fun k hk hk2 => h3 k hk (by omega)) (fun k hk hk2 => h4 k hk (by omega)) (u.after u1)
    · exact hK m _ v (by omega) (fun k hk hk2 => h3 k hk (by omega)) (fun k hk hk2 => h4 k hk (by omega)) u

theorem place_ok {p : Option Addr} {n c : Nat} {E : List (Int × Int)} {F : List Nat} {t : Int} {K : Int → World → Prop} (h : RowAt w p n c E F) (hr : Rising E) (hl : E.length < 2 ^ 38)
    (hK : ∀ (i : Nat) w', i ≤ E.length → (∀ j (hj : j < E.length), j < i → E[j].1 < t) → (∀ j (hj : j < E.length), i ≤ j → t ≤ E[j].1) → Upd [] w w' → K i w') : C_index_row_place p n c t w K := by
  apply C_index_row_place.of
  unfold F_index_row_place
  exact Search_ok h hr hl fun i b w' h1 h2 h3 u => hK i w' h1 h2 h3 u

theorem overlaps_ok {vb b off la ca lb cb : Nat} {arr : Array Value} {K : Value → World → Prop} (hp : Plain w vb) (hb : Blk w b arr) (hne : vb ≠ b) (ha : arr.size ≠ 0) (hK : K (.bool false) w) :
    CallX Tryz.prog 87 [.slice (some ⟨vb, 0, none⟩) la ca, .slice (some ⟨b, off, none⟩) lb cb] w K := by
  refine ⟨.bool false, w, ?_, hK⟩
  obtain ⟨va, T, hv⟩ := hp
  obtain ⟨T', fz, hb1, _⟩ := hb
  rw [run_callFunc_extern (P := Tryz.prog) (fn := Tryz.f87) (e := Extern.SlicesOverlaps.overlaps #[95, 95] #[4]) (by rfl) (by kernel_rfl) (by rfl) (by kernel_rfl) (by kernel_rfl)]
  have := Go.Lib.run_overlaps_apart (P := Tryz.prog) w 95 4 105 (by rfl) 2 (fun w => by rfl) ⟨vb, 0, none⟩ ⟨b, off, none⟩ la ca lb cb hne T T' va.size arr.size (by simp [World.shape?, hv]) (by simp [World.shape?, hb1]) ha (by simp [World.frozen?, hv]) (by simp [World.frozen?, hv])
  rw [show ([Value.slice (some ⟨vb, 0, none⟩) la ca, Value.slice (some ⟨b, off, none⟩) lb cb] : List Value).toArray = #[Value.slice (some ⟨vb, 0, none⟩) la ca, Value.slice (some ⟨b, off, none⟩) lb cb] from rfl, this]
  rfl

end

end Ix

end Go.Proofs.YtlndgaijekihiaaGreat

/- Rows of entries: slices.Insert, slices.Delete; what is put in, cut, and told. -/
namespace Go.Proofs.YtlndgaijekihiaaGreat
open Go Go.D Go.Proofs
namespace Ix
set_option linter.unusedSimpArgs false
set_option linter.unusedVariables false
set_option maxRecDepth 8000

theorem zero2 (n : Nat) : zeroL #[.int .i64 0, .int .i64 0] n = (List.replicate n ((0 : Int), (0 : Int))).flatMap eC := by
  unfold zeroL Builtin.zeroCells
  apply List.ext_getElem?
  intro i
  by_cases hi : i < n * 2
  · rw [Array.getElem?_toList]
    have h2 : i = i / 2 * 2 + i % 2 := by omega
    have h3 : i / 2 < (List.replicate n ((0 : Int), (0 : Int))).length := by simp; omega
    rw [show ((List.replicate n ((0 : Int), (0 : Int))).flatMap eC)[i]? = (eC (List.replicate n ((0 : Int), (0 : Int)))[i / 2])[i % 2]? from by rw [← flat_at eC_len h3 (show i % 2 < 2 by omega), ← h2]]
    have h4 : i % 2 = 0 ∨ i % 2 = 1 := by omega
    rcases h4 with h | h <;> simp [hi, h, eC]
  · rw [List.getElem?_eq_none (by simp; omega), List.getElem?_eq_none (by rw [flat_len eC_len]; simp; omega)]

section
variable {w : World}

theorem Insert_ok {p : Option Addr} {n c i vb : Nat} {E : List (Int × Int)} {e : Int × Int} {F : List Nat} {K : Option Addr → Nat → Nat → World → Prop} (h : RowAt w p n c E F) (hi : i ≤ E.length) (hl : E.length ≤ 2 ^ 30)
    (hv : RowAt w (some ⟨vb, 0, none⟩) 1 1 [e] [vb]) (hpl : Plain w vb) (hvF : vb ∉ F)
    (hK : ∀ p' c' F' w', RowAt w' p' (n + 1) c' (E.take i ++ e :: E.drop i) F' → Upd F w w' → Sub F' F w → K p' (n + 1) c' w') : C_slices_Insert p n c i (some ⟨vb, 0, none⟩) 1 1 w K := by
  apply C_slices_Insert.of
  unfold F_slices_Insert
  have hn := h.len
  have hnc := h.2.1
  have hone := eC_one (E := [e])
  have hxl : (E.flatMap eC).length = n * 2 := h.1
  have key : (E.take i ++ e :: E.drop i).flatMap eC = (E.flatMap eC).take (i * 2) ++ (eC e ++ (E.flatMap eC).drop (i * 2)) := by
    rw [flat_take eC_len, flat_drop eC_len, List.flatMap_append, List.flatMap_cons]
  refine ⟨by omega, by omega, ifF rfl ?_⟩
  by_cases hin : i = n
  · refine ifT (by simp; omega) ?_
    refine App2_rule (hE := eS_96) (by rfl) h hv hone (by omega) fun p' c' F' w' hs u s => hK p' c' F' w' ?_ u s
    show SlAt w' 2 p' (n + 1) c' _ F'
    rw [key, hin, List.take_of_length_le (by omega), List.drop_of_length_le (by omega)]
    simpa using hs
  · refine ifF (by simp; omega) ?_
    rw [i64id (x := (n : Int) + ((1 : Nat) : Int)) (by omega) (by omega), i64id (x := (i : Int) + ((1 : Nat) : Int)) (by omega) (by omega)]
    rw [i64id (x := (n : Int) + ((1 : Nat) : Int) - (i : Int)) (by omega) (by omega)]
    have e1 : ((i : Int) + ((1 : Nat) : Int)).toNat = i + 1 := by omega
    have e2 : ((n : Int) + ((1 : Nat) : Int)).toNat = n + 1 := by omega
    have e3 : (i : Int).toNat = i := by omega
    have e4 : (n : Int).toNat = n := by omega
    rw [e1, e2, e3]
    refine ifC (fun hc => ?_) (fun hc => ?_)
    · -- anew
      simp at hc
      refine ⟨by omega, by omega, ?_⟩
      have ht := h.take (k := i) (by omega)
      have em : ((n : Int) + ((1 : Nat) : Int) - (i : Int)).toNat = n + 1 - i := by omega
      refine AppZ_grow (hE := eS_96) (I := 3) ⟨_, by rfl⟩ ht (by omega) (by rw [em]; omega) (by rw [em]; omega) fun c1 w1 hs1 u1 => ?_
      rw [em] at hs1 ⊢
      have en : i + (n + 1 - i) = n + 1 := by omega
      rw [en] at hs1 ⊢
      have hv1 : RowAt w1 (some ⟨vb, 0, none⟩) 1 1 [e] [vb] := hv.upd u1 (by intro k _ h; cases h)
      refine ⟨by omega, by omega, CpyAt_rule (hE := eS_96) hs1 (k := i) (m := 1) (by omega) hv1 hone fun w2 hs2 u2 => ?_⟩
      have U2 : Upd [] w w2 := u1.fresh u2 (by intro k hk; simp at hk; omega)
      have h2 := (h.upd U2 (by intro k _ h; cases h)).drw
      refine ⟨by omega, by omega, by omega, by omega, CpyAt_rule (hE := eS_96) hs2.drw (k := i + 1) (m := n - i) (by omega) (h2.drop (k := i) (by omega)) (fun v hv => eC_one v (List.mem_of_mem_drop hv)) fun w3 hs3 u3 => ?_⟩
      have U3 : Upd [] w w3 := (U2.after (drw_upd w2)).fresh u3 (by intro k hk; simp at hk; omega)
      refine hK _ c1 [w.heap.size] w3 ?_ (U3.mono (by simp)) (by intro k hk; simp at hk; right; omega)
      show SlAt w3 2 _ (n + 1) c1 _ _
      rw [key]
      have hzl : (zeroL #[Value.int IntKind.i64 0, Value.int IntKind.i64 0] (n + 1 - i)).length = (n + 1 - i) * 2 := by rw [zeroL_length]; rfl
      have e5 : ((((E.flatMap eC).take (i * 2) ++ zeroL #[Value.int IntKind.i64 0, Value.int IntKind.i64 0] (n + 1 - i)).take (i * 2) ++ [e].flatMap eC ++ ((E.flatMap eC).take (i * 2) ++ zeroL #[Value.int IntKind.i64 0, Value.int IntKind.i64 0] (n + 1 - i)).drop ((i + 1) * 2)).take ((i + 1) * 2) ++ (E.flatMap eC).drop (i * 2) ++ (((E.flatMap eC).take (i * 2) ++ zeroL #[Value.int IntKind.i64 0, Value.int IntKind.i64 0] (n + 1 - i)).take (i * 2) ++ [e].flatMap eC ++ ((E.flatMap eC).take (i * 2) ++ zeroL #[Value.int IntKind.i64 0, Value.int IntKind.i64 0] (n + 1 - i)).drop ((i + 1) * 2)).drop ((i + 1 + (n - i)) * 2)) = (E.flatMap eC).take (i * 2) ++ (eC e ++ (E.flatMap eC).drop (i * 2)) := by
        have hA : ((E.flatMap eC).take (i * 2)).length = i * 2 := by rw [List.length_take, hxl]; omega
        have hB : ([e].flatMap eC) = eC e := by simp
        rw [hB]
        have hC : (((E.flatMap eC).take (i * 2) ++ zeroL #[Value.int IntKind.i64 0, Value.int IntKind.i64 0] (n + 1 - i)).take (i * 2)) = (E.flatMap eC).take (i * 2) := by
          rw [List.take_append_of_le_length (by omega), List.take_of_length_le (by omega)]
        rw [hC]
        have hD : ((E.flatMap eC).take (i * 2) ++ eC e).length = (i + 1) * 2 := by rw [List.length_append, hA, eC_len]; omega
        rw [List.take_append_of_le_length (by omega), List.take_of_length_le (by omega)]
        rw [List.drop_of_length_le (l := (E.flatMap eC).take (i * 2) ++ eC e ++ _) (by rw [List.length_append, hD, List.length_drop, List.length_append, hA, hzl]; omega)]
        simp
      rw [← e5]
      exact hs3
    · -- moved on
      simp at hc
      refine ⟨by omega, by omega, by omega, by omega, ?_⟩
      rcases h.2.2 with ⟨hp, hc0, _⟩ | ⟨b, off, arr, rfl, rfl, hblk, hsz, hcell⟩
      · omega
      have hadv : adv (some ⟨b, off, none⟩) c (i + 1) 2 = some ⟨b, off + (i + 1) * 2, none⟩ := by unfold adv; rw [if_neg (by omega)]; simp [addN]
      rw [hadv]
      refine overlaps_ok hpl hblk (by simpa using hvF) (by omega) ⟨_, rfl, ifT rfl ?_⟩
      rw [← hadv]
      obtain ⟨xs, hw, hxs⟩ := h.widen (k := n + 1) (by omega) (by omega)
      have hxl1 : (E.flatMap eC ++ xs).length = (n + 1) * 2 := hw.1
      have hxs1 : xs.length = 2 := by omega
      -- the source is longer than the place: what fits is copied
      have hsrc := hw.drop (k := i) (by omega)
      have hmin : Nat.min (n + 1 - i) (n + 1 - (i + 1)) = n - i := by
        rw [show n + 1 - (i + 1) = n - i by omega]; exact Nat.min_eq_right (by omega)
      have hpart : ((E.flatMap eC ++ xs).drop (i * 2)).take ((n - i) * 2) = (E.flatMap eC).drop (i * 2) := by
        rw [List.drop_append_of_le_length (by omega), List.take_append_of_le_length (by rw [List.length_drop]; omega), List.take_of_length_le (by rw [List.length_drop]; omega)]
      refine ⟨by omega, by omega, by omega, by omega, CpyMin_rule (hE := eS_96) (n - i) (k := i + 1) hw.drw (by omega) hmin hsrc.drw (fun v hv => by rw [hpart] at hv; exact eC_one v (List.mem_of_mem_drop hv)) fun w1 hs1 u1 => ?_⟩
      have U1 : Upd [b] w w1 := (drw_upd w).after u1
      rw [hpart] at hs1
      have hv1 : RowAt w1 (some ⟨vb, 0, none⟩) 1 1 [e] [vb] := hv.upd U1 (by intro k hk; simp at hk; subst hk; exact hvF)
      refine ⟨by omega, by omega, CpyAt_rule (hE := eS_96) hs1 (k := i) (m := 1) (by omega) hv1 hone fun w2 hs2 u2 => ?_⟩
      refine hK _ c [b] w2 ?_ (U1.both u2) (Sub.refl _ _)
      show SlAt w2 2 _ (n + 1) c _ _
      rw [key]
      have hB : ([e].flatMap eC) = eC e := by simp
      rw [hB] at hs2
      have e5 : ((E.flatMap eC ++ xs).take ((i + 1) * 2) ++ (E.flatMap eC).drop (i * 2) ++ (E.flatMap eC ++ xs).drop ((i + 1 + (n - i)) * 2)).take (i * 2) ++ eC e ++ ((E.flatMap eC ++ xs).take ((i + 1) * 2) ++ (E.flatMap eC).drop (i * 2) ++ (E.flatMap eC ++ xs).drop ((i + 1 + (n - i)) * 2)).drop ((i + 1) * 2) = (E.flatMap eC).take (i * 2) ++ (eC e ++ (E.flatMap eC).drop (i * 2)) := by
        have hA : ((E.flatMap eC ++ xs).take ((i + 1) * 2)).length = (i + 1) * 2 := by rw [List.length_take]; omega
        have hZ : (E.flatMap eC ++ xs).drop ((i + 1 + (n - i)) * 2) = [] := List.drop_of_length_le (by omega)
        rw [hZ, List.append_nil, List.drop_append_of_le_length (by omega), List.drop_of_length_le (l := (E.flatMap eC ++ xs).take ((i + 1) * 2)) (by omega), List.take_append_of_le_length (by omega), List.take_take, List.take_append_of_le_length (by omega)]
        rw [show min (i * 2) ((i + 1) * 2) = i * 2 by omega]
        simp
      rw [← e5]
      exact hs2

theorem Delete_ok {p : Option Addr} {n c i : Nat} {E : List (Int × Int)} {F : List Nat} {K : Option Addr → Nat → Nat → World → Prop} (h : RowAt w p n c E F) (hi : i < E.length) (hl : E.length ≤ 2 ^ 30)
    (hK : ∀ p' c' F' w', RowAt w' p' (n - 1) c' (E.take i ++ E.drop (i + 1)) F' → Upd F w w' → Sub F' F w → K p' (n - 1) c' w') : C_slices_Delete p n c i ((i : Int) + 1) w K := by
  apply C_slices_Delete.of
  unfold F_slices_Delete
  have hn := h.len
  have hnc := h.2.1
  have hxl : (E.flatMap eC).length = n * 2 := h.1
  have e1 : ((i : Int) + 1).toNat = i + 1 := by omega
  have e2 : (i : Int).toNat = i := by omega
  refine ⟨by omega, by omega, by omega, by omega, ifF (by simp; omega) ⟨by omega, by omega, by omega, by omega, ?_⟩⟩
  rw [e1, e2]
  have hin : i + (n - (i + 1)) = n - 1 := by omega
  refine AppIn_rule (hE := eS_96) h.drw (n := i) (by omega) (h.drop (k := i + 1) (by omega)).drw (fun v hv => eC_one v (List.mem_of_mem_drop hv)) fun w1 hs1 u1 => ?_
  rw [hin] at hs1 ⊢
  have U1 : Upd F w w1 := (drw_upd w).after u1
  have e3 : ((n - 1 : Nat) : Int).toNat = n - 1 := by omega
  have e4 : (n : Int).toNat = n := by omega
  rw [e3, e4]
  refine ⟨by omega, by omega, by omega, Clr_rule (hE := eS_96) hs1 (k := n - 1) (by omega) fun v w2 hs2 u2 => ?_⟩
  have hs3 := hs2.take (k := n - 1) (by omega)
  refine hK p c F w2 ?_ (U1.both u2) (Sub.refl _ _)
  have key : (E.take i ++ E.drop (i + 1)).flatMap eC = (E.flatMap eC).take (i * 2) ++ (E.flatMap eC).drop ((i + 1) * 2) := by
    rw [flat_take eC_len, flat_drop eC_len, List.flatMap_append]
  show SlAt w2 2 p (n - 1) c _ F
  rw [key]
  have hlen : ((E.flatMap eC).take (i * 2) ++ (E.flatMap eC).drop ((i + 1) * 2)).length = (n - 1) * 2 := by rw [List.length_append, List.length_take, List.length_drop]; omega
  rw [List.take_append_of_le_length (l₁ := (E.flatMap eC).take (i * 2) ++ (E.flatMap eC).drop ((i + 1) * 2)) (by omega), List.take_of_length_le (l := (E.flatMap eC).take (i * 2) ++ (E.flatMap eC).drop ((i + 1) * 2)) (by omega), List.take_append_of_le_length (by omega), List.take_of_length_le (by omega)] at hs3
  exact hs3

/-! ## What is put in, cut, told -/

theorem put_ok {p : Option Addr} {n c : Nat} {E : List (Int × Int)} {rank id : Int} {F : List Nat} {K : Option Addr → Nat → Nat → World → Prop} (h : RowAt w p n c E F) (hr : Rising E) (hl : E.length ≤ 2 ^ 30)
    (hK : ∀ (i : Nat) p' c' F' w', i ≤ E.length → (∀ j (hj : j < E.length), j < i → E[j].1 < rank) → (∀ j (hj : j < E.length), i ≤ j → rank ≤ E[j].1) → RowAt w' p' (n + 1) c' (E.take i ++ (rank, id) :: E.drop i) F' → Upd F w w' → Sub F' F w → K p' (n + 1) c' w') :
    C_index_put p n c rank id w K := by
  apply C_index_put.of
  unfold F_index_put F_index_put_k1
  refine New_rule fun r w1 hr1 u1 hb1 => ?_
  have h1 := h.upd u1 (by intro k _ h; cases h)
  simp only [NN_some, addN, drw_cell, drw_heap, exS, exI, exB, exP, exM, exStr, exV, a0, a1, a2, a3, a4, a5, a6, a7, a8, a9, a10, a11, a12, a13, maxI_eq, Nat.zero_add, Nat.add_zero, Nat.mul_one, Option.isNone_some, Option.isNone_none, hb1.cell]
  constructor
  · refine place_ok h1.drw hr (by omega) fun i w2 hi hlt hge u2 => ?_
    have hb2 := hb1.drw.upd u2 (by simp)
    have h2 : RowAt w2 p n c E F := h1.drw.upd u2 (by intro k _ h; cases h)
    refine ⟨fun i hi => by rw [hb2.cell], BSlP_rule eS_95 [.agg #[.int .i64 rank, .int .i64 id]] (by rfl) (by simp [Value.cells]) (by rfl) (by omega) fun w3 hs3 hp3 u3 => ?_⟩
    have h3 : RowAt w3 p n c E F := h2.upd u3 (by intro k _ h; cases h)
    have U3 : Upd [] w w3 := ((u1.after (drw_upd w1)).after u2).after u3
    have hs3' : RowAt w3 (some ⟨w2.heap.size, 0, none⟩) 1 1 [(rank, id)] [w2.heap.size] := by simpa [Value.cells, RowAt, eC] using hs3
    refine Insert_ok h3 hi hl hs3' hp3 (fun hx => by have := h2.inn _ hx; omega) fun p' c' F' w4 hs4 u4 s4 => hK i p' c' F' w4 hi hlt hge hs4 (U3.after u4) (s4.old U3.size)
  · refine BSlP_rule eS_95 [.agg #[.int .i64 rank, .int .i64 id]] (by rfl) (by simp [Value.cells]) (by rfl) (by omega) fun w2 hs2 hp2 u2 => ?_
    have hb2 := hb1.drw.upd u2 (by simp)
    have h2 : RowAt w2 p n c E F := h1.drw.upd u2 (by intro k _ h; cases h)
    simp only [NN_some, addN, drw_cell, drw_heap, exS, exI, exB, exP, exM, exStr, exV, a0, a1, a2, a3, a4, a5, a6, a7, a8, a9, a10, a11, a12, a13, maxI_eq, Nat.zero_add, Nat.add_zero, Nat.mul_one, Option.isNone_some, Option.isNone_none, hb2.cell, hb1.cell]
    refine ⟨trivial, place_ok h2 hr (by omega) fun i w3 hi hlt hge u3 => ?_⟩
    have h3 : RowAt w3 p n c E F := h2.upd u3 (by intro k _ h; cases h)
    have U3 : Upd [] w w3 := ((u1.after (drw_upd w1)).after u2).after u3
    have hs3' : RowAt w3 (some ⟨w1.heap.size, 0, none⟩) 1 1 [(rank, id)] [w1.heap.size] := by
      have := hs2.upd u3 (by intro k _ h; cases h)
      simpa [Value.cells, RowAt, eC] using this
    refine Insert_ok h3 hi hl hs3' (hp2.upd u3 (by simp)) (fun hx => by have := h1.inn _ hx; omega) fun p' c' F' w4 hs4 u4 s4 => hK i p' c' F' w4 hi hlt hge hs4 (U3.after u4) (s4.old U3.size)

theorem cut_ok {p : Option Addr} {n c i : Nat} {E : List (Int × Int)} {rank : Int} {F : List Nat} {K : Option Addr → Nat → Nat → World → Prop} (h : RowAt w p n c E F) (hr : Rising E) (hl : E.length ≤ 2 ^ 30) (hi : i < E.length) (hrk : E[i].1 = rank)
    (hK : ∀ p' c' F' w', RowAt w' p' (n - 1) c' (E.take i ++ E.drop (i + 1)) F' → Upd F w w' → Sub F' F w → K p' (n - 1) c' w') : C_index_cut p n c rank w K := by
  apply C_index_cut.of
  unfold F_index_cut
  refine place_ok h hr (by omega) fun j w1 hj hlt hge u1 => ?_
  have hji : j = i := by
    by_cases h1 : j < i
    · have := hge j (by omega) (Nat.le_refl _)
      have := hr.lt hi h1
      omega
    · by_cases h2 : i < j
      · have := hlt i hi h2; omega
      · omega
  subst hji
  rw [i64id (by omega) (by omega)]
  exact Delete_ok (h.upd u1 (by intro k _ h; cases h)) hi hl fun p' c' F' w2 hs u s => hK p' c' F' w2 hs (u1.after u) (s.old u1.size)

/-- The first one behind a rank. -/
def behindR (E : List (Int × Int)) (rank : Int) : Option (Int × Int) := E.find? fun e => decide (rank < e.1)

theorem after_ok {p : Option Addr} {n c : Nat} {E : List (Int × Int)} {rank : Int} {F : List Nat} {K : Int → Int → Bool → World → Prop} (h : RowAt w p n c E F) (hr : Rising E) (hl : E.length ≤ 2 ^ 30) (h0 : -2 ^ 62 ≤ rank) (h1 : rank < 2 ^ 62)
    (hK : ∀ w', Upd [] w w' → K ((behindR E rank).getD (0, 0)).1 ((behindR E rank).getD (0, 0)).2 (behindR E rank).isSome w') : C_index_row_after p n c rank w K := by
  apply C_index_row_after.of
  unfold F_index_row_after
  refine New_rule fun r w1 hr1 u1 hb1 => ?_
  have hn := h.len
  have hv1 : RowAt w1 p n c E F := h.upd u1 (by intro k _ h; cases h)
  rw [i64id (by omega) (by omega)]
  refine place_ok hv1 hr (by omega) fun i w2 hi hlt hge u2 => ?_
  have hb2 := hb1.upd u2 (by simp)
  have hv2 : RowAt w2 p n c E F := hv1.upd u2 (by intro k _ h; cases h)
  by_cases hin : i = n
  · have hnone : behindR E rank = none := by
      unfold behindR
      rw [List.find?_eq_none]
      intro e he
      obtain ⟨j, hj, rfl⟩ := List.getElem_of_mem he
      have := hlt j hj (by omega)
      simp; omega
    rw [hnone] at hK
    refine ifT (by simp; omega) ?_
    simp only [NN_some, addN, drw_cell, drw_heap, exS, exI, exB, exP, exM, exStr, exV, a0, a1, a2, a3, a4, a5, a6, a7, a8, a9, a10, a11, a12, a13, maxI_eq, Nat.zero_add, Nat.add_zero, Nat.mul_one, Option.isNone_some, Option.isNone_none]
    refine St_acc (Upd.refl _ _) hb2 (by simp) rfl fun w3 u3 hb3 => St_acc u3 hb3 (by simp) rfl fun w4 u4 hb4 => ?_
    simp at hb4
    simp only [NN_some, addN, drw_cell, drw_heap, exS, exI, exB, exP, exM, exStr, exV, a0, a1, a2, a3, a4, a5, a6, a7, a8, a9, a10, a11, a12, a13, maxI_eq, Nat.zero_add, Nat.add_zero, Nat.mul_one, Option.isNone_some, Option.isNone_none, hb4.cell]
    exact hK w4 ((u1.after u2).fresh u4 (by intro k hk; simp at hk; omega))
  · have hil : i < E.length := by omega
    have hsome : behindR E rank = some E[i] := by
      unfold behindR
      rw [List.find?_eq_some_iff_append]
      refine ⟨by have := hge i hil (Nat.le_refl _); simp; omega, E.take i, E.drop (i + 1), by simp, fun e he => ?_⟩
      obtain ⟨j, hj, rfl⟩ := List.getElem_of_mem he
      rw [List.length_take] at hj
      rw [List.getElem_take]
      have := hlt j (by omega) (by omega)
      simp; omega
    rw [hsome] at hK
    refine ifF (by simp; omega) ?_
    obtain ⟨b, off, hp, c1, c2⟩ := hv2.get hil
    simp only [NN_some, addN, drw_cell, drw_heap, exS, exI, exB, exP, exM, exStr, exV, a0, a1, a2, a3, a4, a5, a6, a7, a8, a9, a10, a11, a12, a13, maxI_eq, Nat.zero_add, Nat.add_zero, Nat.mul_one, Option.isNone_some, Option.isNone_none, hp, Int.toNat_natCast, c1, c2]
    refine ⟨by omega, by omega, St_acc (Upd.refl _ _) hb2 (by simp) rfl fun w3 u3 hb3 => St_acc u3 hb3 (by simp) rfl fun w4 u4 hb4 => ?_⟩
    simp at hb4
    simp only [NN_some, addN, drw_cell, drw_heap, exS, exI, exB, exP, exM, exStr, exV, a0, a1, a2, a3, a4, a5, a6, a7, a8, a9, a10, a11, a12, a13, maxI_eq, Nat.zero_add, Nat.add_zero, Nat.mul_one, Option.isNone_some, Option.isNone_none, hb4.cell]
    exact hK w4 ((u1.after u2).fresh u4 (by intro k hk; simp at hk; omega))

end

end Ix

end Go.Proofs.YtlndgaijekihiaaGreat

/- A table of entries in memory; what it tells. -/
namespace Go.Proofs.YtlndgaijekihiaaGreat
open Go Go.D Go.Proofs
namespace Ix
set_option linter.unusedSimpArgs false
set_option linter.unusedVariables false
set_option maxRecDepth 8000

abbrev Key := Int × ByteArray × Int

def kcs (k : Key) : List Value := [.int .i64 k.1, .string k.2.1, .int .i64 k.2.2]
def kV (k : Key) : Value := .agg #[.int .i64 k.1, .string k.2.1, .int .i64 k.2.2]
def zk : Key := (0, ⟨#[]⟩, 0)

theorem keyKey : KeyOf Tryz.prog 30 kV := by
  refine keyStruct kcs 3 (fun k => rfl) (fun k => rfl) ?_ (by kernel_rfl) (by kernel_rfl) (by kernel_rfl) ?_ ?_
  · rintro ⟨a, b, c⟩ ⟨a', b', c'⟩ h
    simp [kcs] at h
    simp [h]
  · rintro ⟨a, b, c⟩ ⟨a', b', c'⟩
    exact ⟨by decide, rfl, leaf_int (by rfl) _ _, by decide, rfl, leaf_string (by rfl) _ _, by decide, rfl, leaf_int (by rfl) _ _, trivial⟩
  · intro k v hv n
    simp [kcs] at hv
    rcases hv with rfl | rfl | rfl <;> simp [Instr.sameBits, bytesEq]

theorem keyId : KeyOf Tryz.prog 3 (fun a : Int => Value.int .i64 a) := keyInt (by rfl)

/-- An entry. -/
structure En where
  rank : Int
  id : Int
  key : Key

def rk (e : En) : Int × Int := (e.rank, e.id)
def spotV (e : En) : Value := .agg #[.int .i64 e.key.1, .string e.key.2.1, .int .i64 e.key.2.2, .int .i64 e.rank]

theorem findCongr {α : Type} {l : List α} {p q : α → Bool} (h : ∀ a ∈ l, p a = q a) : l.find? p = l.find? q := by
  induction l with
  | nil => rfl
  | cons a l ih => rw [List.find?_cons, List.find?_cons, h a (by simp), ih fun x hx => h x (by simp [hx])]

/-- Those of a key. -/
def ofKey (k : Key) (E : List En) : List En := E.filter fun e => decide (e.key = k)

structure TbD where
  b : Nat
  r : Nat
  m : Nat
  ap : Option Addr
  an : Nat
  ac : Nat
  first : Int
  last : Int
  E : List En
  RM : List (Key × Value)
  AM : List (Int × Value)
  G : List Nat
  F : Key → List Nat
  FT : List Nat

def TbD.a (d : TbD) : Option Addr := some ⟨d.b, 0, none⟩

structure Tb (w : World) (d : TbD) : Prop where
  blk : Blk w d.b #[.map (some d.r), .slice d.ap d.an d.ac, .map (some d.m), .int .i64 d.first, .int .i64 d.last]
  rmap : MapAt w d.r kV d.RM
  ron : Once d.RM
  amap : MapAt w d.m (fun a : Int => Value.int .i64 a) d.AM
  aon : Once d.AM
  all : RowAt w d.ap d.an d.ac (d.E.map rk) d.G
  rows : ∀ k, ∃ p n c, (Go.D.look k d.RM).getD (.slice none 0 0) = .slice p n c ∧ RowAt w p n c ((ofKey k d.E).map rk) (d.F k)
  spots : ∀ id : Int, Go.D.look id d.AM = (d.E.find? fun e => decide (e.id = id)).map spotV
  br : d.b ≠ d.r
  bm : d.b ≠ d.m
  rm : d.r ≠ d.m
  bG : d.b ∉ d.G
  rG : d.r ∉ d.G
  mG : d.m ∉ d.G
  bF : ∀ k, d.b ∉ d.F k
  rF : ∀ k, d.r ∉ d.F k
  mF : ∀ k, d.m ∉ d.F k
  GF : ∀ k, Dis d.G (d.F k)
  FF : ∀ k k', k ≠ k' → Dis (d.F k) (d.F k')
  ib : d.b ∈ d.FT
  ir : d.r ∈ d.FT
  im : d.m ∈ d.FT
  iG : ∀ x ∈ d.G, x ∈ d.FT
  iF : ∀ k, ∀ x ∈ d.F k, x ∈ d.FT
  inn : In d.FT w

/-- A table as it should be. -/
structure TbOk (d : TbD) (B : Int) : Prop where
  rising : d.E.Pairwise fun a b => a.rank < b.rank
  ids : (d.E.map (·.id)).Nodup
  norm : ∀ e ∈ d.E, e.key.1 = 0 → e.key = zk
  lo : ∀ e ∈ d.E, d.first ≤ e.rank
  hi : ∀ e ∈ d.E, e.rank ≤ d.last
  b0 : -B ≤ d.first
  b1 : d.first ≤ d.last
  b2 : d.last ≤ B
  len : d.E.length ≤ 4096

theorem Tb.upd {w w' : World} {d : TbD} {X : List Nat} (h : Tb w d) (u : Upd X w w') (hd : Dis d.FT X) : Tb w' d where
  blk := h.blk.upd u (hd _ h.ib)
  rmap := h.rmap.upd u (hd _ h.ir)
  ron := h.ron
  amap := h.amap.upd u (hd _ h.im)
  aon := h.aon
  all := SlAt.upd h.all u fun k hk => hd k (h.iG k hk)
  rows := fun k => by
    obtain ⟨p, n, c, h1, h2⟩ := h.rows k
    exact ⟨p, n, c, h1, SlAt.upd h2 u fun x hx => hd x (h.iF k x hx)⟩
  spots := h.spots
  br := h.br
  bm := h.bm
  rm := h.rm
  bG := h.bG
  rG := h.rG
  mG := h.mG
  bF := h.bF
  rF := h.rF
  mF := h.mF
  GF := h.GF
  FF := h.FF
  ib := h.ib
  ir := h.ir
  im := h.im
  iG := h.iG
  iF := h.iF
  inn := h.inn.upd u

theorem Tb.keep {w w' : World} {d : TbD} (h : Tb w d) (u : Upd [] w w') : Tb w' d := h.upd u (by intro k _ h; cases h)

/-! ## Plain -/

theorem rising_map {E : List En} (h : E.Pairwise fun a b => a.rank < b.rank) : Rising (E.map rk) := List.pairwise_map.2 h
theorem rising_key {E : List En} (h : E.Pairwise fun a b => a.rank < b.rank) (k : Key) : Rising ((ofKey k E).map rk) := rising_map (h.filter _)

def meets (k' k : Key) : Bool := decide (k'.1 = 0) || decide (k.1 = 0) || decide (k' = k)

/-- The first one behind a rank whose key meets another one. -/
def nextE (E : List En) (rank : Int) (k : Key) : Option En := E.find? fun e => decide (rank < e.rank) && meets e.key k

theorem behindR_map (E : List En) (rank : Int) : behindR (E.map rk) rank = (E.find? fun e => decide (rank < e.rank)).map rk := by
  unfold behindR
  rw [List.find?_map]; rfl

theorem find_or {E : List En} (h : E.Pairwise fun a b => a.rank < b.rank) (p q : En → Bool) (hpq : ∀ e, ¬ (p e = true ∧ q e = true)) :
    E.find? (fun e => p e || q e) = match E.find? p, E.find? q with
      | none, b => b
      | some x, none => some x
      | some x, some y => if y.rank < x.rank then some y else some x := by
  induction E with
  | nil => rfl
  | cons e E ih =>
    rw [List.pairwise_cons] at h
    rw [List.find?_cons, List.find?_cons, List.find?_cons]
    cases hp : p e with
    | true =>
      have hq : q e = false := by cases hq : q e; rfl; exact absurd ⟨hp, hq⟩ (hpq e)
      simp only [hq, Bool.or_false]
      rcases hf : E.find? q with _ | y
      · rfl
      · have := h.1 y (List.mem_of_find?_eq_some hf)
        simp only
        rw [if_neg (by omega)]
    | false =>
      cases hq : q e with
      | true =>
        simp only [Bool.or_true]
        rcases hf : E.find? p with _ | x
        · rfl
        · have := h.1 x (List.mem_of_find?_eq_some hf)
          simp only
          rw [if_pos (by omega)]
      | false =>
        simp only [Bool.or_self]
        exact ih h.2

theorem nextE_two {E : List En} (h : E.Pairwise fun a b => a.rank < b.rank) (hn : ∀ e ∈ E, e.key.1 = 0 → e.key = zk) {rank : Int} {k : Key} (hk : k.1 ≠ 0) :
    nextE E rank k = match (ofKey k E).find? (fun e => decide (rank < e.rank)), (ofKey zk E).find? (fun e => decide (rank < e.rank)) with
      | none, b => b
      | some x, none => some x
      | some x, some y => if y.rank < x.rank then some y else some x := by
  unfold ofKey
  rw [List.find?_filter, List.find?_filter, ← find_or h]
  · unfold nextE
    apply findCongr
    intro e he
    unfold meets
    have hz := hn e he
    by_cases h0 : e.key.1 = 0
    · have := hz h0
      have hzk : ¬ zk = k := by rintro rfl; exact hk rfl
      simp [this, hzk, hk, zk]
    · have hzk : ¬ e.key = zk := by intro h; rw [h] at h0; exact h0 rfl
      simp only [h0, hk, hzk, decide_false, Bool.false_or, Bool.false_and, Bool.or_false]
      by_cases h1 : e.key = k <;> by_cases h2 : rank < e.rank <;> simp [h1, h2]
  · rintro e ⟨h1, h2⟩
    simp at h1 h2
    have : k = zk := h1.1.symm.trans h2.1
    rw [this] at hk; exact hk rfl

section
variable {w : World} {d : TbD} {B : Int}

theorem Tb.an (h : Tb w d) : d.an = d.E.length := by have := RowAt.len h.all; simpa using this

theorem ofKey_len (k : Key) (E : List En) : (ofKey k E).length ≤ E.length := List.length_filter_le _ _

theorem made_ok {K : Bool → World → Prop} (h : Tb w d) (hK : K true w) : C_index_Table_made d.a w K := by
  apply C_index_Table_made.of
  unfold F_index_Table_made TbD.a
  refine ifT rfl ?_
  simp only [NN_some, addN, drw_cell, drw_heap, exS, exI, exB, exP, exM, exStr, exV, a0, a1, a2, a3, a4, a5, a6, a7, a8, a9, a10, a11, a12, a13, maxI_eq, Nat.zero_add, Nat.add_zero, Nat.mul_one, Option.isNone_some, Option.isNone_none, h.blk.cell]
  exact hK

theorem made_no {K : Bool → World → Prop} (hK : K false w) : C_index_Table_made none w K := by
  apply C_index_Table_made.of
  unfold F_index_Table_made
  exact ifF rfl hK

theorem Len_ok {K : Int → World → Prop} (h : Tb w d) (hK : K d.E.length w) : C_index_Table_Len d.a w K := by
  apply C_index_Table_Len.of
  unfold F_index_Table_Len
  refine made_ok h (ifF rfl ?_)
  unfold TbD.a
  simp only [NN_some, addN, drw_cell, drw_heap, exS, exI, exB, exP, exM, exStr, exV, a0, a1, a2, a3, a4, a5, a6, a7, a8, a9, a10, a11, a12, a13, maxI_eq, Nat.zero_add, Nat.add_zero, Nat.mul_one, Option.isNone_some, Option.isNone_none, h.blk.cell]
  rw [h.an]; exact hK

theorem behind_ok {rank : Int} {k : Key} {K : Int → Bool → World → Prop} (h : Tb w d) (ok : TbOk d B) (h0 : -2 ^ 62 ≤ rank) (h1 : rank < 2 ^ 62)
    (hK : ∀ w', Upd [] w w' → K (((nextE d.E rank k).map (·.id)).getD 0) (nextE d.E rank k).isSome w') : C_index_Table_behind d.a rank k.1 k.2.1 k.2.2 w K := by
  apply C_index_Table_behind.of
  unfold F_index_Table_behind
  have hlen := ok.len
  refine New_rule fun r w1 hr u1 hb1 => ?_
  have t1 := h.keep u1
  simp only [TbD.a, NN_some, addN, drw_cell, drw_heap, exS, exI, exB, exP, exM, exStr, exV, a0, a1, a2, a3, a4, a5, a6, a7, a8, a9, a10, a11, a12, a13, maxI_eq, Nat.zero_add, Nat.add_zero, Nat.mul_one, Option.isNone_some, Option.isNone_none, hb1.cell, t1.blk.cell]
  refine ifC (fun hc => ?_) (fun hc => ?_)
  · simp at hc
    have he : nextE d.E rank k = d.E.find? fun e => decide (rank < e.rank) := by
      unfold nextE; apply findCongr; intro e _; simp [meets, hc]
    refine after_ok t1.all (rising_map ok.rising) (by rw [List.length_map]; omega) h0 h1 fun w2 u2 => ?_
    refine New_rule fun r1 w3 hr1 u3 hb3 => ?_
    refine St_acc (Upd.refl _ _) hb3 (by simp) rfl fun w4 u4 hb4 => St_acc u4 hb4 (by simp) rfl fun w5 u5 hb5 => ?_
    simp at hb5
    simp only [NN_some, addN, drw_cell, drw_heap, exS, exI, exB, exP, exM, exStr, exV, a0, a1, a2, a3, a4, a5, a6, a7, a8, a9, a10, a11, a12, a13, maxI_eq, Nat.zero_add, Nat.add_zero, Nat.mul_one, Option.isNone_some, Option.isNone_none, hb5.cell]
    have := hK w5 (((u1.after u2).after u3).fresh u5 (by intro k hk; simp at hk; have := u1.size; have := u2.size; omega))
    rw [he] at this
    rw [behindR_map]
    rcases hf : d.E.find? (fun e => decide (rank < e.rank)) with _ | e
    · rw [hf] at this ⊢; exact this
    · rw [hf] at this ⊢; exact this
  · simp at hc
    have hk0 : k.1 ≠ 0 := hc
    -- what comes of the second row
    have second : ∀ (wa : World) (q : Nat) (x y : Int) (is : Bool), Upd [] w wa → Blk wa q #[.int .i64 x, .int .i64 y] → x = ((((ofKey k d.E).find? fun e => decide (rank < e.rank)).map rk).getD (0, 0)).1 → y = ((((ofKey k d.E).find? fun e => decide (rank < e.rank)).map rk).getD (0, 0)).2 → is = (((ofKey k d.E).find? fun e => decide (rank < e.rank)).map rk).isSome →
        F_index_Table_behind_k2 d.a rank K ⟨q, 0, none⟩ is wa := by
      intro wa q x y is ua hbq hx hy his
      unfold F_index_Table_behind_k2 F_index_Table_behind_k1
      have ta := h.keep ua
      simp only [TbD.a, NN_some, addN, drw_cell, drw_heap, exS, exI, exB, exP, exM, exStr, exV, a0, a1, a2, a3, a4, a5, a6, a7, a8, a9, a10, a11, a12, a13, maxI_eq, Nat.zero_add, Nat.add_zero, Nat.mul_one, Option.isNone_some, Option.isNone_none, ta.blk.cell]
      refine Lookup_rule (κ := Key) (kt := 30) (et := 96) (inj := kV) (z := .slice none 0 0) (k := zk) keyKey (by rfl) ⟨_, rfl, rfl⟩ ta.rmap ?_
      obtain ⟨p, n, c, hl, hrow⟩ := ta.rows zk
      refine ⟨p, n, c, hl, ?_⟩
      refine after_ok hrow (rising_key ok.rising zk) (by rw [List.length_map]; have := ofKey_len zk d.E; omega) h0 h1 fun wb ub => ?_
      refine New_rule fun r1 wc hr1 uc hbc => ?_
      refine St_acc (Upd.refl _ _) hbc (by simp) rfl fun wd ud hbd => St_acc ud hbd (by simp) rfl fun we ue hbe => ?_
      simp at hbe
      have hsz := hbq.lt
      have hne : q ≠ r1 := by have := ub.size; omega
      have hbqe := ((hbq.upd ub (by simp)).upd uc (by simp)).upd ue (by simpa using hne)
      simp only [NN_some, addN, drw_cell, drw_heap, exS, exI, exB, exP, exM, exStr, exV, a0, a1, a2, a3, a4, a5, a6, a7, a8, a9, a10, a11, a12, a13, maxI_eq, Nat.zero_add, Nat.add_zero, Nat.mul_one, Option.isNone_some, Option.isNone_none, hbe.cell, hbqe.cell]
      have hfin := hK we (((ua.after ub).after uc).fresh ue (by intro k hk; simp at hk; have := ua.size; have := ub.size; omega))
      rw [nextE_two ok.rising ok.norm hk0] at hfin
      rw [behindR_map]
      subst hx hy his
      rcases ha : (ofKey k d.E).find? (fun e => decide (rank < e.rank)) with _ | a
      · rw [ha] at hfin ⊢
        refine ifT rfl ?_
        rcases hb : (ofKey zk d.E).find? (fun e => decide (rank < e.rank)) with _ | b
        · rw [hb] at hfin ⊢; exact hfin
        · rw [hb] at hfin ⊢; exact hfin
      · rw [ha] at hfin ⊢
        refine ifF rfl ?_
        rcases hb : (ofKey zk d.E).find? (fun e => decide (rank < e.rank)) with _ | b
        · rw [hb] at hfin ⊢
          exact ifF rfl hfin
        · rw [hb] at hfin ⊢
          refine ifT rfl (ifC (fun hlt => ?_) (fun hlt => ?_))
          · have hlt : b.rank < a.rank := of_decide_eq_true hlt
            simp only at hfin
            rw [if_pos hlt] at hfin; exact hfin
          · have hlt : ¬ b.rank < a.rank := of_decide_eq_false hlt
            simp only at hfin
            rw [if_neg hlt] at hfin; exact hfin
    obtain ⟨p, n, c, hl, hrow⟩ := h.rows k
    have hle : ((ofKey k d.E).map rk).length ≤ 2 ^ 30 := by rw [List.length_map]; have := ofKey_len k d.E; omega
    refine ⟨?_, ?_⟩
    · refine Lookup_rule (κ := Key) (kt := 30) (et := 96) (inj := kV) (z := .slice none 0 0) (k := k) keyKey (by rfl) ⟨_, rfl, rfl⟩ (t1.keep (drw_upd w1)).rmap ?_
      refine ⟨p, n, c, hl, ?_, ?_⟩
      · refine after_ok (SlAt.drw (SlAt.upd hrow u1 (by intro k _ h; cases h))) (rising_key ok.rising k) hle h0 h1 fun w2 u2 => ?_
        rw [behindR_map]
        refine New_rule fun r1 w3 hr1 u3 hb3 => ?_
        refine St_acc (Upd.refl _ _) hb3 (by simp) rfl fun w4 u4 hb4 => St_acc u4 hb4 (by simp) rfl fun w5 u5 hb5 => ?_
        simp at hb5
        exact second w5 r1 _ _ _ (((((u1.after (drw_upd w1)).after u2).after u3)).fresh u5 (by intro x hx; simp at hx; have h5 : w1.heap.size ≤ w2.heap.size := u2.size; have := u1.size; omega)) hb5 rfl rfl rfl
      · refine New_rule fun r1 w3 hr1 u3 hb3 => ?_
        refine after_ok (SlAt.upd (SlAt.drw (SlAt.upd hrow u1 (by intro k _ h; cases h))) u3 (by intro k _ h; cases h)) (rising_key ok.rising k) hle h0 h1 fun w2 u2 => ?_
        rw [behindR_map]
        refine St_acc (Upd.refl _ _) (hb3.upd u2 (by simp)) (by simp) rfl fun w4 u4 hb4 => St_acc u4 hb4 (by simp) rfl fun w5 u5 hb5 => ?_
        simp at hb5
        exact second w5 r1 _ _ _ (((((u1.after (drw_upd w1)).after u3).after u2)).fresh u5 (by intro x hx; simp at hx; have h5 : r1 = w1.heap.size := hr1; have := u1.size; omega)) hb5 rfl rfl rfl
    · refine New_rule fun r1 w3 hr1 u3 hb3 => ?_
      have hb1' := hb1.drw.upd u3 (by simp)
      have t3 := (t1.keep (drw_upd w1)).keep u3
      simp only [NN_some, addN, drw_cell, drw_heap, exS, exI, exB, exP, exM, exStr, exV, a0, a1, a2, a3, a4, a5, a6, a7, a8, a9, a10, a11, a12, a13, maxI_eq, Nat.zero_add, Nat.add_zero, Nat.mul_one, Option.isNone_some, Option.isNone_none, hb1'.cell, hb1.cell, t3.blk.cell, t1.blk.cell]
      refine ⟨fun i hi => trivial, trivial, ?_⟩
      refine Lookup_rule (κ := Key) (kt := 30) (et := 96) (inj := kV) (z := .slice none 0 0) (k := k) keyKey (by rfl) ⟨_, rfl, rfl⟩ t3.rmap ?_
      refine ⟨p, n, c, hl, ?_⟩
      refine after_ok (SlAt.upd (SlAt.drw (SlAt.upd hrow u1 (by intro k _ h; cases h))) u3 (by intro k _ h; cases h)) (rising_key ok.rising k) hle h0 h1 fun w2 u2 => ?_
      rw [behindR_map]
      refine St_acc (Upd.refl _ _) (hb3.upd u2 (by simp)) (by simp) rfl fun w4 u4 hb4 => St_acc u4 hb4 (by simp) rfl fun w5 u5 hb5 => ?_
      simp at hb5
      exact second w5 r1 _ _ _ (((((u1.after (drw_upd w1)).after u3).after u2)).fresh u5 (by intro x hx; simp at hx; have h5 : r1 = w1.heap.size := hr1; have := u1.size; omega)) hb5 rfl rfl rfl

theorem Head_ok {k : Key} {K : Int → Bool → World → Prop} (h : Tb w d) (ok : TbOk d B) (hB : B < 2 ^ 60) (hK : ∀ w', Upd [] w w' → K (((d.E.find? fun e => meets e.key k).map (·.id)).getD 0) (d.E.find? fun e => meets e.key k).isSome w') : C_index_Table_Head d.a k.1 k.2.1 k.2.2 w K := by
  apply C_index_Table_Head.of
  unfold F_index_Table_Head
  refine New_rule fun r w1 hr u1 hb1 => ?_
  have t1 := h.keep u1
  refine made_ok t1 (ifF rfl ?_)
  have hb0 := ok.b0
  have hb1' := ok.b1
  have hb2 := ok.b2
  have e : nextE d.E (d.first - 1) k = d.E.find? fun e => meets e.key k := by
    unfold nextE; apply findCongr; intro e he; have := ok.lo e he
    have : d.first - 1 < e.rank := by omega
    simp [this]
  have hbh := @behind_ok (drw w1) d B (d.first - 1) k K (t1.keep (drw_upd w1)) ok (by omega) (by omega) fun w2 u2 => by rw [e]; exact hK w2 ((u1.after (drw_upd w1)).after u2)
  simp only [TbD.a, NN_some, addN, drw_cell, drw_heap, exS, exI, exB, exP, exM, exStr, exV, a0, a1, a2, a3, a4, a5, a6, a7, a8, a9, a10, a11, a12, a13, maxI_eq, Nat.zero_add, Nat.add_zero, Nat.mul_one, Option.isNone_some, Option.isNone_none, hb1.cell, t1.blk.cell]
  rw [i64id (by omega) (by omega)]
  exact hbh

theorem Next_ok {id : Int} {k : Key} {K : Int → Bool → World → Prop} (h : Tb w d) (ok : TbOk d B) (hB : B < 2 ^ 60)
    (hK : ∀ w', Upd [] w w' → K ((((d.E.find? fun e => decide (e.id = id)).bind fun e => nextE d.E e.rank k).map (·.id)).getD 0) ((d.E.find? fun e => decide (e.id = id)).bind fun e => nextE d.E e.rank k).isSome w') : C_index_Table_Next d.a id k.1 k.2.1 k.2.2 w K := by
  apply C_index_Table_Next.of
  unfold F_index_Table_Next
  refine New_rule fun r w1 hr u1 hb1 => ?_
  have t1 := h.keep u1
  refine made_ok t1 (ifF rfl ?_)
  simp only [TbD.a, NN_some, addN, drw_cell, drw_heap, exS, exI, exB, exP, exM, exStr, exV, a0, a1, a2, a3, a4, a5, a6, a7, a8, a9, a10, a11, a12, a13, maxI_eq, Nat.zero_add, Nat.add_zero, Nat.mul_one, Option.isNone_some, Option.isNone_none, hb1.cell, t1.blk.cell]
  refine Lookup2_rule (κ := Int) (kt := 3) (et := 101) (inj := fun a : Int => Value.int .i64 a) (z := .agg #[.int .i64 0, .string ⟨#[]⟩, .int .i64 0, .int .i64 0]) keyId (by rfl) ⟨_, rfl, rfl⟩ t1.amap ?_
  rw [h.spots]
  have hb0 := ok.b0
  have hb1' := ok.b1
  have hb2 := ok.b2
  rcases hf : d.E.find? (fun e => decide (e.id = id)) with _ | e
  · rw [hf] at hK ⊢
    refine ⟨_, _, _, _, _, rfl, New_rule fun r1 w2 hr1 u2 hb2 => ?_⟩
    refine St_acc (Upd.refl _ _) hb2 (by simp) rfl fun w3 u3 hb3 => St_acc u3 hb3 (by simp) rfl fun w4 u4 hb4 => St_acc u4 hb4 (by simp) rfl fun w5 u5 hb5 => St_acc u5 hb5 (by simp) rfl fun w6 u6 hb6 => ?_
    exact ifT rfl (hK w6 ((u1.after u2).fresh u6 (by intro k hk; simp at hk; have := u1.size; omega)))
  · rw [hf] at hK ⊢
    have he := List.mem_of_find?_eq_some hf
    have hlo := ok.lo e he
    have hhi := ok.hi e he
    refine ⟨e.key.1, e.key.2.1, e.key.2.2, e.rank, true, rfl, New_rule fun r1 w2 hr1 u2 hb2 => ?_⟩
    refine St_acc (Upd.refl _ _) hb2 (by simp) rfl fun w3 u3 hb3 => St_acc u3 hb3 (by simp) rfl fun w4 u4 hb4 => St_acc u4 hb4 (by simp) rfl fun w5 u5 hb5 => St_acc u5 hb5 (by simp) rfl fun w6 u6 hb6 => ?_
    simp at hb6
    have hne : r ≠ r1 := by have := hb1.lt; omega
    have hbr := (hb1.upd u2 (by simp)).upd u6 (by simpa using hne)
    refine ifF rfl ?_
    have U6 : Upd [] w w6 := (u1.after u2).fresh u6 (by intro k hk; simp at hk; have := u1.size; omega)
    simp only [NN_some, addN, drw_cell, drw_heap, exS, exI, exB, exP, exM, exStr, exV, a0, a1, a2, a3, a4, a5, a6, a7, a8, a9, a10, a11, a12, a13, maxI_eq, Nat.zero_add, Nat.add_zero, Nat.mul_one, Option.isNone_some, Option.isNone_none, hb6.cell, hbr.cell]
    exact behind_ok (h.keep U6) ok (by omega) (by omega) fun w7 u7 => hK w7 (U6.after u7)

/-- Those that meet a key. -/
def metE (E : List En) (k : Key) : List En := E.filter fun e => meets e.key k

theorem nextE_met {E : List En} {k : Key} (h : E.Pairwise fun a b => a.rank < b.rank) {i : Nat} (hi : i < (metE E k).length) : nextE E (metE E k)[i].rank k = (metE E k)[i + 1]? := by
  have hr : (metE E k).Pairwise fun a b => a.rank < b.rank := h.filter _
  have e1 : nextE E (metE E k)[i].rank k = (metE E k).find? fun e => decide ((metE E k)[i].rank < e.rank) := by
    unfold nextE metE
    rw [List.find?_filter]
    apply findCongr; intro e _
    by_cases h1 : meets e.key k = true <;> simp [h1]
  rw [e1]
  have hlt := List.pairwise_iff_getElem.1 hr
  by_cases hn : i + 1 < (metE E k).length
  · rw [List.getElem?_eq_getElem hn, List.find?_eq_some_iff_append]
    refine ⟨by simp; exact hlt i (i + 1) (by omega) hn (by omega), (metE E k).take (i + 1), (metE E k).drop (i + 2), by simp, fun e he => ?_⟩
    obtain ⟨j, hj, rfl⟩ := List.getElem_of_mem he
    rw [List.length_take] at hj
    rw [List.getElem_take]
    by_cases hji : j = i
    · subst hji; simp
    · have := hlt j i (by omega) hi (by omega)
      simp; omega
  · rw [List.getElem?_eq_none (by omega), List.find?_eq_none]
    intro e he
    obtain ⟨j, hj, rfl⟩ := List.getElem_of_mem he
    by_cases hji : j = i
    · subst hji; simp
    · have := hlt j i hj hi (by omega)
      simp; omega

theorem find_id {E : List En} (h : (E.map (·.id)).Nodup) {e : En} (he : e ∈ E) : E.find? (fun x => decide (x.id = e.id)) = some e := by
  induction E with
  | nil => cases he
  | cons x E ih =>
    rw [List.map_cons, List.nodup_cons] at h
    rw [List.find?_cons]
    rcases List.mem_cons.1 he with rfl | he
    · simp
    · have : ¬ x.id = e.id := fun hx => h.1 (by rw [hx]; exact List.mem_map.2 ⟨e, he, rfl⟩)
      simp only [this, decide_false]
      exact ih h.2 he

theorem All_ok {k : Key} {K : Option Addr → Nat → Nat → World → Prop} (h : Tb w d) (ok : TbOk d B) (hB : B < 2 ^ 60)
    (hK : ∀ p n c F w', SlAt w' 1 p n c (((metE d.E k).map (·.id)).map (.int .i64)) F → Upd [] w w' → Since F w → K p n c w') : C_index_Table_All d.a k.1 k.2.1 k.2.2 w K := by
  apply C_index_Table_All.of
  unfold F_index_Table_All F_index_Table_All_L1
  have hlen := ok.len
  have hml : (metE d.E k).length ≤ d.E.length := List.length_filter_le _ _
  refine New_rule fun r w1 hr u1 hb1 => ?_
  have t1 := h.keep u1
  simp only [NN_some, addN, drw_cell, drw_heap, exS, exI, exB, exP, exM, exStr, exV, a0, a1, a2, a3, a4, a5, a6, a7, a8, a9, a10, a11, a12, a13, maxI_eq, Nat.zero_add, Nat.add_zero, Nat.mul_one, Option.isNone_some, Option.isNone_none, hb1.cell]
  refine Head_ok t1 ok hB fun w2 u2 => ?_
  have hhead : d.E.find? (fun e => meets e.key k) = (metE d.E k)[0]? := by
    unfold metE; rw [← List.head?_eq_getElem?, List.head?_filter]
  rw [hhead]
  refine ⟨fun s v => ∃ (i : Nat) (F : List Nat), i ≤ (metE d.E k).length ∧ SlAt v 1 s.outP s.outN s.outC ((((metE d.E k).take i).map (·.id)).map (.int .i64)) F ∧ Upd [] w1 v ∧ Since F w1 ∧ s.isx = ((metE d.E k)[i]?).isSome ∧ s.idx = (((metE d.E k)[i]?).map (·.id)).getD 0, fun s _ => (metE d.E k).length - s.outN, ⟨0, [], Nat.zero_le _, SlAt.nil w2 1, u2, (fun k hk => by cases hk), rfl, rfl⟩, ?_⟩
  rintro ⟨p, n, c, idx, is⟩ v ⟨i, F, hi, hs, u, hF, his, hid⟩
  dsimp only at hs his hid
  subst his hid
  unfold B_index_Table_All_L1
  dsimp only
  have hn : n = i := by have := hs.1; simp at this; omega
  refine ifC (fun hc => ?_) (fun hc => ?_)
  · have hil : i < (metE d.E k).length := by simpa using hc
    rw [List.getElem?_eq_getElem hil]
    simp only [Option.map_some, Option.getD_some]
    refine BSlL_rule eS_65 [.int .i64 (metE d.E k)[i].id] (by rfl) (by simp [Value.cells]) (by rfl) (by omega) fun w3 hs3 u3 => ?_
    refine App_rule (hE := eS_65) (hs.upd u3 (by intro k _ h; cases h)) hs3 (by simp [Value.cells, Value.oneCell']) (by omega) fun p' c' F' w4 hs4 u4 s4 => ?_
    have hsz := u.size
    have hbr : Blk w4 r #[.int .i64 k.1, .string k.2.1, .int .i64 k.2.2] := ((hb1.upd u (by simp)).upd u3 (by simp)).upd u4 fun hx => by have := hF r hx; have := hb1.lt; omega
    have U4 : Upd [] w1 w4 := (u.after u3).fresh u4 hF
    have t4 := t1.keep U4
    simp only [NN_some, addN, drw_cell, drw_heap, exS, exI, exB, exP, exM, exStr, exV, a0, a1, a2, a3, a4, a5, a6, a7, a8, a9, a10, a11, a12, a13, maxI_eq, Nat.zero_add, Nat.add_zero, Nat.mul_one, Option.isNone_some, Option.isNone_none, hbr.cell]
    refine Next_ok t4 ok hB fun w5 u5 => ?_
    have hmem : (metE d.E k)[i] ∈ d.E := (List.mem_filter.1 (List.getElem_mem hil)).1
    rw [find_id ok.ids hmem, Option.bind_some, nextE_met ok.rising hil]
    refine ⟨⟨i + 1, F', by omega, ?_, U4.after u5, hF.step s4 (Nat.le_trans hsz u3.size), rfl, rfl⟩, by omega⟩
    have := hs4.upd u5 (by intro k _ h; cases h)
    rw [List.take_succ_eq_append_getElem hil, List.map_append, List.map_append]
    exact this
  · have hil : (metE d.E k).length ≤ i := by simpa using hc
    rw [List.take_of_length_le hil] at hs
    exact hK p n c F v hs (u1.after u) (fun x hx => by have := hF x hx; have := u1.size; omega)

end

end Ix

end Go.Proofs.YtlndgaijekihiaaGreat

/- A table of entries: what is added. -/
namespace Go.Proofs.YtlndgaijekihiaaGreat
open Go Go.D Go.Proofs
namespace Ix
set_option linter.unusedSimpArgs false
set_option linter.unusedVariables false
set_option maxRecDepth 8000

/-- The key under which it stands. -/
def nk (k : Key) : Key := if k.1 = 0 then zk else k

def insE (front : Bool) (E : List En) (e : En) : List En := if front then e :: E else E ++ [e]

theorem insE_ofKey (front : Bool) (E : List En) (e : En) (k : Key) : ofKey k (insE front E e) = if k = e.key then insE front (ofKey k E) e else ofKey k E := by
  unfold ofKey insE
  by_cases hk : k = e.key
  · subst hk
    cases front <;> simp
  · have : ¬ e.key = k := fun h => hk h.symm
    cases front <;> simp [hk, this]

theorem ins_eq {front : Bool} {E : List En} {e : En} {i : Nat} (hi : i ≤ (E.map rk).length) (hlt : ∀ j (hj : j < (E.map rk).length), j < i → (E.map rk)[j].1 < e.rank) (hge : ∀ j (hj : j < (E.map rk).length), i ≤ j → e.rank ≤ (E.map rk)[j].1)
    (hf : front = true → ∀ x ∈ E, e.rank < x.rank) (hb : front = false → ∀ x ∈ E, x.rank < e.rank) : (E.map rk).take i ++ (e.rank, e.id) :: (E.map rk).drop i = (insE front E e).map rk := by
  rw [List.length_map] at hi
  unfold insE
  cases front with
  | true =>
    have : i = 0 := by
      by_cases h0 : i = 0
      · exact h0
      · have h1 := hlt 0 (by rw [List.length_map]; omega) (by omega)
        have h2 := hf rfl E[0] (List.getElem_mem _)
        simp [rk] at h1
        omega
    subst this
    simp [rk]
  | false =>
    have : i = E.length := by
      by_cases h0 : i = E.length
      · exact h0
      · have h1 := hge i (by rw [List.length_map]; omega) (by omega)
        have h2 := hb rfl E[i] (List.getElem_mem (by omega))
        simp [rk] at h1
        omega
    subst this
    rw [List.take_of_length_le (by simp), List.drop_of_length_le (by simp)]
    simp [rk]

theorem key_ok {w : World} {k : Key} {K : Int → ByteArray → Int → World → Prop} (hK : ∀ w', Upd [] w w' → K (nk k).1 (nk k).2.1 (nk k).2.2 w') : C_index_key k.1 k.2.1 k.2.2 w K := by
  apply C_index_key.of
  unfold F_index_key
  refine New_rule fun r w1 hr u1 hb1 => New_rule fun q w2 hq u2 hb2 => ?_
  have hb1' := hb1.upd u2 (by simp)
  simp only [NN_some, addN, drw_cell, drw_heap, exS, exI, exB, exP, exM, exStr, exV, a0, a1, a2, a3, a4, a5, a6, a7, a8, a9, a10, a11, a12, a13, maxI_eq, Nat.zero_add, Nat.add_zero, Nat.mul_one, Option.isNone_some, Option.isNone_none, hb1'.cell]
  have U2 := u1.after u2
  unfold nk at hK
  refine ifC (fun hc => ?_) (fun hc => ?_)
  · simp at hc
    rw [if_pos hc] at hK
    refine St_acc (Upd.refl _ _) hb2 (by simp) rfl fun w3 u3 hb3 => St_acc u3 hb3 (by simp) rfl fun w4 u4 hb4 => St_acc u4 hb4 (by simp) rfl fun w5 u5 hb5 => ?_
    simp at hb5
    simp only [NN_some, addN, drw_cell, drw_heap, exS, exI, exB, exP, exM, exStr, exV, a0, a1, a2, a3, a4, a5, a6, a7, a8, a9, a10, a11, a12, a13, maxI_eq, Nat.zero_add, Nat.add_zero, Nat.mul_one, Option.isNone_some, Option.isNone_none, hb5.cell]
    exact hK w5 (U2.fresh u5 (by intro x hx; simp at hx; have := u1.size; omega))
  · simp at hc
    rw [if_neg hc] at hK
    refine St_acc (Upd.refl _ _) hb2 (by simp) rfl fun w3 u3 hb3 => St_acc u3 hb3 (by simp) rfl fun w4 u4 hb4 => St_acc u4 hb4 (by simp) rfl fun w5 u5 hb5 => ?_
    simp at hb5
    simp only [NN_some, addN, drw_cell, drw_heap, exS, exI, exB, exP, exM, exStr, exV, a0, a1, a2, a3, a4, a5, a6, a7, a8, a9, a10, a11, a12, a13, maxI_eq, Nat.zero_add, Nat.add_zero, Nat.mul_one, Option.isNone_some, Option.isNone_none, hb5.cell]
    exact hK w5 (U2.fresh u5 (by intro x hx; simp at hx; have := u1.size; omega))

theorem find_none {E : List En} {id : Int} : E.find? (fun e => decide (e.id = id)) = none ↔ id ∉ E.map (·.id) := by
  rw [List.find?_eq_none]
  simp

section
variable {w : World} {d : TbD} {B : Int}

/-- A table with one more. -/
theorem TbOk.ins {d' : TbD} (ok : TbOk d B) {front : Bool} {id : Int} {k : Key} (hid : id ∉ d.E.map (·.id)) (hlen : d.E.length < 4096)
    (hE : d'.E = insE front d.E ⟨if front then d.first - 1 else d.last + 1, id, nk k⟩) (hf : d'.first = if front then d.first - 1 else d.first) (hl : d'.last = if front then d.last else d.last + 1) : TbOk d' (B + 1) := by
  have hnk : (nk k).1 = 0 → nk k = zk := by
    unfold nk
    split
    · intro _; rfl
    · intro h; omega
  have b0 := ok.b0
  have b1 := ok.b1
  have b2 := ok.b2
  cases front with
  | true =>
    simp only [insE, if_true] at hE hf hl
    refine ⟨?_, ?_, ?_, ?_, ?_, by omega, by omega, by omega, by rw [hE]; simp; omega⟩
    · rw [hE, List.pairwise_cons]
      exact ⟨fun e he => by have := ok.lo e he; show d.first - 1 < e.rank; omega, ok.rising⟩
    · rw [hE, List.map_cons, List.nodup_cons]
      exact ⟨hid, ok.ids⟩
    · rw [hE]
      intro e he
      rcases List.mem_cons.1 he with rfl | he
      · exact hnk
      · exact ok.norm e he
    · rw [hE, hf]
      intro e he
      rcases List.mem_cons.1 he with rfl | he
      · exact Int.le_refl _
      · have := ok.lo e he; omega
    · rw [hE, hl]
      intro e he
      rcases List.mem_cons.1 he with rfl | he
      · show d.first - 1 ≤ d.last; omega
      · exact ok.hi e he
  | false =>
    simp only [insE, Bool.false_eq_true, if_false] at hE hf hl
    refine ⟨?_, ?_, ?_, ?_, ?_, by omega, by omega, by omega, by rw [hE]; simp; omega⟩
    · rw [hE, List.pairwise_append]
      exact ⟨ok.rising, by simp, fun a ha b hb => by simp at hb; subst hb; have := ok.hi a ha; show a.rank < d.last + 1; omega⟩
    · rw [hE, List.map_append, List.nodup_append]
      refine ⟨ok.ids, by simp, fun a ha b hb => ?_⟩
      simp at hb; subst hb
      rintro rfl; exact hid ha
    · rw [hE]
      intro e he
      rcases List.mem_append.1 he with he | he
      · exact ok.norm e he
      · simp at he; subst he; exact hnk
    · rw [hE, hf]
      intro e he
      rcases List.mem_append.1 he with he | he
      · exact ok.lo e he
      · simp at he; subst he; show d.first ≤ d.last + 1; omega
    · rw [hE, hl]
      intro e he
      rcases List.mem_append.1 he with he | he
      · have := ok.hi e he; omega
      · simp at he; subst he; exact Int.le_refl _

theorem find_insE {E : List En} {front : Bool} {e : En} (hid : e.id ∉ E.map (·.id)) (j : Int) : (insE front E e).find? (fun x => decide (x.id = j)) = if j = e.id then some e else E.find? fun x => decide (x.id = j) := by
  unfold insE
  cases front with
  | true =>
    simp only [if_true, List.find?_cons]
    by_cases hj : j = e.id
    · simp [hj]
    · have : ¬ e.id = j := fun h => hj h.symm
      simp [hj, this]
  | false =>
    simp only [Bool.false_eq_true, if_false, List.find?_append]
    by_cases hj : j = e.id
    · subst hj
      rw [find_none.2 hid]; simp
    · have : ¬ e.id = j := fun h => hj h.symm
      simp [hj, this]

theorem Add_k1 {r : Nat} {id : Int} {k : Key} {front : Bool} {wa : World} {K : Int → World → Prop} (h : Tb w d) (ok : TbOk d B) (hB : B < 2 ^ 60) (ua : Upd [] w wa) (hrw : w.heap.size ≤ r) (hbr : Blk wa r #[.int .i64 k.1, .string k.2.1, .int .i64 k.2.2])
    (hid : id ∉ d.E.map (·.id)) (hlen : d.E.length < 4096)
    (hK : ∀ w' d', Tb w' d' → TbOk d' (B + 1) → d'.a = d.a → d'.E = insE front d.E ⟨if front then d.first - 1 else d.last + 1, id, nk k⟩ → Upd d.FT w w' → Sub d'.FT d.FT w → K 0 w') :
    F_index_Table_Add_k1 d.a id K r (if front then d.first - 1 else d.last + 1) wa := by
  obtain ⟨rank, hrank⟩ : ∃ rank, rank = if front then d.first - 1 else d.last + 1 := ⟨_, rfl⟩
  rw [← hrank] at hK ⊢
  have b0 := ok.b0
  have b1 := ok.b1
  have b2 := ok.b2
  have ta := h.keep ua
  have hqFT : ∀ q, w.heap.size ≤ q → q ∉ d.FT := fun q hq hx => by have := h.inn q hx; omega
  unfold F_index_Table_Add_k1
  simp only [TbD.a, NN_some, addN, drw_cell, drw_heap, exS, exI, exB, exP, exM, exStr, exV, a0, a1, a2, a3, a4, a5, a6, a7, a8, a9, a10, a11, a12, a13, maxI_eq, Nat.zero_add, Nat.add_zero, Nat.mul_one, Option.isNone_some, Option.isNone_none, ta.blk.cell]
  -- the ends are set
  refine St_acc (Upd.refl _ _) ta.blk.drw (by simp) rfl fun w1 u1 hb1 => ?_
  refine St_acc u1 hb1 (by simp) rfl fun w2 u2 hb2 => ?_
  simp at hb2
  have hbr2 := hbr.drw.upd u2 (by simp; rintro rfl; exact hqFT _ hrw h.ib)
  simp only [NN_some, addN, drw_cell, drw_heap, exS, exI, exB, exP, exM, exStr, exV, a0, a1, a2, a3, a4, a5, a6, a7, a8, a9, a10, a11, a12, a13, maxI_eq, Nat.zero_add, Nat.add_zero, Nat.mul_one, Option.isNone_some, Option.isNone_none, hbr2.cell]
  refine key_ok fun w3 u3 => ?_
  have hb3 := hb2.upd u3 (by simp)
  have hbr3 := hbr2.upd u3 (by simp)
  refine St_acc (Upd.refl _ _) hbr3 (by simp) rfl fun w4 u4 hr4 => St_acc u4 hr4 (by simp) rfl fun w5 u5 hr5 => St_acc u5 hr5 (by simp) rfl fun w6 u6 hr6 => ?_
  simp at hr6
  refine New_rule fun q w7 hq u7 hq7 => ?_
  refine St_acc (Upd.refl _ _) hq7 (by simp) rfl fun w8 u8 hq8 => St_acc u8 hq8 (by simp) rfl fun w9 u9 hq9 => ?_
  simp at hq9
  have hwa := ua.size
  have hqw : w.heap.size ≤ q := by have h5 : wa.heap.size ≤ w2.heap.size := u2.size; have := u3.size; have := u6.size; omega
  have hrq : r ≠ q := by have := hr6.lt; omega
  have hbne : d.b ≠ r := fun hx => hqFT _ hrw (hx ▸ h.ib)
  have hbnq : d.b ≠ q := fun hx => hqFT _ hqw (hx ▸ h.ib)
  have U9 : Upd [d.b] w w9 := ((((((ua.after (drw_upd wa)).after u2).before u3).trans u6 (fun x hx => .inl hx) (fun x hx => by simp at hx; right; omega))).before u7).trans u9 (fun x hx => .inl hx) (fun x hx => by simp at hx; right; omega)
  have hb9 : Blk w9 d.b #[.map (some d.r), .slice d.ap d.an d.ac, .map (some d.m), .int .i64 (minI d.first rank), .int .i64 (max d.last rank)] := by
    have := ((hb3.upd u6 (by simpa using hbne)).upd u7 (by simp)).upd u9 (by simpa using hbnq)
    simpa using this
  have hr9 := (hr6.upd u7 (by simp)).upd u9 (by simpa using hrq)
  simp only [NN_some, addN, drw_cell, drw_heap, exS, exI, exB, exP, exM, exStr, exV, a0, a1, a2, a3, a4, a5, a6, a7, a8, a9, a10, a11, a12, a13, maxI_eq, Nat.zero_add, Nat.add_zero, Nat.mul_one, Option.isNone_some, Option.isNone_none, hb9.cell, hr9.cell, hq9.cell]
  have hrm9 := (h.rmap.upd U9 (by simpa using h.br.symm)).upd (drw_upd w9) (by simp)
  refine Lookup_rule (κ := Key) (kt := 30) (et := 96) (inj := kV) (z := .slice none 0 0) (k := nk k) keyKey (by rfl) ⟨_, rfl, rfl⟩ hrm9 ?_
  obtain ⟨p, n, c, hl, hrow⟩ := h.rows (nk k)
  refine ⟨p, n, c, hl, fun i hi => by simp [hq9.cell], fun i hi => by simp [hr9.cell], by simp [hb9.cell], ?_⟩
  have hrow9 : RowAt (drw w9) p n c ((ofKey (nk k) d.E).map rk) (d.F (nk k)) := SlAt.drw (SlAt.upd hrow U9 fun x hx => by simp; rintro rfl; exact h.bF _ hx)
  have hkl := ofKey_len (nk k) d.E
  have hff : ∀ x ∈ d.E, front = true → rank < x.rank := fun x hx hf => by have := ok.lo x hx; rw [hf] at hrank; simp at hrank; omega
  have hfb : ∀ x ∈ d.E, front = false → x.rank < rank := fun x hx hf => by have := ok.hi x hx; rw [hf] at hrank; simp at hrank; omega
  have hsub : ∀ x ∈ ofKey (nk k) d.E, x ∈ d.E := fun x hx => (List.mem_filter.1 hx).1
  -- into its row
  refine put_ok hrow9 (rising_key ok.rising _) (by rw [List.length_map]; omega) fun i p1 c1 F1 wA hi hlt hge hsA uA sA => ?_
  rw [ins_eq (front := front) (e := ⟨rank, id, nk k⟩) hi hlt hge (fun hf x hx => hff x (hsub x hx) hf) (fun hf x hx => hfb x (hsub x hx) hf)] at hsA
  have hFw : ∀ x ∈ d.F (nk k), x < w.heap.size := fun x hx => h.inn x (h.iF _ x hx)
  have hGw : ∀ x ∈ d.G, x < w.heap.size := fun x hx => h.inn x (h.iG x hx)
  have hrA := hr9.drw.upd uA fun hx => by have := hFw _ hx; omega
  have hqA := hq9.drw.upd uA fun hx => by have := hFw _ hx; omega
  have hbA := hb9.drw.upd uA (h.bF _)
  have hrmA := hrm9.upd uA (h.rF _)
  simp only [NN_some, addN, drw_cell, drw_heap, exS, exI, exB, exP, exM, exStr, exV, a0, a1, a2, a3, a4, a5, a6, a7, a8, a9, a10, a11, a12, a13, maxI_eq, Nat.zero_add, Nat.add_zero, Nat.mul_one, Option.isNone_some, Option.isNone_none, hbA.cell, hrA.cell, hr9.cell, hb9.cell]
  refine ⟨fun i hi => trivial, trivial, ?_⟩
  refine MUp_rule (κ := Key) (kt := 30) (et := 96) (inj := kV) (k := nk k) keyKey (by rfl) hrmA fun wB hrmB uB => ?_
  have hqB := hqA.upd uB (by simp; rintro rfl; exact hqFT _ hqw h.ir)
  have hrB := hrA.upd uB (by simp; rintro rfl; exact hqFT _ hrw h.ir)
  have hbB := hbA.upd uB (by simpa using h.br)
  simp only [NN_some, addN, drw_cell, drw_heap, exS, exI, exB, exP, exM, exStr, exV, a0, a1, a2, a3, a4, a5, a6, a7, a8, a9, a10, a11, a12, a13, maxI_eq, Nat.zero_add, Nat.add_zero, Nat.mul_one, Option.isNone_some, Option.isNone_none, hbB.cell, hqB.cell]
  have UB : Upd (d.b :: d.r :: d.F (nk k)) w wB := ((U9.before (drw_upd w9)).trans uA (fun x hx => by simp at hx; simp [hx]) (fun x hx => .inl (by simp [hx]))).trans uB (fun x hx => .inl hx) (fun x hx => by simp at hx; simp [hx])
  have hallB : RowAt (drw wB) d.ap d.an d.ac (d.E.map rk) d.G := SlAt.drw (SlAt.upd h.all UB fun x hx hy => by
    simp at hy
    rcases hy with rfl | rfl | hy
    · exact h.bG hx
    · exact h.rG hx
    · exact h.GF _ x hx hy)
  -- into the row of all
  refine put_ok hallB (rising_map ok.rising) (by rw [List.length_map]; omega) fun i p2 c2 G' wC hi2 hlt2 hge2 hsC uC sC => ?_
  rw [ins_eq (front := front) (e := ⟨rank, id, nk k⟩) hi2 hlt2 hge2 (fun hf x hx => hff x hx hf) (fun hf x hx => hfb x hx hf)] at hsC
  have hbC := hbB.drw.upd uC h.bG
  refine St_acc (Upd.refl _ _) hbC (by simp) rfl fun wD uD hbD => ?_
  simp at hbD
  have hrD := ((hrB.drw.upd uC fun hx => by have := hGw _ hx; omega)).upd uD (by simpa using hbne.symm)
  simp only [NN_some, addN, drw_cell, drw_heap, exS, exI, exB, exP, exM, exStr, exV, a0, a1, a2, a3, a4, a5, a6, a7, a8, a9, a10, a11, a12, a13, maxI_eq, Nat.zero_add, Nat.add_zero, Nat.mul_one, Option.isNone_some, Option.isNone_none, hbD.cell, hrD.cell]
  have UD : Upd (d.b :: d.r :: (d.F (nk k) ++ d.G)) w wD := ((UB.before (drw_upd wB)).trans uC (fun x hx => by simp at hx; rcases hx with h1 | h1 | h1 <;> simp [h1]) (fun x hx => .inl (by simp [hx]))).trans uD (fun x hx => .inl hx) (fun x hx => by simp at hx; simp [hx])
  have hmD : MapAt (drw wD) d.m (fun a : Int => Value.int .i64 a) d.AM := (h.amap.upd UD (by
    simp
    exact ⟨h.bm.symm, h.rm.symm, h.mF _, h.mG⟩)).upd (drw_upd wD) (by simp)
  refine MUp_rule (κ := Int) (kt := 3) (et := 101) (inj := fun a : Int => Value.int .i64 a) (k := id) keyId (by rfl) hmD fun wE hmE uE => ?_
  have UE : Upd (d.b :: d.r :: d.m :: (d.F (nk k) ++ d.G)) w wE := (UD.before (drw_upd wD)).trans uE (fun x hx => by simp at hx; rcases hx with h1 | h1 | h1 | h1 <;> simp [h1]) (fun x hx => by simp at hx; simp [hx])
  have hsz9 : w.heap.size ≤ w9.heap.size := U9.size
  have hszA : w9.heap.size ≤ wA.heap.size := uA.size
  have hszB := uB.size
  -- where the new parts lie
  have hF1 : ∀ x ∈ F1, x ∈ d.F (nk k) ∨ (w9.heap.size ≤ x ∧ x < wA.heap.size) := fun x hx => by
    have h5 := SlAt.inn hsA x hx
    rcases sA x hx with h1 | h1
    · exact .inl h1
    · exact .inr ⟨h1, h5⟩
  have hG1 : ∀ x ∈ G', x ∈ d.G ∨ wB.heap.size ≤ x := fun x hx => sC x hx
  have hbw := h.inn _ h.ib
  have hrw2 := h.inn _ h.ir
  have hmw := h.inn _ h.im
  have nF1 : ∀ y, y < w.heap.size → y ∉ d.F (nk k) → y ∉ F1 := fun y hy hn hx => by
    rcases hF1 y hx with h1 | h1
    · exact hn h1
    · omega
  have nG1 : ∀ y, y < w.heap.size → y ∉ d.G → y ∉ G' := fun y hy hn hx => by
    rcases hG1 y hx with h1 | h1
    · exact hn h1
    · omega
  have GF1 : Dis G' F1 := fun x hx hy => by
    rcases hG1 x hx with h1 | h1
    · rcases hF1 x hy with h2 | h2
      · exact h.GF _ x h1 h2
      · have := hGw x h1; omega
    · rcases hF1 x hy with h2 | h2
      · have := hFw x h2; omega
      · omega
  have uBD : Upd (d.b :: d.r :: d.G) wA wD := (((uB.before (drw_upd wB)).trans uC (fun x hx => by simp at hx; simp [hx]) (fun x hx => .inl (by simp [hx])))).trans uD (fun x hx => .inl hx) (fun x hx => by simp at hx; simp [hx])
  have uAE : Upd (d.b :: d.r :: d.m :: d.G) wA wE := ((uBD.before (drw_upd wD))).trans uE (fun x hx => by simp at hx; rcases hx with h1 | h1 | h1 <;> simp [h1]) (fun x hx => by simp at hx; simp [hx])
  have uBE : Upd (d.b :: d.m :: d.G) wB wE := (((((drw_upd wB).after uC).trans uD (H := d.b :: d.G) (fun x hx => .inl (by simp [hx])) (fun x hx => by simp at hx; simp [hx]))).before (drw_upd wD)).trans uE (fun x hx => by simp at hx; rcases hx with h1 | h1 <;> simp [h1]) (fun x hx => by simp at hx; simp [hx])
  have uCE : Upd [d.b, d.m] wC wE := (uD.before (drw_upd wD)).trans uE (fun x hx => by simp at hx; simp [hx]) (fun x hx => by simp at hx; simp [hx])
  refine hK wE { b := d.b, r := d.r, m := d.m, ap := p2, an := d.an + 1, ac := c2, first := if front then d.first - 1 else d.first, last := if front then d.last else d.last + 1, E := insE front d.E ⟨rank, id, nk k⟩, RM := put (nk k) (.slice p1 (n + 1) c1) d.RM, AM := put id (spotV ⟨rank, id, nk k⟩) d.AM, G := G', F := fun x => if x = nk k then F1 else d.F x, FT := d.FT ++ (F1 ++ G') } ?_ (ok.ins (front := front) (k := k) hid hlen (by rw [hrank]) rfl rfl) rfl rfl (UE.mono fun x hx => ?_) ?_
  · refine ⟨?_, ?_, h.ron.put, ?_, h.aon.put, ?_, ?_, ?_, h.br, h.bm, h.rm, nG1 _ hbw h.bG, nG1 _ hrw2 h.rG, nG1 _ hmw h.mG, ?_, ?_, ?_, ?_, ?_, ?_, ?_, ?_, ?_, ?_, ?_⟩
    · have := hbD.drw.upd uE (by simpa using h.bm)
      have e1 : minI d.first rank = if front then d.first - 1 else d.first := by
        unfold minI; rw [hrank]; cases front <;> simp <;> omega
      have e2 : max d.last rank = if front then d.last else d.last + 1 := by
        rw [hrank]; cases front <;> simp <;> omega
      rw [e1, e2] at this
      exact this
    · exact hrmB.upd uBE (by simp; exact ⟨h.br.symm, h.rm, h.rG⟩)
    · exact hmE
    · exact SlAt.upd hsC uCE fun x hx => by
        simp
        refine ⟨?_, ?_⟩
        · rintro rfl; exact nG1 _ hbw h.bG hx
        · rintro rfl; exact nG1 _ hmw h.mG hx
    · intro k'
      dsimp only
      by_cases hk' : k' = nk k
      · subst hk'
        refine ⟨p1, n + 1, c1, ?_, ?_⟩
        · rw [look_put, if_pos rfl]; rfl
        · rw [insE_ofKey, if_pos rfl, if_pos rfl]
          refine SlAt.upd hsA uAE fun x hx hy => ?_
          simp at hy
          rcases hy with rfl | rfl | rfl | hy
          · exact nF1 _ hbw (h.bF _) hx
          · exact nF1 _ hrw2 (h.rF _) hx
          · exact nF1 _ hmw (h.mF _) hx
          · exact nF1 x (hGw x hy) (fun hz => h.GF _ x hy hz) hx
      · obtain ⟨p', n', c', hl', hr'⟩ := h.rows k'
        refine ⟨p', n', c', ?_, ?_⟩
        · rw [look_put, if_neg hk']; exact hl'
        · rw [insE_ofKey, if_neg hk', if_neg hk']
          refine SlAt.upd hr' UE fun x hx hy => ?_
          simp at hy
          rcases hy with rfl | rfl | rfl | hy | hy
          · exact h.bF _ hx
          · exact h.rF _ hx
          · exact h.mF _ hx
          · exact h.FF _ _ hk' x hx hy
          · exact h.GF _ x hy hx
    · intro j
      dsimp only
      rw [look_put, find_insE hid]
      by_cases hj : j = id
      · rw [if_pos hj, if_pos hj]; rfl
      · rw [if_neg hj, if_neg hj]; exact h.spots j
    · intro k'; dsimp only; split
      · exact nF1 _ hbw (h.bF _)
      · exact h.bF _
    · intro k'; dsimp only; split
      · exact nF1 _ hrw2 (h.rF _)
      · exact h.rF _
    · intro k'; dsimp only; split
      · exact nF1 _ hmw (h.mF _)
      · exact h.mF _
    · intro k'; dsimp only; split
      · exact GF1
      · intro x hx hy
        exact nG1 x (h.inn x (h.iF _ x hy)) (fun hz => h.GF _ x hz hy) hx
    · intro k1 k2 hne
      dsimp only
      split
      · rename_i e1
        split
        · rename_i e2; exact absurd (e1.trans e2.symm) hne
        · rename_i e2
          intro x hx hy
          exact nF1 x (h.inn x (h.iF _ x hy)) (fun hz => h.FF _ _ (fun e => e2 e.symm) x hz hy) hx
      · rename_i e1
        split
        · rename_i e2
          intro x hx hy
          exact nF1 x (h.inn x (h.iF _ x hx)) (fun hz => h.FF _ _ e1 x hx hz) hy
        · exact h.FF _ _ hne
    · simp [h.ib]
    · simp [h.ir]
    · simp [h.im]
    · intro x hx; simp [hx]
    · intro k' x hx
      dsimp only at hx
      split at hx
      · simp [hx]
      · simp [h.iF _ x hx]
    · intro x hx
      simp at hx
      rcases hx with hx | hx | hx
      · exact h.inn.upd UE x hx
      · have := SlAt.inn hsA x hx; have := uAE.size; omega
      · have := SlAt.inn hsC x hx; have := uCE.size; omega
  · simp at hx
    rcases hx with rfl | rfl | rfl | hx | hx
    · exact .inl h.ib
    · exact .inl h.ir
    · exact .inl h.im
    · exact .inl (h.iF _ x hx)
    · exact .inl (h.iG x hx)
  · intro x hx
    simp at hx
    rcases hx with hx | hx | hx
    · exact .inl hx
    · rcases hF1 x hx with h1 | h1
      · exact .inl (h.iF _ x h1)
      · right; omega
    · rcases hG1 x hx with h1 | h1
      · exact .inl (h.iG x h1)
      · right; omega

end

end Ix

end Go.Proofs.YtlndgaijekihiaaGreat

/- A table of entries: Add, Drop, New. -/
namespace Go.Proofs.YtlndgaijekihiaaGreat
open Go Go.D Go.Proofs
namespace Ix
set_option linter.unusedSimpArgs false
set_option linter.unusedVariables false
set_option maxRecDepth 8000

/-- Without one. -/
def outE (E : List En) (id : Int) : List En := E.filter fun e => !decide (e.id = id)

theorem erase_eq : ∀ {E : List En} (h : (E.map (·.id)).Nodup) {i : Nat} (hi : i < E.length), E.take i ++ E.drop (i + 1) = outE E E[i].id
  | x :: E, h, 0, hi => by
    rw [List.map_cons, List.nodup_cons] at h
    simp only [List.take_zero, List.nil_append, List.drop_succ_cons, List.drop_zero, List.getElem_cons_zero]
    unfold outE
    rw [List.filter_cons_of_neg (by simp)]
    symm
    rw [List.filter_eq_self]
    intro y hy
    have : ¬ y.id = x.id := fun e => h.1 (by rw [← e]; exact List.mem_map.2 ⟨y, hy, rfl⟩)
    simp [this]
  | x :: E, h, i + 1, hi => by
    rw [List.map_cons, List.nodup_cons] at h
    have hi' : i < E.length := by simpa using hi
    have ih := erase_eq h.2 hi'
    simp only [List.take_succ_cons, List.cons_append, List.drop_succ_cons, List.getElem_cons_succ]
    rw [ih]
    unfold outE
    have : ¬ x.id = E[i].id := fun e => h.1 (by rw [e]; exact List.mem_map.2 ⟨_, List.getElem_mem hi', rfl⟩)
    rw [List.filter_cons_of_pos (by simp [this])]

theorem erase_rk {E : List En} (h : (E.map (·.id)).Nodup) {i : Nat} (hi : i < E.length) : (E.map rk).take i ++ (E.map rk).drop (i + 1) = (outE E E[i].id).map rk := by
  rw [← erase_eq h hi, List.map_append, List.map_take, List.map_drop]

theorem id_eq {E : List En} (h : (E.map (·.id)).Nodup) {x y : En} (hx : x ∈ E) (hy : y ∈ E) (e : x.id = y.id) : x = y := by
  have h1 := find_id h hx
  have h2 := find_id h hy
  rw [e] at h1
  exact Option.some.inj (h1.symm.trans h2)

theorem outE_key {E : List En} (h : (E.map (·.id)).Nodup) {e : En} (he : e ∈ E) (k : Key) : ofKey k (outE E e.id) = if k = e.key then outE (ofKey k E) e.id else ofKey k E := by
  have e1 : ofKey k (outE E e.id) = outE (ofKey k E) e.id := by
    unfold ofKey outE
    rw [List.filter_filter, List.filter_filter]
    congr 1; funext x; rw [Bool.and_comm]
  rw [e1]
  split
  · rfl
  · rename_i hk
    unfold outE
    rw [List.filter_eq_self]
    intro x hx
    have hx' := List.mem_filter.1 hx
    by_cases hxe : x.id = e.id
    · have := id_eq h hx'.1 he hxe
      subst this
      simp at hx'
      exact absurd hx'.2.symm hk
    · simp [hxe]

theorem key_ids {E : List En} (h : (E.map (·.id)).Nodup) (k : Key) : ((ofKey k E).map (·.id)).Nodup := List.Nodup.sublist (List.Sublist.map _ List.filter_sublist) h

theorem outE_find {E : List En} {id j : Int} : (outE E id).find? (fun x => decide (x.id = j)) = if j = id then none else E.find? fun x => decide (x.id = j) := by
  unfold outE
  rw [List.find?_filter]
  split
  · rename_i hj
    subst hj
    rw [List.find?_eq_none]
    intro x _
    simp
  · rename_i hj
    apply findCongr
    intro x _
    by_cases hx : x.id = j
    · simp [hx, hj]
    · simp [hx]

section
variable {w : World} {d : TbD} {B : Int}

theorem New_ok {K : Option Addr → World → Prop} (hK : ∀ w' d', Tb w' d' → TbOk d' 0 → d'.E = [] → Upd [] w w' → Since d'.FT w → K d'.a w') : C_index_New w K := by
  apply C_index_New.of
  unfold F_index_New
  refine New_map fun r w1 hr u1 hm1 => New_map fun m w2 hm u2 hm2 => New_rule fun b w3 hb u3 hb3 => ?_
  have hrl : r < w1.heap.size := (Array.getElem?_eq_some_iff.1 hm1).1
  have hml : m < w2.heap.size := (Array.getElem?_eq_some_iff.1 hm2).1
  have s1 := u1.size
  have s2 := u2.size
  have s3 := u3.size
  have hlt := hb3.lt
  have h1 := ((MapAt.new kV hm1).upd u2 (by simp)).upd u3 (by simp)
  have h2 := (MapAt.new (fun a : Int => Value.int .i64 a) hm2).upd u3 (by simp)
  refine hK w3 { b := b, r := r, m := m, ap := none, an := 0, ac := 0, first := 0, last := 0, E := [], RM := [], AM := [], G := [], F := fun _ => [], FT := [b, r, m] } ?_ ?_ rfl ((u1.after u2).after u3) ?_
  · refine ⟨hb3, h1, List.nodup_nil, h2, List.nodup_nil, SlAt.nil _ _, fun k => ⟨none, 0, 0, rfl, SlAt.nil _ _⟩, fun _ => rfl, by show b ≠ r; omega, by show b ≠ m; omega, by show r ≠ m; omega, by simp, by simp, by simp, by simp, by simp, by simp, ?_, ?_, by simp, by simp, by simp, by simp, by simp, ?_⟩
    · intro k x hx; cases hx
    · intro k k' _ x hx; cases hx
    · intro x hx
      simp at hx
      rcases hx with rfl | rfl | rfl <;> omega
  · exact ⟨List.Pairwise.nil, List.nodup_nil, by simp, by simp, by simp, by simp, by simp, by simp, by simp⟩
  · intro x hx
    simp at hx
    rcases hx with rfl | rfl | rfl <;> omega

/-- What Add asks first. -/
theorem Add_ask {id : Int} {k : Key} {front : Bool} {K : Int → World → Prop} (h : Tb w d) (ok : TbOk d B) (hB : B < 2 ^ 60)
    (h5 : id ∈ d.E.map (·.id) → ∀ w', Tb w' d → Upd [] w w' → K 5 w') (h2 : id ∉ d.E.map (·.id) → 4096 ≤ d.E.length → ∀ w', Tb w' d → Upd [] w w' → K 2 w')
    (hK : id ∉ d.E.map (·.id) → d.E.length < 4096 → ∀ w' d', Tb w' d' → TbOk d' (B + 1) → d'.a = d.a → d'.E = insE front d.E ⟨if front then d.first - 1 else d.last + 1, id, nk k⟩ → Upd d.FT w w' → Sub d'.FT d.FT w → K 0 w') : C_index_Table_Add d.a id k.1 k.2.1 k.2.2 front w K := by
  apply C_index_Table_Add.of
  unfold F_index_Table_Add
  have b0 := ok.b0
  have b1 := ok.b1
  have b2 := ok.b2
  refine New_rule fun r w1 hr u1 hb1 => ?_
  have t1 := h.keep u1
  refine made_ok t1 (ifF rfl ?_)
  simp only [TbD.a, NN_some, addN, drw_cell, drw_heap, exS, exI, exB, exP, exM, exStr, exV, a0, a1, a2, a3, a4, a5, a6, a7, a8, a9, a10, a11, a12, a13, maxI_eq, Nat.zero_add, Nat.add_zero, Nat.mul_one, Option.isNone_some, Option.isNone_none, t1.blk.cell]
  refine Lookup2_rule (κ := Int) (kt := 3) (et := 101) (inj := fun a : Int => Value.int .i64 a) (z := .agg #[.int .i64 0, .string ⟨#[]⟩, .int .i64 0, .int .i64 0]) keyId (by rfl) ⟨_, rfl, rfl⟩ t1.amap ?_
  rw [h.spots]
  rcases hf : d.E.find? (fun e => decide (e.id = id)) with _ | e
  · rw [hf]
    have hid := find_none.1 hf
    refine ⟨_, _, _, _, _, rfl, New_rule fun q w2 hq u2 hb2 => ?_⟩
    refine St_acc (Upd.refl _ _) hb2 (by simp) rfl fun w3 u3 hb3 => St_acc u3 hb3 (by simp) rfl fun w4 u4 hb4 => St_acc u4 hb4 (by simp) rfl fun w5 u5 hb5 => St_acc u5 hb5 (by simp) rfl fun w6 u6 hb6 => ?_
    have U6 : Upd [] w w6 := (u1.after u2).fresh u6 (by intro k hk; simp at hk; have := u1.size; omega)
    have hne : r ≠ q := by have := hb1.lt; omega
    have hbr := (hb1.upd u2 (by simp)).upd u6 (by simpa using hne)
    have t6 := h.keep U6
    refine ifF rfl ?_
    simp only [NN_some, addN, drw_cell, drw_heap, exS, exI, exB, exP, exM, exStr, exV, a0, a1, a2, a3, a4, a5, a6, a7, a8, a9, a10, a11, a12, a13, maxI_eq, Nat.zero_add, Nat.add_zero, Nat.mul_one, Option.isNone_some, Option.isNone_none, t6.blk.cell]
    rw [h.an]
    refine ifC (fun hc => ?_) (fun hc => ?_)
    · simp at hc
      exact h2 hid (by omega) w6 t6 U6
    · simp at hc
      have hk1 := @Add_k1 w d B r id k front w6 K h ok hB U6 (by omega) hbr hid (by omega) (fun w' d' => hK hid (by omega) w' d')
      cases front with
      | true =>
        refine ifT rfl ?_
        rw [i64id (by omega) (by omega)]
        exact hk1
      | false =>
        refine ifF rfl ?_
        rw [i64id (by omega) (by omega)]
        exact hk1
  · rw [hf]
    have he := List.mem_of_find?_eq_some hf
    have hid : id ∈ d.E.map (·.id) := by
      have := List.find?_some hf
      simp at this
      exact List.mem_map.2 ⟨e, he, this⟩
    refine ⟨e.key.1, e.key.2.1, e.key.2.2, e.rank, true, rfl, New_rule fun q w2 hq u2 hb2 => ?_⟩
    refine St_acc (Upd.refl _ _) hb2 (by simp) rfl fun w3 u3 hb3 => St_acc u3 hb3 (by simp) rfl fun w4 u4 hb4 => St_acc u4 hb4 (by simp) rfl fun w5 u5 hb5 => St_acc u5 hb5 (by simp) rfl fun w6 u6 hb6 => ?_
    have U6 : Upd [] w w6 := (u1.after u2).fresh u6 (by intro k hk; simp at hk; have := u1.size; omega)
    exact ifT rfl (h5 hid w6 (h.keep U6) U6)

theorem TbOk.out {d' : TbD} (ok : TbOk d B) {id : Int} (hE : d'.E = outE d.E id) (hf : d'.first = d.first) (hl : d'.last = d.last) : TbOk d' B := by
  have hs : ∀ e ∈ outE d.E id, e ∈ d.E := fun e he => (List.mem_filter.1 he).1
  refine ⟨by rw [hE]; exact ok.rising.filter _, by rw [hE]; exact List.Nodup.sublist (List.Sublist.map _ List.filter_sublist) ok.ids, ?_, ?_, ?_, by rw [hf]; exact ok.b0, by rw [hf, hl]; exact ok.b1, by rw [hl]; exact ok.b2, ?_⟩
  · rw [hE]; exact fun e he => ok.norm e (hs e he)
  · rw [hE, hf]; exact fun e he => ok.lo e (hs e he)
  · rw [hE, hl]; exact fun e he => ok.hi e (hs e he)
  · rw [hE]; exact Nat.le_trans (List.length_filter_le _ _) ok.len

theorem Drop_no {id : Int} {K : Int → World → Prop} (h : Tb w d) (hid : id ∉ d.E.map (·.id)) (hK : ∀ w', Tb w' d → Upd [] w w' → K 4 w') : C_index_Table_Drop d.a id w K := by
  apply C_index_Table_Drop.of
  unfold F_index_Table_Drop
  refine made_ok h (ifF rfl ?_)
  simp only [TbD.a, NN_some, addN, drw_cell, drw_heap, exS, exI, exB, exP, exM, exStr, exV, a0, a1, a2, a3, a4, a5, a6, a7, a8, a9, a10, a11, a12, a13, maxI_eq, Nat.zero_add, Nat.add_zero, Nat.mul_one, Option.isNone_some, Option.isNone_none, h.blk.cell]
  refine Lookup2_rule (κ := Int) (kt := 3) (et := 101) (inj := fun a : Int => Value.int .i64 a) (z := .agg #[.int .i64 0, .string ⟨#[]⟩, .int .i64 0, .int .i64 0]) keyId (by rfl) ⟨_, rfl, rfl⟩ h.amap ?_
  rw [h.spots, find_none.2 hid]
  refine ⟨_, _, _, _, _, rfl, New_rule fun q w2 hq u2 hb2 => ?_⟩
  refine St_acc (Upd.refl _ _) hb2 (by simp) rfl fun w3 u3 hb3 => St_acc u3 hb3 (by simp) rfl fun w4 u4 hb4 => St_acc u4 hb4 (by simp) rfl fun w5 u5 hb5 => St_acc u5 hb5 (by simp) rfl fun w6 u6 hb6 => ?_
  have U6 : Upd [] w w6 := u2.fresh u6 (by intro k hk; simp at hk; omega)
  exact ifT rfl (hK w6 (h.keep U6) U6)

theorem Drop_ok {e : En} {K : Int → World → Prop} (h : Tb w d) (ok : TbOk d B) (he : e ∈ d.E)
    (hK : ∀ w' d', Tb w' d' → TbOk d' B → d'.a = d.a → d'.E = outE d.E e.id → Upd d.FT w w' → Sub d'.FT d.FT w → K 0 w') : C_index_Table_Drop d.a e.id w K := by
  apply C_index_Table_Drop.of
  unfold F_index_Table_Drop
  have hlen := ok.len
  refine made_ok h (ifF rfl ?_)
  simp only [TbD.a, NN_some, addN, drw_cell, drw_heap, exS, exI, exB, exP, exM, exStr, exV, a0, a1, a2, a3, a4, a5, a6, a7, a8, a9, a10, a11, a12, a13, maxI_eq, Nat.zero_add, Nat.add_zero, Nat.mul_one, Option.isNone_some, Option.isNone_none, h.blk.cell]
  refine Lookup2_rule (κ := Int) (kt := 3) (et := 101) (inj := fun a : Int => Value.int .i64 a) (z := .agg #[.int .i64 0, .string ⟨#[]⟩, .int .i64 0, .int .i64 0]) keyId (by rfl) ⟨_, rfl, rfl⟩ h.amap ?_
  rw [h.spots, find_id ok.ids he]
  refine ⟨e.key.1, e.key.2.1, e.key.2.2, e.rank, true, rfl, New_rule fun q w2 hq u2 hb2 => ?_⟩
  refine St_acc (Upd.refl _ _) hb2 (by simp) rfl fun w3 u3 hb3 => St_acc u3 hb3 (by simp) rfl fun w4 u4 hb4 => St_acc u4 hb4 (by simp) rfl fun w5 u5 hb5 => St_acc u5 hb5 (by simp) rfl fun w6 u6 hb6 => ?_
  simp at hb6
  have U6 : Upd [] w w6 := u2.fresh u6 (by intro k hk; simp at hk; omega)
  have hqFT : q ∉ d.FT := fun hx => by have := h.inn q hx; omega
  have t6 := (h.keep U6).keep (drw_upd w6)
  refine ifF rfl ?_
  simp only [NN_some, addN, drw_cell, drw_heap, exS, exI, exB, exP, exM, exStr, exV, a0, a1, a2, a3, a4, a5, a6, a7, a8, a9, a10, a11, a12, a13, maxI_eq, Nat.zero_add, Nat.add_zero, Nat.mul_one, Option.isNone_some, Option.isNone_none, t6.blk.cell, (h.keep U6).blk.cell, hb6.cell]
  have hFw : ∀ x ∈ d.F e.key, x < w.heap.size := fun x hx => h.inn x (h.iF _ x hx)
  have hGw : ∀ x ∈ d.G, x < w.heap.size := fun x hx => h.inn x (h.iG x hx)
  have hbw := h.inn _ h.ib
  have hrw2 := h.inn _ h.ir
  have hmw := h.inn _ h.im
  -- out of the row of all
  obtain ⟨i, hi, hie⟩ := List.getElem_of_mem he
  refine cut_ok t6.all (rising_map ok.rising) (i := i) (by rw [List.length_map]; omega) (by rw [List.length_map]; exact hi) (by rw [List.getElem_map, hie]; rfl) fun pA cA G' wA hsA uA sA => ?_
  rw [erase_rk ok.ids hi, hie] at hsA
  have hbA := t6.blk.upd uA h.bG
  have hqA := hb6.drw.upd uA (fun hx => by have := hGw _ hx; omega)
  refine St_acc (Upd.refl _ _) hbA (by simp) rfl fun wB uB hbB => ?_
  simp at hbB
  have hqb : q ≠ d.b := by omega
  have hqB := hqA.upd uB (by simpa using hqb)
  simp only [NN_some, addN, drw_cell, drw_heap, exS, exI, exB, exP, exM, exStr, exV, a0, a1, a2, a3, a4, a5, a6, a7, a8, a9, a10, a11, a12, a13, maxI_eq, Nat.zero_add, Nat.add_zero, Nat.mul_one, Option.isNone_some, Option.isNone_none, hbB.cell, hqB.cell]
  have UB : Upd (d.b :: d.G) w wB := (((U6.after (drw_upd w6)).after uA).trans uB (fun x hx => .inl (by simp [hx])) (fun x hx => by simp at hx; simp [hx]))
  have hrmB := (h.rmap.upd UB (by simp; exact ⟨h.br.symm, h.rG⟩)).upd (drw_upd wB) (by simp)
  refine Lookup_rule (κ := Key) (kt := 30) (et := 96) (inj := kV) (z := .slice none 0 0) (k := e.key) keyKey (by rfl) ⟨_, rfl, rfl⟩ hrmB ?_
  obtain ⟨p, n, c, hl, hrow⟩ := h.rows e.key
  have hrowB : RowAt (drw wB) p n c ((ofKey e.key d.E).map rk) (d.F e.key) := SlAt.drw (SlAt.upd hrow UB fun x hx hy => by
    simp at hy
    rcases hy with rfl | hy
    · exact h.bF _ hx
    · exact h.GF _ x hy hx)
  have hnl := RowAt.len hrowB
  rw [List.length_map] at hnl
  refine ⟨p, n, c, hl, by simp [hqB.cell], fun i hi => by simp [hqB.cell], by simp [hbB.cell], ?_⟩
  -- out of its row
  have hek : e ∈ ofKey e.key d.E := List.mem_filter.2 ⟨he, by simp⟩
  obtain ⟨j, hj, hje⟩ := List.getElem_of_mem hek
  have hkl := ofKey_len e.key d.E
  refine cut_ok hrowB (rising_key ok.rising _) (i := j) (by rw [List.length_map]; omega) (by rw [List.length_map]; exact hj) (by rw [List.getElem_map, hje]; rfl) fun p1 c1 F1 wC hsC uC sC => ?_
  rw [erase_rk (key_ids ok.ids _) hj, hje] at hsC
  have hbC := hbB.drw.upd uC (h.bF _)
  have hqC := hqB.drw.upd uC (fun hx => by have := hFw _ hx; omega)
  have hrmC := hrmB.upd uC (h.rF _)
  simp only [NN_some, addN, drw_cell, drw_heap, exS, exI, exB, exP, exM, exStr, exV, a0, a1, a2, a3, a4, a5, a6, a7, a8, a9, a10, a11, a12, a13, maxI_eq, Nat.zero_add, Nat.add_zero, Nat.mul_one, Option.isNone_some, Option.isNone_none, hbC.cell, hqC.cell, hbB.cell, hqB.cell]
  refine ⟨fun i hi => by simp [hqC.cell], trivial, ?_⟩
  refine MUp_rule (κ := Key) (kt := 30) (et := 96) (inj := kV) (k := e.key) keyKey (by rfl) hrmC fun wD hrmD uD => ?_
  have hbD := hbC.upd uD (by simpa using h.br)
  have hqr : q ≠ d.r := by omega
  have hqD := hqC.upd uD (by simpa using hqr)
  simp only [NN_some, addN, drw_cell, drw_heap, exS, exI, exB, exP, exM, exStr, exV, a0, a1, a2, a3, a4, a5, a6, a7, a8, a9, a10, a11, a12, a13, maxI_eq, Nat.zero_add, Nat.add_zero, Nat.mul_one, Option.isNone_some, Option.isNone_none, hbD.cell, hqD.cell]
  refine Lookup_rule (κ := Key) (kt := 30) (et := 96) (inj := kV) (z := .slice none 0 0) (k := e.key) keyKey (by rfl) ⟨_, rfl, rfl⟩ (hrmD.upd (drw_upd wD) (by simp)) ?_
  rw [look_put, if_pos rfl]
  refine ⟨p1, n - 1, c1, rfl, ?_⟩
  have UD : Upd (d.b :: d.r :: (d.F e.key ++ d.G)) w (drw wD) := ((((UB.before (drw_upd wB)).trans uC (H := d.b :: (d.F e.key ++ d.G)) (fun x hx => by simp at hx; rcases hx with h1 | h1 <;> simp [h1]) (fun x hx => .inl (by simp [hx])))).trans uD (fun x hx => by simp at hx; rcases hx with h1 | h1 | h1 <;> simp [h1]) (fun x hx => by simp at hx; simp [hx])).before (drw_upd wD)
  -- where the new parts lie
  have hsz6 : w.heap.size ≤ (drw w6).heap.size := U6.size
  have hszA := uA.size
  have hszB := uB.size
  have hszB' : wA.heap.size ≤ (drw wB).heap.size := uB.size
  have hszC := uC.size
  have hG1 : ∀ x ∈ G', x ∈ d.G ∨ ((drw w6).heap.size ≤ x ∧ x < wA.heap.size) := fun x hx => by
    have h5 := SlAt.inn hsA x hx
    rcases sA x hx with h1 | h1
    · exact .inl h1
    · exact .inr ⟨h1, h5⟩
  have hF1 : ∀ x ∈ F1, x ∈ d.F e.key ∨ (drw wB).heap.size ≤ x := fun x hx => sC x hx
  have nF1 : ∀ y, y < w.heap.size → y ∉ d.F e.key → y ∉ F1 := fun y hy hn hx => by
    rcases hF1 y hx with h1 | h1
    · exact hn h1
    · omega
  have nG1 : ∀ y, y < w.heap.size → y ∉ d.G → y ∉ G' := fun y hy hn hx => by
    rcases hG1 y hx with h1 | h1
    · exact hn h1
    · omega
  have GF1 : Dis G' F1 := fun x hx hy => by
    rcases hG1 x hx with h1 | h1
    · rcases hF1 x hy with h2 | h2
      · exact h.GF _ x h1 h2
      · have := hGw x h1; omega
    · rcases hF1 x hy with h2 | h2
      · have := hFw x h2; omega
      · omega
  have uCD : Upd [d.r] wC (drw wD) := uD.before (drw_upd wD)
  have uAD : Upd (d.b :: d.r :: d.F e.key) wA (drw wD) := (((uB.before (drw_upd wB)).trans uC (H := d.b :: d.F e.key) (fun x hx => by simp at hx; simp [hx]) (fun x hx => .inl (by simp [hx])))).trans uCD (fun x hx => by simp at hx; rcases hx with h1 | h1 <;> simp [h1]) (fun x hx => by simp at hx; simp [hx])
  -- the rest, whatever became of the rows
  have fin : ∀ (wE : World) (RM : List (Key × Value)) (Fk : List Nat) (pk : Option Addr) (nk' ck : Nat), Upd [d.r] (drw wD) wE → MapAt wE d.r kV RM → Once RM → (∀ k, k ≠ e.key → (Go.D.look k RM).getD (.slice none 0 0) = (Go.D.look k d.RM).getD (.slice none 0 0)) → (Go.D.look e.key RM).getD (.slice none 0 0) = .slice pk nk' ck → RowAt wE pk nk' ck ((outE (ofKey e.key d.E) e.id).map rk) Fk → (∀ x ∈ Fk, x ∈ F1) →
      F_index_Table_Drop_k1 (some ⟨d.b, 0, none⟩) e.id K wE := by
    intro wE RM Fk pk nk' ck uE hrmE hon hlo hlk hrowE hFk
    unfold F_index_Table_Drop_k1
    have hbE := hbD.drw.upd uE (by simpa using h.br)
    simp only [NN_some, addN, drw_cell, drw_heap, exS, exI, exB, exP, exM, exStr, exV, a0, a1, a2, a3, a4, a5, a6, a7, a8, a9, a10, a11, a12, a13, maxI_eq, Nat.zero_add, Nat.add_zero, Nat.mul_one, Option.isNone_some, Option.isNone_none, hbE.cell]
    have UE : Upd (d.b :: d.r :: (d.F e.key ++ d.G)) w wE := UD.trans uE (fun x hx => .inl hx) (fun x hx => by simp at hx; simp [hx])
    have hmE := h.amap.upd UE (by simp; exact ⟨h.bm.symm, h.rm.symm, h.mF _, h.mG⟩)
    refine Del_rule (κ := Int) (kt := 3) (et := 101) (inj := fun a : Int => Value.int .i64 a) (k := e.id) keyId (by rfl) hmE fun v wF hmF uF => ?_
    have UF : Upd (d.b :: d.r :: d.m :: (d.F e.key ++ d.G)) w wF := UE.trans uF (fun x hx => by simp at hx; rcases hx with h1 | h1 | h1 | h1 <;> simp [h1]) (fun x hx => by simp at hx; simp [hx])
    have nFk : ∀ y, y < w.heap.size → y ∉ d.F e.key → y ∉ Fk := fun y hy hn hx => nF1 y hy hn (hFk y hx)
    have hsE : RowAt wE pA (d.an - 1) cA ((outE d.E e.id).map rk) G' := SlAt.upd (SlAt.upd hsA uAD fun x hx hy => by
      simp at hy
      rcases hy with rfl | rfl | hy
      · exact nG1 _ hbw h.bG hx
      · exact nG1 _ hrw2 h.rG hx
      · exact nG1 x (hFw x hy) (fun hz => h.GF _ x hz hy) hx) uE fun x hx hy => by
      simp at hy; subst hy; exact nG1 _ hrw2 h.rG hx
    refine hK wF { b := d.b, r := d.r, m := d.m, ap := pA, an := d.an - 1, ac := cA, first := d.first, last := d.last, E := outE d.E e.id, RM := RM, AM := drop1 e.id d.AM, G := G', F := fun x => if x = e.key then Fk else d.F x, FT := d.FT ++ (F1 ++ G') } ?_ (ok.out rfl rfl rfl) rfl rfl (UF.mono fun x hx => ?_) ?_
    · refine ⟨hbE.upd uF (by simpa using h.bm), hrmE.upd uF (by simpa using h.rm), hon, hmF, h.aon.drop1, ?_, ?_, ?_, h.br, h.bm, h.rm, nG1 _ hbw h.bG, nG1 _ hrw2 h.rG, nG1 _ hmw h.mG, ?_, ?_, ?_, ?_, ?_, ?_, ?_, ?_, ?_, ?_, ?_⟩
      · exact SlAt.upd hsE uF fun x hx hy => by simp at hy; subst hy; exact nG1 _ hmw h.mG hx
      · intro k'
        dsimp only
        rw [outE_key ok.ids he]
        by_cases hk' : k' = e.key
        · subst hk'
          rw [if_pos rfl, if_pos rfl]
          exact ⟨pk, nk', ck, hlk, SlAt.upd hrowE uF fun x hx hy => by simp at hy; subst hy; exact nFk _ hmw (h.mF _) hx⟩
        · obtain ⟨p', n', c', hl', hr'⟩ := h.rows k'
          rw [if_neg hk', if_neg hk']
          refine ⟨p', n', c', (hlo k' hk').trans hl', SlAt.upd hr' UF fun x hx hy => ?_⟩
          simp at hy
          rcases hy with rfl | rfl | rfl | hy | hy
          · exact h.bF _ hx
          · exact h.rF _ hx
          · exact h.mF _ hx
          · exact h.FF _ _ hk' x hx hy
          · exact h.GF _ x hy hx
      · intro j
        dsimp only
        rw [look_drop1 _ _ _ h.aon, outE_find]
        split
        · rfl
        · exact h.spots j
      · intro k'; dsimp only; split
        · exact nFk _ hbw (h.bF _)
        · exact h.bF _
      · intro k'; dsimp only; split
        · exact nFk _ hrw2 (h.rF _)
        · exact h.rF _
      · intro k'; dsimp only; split
        · exact nFk _ hmw (h.mF _)
        · exact h.mF _
      · intro k'; dsimp only; split
        · exact fun x hx hy => GF1 x hx (hFk x hy)
        · intro x hx hy
          exact nG1 x (h.inn x (h.iF _ x hy)) (fun hz => h.GF _ x hz hy) hx
      · intro k1 k2 hne
        dsimp only
        split
        · rename_i e1
          split
          · rename_i e2; exact absurd (e1.trans e2.symm) hne
          · rename_i e2
            intro x hx hy
            exact nFk x (h.inn x (h.iF _ x hy)) (fun hz => h.FF _ _ (fun e => e2 e.symm) x hz hy) hx
        · rename_i e1
          split
          · rename_i e2
            intro x hx hy
            exact nFk x (h.inn x (h.iF _ x hx)) (fun hz => h.FF _ _ e1 x hx hz) hy
          · exact h.FF _ _ hne
      · simp [h.ib]
      · simp [h.ir]
      · simp [h.im]
      · intro x hx; simp [hx]
      · intro k' x hx
        dsimp only at hx
        split at hx
        · simp [hFk x hx]
        · simp [h.iF _ x hx]
      · intro x hx
        simp at hx
        rcases hx with hx | hx | hx
        · exact h.inn.upd UF x hx
        · have := SlAt.inn hsC x hx; have := uCD.size; have := uE.size; have := uF.size; omega
        · have := SlAt.inn hsE x hx; have := uF.size; omega
    · simp at hx
      rcases hx with rfl | rfl | rfl | hx | hx
      · exact .inl h.ib
      · exact .inl h.ir
      · exact .inl h.im
      · exact .inl (h.iF _ x hx)
      · exact .inl (h.iG x hx)
    · intro x hx
      simp at hx
      rcases hx with hx | hx | hx
      · exact .inl hx
      · rcases hF1 x hx with h1 | h1
        · exact .inl (h.iF _ x h1)
        · right; omega
      · rcases hG1 x hx with h1 | h1
        · exact .inl (h.iG x h1)
        · right; omega
  have hrowD : RowAt (drw wD) p1 (n - 1) c1 ((outE (ofKey e.key d.E) e.id).map rk) F1 := SlAt.upd hsC uCD fun x hx hy => by
    simp at hy; subst hy; exact nF1 _ hrw2 (h.rF _) hx
  refine ifC (fun hc => ?_) (fun hc => ?_)
  · simp at hc
    simp only [NN_some, addN, drw_cell, drw_heap, exS, exI, exB, exP, exM, exStr, exV, a0, a1, a2, a3, a4, a5, a6, a7, a8, a9, a10, a11, a12, a13, maxI_eq, Nat.zero_add, Nat.add_zero, Nat.mul_one, Option.isNone_some, Option.isNone_none, hbD.cell, hqD.cell]
    have hempty : (outE (ofKey e.key d.E) e.id).map rk = [] := List.eq_nil_of_length_eq_zero (by have := RowAt.len hrowD; omega)
    refine Del_rule (κ := Key) (kt := 30) (et := 96) (inj := kV) (k := e.key) keyKey (by rfl) ((hrmD.upd (drw_upd wD) (by simp)).upd (drw_upd _) (by simp)) fun v wE hrmE uE => ?_
    refine fin wE _ [] none 0 0 ((drw_upd _).after uE) hrmE (h.ron.put.drop1) (fun k hk => ?_) ?_ ?_ (by simp)
    · rw [look_drop1 _ _ _ h.ron.put, if_neg hk, look_put, if_neg hk]
    · rw [look_drop1 _ _ _ h.ron.put, if_pos rfl]; rfl
    · rw [hempty]; exact SlAt.nil _ _
  · refine fin (drw wD) _ F1 p1 (n - 1) c1 (Upd.refl _ _) (hrmD.upd (drw_upd wD) (by simp)) h.ron.put (fun k hk => ?_) ?_ hrowD (fun x hx => hx)
    · rw [look_put, if_neg hk]
    · rw [look_put, if_pos rfl]; rfl

end

end Ix

end Go.Proofs.YtlndgaijekihiaaGreat

/- Keys: of terms; which meet; numbers that are the same. -/
namespace Go.Proofs.YtlndgaijekihiaaGreat
open Go Go.D Go.Proofs
namespace Ix
set_option linter.unusedSimpArgs false
set_option linter.unusedVariables false
set_option maxRecDepth 8000

theorem St3 {w : World} {r : Nat} {arr : Array Value} {v0 v1 v2 : Value} {K : World → Prop} (hb : Blk w r arr) (ha : arr.size = 3) (hv : ∀ v ∈ [v0, v1, v2], v.oneCell' = true) (hK : ∀ w', Upd [r] w w' → Blk w' r #[v0, v1, v2] → K w') :
    St w ((⟨r, 0, none⟩ : Addr).add 0) v0 fun w0 => St w0 ((⟨r, 0, none⟩ : Addr).add 1) v1 fun w1 => St w1 ((⟨r, 0, none⟩ : Addr).add 2) v2 fun w2 => K w2 := by
  obtain ⟨c0, c1, c2, rfl⟩ : ∃ c0 c1 c2, arr = #[c0, c1, c2] := by
    rcases arr with ⟨l⟩
    rcases l with _ | ⟨c0, _ | ⟨c1, _ | ⟨c2, _ | ⟨c3, l⟩⟩⟩⟩ <;> simp at ha
    exact ⟨c0, c1, c2, rfl⟩
  simp only [addN, Nat.zero_add]
  refine St_acc (Upd.refl _ _) hb (by simp) (hv _ (by simp)) fun u0 t0 b0 => St_acc t0 b0 (by simp) (hv _ (by simp)) fun u1 t1 b1 => St_acc t1 b1 (by simp) (hv _ (by simp)) fun u2 t2 b2 => ?_
  simp at b2
  exact hK _ t2 b2

theorem keyEq {a c a' c' : Int} {b b' : ByteArray} {K : Bool → Prop} (h : K (decide (((a, b, c) : Key) = (a', b', c')))) : AggEq Tryz.prog 30 (.agg #[.int .i64 a, .string b, .int .i64 c]) (.agg #[.int .i64 a', .string b', .int .i64 c']) K := by
  refine ⟨_, fun w => ?_, h⟩
  unfold Op.equal Op.maxDepth
  rw [run_equalIn_struct w 9999 30 _ _ (by kernel_rfl) (by kernel_rfl)]
  obtain ⟨r, h1, h2⟩ := eqFields_leafs (P := Tryz.prog) (w := w) (d := 9998) (xs := #[.int .i64 a, .string b, .int .i64 c]) (ys := #[.int .i64 a', .string b', .int .i64 c']) (Tryz.prog.fieldsOf 30).toList 0 (kcs (a, b, c)) (kcs (a', b', c'))
    ⟨by decide, rfl, leaf_int (by rfl) _ _, by decide, rfl, leaf_string (by rfl) _ _, by decide, rfl, leaf_int (by rfl) _ _, trivial⟩ (fun i hi => by simp [kcs]) (fun i hi => by simp [kcs])
  rw [h1]
  congr 1
  have : (kcs (a, b, c) = kcs (a', b', c')) ↔ ((a, b, c) : Key) = (a', b', c') := by simp [kcs]
  rw [this] at h2
  by_cases hk : ((a, b, c) : Key) = (a', b', c')
  · rw [decide_eq_true hk]; exact h2.2 hk
  · rw [decide_eq_false hk]
    cases r with
    | false => rfl
    | true => exact absurd (h2.1 rfl) hk

def keyOfT (t0 t1 : Int) (t2 : ByteArray) (n : Nat) : Key := if t0 = 2 then (1, ⟨#[]⟩, t1) else if t0 = 3 then (2, t2, 0) else if t0 = 4 then (3, t2, n) else zk

section
variable {w : World}

theorem KeyOf_ok {t0 t1 : Int} {t2 : ByteArray} {p : Option Addr} {n c : Nat} {K : Int → ByteArray → Int → World → Prop} (hK : ∀ w', Upd [] w w' → K (keyOfT t0 t1 t2 n).1 (keyOfT t0 t1 t2 n).2.1 (keyOfT t0 t1 t2 n).2.2 w') : C_index_KeyOf t0 t1 t2 p n c w K := by
  apply C_index_KeyOf.of
  unfold F_index_KeyOf
  refine New_rule fun r w1 hr u1 hb1 => New_rule fun q w2 hq u2 hb2 => ?_
  have hb1' := hb1.upd u2 (by simp)
  have U2 := u1.after u2
  have hs1 := u1.size
  unfold keyOfT at hK
  simp only [addN, Nat.zero_add, hb1'.cell, a0, a1, a2, a3, exI, exStr, exS]
  have St3 := fun {v0 v1 v2 : Value} {K : World → Prop} => @St3 w2 q _ v0 v1 v2 K hb2 rfl
  simp only [addN, Nat.zero_add] at St3
  refine ifC (fun hc => ?_) (fun hc => ifC (fun hc2 => ?_) (fun hc2 => ifC (fun hc3 => ?_) (fun hc3 => ?_)))
  · simp at hc
    rw [if_pos hc] at hK
    refine St3 (by simp [Value.oneCell']) fun w3 u3 hb3 => ?_
    simp only [NN_some, addN, drw_cell, drw_heap, exS, exI, exB, exP, exM, exStr, exV, a0, a1, a2, a3, a4, a5, a6, a7, a8, a9, a10, a11, a12, a13, maxI_eq, Nat.zero_add, Nat.add_zero, Nat.mul_one, Option.isNone_some, Option.isNone_none, hb3.cell]
    exact hK w3 (U2.fresh u3 (by intro x hx; simp at hx; omega))
  · simp at hc hc2
    rw [if_neg hc, if_pos hc2] at hK
    refine St3 (by simp [Value.oneCell']) fun w3 u3 hb3 => ?_
    simp only [NN_some, addN, drw_cell, drw_heap, exS, exI, exB, exP, exM, exStr, exV, a0, a1, a2, a3, a4, a5, a6, a7, a8, a9, a10, a11, a12, a13, maxI_eq, Nat.zero_add, Nat.add_zero, Nat.mul_one, Option.isNone_some, Option.isNone_none, hb3.cell]
    exact hK w3 (U2.fresh u3 (by intro x hx; simp at hx; omega))
  · simp at hc hc2 hc3
    rw [if_neg hc, if_neg hc2, if_pos hc3] at hK
    refine St3 (by simp [Value.oneCell']) fun w3 u3 hb3 => ?_
    simp only [NN_some, addN, drw_cell, drw_heap, exS, exI, exB, exP, exM, exStr, exV, a0, a1, a2, a3, a4, a5, a6, a7, a8, a9, a10, a11, a12, a13, maxI_eq, Nat.zero_add, Nat.add_zero, Nat.mul_one, Option.isNone_some, Option.isNone_none, hb3.cell]
    exact hK w3 (U2.fresh u3 (by intro x hx; simp at hx; omega))
  · simp at hc hc2 hc3
    rw [if_neg hc, if_neg hc2, if_neg hc3] at hK
    refine St3 (by simp [Value.oneCell']) fun w3 u3 hb3 => ?_
    simp only [NN_some, addN, drw_cell, drw_heap, exS, exI, exB, exP, exM, exStr, exV, a0, a1, a2, a3, a4, a5, a6, a7, a8, a9, a10, a11, a12, a13, maxI_eq, Nat.zero_add, Nat.add_zero, Nat.mul_one, Option.isNone_some, Option.isNone_none, hb3.cell]
    exact hK w3 (U2.fresh u3 (by intro x hx; simp at hx; omega))

/-- The first of a row of terms can be read. -/
def HeadT (w : World) (p : Option Addr) (n : Nat) (k : Key) : Prop := n ≠ 0 → ∃ x a b s q m c, p = some x ∧ w.cell? (x.add 0) = some (.int .i64 a) ∧ w.cell? (x.add 1) = some (.int .i64 b) ∧ w.cell? (x.add 2) = some (.string s) ∧ w.cell? (x.add 3) = some (.slice q m c) ∧ k = keyOfT a b s m

theorem HeadT.keep {w w' : World} {p : Option Addr} {n : Nat} {k : Key} (h : HeadT w p n k) (u : Upd [] w w') : HeadT w' p n k := fun hn => by
  obtain ⟨x, a, b, s, q, m, c, h1, h2, h3, h4, h5, h6⟩ := h hn
  exact ⟨x, a, b, s, q, m, c, h1, u.cell h2 (by simp), u.cell h3 (by simp), u.cell h4 (by simp), u.cell h5 (by simp), h6⟩

def firstK (t0 : Int) (n : Nat) (k : Key) : Key := if t0 ≠ 4 ∨ n = 0 then zk else k

theorem First_ok {t0 t1 : Int} {t2 : ByteArray} {p : Option Addr} {n c : Nat} {k : Key} {K : Int → ByteArray → Int → World → Prop} (hh : HeadT w p n k) (hK : ∀ w', Upd [] w w' → K (firstK t0 n k).1 (firstK t0 n k).2.1 (firstK t0 n k).2.2 w') : C_index_First t0 t1 t2 p n c w K := by
  apply C_index_First.of
  unfold F_index_First
  refine New_rule fun r w1 hr u1 hb1 => New_rule fun q w2 hq u2 hb2 => ?_
  have hb1' := hb1.upd u2 (by simp)
  have U2 := u1.after u2
  have hs1 := u1.size
  unfold firstK at hK
  simp only [addN, Nat.zero_add, hb1'.cell, a0, a1, a2, a3, exI, exStr, exS]
  refine ifC (fun hc => ?_) (fun hc => ifC (fun hc2 => ?_) (fun hc2 => ?_))
  · simp at hc
    rw [if_pos (.inl hc)] at hK
    have St3 := fun {v0 v1 v2 : Value} {K : World → Prop} => @St3 w2 q _ v0 v1 v2 K hb2 rfl
    simp only [addN, Nat.zero_add] at St3
    refine St3 (by simp [Value.oneCell']) fun w3 u3 hb3 => ?_
    simp only [NN_some, addN, drw_cell, drw_heap, exS, exI, exB, exP, exM, exStr, exV, a0, a1, a2, a3, a4, a5, a6, a7, a8, a9, a10, a11, a12, a13, maxI_eq, Nat.zero_add, Nat.add_zero, Nat.mul_one, Option.isNone_some, Option.isNone_none, hb3.cell]
    exact hK w3 (U2.fresh u3 (by intro x hx; simp at hx; omega))
  · simp at hc hc2
    rw [if_pos (.inr hc2)] at hK
    have St3 := fun {v0 v1 v2 : Value} {K : World → Prop} => @St3 w2 q _ v0 v1 v2 K hb2 rfl
    simp only [addN, Nat.zero_add] at St3
    refine St3 (by simp [Value.oneCell']) fun w3 u3 hb3 => ?_
    simp only [NN_some, addN, drw_cell, drw_heap, exS, exI, exB, exP, exM, exStr, exV, a0, a1, a2, a3, a4, a5, a6, a7, a8, a9, a10, a11, a12, a13, maxI_eq, Nat.zero_add, Nat.add_zero, Nat.mul_one, Option.isNone_some, Option.isNone_none, hb3.cell]
    exact hK w3 (U2.fresh u3 (by intro x hx; simp at hx; omega))
  · simp at hc hc2
    rw [if_neg (by simp [hc, hc2])] at hK
    obtain ⟨x, a, b, s, q', m, c', h1, h2, h3, h4, h5, h6⟩ := (hh.keep U2) hc2
    subst h1 h6
    simp only [NN_some, addA, Int.toNat_zero, Nat.zero_mul, Nat.zero_add, Nat.add_zero, h2, h3, h4, h5, exI, exStr, exS]
    refine ⟨by omega, by omega, KeyOf_ok fun w3 u3 => ?_⟩
    have hb3 := hb2.upd u3 (by simp)
    have St3 := fun {v0 v1 v2 : Value} {K : World → Prop} => @St3 w3 q _ v0 v1 v2 K hb3 rfl
    simp only [addN, Nat.zero_add] at St3
    refine St3 (by simp [Value.oneCell']) fun w4 u4 hb4 => ?_
    simp only [NN_some, addN, drw_cell, drw_heap, exS, exI, exB, exP, exM, exStr, exV, a0, a1, a2, a3, a4, a5, a6, a7, a8, a9, a10, a11, a12, a13, maxI_eq, Nat.zero_add, Nat.add_zero, Nat.mul_one, Option.isNone_some, Option.isNone_none, hb4.cell]
    exact hK w4 ((U2.after u3).fresh u4 (by intro x hx; simp at hx; omega))

end

end Ix

end Go.Proofs.YtlndgaijekihiaaGreat

/- A nil table; entries that meet the key of all. -/
namespace Go.Proofs.YtlndgaijekihiaaGreat
open Go Go.D Go.Proofs
namespace Ix
set_option linter.unusedSimpArgs false
set_option linter.unusedVariables false
set_option maxRecDepth 8000

section
variable {w : World}

theorem Next_nil {id k0 k2 : Int} {k1 : ByteArray} {K : Int → Bool → World → Prop} (hK : ∀ w', Upd [] w w' → K 0 false w') : C_index_Table_Next none id k0 k1 k2 w K := by
  apply C_index_Table_Next.of
  unfold F_index_Table_Next
  exact New_rule fun r w1 hr u1 hb1 => made_no (ifT rfl (hK w1 u1))

theorem Head_nil {k0 k2 : Int} {k1 : ByteArray} {K : Int → Bool → World → Prop} (hK : ∀ w', Upd [] w w' → K 0 false w') : C_index_Table_Head none k0 k1 k2 w K := by
  apply C_index_Table_Head.of
  unfold F_index_Table_Head
  exact New_rule fun r w1 hr u1 hb1 => made_no (ifT rfl (hK w1 u1))

theorem Add_nil {id k0 k2 : Int} {k1 : ByteArray} {front : Bool} {K : Int → World → Prop} (hK : ∀ w', Upd [] w w' → K 6 w') : C_index_Table_Add none id k0 k1 k2 front w K := by
  apply C_index_Table_Add.of
  unfold F_index_Table_Add
  exact New_rule fun r w1 hr u1 hb1 => made_no (ifT rfl (hK w1 u1))

theorem Drop_nil {id : Int} {K : Int → World → Prop} (hK : K 6 w) : C_index_Table_Drop none id w K := by
  apply C_index_Table_Drop.of
  unfold F_index_Table_Drop
  exact made_no (ifT rfl hK)

theorem Len_nil {K : Int → World → Prop} (hK : K 0 w) : C_index_Table_Len none w K := by
  apply C_index_Table_Len.of
  unfold F_index_Table_Len
  exact made_no (ifT rfl hK)

theorem All_nil {k0 k2 : Int} {k1 : ByteArray} {K : Option Addr → Nat → Nat → World → Prop} (hK : ∀ w', Upd [] w w' → K none 0 0 w') : C_index_Table_All none k0 k1 k2 w K := by
  apply C_index_Table_All.of
  unfold F_index_Table_All F_index_Table_All_L1
  refine New_rule fun r w1 hr u1 hb1 => ?_
  simp only [NN_some, addN, drw_cell, drw_heap, exS, exI, exB, exP, exM, exStr, exV, a0, a1, a2, a3, a4, a5, a6, a7, a8, a9, a10, a11, a12, a13, maxI_eq, Nat.zero_add, Nat.add_zero, Nat.mul_one, Option.isNone_some, Option.isNone_none, hb1.cell]
  refine Head_nil fun w2 u2 => ?_
  refine ⟨fun s v => s = ⟨none, 0, 0, 0, false⟩ ∧ Upd [] w v, fun _ _ => 0, ⟨rfl, u1.after u2⟩, ?_⟩
  rintro s v ⟨rfl, u⟩
  unfold B_index_Table_All_L1
  exact ifF rfl (hK v u)

theorem metE_zk (E : List En) : metE E zk = E := by
  unfold metE
  exact List.filter_eq_self.2 fun e _ => by simp [meets, zk]

end

end Ix

end Go.Proofs.YtlndgaijekihiaaGreat
