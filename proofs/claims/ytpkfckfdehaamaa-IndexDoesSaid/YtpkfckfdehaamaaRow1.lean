/- Rows of entries: what stands in them; where a rank stands; what is put in and taken out. -/
import Derived.Test.YtpkfckfdehaamaaGenAll
import Derived.Test.YtpkfckfdehaamaaGenT
import Derived.Test.YtpkfckfdehaamaaOwn11
import Derived.Lib.Overlaps
namespace Go.Proofs.Ytpkfckfdehaamaa
open Go Go.D Go.Proofs
set_option linter.unusedSimpArgs false
set_option linter.unusedVariables false
set_option maxRecDepth 8000

/-- An entry's cells. -/
def eC (e : Int × Int) : List Value := [.int .i64 e.1, .int .i64 e.2]

theorem eC_len (e : Int × Int) : (eC e).length = 2 := rfl

theorem eC_one {E : List (Int × Int)} : ∀ v ∈ E.flatMap eC, v.oneCell' = true := by
  intro v hv
  obtain ⟨e, _, h⟩ := List.mem_flatMap.1 hv
  simp [eC] at h
  rcases h with rfl | rfl <;> rfl

/-- A row in memory. -/
abbrev RowAt (w : World) (p : Option Addr) (n c : Nat) (E : List (Int × Int)) (F : List Nat) : Prop := SlAt w 2 p n c (E.flatMap eC) F

theorem RowAt.len {w : World} {p : Option Addr} {n c : Nat} {E : List (Int × Int)} {F : List Nat} (h : RowAt w p n c E F) : n = E.length := by
  have := h.1
  rw [flat_len eC_len] at this; omega

theorem RowAt.get {w : World} {p : Option Addr} {n c : Nat} {E : List (Int × Int)} {F : List Nat} (h : RowAt w p n c E F) {i : Nat} (hi : i < E.length) :
    ∃ b off, p = some ⟨b, off, none⟩ ∧ w.cell? ⟨b, off + i * 2, none⟩ = some (.int .i64 E[i].1) ∧ w.cell? ⟨b, off + i * 2 + 1, none⟩ = some (.int .i64 E[i].2) := by
  have hn := h.len
  rcases h.2.2 with ⟨_, hc, _⟩ | ⟨b, off, arr, hp, _, hb, hs, hc⟩
  · have := h.2.1; omega
  · refine ⟨b, off, hp, ?_, ?_⟩
    · rw [hb.cell, hc _ (by omega), ← Nat.add_zero (i * 2), flat_at eC_len hi (by omega)]; rfl
    · rw [hb.cell, Nat.add_assoc, hc _ (by omega), flat_at eC_len hi (by omega)]; rfl

section
variable {w : World}

theorem Compare_ok {x y : Int} {K : Int → World → Prop} (hK : K (if x < y then -1 else if y < x then 1 else 0) w) : C_cmp_Compare x y w K := by
  have nan : ∀ {x : Int} {K : Bool → World → Prop}, K false w → C_cmp_isNaN x w K := by
    intro x K h
    apply C_cmp_isNaN.of
    unfold F_cmp_isNaN
    simpa using h
  apply C_cmp_Compare.of
  unfold F_cmp_Compare
  refine nan (nan (ifF rfl (ifF rfl ?_)))
  by_cases h1 : x < y
  · rw [if_pos h1] at hK; exact ifT (by simpa using h1) hK
  · rw [if_neg h1] at hK
    refine ifF (by simpa using h1) ?_
    by_cases h2 : y < x
    · rw [if_pos h2] at hK; exact ifT (by simpa using h2) hK
    · rw [if_neg h2] at hK; exact ifF (by simpa using h2) hK

theorem cmpV_ok {a b t : Int} {K : Value → World → Prop} (hK : ∀ w', Upd [] w w' → K (.int .i64 (if a < t then -1 else if t < a then 1 else 0)) w') : CallV Try.prog (.func (.func 41) #[] #[]) [.agg #[.int .i64 a, .int .i64 b], .int .i64 t] w K := by
  refine ⟨_, _, _, rfl, rfl, ?_⟩
  refine Calls.mono (C_index_row_place_1.of (e0 := a) (e1 := b) (rank := t) (R := fun x w' => K (.int .i64 x) w') ?_) fun e w2 ⟨x, he, hx⟩ => ⟨_, he, hx⟩
  unfold F_index_row_place_1
  refine New_rule fun r w1 hr u1 hb1 => ?_
  simp only [NN_some, addN, drw_cell, drw_heap, exS, exI, exB, exP, exM, exStr, exV, a0, a1, a2, a3, a4, a5, a6, a7, a8, a9, a10, a11, a12, a13, maxI_eq, Nat.zero_add, Nat.add_zero, Nat.mul_one, Option.isNone_some, Option.isNone_none, hb1.cell]
  exact Compare_ok (hK w1 u1)

theorem mid_eq {x : Int} (h0 : 0 ≤ x) (h1 : x < 2 ^ 40) : IntKind.i64.wrap (shrI .u64 (IntKind.u64.wrap (IntKind.i64.wrap x)) (1 : Int)) = x / 2 := by
  rw [i64id (x := x) (by omega) (by omega)]
  have e : IntKind.u64.wrap x = x := by
    simp only [IntKind.wrap, IntKind.bits, IntKind.signed]
    simp; omega
  rw [e]
  unfold shrI
  have e2 : x.fdiv (2 ^ (min (1 : Int).toNat IntKind.u64.bits)) = x / 2 := by
    have : min (1 : Int).toNat IntKind.u64.bits = 1 := by rfl
    rw [this, Int.fdiv_eq_ediv_of_nonneg _ (by omega)]; rfl
  rw [e2, i64id (by omega) (by omega)]

/-- By rising ranks. -/
def Rising (E : List (Int × Int)) : Prop := E.Pairwise fun a b => a.1 < b.1

theorem Rising.lt {E : List (Int × Int)} (h : Rising E) {i j : Nat} (hj : j < E.length) (hij : i < j) : (E[i]'(by omega)).1 < E[j].1 := List.pairwise_iff_getElem.1 h i j (by omega) hj hij

theorem Search_ok {p : Option Addr} {n c : Nat} {E : List (Int × Int)} {F : List Nat} {t : Int} {K : Int → Bool → World → Prop} (h : RowAt w p n c E F) (hr : Rising E) (hl : E.length < 2 ^ 38)
    (hK : ∀ (i : Nat) b w', i ≤ E.length → (∀ j (hj : j < E.length), j < i → E[j].1 < t) → (∀ j (hj : j < E.length), i ≤ j → t ≤ E[j].1) → Upd [] w w' → K i b w') :
    C_slices_BinarySearchFunc p n c t (.func (.func 41) #[] #[]) w K := by
  apply C_slices_BinarySearchFunc.of
  unfold F_slices_BinarySearchFunc F_slices_BinarySearchFunc_L1
  have hn := h.len
  refine ⟨fun s v => 0 ≤ s.i ∧ s.i ≤ s.j ∧ s.j ≤ n ∧ (∀ j (hj : j < E.length), (j : Int) < s.i → E[j].1 < t) ∧ (∀ j (hj : j < E.length), s.j ≤ (j : Int) → t ≤ E[j].1) ∧ Upd [] w v, fun s _ => (s.j - s.i).toNat, ⟨by simp, by simp, by simp, fun j hj h => by simp at h; omega, fun j hj h => by simp at h; omega, Upd.refl _ _⟩, ?_⟩
  rintro ⟨i, j⟩ v ⟨h0, h1, h2, h3, h4, u⟩
  dsimp only at h0 h1 h2 h3 h4
  unfold B_slices_BinarySearchFunc_L1
  dsimp only
  have hv : RowAt v p n c E F := SlAt.upd h u (by intro k _ h; cases h)
  refine ifC (fun hc => ?_) (fun hc => ?_)
  · simp at hc
    rw [mid_eq (by omega) (by omega)]
    obtain ⟨m, hm⟩ : ∃ m : Nat, (i + j) / 2 = m := ⟨((i + j) / 2).toNat, by omega⟩
    rw [hm]
    have hm1 : i ≤ m ∧ (m : Int) < j := by omega
    have hml : m < E.length := by omega
    obtain ⟨b, off, hp, c1, c2⟩ := hv.get hml
    simp only [NN_some, addN, drw_cell, drw_heap, exS, exI, exB, exP, exM, exStr, exV, a0, a1, a2, a3, a4, a5, a6, a7, a8, a9, a10, a11, a12, a13, maxI_eq, Nat.zero_add, Nat.add_zero, Nat.mul_one, Option.isNone_some, Option.isNone_none, hp, Int.toNat_natCast, c1, c2]
    refine ⟨by omega, by omega, by omega, cmpV_ok fun v1 u1 => ⟨_, rfl, ifC (fun hc2 => ?_) (fun hc2 => ?_)⟩⟩
    · have hlt : E[m].1 < t := by
        by_cases h5 : E[m].1 < t
        · exact h5
        · rw [if_neg h5] at hc2
          simp at hc2
          split at hc2 <;> omega
      rw [i64id (by omega) (by omega)]
      refine ⟨⟨by omega, by omega, h2, fun k hk hk2 => ?_, h4, u.after u1⟩, by omega⟩
      by_cases hkm : k = m
      · subst hkm; exact hlt
      · have := hr.lt hml (show k < m by omega); omega
    · have hge : t ≤ E[m].1 := by
        by_cases h5 : E[m].1 < t
        · rw [if_pos h5] at hc2; simp at hc2
        · omega
      refine ⟨⟨h0, by omega, by omega, h3, fun k hk hk2 => ?_, u.after u1⟩, by omega⟩
      by_cases hkm : k = m
      · subst hkm; exact hge
      · have := hr.lt hk (show m < k by omega); omega
  · simp at hc
    obtain rfl : j = i := by omega
    obtain ⟨m, rfl⟩ : ∃ m : Nat, j = m := ⟨j.toNat, by omega⟩
    refine ifC (fun hc2 => ?_) (fun hc2 => ?_)
    · simp at hc2
      have hml : m < E.length := by omega
      obtain ⟨b, off, hp, c1, c2⟩ := hv.get hml
      simp only [NN_some, addN, drw_cell, drw_heap, exS, exI, exB, exP, exM, exStr, exV, a0, a1, a2, a3, a4, a5, a6, a7, a8, a9, a10, a11, a12, a13, maxI_eq, Nat.zero_add, Nat.add_zero, Nat.mul_one, Option.isNone_some, Option.isNone_none, hp, Int.toNat_natCast, c1, c2]
      refine ⟨by omega, by omega, cmpV_ok fun v1 u1 => ⟨_, rfl, ?_⟩⟩
      exact hK m _ v1 (by omega) (fun k hk hk2 => h3 k hk (by omega)) (fun k hk hk2 => h4 k hk (by omega)) (u.after u1)
    · exact hK m _ v (by omega) (fun k hk hk2 => h3 k hk (by omega)) (fun k hk hk2 => h4 k hk (by omega)) u

theorem place_ok {p : Option Addr} {n c : Nat} {E : List (Int × Int)} {F : List Nat} {t : Int} {K : Int → World → Prop} (h : RowAt w p n c E F) (hr : Rising E) (hl : E.length < 2 ^ 38)
    (hK : ∀ (i : Nat) w', i ≤ E.length → (∀ j (hj : j < E.length), j < i → E[j].1 < t) → (∀ j (hj : j < E.length), i ≤ j → t ≤ E[j].1) → Upd [] w w' → K i w') : C_index_row_place p n c t w K := by
  apply C_index_row_place.of
  unfold F_index_row_place
  exact Search_ok h hr hl fun i b w' h1 h2 h3 u => hK i w' h1 h2 h3 u

theorem overlaps_ok {vb b off la ca lb cb : Nat} {arr : Array Value} {K : Value → World → Prop} (hp : Plain w vb) (hb : Blk w b arr) (hne : vb ≠ b) (ha : arr.size ≠ 0) (hK : K (.bool false) w) :
    CallX Try.prog 43 [.slice (some ⟨vb, 0, none⟩) la ca, .slice (some ⟨b, off, none⟩) lb cb] w K := by
  refine ⟨.bool false, w, ?_, hK⟩
  obtain ⟨va, T, hv⟩ := hp
  obtain ⟨T', fz, hb1, _⟩ := hb
  rw [run_callFunc_extern (P := Try.prog) (fn := Try.f43) (e := Extern.SlicesOverlaps.overlaps #[57, 57] #[4]) (by rfl) (by kernel_rfl) (by rfl) (by kernel_rfl) (by kernel_rfl)]
  have := Go.Lib.run_overlaps_apart (P := Try.prog) w 57 4 69 (by rfl) 2 (fun w => by rfl) ⟨vb, 0, none⟩ ⟨b, off, none⟩ la ca lb cb hne T T' va.size arr.size (by simp [World.shape?, hv]) (by simp [World.shape?, hb1]) ha (by simp [World.frozen?, hv]) (by simp [World.frozen?, hv])
  rw [show ([Value.slice (some ⟨vb, 0, none⟩) la ca, Value.slice (some ⟨b, off, none⟩) lb cb] : List Value).toArray = #[Value.slice (some ⟨vb, 0, none⟩) la ca, Value.slice (some ⟨b, off, none⟩) lb cb] from rfl, this]
  rfl

end

end Go.Proofs.Ytpkfckfdehaamaa
