/- strconv.FormatUint in base 16, for one byte, by its text. -/
import Derived.Test.YtggbmakfifllnaaDoorList
namespace Go.Proofs.YtggbmakfifllnaaDoor
open Go Go.D Go.Proofs
set_option linter.unusedSimpArgs false
set_option linter.unusedVariables false
set_option maxRecDepth 8000

/-- What is looked up of deBruijn64tab. -/
def Tab (w : World) : Prop := w.cell? ⟨3, 15, none⟩ = some (.int .u8 4)

theorem Tab.keep {w w' : World} (h : Tab w) (u : Upd [] w w') : Tab w' := u.cell h (by simp)

def hexP (n : Nat) : List UInt8 := if n < 16 then [hexO n] else [hexO (n / 16), hexO (n % 16)]

section
variable {w : World}

theorem tz16_ok {K : Int → World → Prop} (h : Tab w) (hK : K 4 w) : C_math_bits_TrailingZeros 16 w K := by
  apply C_math_bits_TrailingZeros.of
  unfold F_math_bits_TrailingZeros
  apply C_math_bits_TrailingZeros64.of
  unfold F_math_bits_TrailingZeros64
  refine ifF (by decide) ?_
  have e : shrI .u64 (IntKind.u64.wrap ((andI .u64 16 (IntKind.u64.wrap (0 - 16))) * (285870213051353865 : Int))) (58 : Int) = 15 := by decide +kernel
  simp only [e]
  exact ⟨by decide, by decide, by decide, 4, by rw [addN]; exact h, hK⟩

theorem and15 {n : Nat} (h : n < 256) : andI .u64 (n : Int) 15 = ((n % 16 : Nat) : Int) := by
  unfold andI
  have e : (BitVec.ofInt IntKind.u64.bits (n : Int) &&& BitVec.ofInt IntKind.u64.bits 15).toNat = n % 16 := by
    rw [BitVec.toNat_and, bv64 (by omega)]
    have e2 : (BitVec.ofInt IntKind.u64.bits 15).toNat = 15 := by decide
    rw [e2]
    exact Nat.and_two_pow_sub_one_eq_mod n 4
  rw [e, u64w']
  omega

theorem shr4 {n : Nat} : shrI .u64 (n : Int) 4 = ((n / 16 : Nat) : Int) := by
  unfold shrI
  rw [Int.fdiv_eq_ediv_of_nonneg _ (by decide)]
  rw [show (2 : Int) ^ min (4 : Int).toNat IntKind.u64.bits = 16 from rfl]
  omega

theorem digit_at {m : Nat} (h : m < 16) : (⟨#[48, 49, 50, 51, 52, 53, 54, 55, 56, 57, 97, 98, 99, 100, 101, 102, 103, 104, 105, 106, 107, 108, 109, 110, 111, 112, 113, 114, 115, 116, 117, 118, 119, 120, 121, 122]⟩ : ByteArray)[m]? = some (hexO m) := by
  have := atL ([48, 49, 50, 51, 52, 53, 54, 55, 56, 57, 97, 98, 99, 100, 101, 102, 103, 104, 105, 106, 107, 108, 109, 110, 111, 112, 113, 114, 115, 116, 117, 118, 119, 120, 121, 122] : List UInt8) m
  refine this.trans ?_
  have : ∀ m : Nat, m < 16 → ([48, 49, 50, 51, 52, 53, 54, 55, 56, 57, 97, 98, 99, 100, 101, 102, 103, 104, 105, 106, 107, 108, 109, 110, 111, 112, 113, 114, 115, 116, 117, 118, 119, 120, 121, 122] : List UInt8)[m]? = some (hexO m) := by decide
  exact this m h

/-- The end: what stands behind place i, as a text. -/
theorem bits_end {r : Nat} {i : Nat} {l : List UInt8} {Z : Array Value} {neg app : Bool} {K : Option Addr → Nat → Nat → ByteArray → World → Prop} (hb : Blk w r Z) (hi : 0 < i) (hi2 : i + l.length = 65) (hn : neg = false) (ha : app = false)
    (hz : ∀ j x, l[j]? = some x → Z[i + j]? = some (.int .u8 (x.toNat : Int))) (hK : K none 0 0 ⟨l.toArray⟩ w) :
    F_internal_strconv_formatBits_k3 none 0 0 neg app K r (i : Int) w := by
  subst hn ha
  unfold F_internal_strconv_formatBits_k3
  refine ifF rfl ?_
  unfold F_internal_strconv_formatBits_k2
  refine ifF rfl ⟨by omega, by omega, ?_⟩
  have hrd : Rd w 1 (some (advA ⟨r, 0, none⟩ 65 ((i : Int)).toNat 1)) (65 - ((i : Int)).toNat) (bc l) := by
    rw [Int.toNat_natCast]
    by_cases h65 : 65 = i
    · subst h65
      have : l = [] := List.length_eq_zero_iff.1 (by omega)
      subst this
      exact ⟨rfl, .inl (by omega)⟩
    refine ⟨by rw [bc_len]; omega, .inr ⟨_, rfl, fun j hj => ?_⟩⟩
    unfold advA
    rw [if_neg h65, Nat.mul_one, addN, addN, hb.cell]
    have hj' : j < l.length := by omega
    rw [Nat.zero_add, hz j _ (List.getElem?_eq_getElem hj')]
    simp [bc, List.getElem?_eq_getElem hj']
  exact Str_rule (e := 5) rfl rfl rfl hrd ⟨_, rfl, hK⟩

theorem formatBits_ok {c : UInt8} {K : Option Addr → Nat → Nat → ByteArray → World → Prop} (h : Tab w) (hK : ∀ w', Upd [] w w' → K none 0 0 ⟨(hexP c.toNat).toArray⟩ w') :
    C_internal_strconv_formatBits none 0 0 (c.toNat : Int) 16 false false w K := by
  have hc := c.toNat_lt
  apply C_internal_strconv_formatBits.of
  unfold F_internal_strconv_formatBits
  refine ifF (by decide) (ifF (by decide) (ifF (by decide) ?_))
  refine New_rule fun r w1 hr u1 b1 => ?_
  refine ifF rfl ?_
  unfold F_internal_strconv_formatBits_k4
  apply C_internal_strconv_isPowerOfTwo.of
  unfold F_internal_strconv_isPowerOfTwo
  refine ifT (by decide +kernel) ?_
  have e16 : IntKind.u64.wrap 16 = 16 := by decide
  rw [e16]
  refine tz16_ok (h.keep u1) ?_
  have e4 : IntKind.u64.wrap 4 = 4 := by decide
  have e15 : IntKind.u64.wrap (16 - 1) = 15 := by decide
  rw [e4, e15]
  obtain ⟨Z, hZ⟩ : ∃ Z, Z = (#[.int .u8 0, .int .u8 0, .int .u8 0, .int .u8 0, .int .u8 0, .int .u8 0, .int .u8 0, .int .u8 0, .int .u8 0, .int .u8 0, .int .u8 0, .int .u8 0, .int .u8 0, .int .u8 0, .int .u8 0, .int .u8 0, .int .u8 0, .int .u8 0, .int .u8 0, .int .u8 0, .int .u8 0, .int .u8 0, .int .u8 0, .int .u8 0, .int .u8 0, .int .u8 0, .int .u8 0, .int .u8 0, .int .u8 0, .int .u8 0, .int .u8 0, .int .u8 0, .int .u8 0, .int .u8 0, .int .u8 0, .int .u8 0, .int .u8 0, .int .u8 0, .int .u8 0, .int .u8 0, .int .u8 0, .int .u8 0, .int .u8 0, .int .u8 0, .int .u8 0, .int .u8 0, .int .u8 0, .int .u8 0, .int .u8 0, .int .u8 0, .int .u8 0, .int .u8 0, .int .u8 0, .int .u8 0, .int .u8 0, .int .u8 0, .int .u8 0, .int .u8 0, .int .u8 0, .int .u8 0, .int .u8 0, .int .u8 0, .int .u8 0, .int .u8 0, .int .u8 0] : Array Value) := ⟨_, rfl⟩
  rw [← hZ] at b1
  have hZs : Z.size = 65 := by rw [hZ]; rfl
  clear hZ
  have hrl : w.heap.size ≤ r := by omega
  unfold F_internal_strconv_formatBits_L1
  refine ⟨fun s v => Upd [] w v ∧ ((s.u_2 = (c.toNat : Int) ∧ s.i = 65 ∧ Blk v r Z) ∨ (16 ≤ c.toNat ∧ s.u_2 = ((c.toNat / 16 : Nat) : Int) ∧ s.i = 64 ∧ Blk v r (Z.setIfInBounds 64 (.int .u8 ((hexO (c.toNat % 16)).toNat : Int))))), fun s _ => s.i.toNat, ⟨u1, .inl ⟨rfl, rfl, b1⟩⟩, ?_⟩
  rintro ⟨u, i⟩ v ⟨uv, hJ⟩
  unfold B_internal_strconv_formatBits_L1
  dsimp only at hJ ⊢
  have i64a : IntKind.i64.wrap (65 - 1) = 64 := by decide
  have i63a : IntKind.i64.wrap (64 - 1) = 63 := by decide
  have fin1 : ∀ {m : Nat} {i : Int} {j : Nat} {Z' : Array Value} {l : List UInt8} {v : World}, m < 16 → IntKind.i64.wrap (i - 1) = (j : Int) → 0 < j → j < 65 → Z'.size = 65 → Upd [] w v → Blk v r Z' → hexP c.toNat = hexO m :: l → j + 1 + l.length = 65 → (∀ k x, l[k]? = some x → Z'[j + 1 + k]? = some (.int .u8 (x.toNat : Int))) →
      (0 ≤ (m : Int) ∧ ∃ b_2 : UInt8, (⟨#[48, 49, 50, 51, 52, 53, 54, 55, 56, 57, 97, 98, 99, 100, 101, 102, 103, 104, 105, 106, 107, 108, 109, 110, 111, 112, 113, 114, 115, 116, 117, 118, 119, 120, 121, 122]⟩ : ByteArray)[((m : Int)).toNat]? = some b_2 ∧
      0 ≤ (IntKind.i64.wrap (i - (1 : Int))) ∧ (IntKind.i64.wrap (i - (1 : Int))) < ((65 : Nat) : Int) ∧
      St v (((⟨r, 0, none⟩ : Addr).add ((IntKind.i64.wrap (i - (1 : Int))).toNat * 1)).add 0) (.int .u8 (b_2.toNat : Int)) fun w1_9 =>
      F_internal_strconv_formatBits_k3 none 0 0 false false K r (IntKind.i64.wrap (i - (1 : Int))) w1_9) := by
    intro m i j Z' l v hm he hj hj2 hzs uv hb hP hlen hzl
    refine ⟨by omega, hexO m, by rw [Int.toNat_natCast]; exact digit_at hm, by omega, by omega, ?_⟩
    rw [he]
    simp only [Int.toNat_natCast, Nat.mul_one, addN, Nat.zero_add, Nat.add_zero]
    refine St_rule hb (by omega) rfl fun w2 u2 b2 => ?_
    have hu : Upd [] w w2 := uv.fresh u2 (by simpa using hrl)
    refine bits_end b2 hj (l := hexO m :: l) (by simp only [List.length_cons]; omega) rfl rfl ?_ (by rw [← hP]; exact hK w2 hu)
    intro k x hk
    cases k with
    | zero => simp at hk; subst hk; rw [Nat.add_zero, Array.getElem?_setIfInBounds_self_of_lt (by omega)]
    | succ k =>
      simp only [List.getElem?_cons_succ] at hk
      rw [Array.getElem?_setIfInBounds_ne (by omega)]
      have := hzl k x hk
      rw [show j + (k + 1) = j + 1 + k by omega]; exact this
  rcases hJ with ⟨rfl, rfl, hb⟩ | ⟨h16, rfl, rfl, hb⟩
  · refine ifC (fun hge => ?_) (fun hlt => ?_)
    · simp at hge
      rw [and15 (by omega), shr4, i64a]
      refine ⟨by omega, hexO (c.toNat % 16), by rw [Int.toNat_natCast]; exact digit_at (by omega), by omega, by omega, ?_⟩
      show St v (((⟨r, 0, none⟩ : Addr).add (64 * 1)).add 0) _ _
      simp only [addN, Nat.mul_one, Nat.zero_add, Nat.add_zero]
      refine St_rule hb (by omega) rfl fun w2 u2 b2 => ?_
      exact ⟨by decide, ⟨uv.fresh u2 (by simpa using hrl), .inr ⟨by omega, by trivial, by trivial, b2⟩⟩, by decide⟩
    · simp at hlt
      refine fin1 (j := 64) (l := []) (by omega) i64a (by omega) (by omega) hZs uv hb (by unfold hexP; rw [if_pos (by omega)]) (by simp) (by simp)
  · refine ifF (by simp; omega) ?_
    refine fin1 (j := 63) (l := [hexO (c.toNat % 16)]) (by omega) i63a (by omega) (by omega) (by simp [hZs]) uv hb (by unfold hexP; rw [if_neg (by omega)]) (by simp) ?_
    intro k x hk
    cases k with
    | zero => simp at hk; subst hk; simp [hZs]
    | succ k => simp at hk

theorem FormatUint_ok {c : UInt8} {K : ByteArray → World → Prop} (h : Tab w) (hK : ∀ w', Upd [] w w' → K ⟨(hexP c.toNat).toArray⟩ w') : C_strconv_FormatUint (c.toNat : Int) 16 w K := by
  apply C_strconv_FormatUint.of
  unfold F_strconv_FormatUint
  apply C_internal_strconv_FormatUint.of
  unfold F_internal_strconv_FormatUint
  exact ifF (by decide) (formatBits_ok h hK)
end

end Go.Proofs.YtggbmakfifllnaaDoor
