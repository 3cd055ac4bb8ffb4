/- Bits of bytes and words: plain. -/
import Derived.Test.YtggbmakfifllnaaDoorOwn16
import Derived.Test.YtggbmakfifllnaaDoorCodec
namespace Go.Proofs.YtggbmakfifllnaaDoor
open Go Go.D Go.Proofs
set_option linter.unusedSimpArgs false
set_option linter.unusedVariables false
set_option maxRecDepth 8000

theorem u64w' (x : Int) : IntKind.u64.wrap x = x % 2 ^ 64 := by
  simp only [IntKind.wrap, IntKind.bits, IntKind.signed, Bool.false_and]
  rfl

theorem u8w' (x : Int) : IntKind.u8.wrap x = x % 2 ^ 8 := by
  simp only [IntKind.wrap, IntKind.bits, IntKind.signed, Bool.false_and]
  rfl

theorem i64w' (x : Int) : IntKind.i64.wrap x = if x % 2 ^ 64 ≥ 2 ^ 63 then x % 2 ^ 64 - 2 ^ 64 else x % 2 ^ 64 := by
  unfold IntKind.wrap
  simp only [IntKind.bits, IntKind.signed, Bool.true_and]
  by_cases h : x % 2 ^ 64 ≥ 2 ^ (64 - 1)
  · rw [if_pos (by simpa using h), if_pos (by simpa using h)]
  · rw [if_neg (by simpa using h), if_neg (by simpa using h)]

theorem bv8 {n : Nat} (h : n < 2 ^ 8) : (BitVec.ofInt IntKind.u8.bits (n : Int)).toNat = n := by
  rw [BitVec.toNat_ofInt]
  show ((n : Int) % (2 ^ 8 : Nat)).toNat = n
  omega

theorem bv64 {n : Nat} (h : n < 2 ^ 64) : (BitVec.ofInt IntKind.u64.bits (n : Int)).toNat = n := by
  rw [BitVec.toNat_ofInt]
  show ((n : Int) % (2 ^ 64 : Nat)).toNat = n
  omega

/-- A byte of seven bits, and the eighth. -/
theorem or128 {n : Nat} : orI .u8 (IntKind.u8.wrap (n : Int)) 128 = ((n % 128 + 128 : Nat) : Int) := by
  have hx : IntKind.u8.wrap (n : Int) = ((n % 256 : Nat) : Int) := by rw [u8w']; omega
  rw [hx]
  unfold orI
  have e : (BitVec.ofInt IntKind.u8.bits ((n % 256 : Nat) : Int) ||| BitVec.ofInt IntKind.u8.bits 128).toNat = n % 128 + 128 := by
    rw [BitVec.toNat_or, bv8 (by omega)]
    have e2 : (BitVec.ofInt IntKind.u8.bits 128).toNat = 128 := by decide
    rw [e2]
    have : ∀ m : Nat, m < 256 → m ||| 128 = m % 128 + 128 := by decide
    rw [this _ (by omega)]; omega
  rw [e, u8w']
  omega

theorem shr7 {n : Nat} : shrI .u64 (n : Int) 7 = ((n / 128 : Nat) : Int) := by
  unfold shrI
  rw [Int.fdiv_eq_ediv_of_nonneg _ (by decide)]
  rw [show (2 : Int) ^ min (7 : Int).toNat IntKind.u64.bits = 128 from rfl]
  omega

theorem shr1 {n : Nat} : shrI .u64 (n : Int) 1 = ((n / 2 : Nat) : Int) := by
  unfold shrI
  rw [Int.fdiv_eq_ediv_of_nonneg _ (by decide)]
  rw [show (2 : Int) ^ min (1 : Int).toNat IntKind.u64.bits = 2 from rfl]
  omega

theorem shl1 {x : Int} : shlI .u64 x 1 = (x * 2) % 2 ^ 64 := by
  unfold shlI
  rw [u64w']
  rfl

theorem not64 {n : Nat} (h : n < 2 ^ 64) : xorI .u64 IntKind.u64.max (n : Int) = ((2 ^ 64 - 1 - n : Nat) : Int) := by
  unfold xorI
  have e : (BitVec.ofInt IntKind.u64.bits IntKind.u64.max ^^^ BitVec.ofInt IntKind.u64.bits (n : Int)).toNat = 2 ^ 64 - 1 - n := by
    have e1 : BitVec.ofInt IntKind.u64.bits IntKind.u64.max = BitVec.allOnes IntKind.u64.bits := by decide
    have e2 : (BitVec.allOnes IntKind.u64.bits ^^^ BitVec.ofInt IntKind.u64.bits (n : Int)) = ~~~ (BitVec.ofInt IntKind.u64.bits (n : Int)) := by
      exact BitVec.allOnes_xor
    rw [e1, e2, BitVec.toNat_not, bv64 h]
    rfl
  rw [e, u64w']
  omega

theorem noti {x : Int} (h0 : -2 ^ 63 ≤ x) (h1 : x < 2 ^ 63) : xorI .i64 (-1) x = -1 - x := by
  unfold xorI
  have e1 : BitVec.ofInt IntKind.i64.bits (-1) = BitVec.allOnes IntKind.i64.bits := by decide
  have e2 : (BitVec.allOnes IntKind.i64.bits ^^^ BitVec.ofInt IntKind.i64.bits x) = ~~~ (BitVec.ofInt IntKind.i64.bits x) := BitVec.allOnes_xor
  have e3 : (BitVec.ofInt IntKind.i64.bits x).toNat = (x % 2 ^ 64).toNat := by
    rw [BitVec.toNat_ofInt]
    rfl
  rw [e1, e2, BitVec.toNat_not, e3, i64w']
  rw [show (2 : Nat) ^ IntKind.i64.bits = 2 ^ 64 from rfl]
  split <;> omega

theorem fold_eq {n : Int} (h0 : -2 ^ 63 ≤ n) (h1 : n < 2 ^ 63) :
    (if n < 0 then xorI .u64 IntKind.u64.max (shlI .u64 (IntKind.u64.wrap n) 1) else shlI .u64 (IntKind.u64.wrap n) 1) = (zig n : Int) := by
  rw [shl1, u64w']
  unfold zig
  split
  · have e : n % 2 ^ 64 * 2 % 2 ^ 64 = (((n % 2 ^ 64 * 2 % 2 ^ 64).toNat : Nat) : Int) := by omega
    rw [e, not64 (by omega)]
    omega
  · omega

theorem and1 {n : Nat} (h : n < 2 ^ 64) : andI .u64 (n : Int) 1 = ((n % 2 : Nat) : Int) := by
  unfold andI
  have e : (BitVec.ofInt IntKind.u64.bits (n : Int) &&& BitVec.ofInt IntKind.u64.bits 1).toNat = n % 2 := by
    rw [BitVec.toNat_and, bv64 h]
    have e2 : (BitVec.ofInt IntKind.u64.bits 1).toNat = 2 ^ 1 - 1 := by decide
    rw [e2, Nat.and_two_pow_sub_one_eq_mod]
  rw [e, u64w']
  omega

/-- Seven bits of a byte. -/
theorem low7 {c : Nat} (h : c < 256) : andNotI .u8 (c : Int) 128 = ((c % 128 : Nat) : Int) := by
  have : ∀ c : Nat, c < 256 → andNotI .u8 (c : Int) 128 = ((c % 128 : Nat) : Int) := by decide
  exact this c h

theorem shl7 {a k : Nat} (hk : k ≤ 9) (h : a * 128 ^ k < 2 ^ 64) : shlI .u64 (a : Int) (7 * (k : Int)) = ((a * 128 ^ k : Nat) : Int) := by
  have e : (128 : Nat) ^ k = 2 ^ (7 * k) := by rw [show (128 : Nat) = 2 ^ 7 from rfl, ← Nat.pow_mul]
  rw [e] at h ⊢
  unfold shlI
  rw [u64w']
  have e2 : (7 * (k : Int)).toNat = 7 * k := by omega
  rw [e2, show min (7 * k) IntKind.u64.bits = 7 * k from Nat.min_eq_left (by show 7 * k ≤ 64; omega)]
  have e3 : (a : Int) * 2 ^ (7 * k) = ((a * 2 ^ (7 * k) : Nat) : Int) := by push_cast; rfl
  rw [e3]
  omega

theorem or_at {u a k : Nat} (hu : u < 128 ^ k) (hs : u + a * 128 ^ k < 2 ^ 64) : orI .u64 (u : Int) ((a * 128 ^ k : Nat) : Int) = ((u + a * 128 ^ k : Nat) : Int) := by
  have e : (128 : Nat) ^ k = 2 ^ (7 * k) := by rw [show (128 : Nat) = 2 ^ 7 from rfl, ← Nat.pow_mul]
  rw [e] at hu hs ⊢
  unfold orI
  have e1 : (BitVec.ofInt IntKind.u64.bits (u : Int) ||| BitVec.ofInt IntKind.u64.bits ((a * 2 ^ (7 * k) : Nat) : Int)).toNat = u + a * 2 ^ (7 * k) := by
    rw [BitVec.toNat_or, bv64 (by omega), bv64 (by omega), Nat.or_comm, Nat.mul_comm a, ← Nat.two_pow_add_eq_or_of_lt hu, Nat.add_comm]
  rw [e1, u64w']
  omega

end Go.Proofs.YtggbmakfifllnaaDoor
