/- Words, and numerals: plain. -/
import Derived.Test.YtchbhocpmhlhjaaDoorOwn12
import Derived.Lib.ItoaNum
import Derived.Lib.ItoaLen
import Derived.Lib.ParseIntB
import Derived.Lib.Bytealg
namespace Go.Proofs.YtchbhocpmhlhjaaDoor
open Go Go.D Go.Proofs
set_option linter.unusedSimpArgs false
set_option linter.unusedVariables false
set_option maxRecDepth 8000

/-! ## Wrapping -/

theorem i64w' (x : Int) : IntKind.i64.wrap x = if x % 2 ^ 64 ≥ 2 ^ 63 then x % 2 ^ 64 - 2 ^ 64 else x % 2 ^ 64 := by
  unfold IntKind.wrap
  simp only [IntKind.bits, IntKind.signed, Bool.true_and]
  by_cases h : x % 2 ^ 64 ≥ 2 ^ (64 - 1)
  · rw [if_pos (by simpa using h), if_pos (by simpa using h)]
  · rw [if_neg (by simpa using h), if_neg (by simpa using h)]

theorem u64w' (x : Int) : IntKind.u64.wrap x = x % 2 ^ 64 := by
  simp only [IntKind.wrap, IntKind.bits, IntKind.signed, Bool.false_and]
  rfl

theorem u8w' (x : Int) : IntKind.u8.wrap x = x % 2 ^ 8 := by
  simp only [IntKind.wrap, IntKind.bits, IntKind.signed, Bool.false_and]
  rfl

theorem and7 {w : Int} (h0 : 0 ≤ w) (h1 : w < 2 ^ 64) : andI .u64 w 7 = w % 8 := by
  obtain ⟨n, rfl⟩ := Int.eq_ofNat_of_zero_le h0
  unfold andI
  have e : (BitVec.ofInt IntKind.u64.bits (n : Int) &&& BitVec.ofInt IntKind.u64.bits 7).toNat = n % 8 := by
    rw [BitVec.toNat_and]
    have e1 : (BitVec.ofInt IntKind.u64.bits (n : Int)).toNat = n := by
      rw [BitVec.toNat_ofInt]
      show ((n : Int) % (2 ^ 64 : Nat)).toNat = n
      omega
    have e2 : (BitVec.ofInt IntKind.u64.bits 7).toNat = 2 ^ 3 - 1 := by decide
    rw [e1, e2, Nat.and_two_pow_sub_one_eq_mod]
  rw [e, u64w']
  omega

theorem or3 {x t : Int} (h0 : 0 ≤ x) (h1 : x < 2 ^ 64) (h8 : x % 8 = 0) (t0 : 0 ≤ t) (t8 : t < 8) : orI .u64 x t = x + t := by
  obtain ⟨n, rfl⟩ := Int.eq_ofNat_of_zero_le h0
  obtain ⟨m, rfl⟩ := Int.eq_ofNat_of_zero_le t0
  unfold orI
  have e : (BitVec.ofInt IntKind.u64.bits (n : Int) ||| BitVec.ofInt IntKind.u64.bits (m : Int)).toNat = n + m := by
    rw [BitVec.toNat_or]
    have e1 : (BitVec.ofInt IntKind.u64.bits (n : Int)).toNat = n := by
      rw [BitVec.toNat_ofInt]
      show ((n : Int) % (2 ^ 64 : Nat)).toNat = n
      omega
    have e2 : (BitVec.ofInt IntKind.u64.bits (m : Int)).toNat = m := by
      rw [BitVec.toNat_ofInt]
      show ((m : Int) % (2 ^ 64 : Nat)).toNat = m
      omega
    rw [e1, e2]
    have e3 : n = 2 ^ 3 * (n / 8) := by omega
    rw [e3, ← Nat.two_pow_add_eq_or_of_lt (show m < 2 ^ 3 by omega)]
  rw [e, u64w']
  omega

theorem shl3 {x : Int} : shlI .u64 x 3 = (x * 8) % 2 ^ 64 := by
  unfold shlI
  rw [u64w']
  rfl

theorem shr3 {x : Int} : shrI .i64 x 3 = x / 8 := by
  unfold shrI
  rw [Int.fdiv_eq_ediv_of_nonneg _ (by decide)]
  rfl

/-- The word of a tag and a number. -/
def mkW (tag n : Int) : Int := (n * 8) % 2 ^ 64 + tag

theorem mkW_or {tag n : Int} (h0 : 1 ≤ tag) (h1 : tag ≤ 7) : orI .u64 (shlI .u64 (IntKind.u64.wrap n) 3) (IntKind.u64.wrap tag) = mkW tag n := by
  rw [shl3, u64w', u64w', show tag % 2 ^ 64 = tag by omega, or3 (by omega) (by omega) (by omega) (by omega) (by omega)]
  unfold mkW
  omega

/-! ## Numerals -/

theorem digitU {u : Nat} (h : u < 10) : (UInt8.ofNat (48 + u)).toNat = 48 + u := by
  rw [UInt8.toNat_ofNat']; omega

/-- What digits are worth. -/
def val (l : List UInt8) : Nat := l.foldl (fun a c => a * 10 + (c.toNat - 48)) 0

theorem val_append (l : List UInt8) (c : UInt8) : val (l ++ [c]) = val l * 10 + (c.toNat - 48) := by
  unfold val; rw [List.foldl_append]; rfl

theorem val_prefix (l : List UInt8) : ∀ r : List UInt8, val l ≤ val (l ++ r) := by
  intro r
  unfold val
  rw [List.foldl_append]
  have : ∀ (r : List UInt8) (a : Nat), a ≤ r.foldl (fun a c => a * 10 + (c.toNat - 48)) a := by
    intro r
    induction r with
    | nil => intro a; simp
    | cons c r ih => intro a; exact Nat.le_trans (show a ≤ a * 10 + (c.toNat - 48) by omega) (ih _)
  exact this r _

theorem val_take (l : List UInt8) (i : Nat) : val (l.take i) ≤ val l := by
  have := val_prefix (l.take i) (l.drop i)
  rwa [List.take_append_drop] at this

/-- Digits alone. -/
def IsDig (l : List UInt8) : Prop := ∀ c ∈ l, 48 ≤ c.toNat ∧ c.toNat ≤ 57

theorem dec_lt {u : Nat} (h : u < 10) : Lib.decDigits u = [UInt8.ofNat (48 + u)] := by
  rw [Lib.decDigits, dif_pos h]

theorem dec_ge {u : Nat} (h : ¬ u < 10) : Lib.decDigits u = Lib.decDigits (u / 10) ++ [UInt8.ofNat (48 + u % 10)] := by
  rw [Lib.decDigits, dif_neg h]

theorem dec_val (u : Nat) : val (Lib.decDigits u) = u ∧ IsDig (Lib.decDigits u) ∧ Lib.decDigits u ≠ [] := by
  induction u using Nat.strongRecOn with
  | _ u ih =>
    by_cases h : u < 10
    · rw [dec_lt h]
      have := digitU h
      refine ⟨?_, fun c hc => ?_, by simp⟩
      · unfold val; simp only [List.foldl_cons, List.foldl_nil]; omega
      · rw [List.mem_singleton] at hc; rw [hc]; omega
    · obtain ⟨h1, h2, h3⟩ := ih (u / 10) (by omega)
      rw [dec_ge h]
      have hd := digitU (show u % 10 < 10 by omega)
      refine ⟨?_, fun c hc => ?_, by simp⟩
      · rw [val_append, h1, hd]; omega
      · rcases List.mem_append.1 hc with hc | hc
        · exact h2 c hc
        · rw [List.mem_singleton] at hc; rw [hc]; omega

theorem dec_len {k : Nat} : ∀ {u : Nat}, u < 10 ^ (k + 1) → (Lib.decDigits u).length ≤ k + 1 := by
  induction k with
  | zero => intro u h; rw [dec_lt (by simpa using h)]; simp
  | succ k ih =>
    intro u h
    by_cases h10 : u < 10
    · rw [dec_lt h10]; simp
    · rw [dec_ge h10, List.length_append]
      have := ih (u := u / 10) (by rw [Nat.pow_succ] at h; omega)
      simp; omega

theorem dec_head (u : Nat) : ∀ c, (Lib.decDigits u).head? = some c → 48 ≤ c.toNat ∧ c.toNat ≤ 57 := fun c hc => (dec_val u).2.1 c (List.mem_of_mem_head? hc)

/-- A numeral's parts. -/
theorem itoa_neg' {n : Int} (h : n < 0) : Lib.itoa n = 45 :: Lib.decDigits n.natAbs := by unfold Lib.itoa; rw [if_pos h]
theorem itoa_pos' {n : Int} (h : 0 ≤ n) : Lib.itoa n = Lib.decDigits n.natAbs := by
  unfold Lib.itoa; rw [if_neg (by omega)]
  congr 1; omega

theorem itoa_inj {m n : Int} (h : Lib.itoa m = Lib.itoa n) : m = n := by
  have hm := dec_val m.natAbs
  have hn := dec_val n.natAbs
  have neg : ∀ {a b : Int}, a < 0 → 0 ≤ b → Lib.itoa a = Lib.itoa b → False := fun ha hb e => by
    rw [itoa_neg' ha, itoa_pos' hb] at e
    have := dec_head _ 45 (by rw [← e]; rfl)
    have e45 : (45 : UInt8).toNat = 45 := rfl
    omega
  by_cases h1 : m < 0
  · by_cases h2 : n < 0
    · rw [itoa_neg' h1, itoa_neg' h2] at h
      have := congrArg val (List.cons.inj h).2
      rw [hm.1, hn.1] at this; omega
    · exact (neg h1 (by omega) h).elim
  · by_cases h2 : n < 0
    · exact (neg h2 (by omega) h.symm).elim
    · rw [itoa_pos' (by omega), itoa_pos' (by omega)] at h
      have := congrArg val h
      rw [hm.1, hn.1] at this; omega

/-- What is parsed of a numeral. -/
theorem parseM_dec : ∀ (r l : List UInt8) (acc : Nat), val l = acc → IsDig r → val (l ++ r) ≤ 2 ^ 64 - 1 → Lib.parseUintM (2 ^ 64 - 1) acc r = .ok (val (l ++ r))
  | [], l, acc, h, _, _ => by rw [Lib.parseUintM, List.append_nil, h]
  | c :: r, l, acc, h, hd, hb => by
    have hc := hd c (by simp)
    have hv := val_append l c
    have hp := val_prefix (l ++ [c]) r
    rw [List.append_assoc, List.singleton_append] at hp
    rw [Lib.parseUintM, if_pos hc]
    have ih := parseM_dec r (l ++ [c]) (acc * 10 + (c.toNat - 48)) (by rw [hv, h]) (fun x hx => hd x (by simp [hx])) (by rw [List.append_assoc]; exact hb)
    rw [List.append_assoc, List.singleton_append] at ih
    first
      | (rw [if_neg (by omega), if_neg (by omega)]; exact ih)
      | (rw [if_neg (by omega)]; exact ih)

theorem parse_itoa {m : Int} (h0 : -2 ^ 63 ≤ m) (h1 : m < 2 ^ 63) : Lib.parseIntB 64 (Lib.itoa m) = .ok m := by
  obtain ⟨hv, hd, hne⟩ := dec_val m.natAbs
  have hu : Lib.parseUintB 64 (Lib.decDigits m.natAbs) = .ok m.natAbs := by
    unfold Lib.parseUintB
    rw [if_neg hne]
    have := parseM_dec (Lib.decDigits m.natAbs) [] 0 rfl hd (by rw [List.nil_append, hv]; omega)
    rw [List.nil_append, hv] at this
    exact this
  by_cases hm : m < 0
  · rw [itoa_neg' hm]
    unfold Lib.parseIntB
    have e45 : (45 : UInt8).toNat = 45 := rfl
    simp only [e45, or_true, if_true, hu]
    simp only [not_true_eq_false, false_and, if_false, true_and]
    rw [if_neg (by omega)]
    congr 1
    omega
  · rw [itoa_pos' (by omega)]
    rcases hl : Lib.decDigits m.natAbs with _ | ⟨c, r⟩
    · exact absurd hl hne
    · have hc := hd c (by rw [hl]; simp)
      unfold Lib.parseIntB
      rw [hl] at hu
      simp only [show ¬ c.toNat = 45 by omega, show ¬ c.toNat = 43 by omega, or_self, if_false, hu]
      rw [if_neg (by omega), if_neg (by omega)]
      congr 1
      omega

/-! ## Where a byte is -/

theorem indexByte_ok (c : UInt8) : ∀ l : List UInt8, (Lib.indexByte l c = -1 ∧ c ∉ l) ∨ ∃ pre post, l = pre ++ c :: post ∧ c ∉ pre ∧ Lib.indexByte l c = (pre.length : Nat)
  | [] => .inl ⟨rfl, by simp⟩
  | b :: l => by
    unfold Lib.indexByte
    by_cases hb : b = c
    · subst hb
      exact .inr ⟨[], l, rfl, by simp, by simp⟩
    · rw [if_neg (by simpa using hb)]
      rcases indexByte_ok c l with ⟨h1, h2⟩ | ⟨pre, post, h1, h2, h3⟩
      · rw [h1]
        exact .inl ⟨by simp, by simp [h2, Ne.symm hb]⟩
      · rw [h3]
        refine .inr ⟨b :: pre, post, by rw [h1]; rfl, by simp [h2, Ne.symm hb], ?_⟩
        rw [if_neg (by simp)]
        simp

theorem split_uniq {c : UInt8} {a b x y : List UInt8} (h : a ++ c :: x = b ++ c :: y) (ha : c ∉ a) (hb : c ∉ b) : a = b ∧ x = y := by
  induction a generalizing b with
  | nil =>
    cases b with
    | nil => simpa using h
    | cons d b => simp at h; exact absurd h.1 (by simp at hb; exact hb.1)
  | cons d a ih =>
    cases b with
    | nil => simp at h; exact absurd h.1.symm (by simp at ha; exact ha.1)
    | cons e b =>
      simp at h ha hb
      obtain ⟨h1, h2⟩ := ih h.2 ha.2 hb.2
      exact ⟨by rw [h.1, h1], h2⟩

end Go.Proofs.YtchbhocpmhlhjaaDoor
