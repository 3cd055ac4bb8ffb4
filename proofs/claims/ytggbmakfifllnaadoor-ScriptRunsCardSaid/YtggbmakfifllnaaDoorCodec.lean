/- Numbers, texts, scripts and runs as bytes: plain. -/
import Derived.Test.YtggbmakfifllnaaDoorOwn12
namespace Go.Proofs.YtggbmakfifllnaaDoor
open Go Go.D Go.Proofs
set_option linter.unusedSimpArgs false
set_option linter.unusedVariables false
set_option maxRecDepth 8000

/-- A number without its sign. -/
def zig (n : Int) : Nat := if n < 0 then (2 * (-1 - n) + 1).toNat else (2 * n).toNat

/-- A number with its sign. -/
def unzig (u : Nat) : Int := if u % 2 = 1 then -1 - ((u / 2 : Nat) : Int) else ((u / 2 : Nat) : Int)

theorem unzig_zig (n : Int) : unzig (zig n) = n := by
  unfold unzig zig
  by_cases h : n < 0
  · rw [if_pos h, if_pos (by omega)]; omega
  · rw [if_neg h, if_neg (by omega)]; omega

theorem zig_unzig (u : Nat) : zig (unzig u) = u := by
  unfold unzig zig
  by_cases h : u % 2 = 1
  · rw [if_pos h, if_pos (by omega)]; omega
  · rw [if_neg h, if_neg (by omega)]; omega

theorem zig_lt {n : Int} (h0 : -2 ^ 63 ≤ n) (h1 : n < 2 ^ 63) : zig n < 2 ^ 64 := by
  unfold zig; split <;> omega

theorem unzig_bnd {u : Nat} (h : u < 2 ^ 64) : -2 ^ 63 ≤ unzig u ∧ unzig u < 2 ^ 63 := by
  unfold unzig; split <;> omega

/-- Bytes of seven bits each, the low ones first. -/
def vl (u : Nat) : List UInt8 := if h : u < 128 then [UInt8.ofNat u] else UInt8.ofNat (u % 128 + 128) :: vl (u / 128)
termination_by u
decreasing_by omega

theorem vl_lt {u : Nat} (h : u < 128) : vl u = [UInt8.ofNat u] := by rw [vl, dif_pos h]
theorem vl_ge {u : Nat} (h : ¬ u < 128) : vl u = UInt8.ofNat (u % 128 + 128) :: vl (u / 128) := by rw [vl, dif_neg h]

theorem vl_len {k : Nat} : ∀ {u : Nat}, u < 128 ^ (k + 1) → (vl u).length ≤ k + 1 := by
  induction k with
  | zero => intro u h; rw [vl_lt (by simpa using h)]; simp
  | succ k ih =>
    intro u h
    by_cases hu : u < 128
    · rw [vl_lt hu]; simp
    · rw [vl_ge hu]
      have := ih (u := u / 128) (by rw [Nat.pow_succ] at h; omega)
      simp; omega

/-- A number's code. -/
def enc (n : Int) : List UInt8 := vl (zig n)

theorem enc_len {n : Int} (h0 : -2 ^ 63 ≤ n) (h1 : n < 2 ^ 63) : (enc n).length ≤ 10 := by
  have := zig_lt h0 h1
  exact vl_len (k := 9) (by omega)

/-- What is read: k bytes were read, which came to u. -/
def dgo : Nat → Nat → List UInt8 → Option (Nat × List UInt8)
  | _, _, [] => none
  | k, u, c :: r =>
    if k = 9 ∧ 1 < c.toNat then none
    else if c.toNat < 128 then (if c.toNat = 0 ∧ 0 < k then none else some (u + c.toNat * 128 ^ k, r))
    else dgo (k + 1) (u + (c.toNat % 128) * 128 ^ k) r

def dnum (l : List UInt8) : Option (Int × List UInt8) := (dgo 0 0 l).map fun x => (unzig x.1, x.2)

theorem byteN {u : Nat} (h : u < 256) : (UInt8.ofNat u).toNat = u := by rw [UInt8.toNat_ofNat']; omega

theorem dgo_vl (r : List UInt8) : ∀ (k u v : Nat), k ≤ 9 → v * 128 ^ k < 2 ^ 64 → (0 < k → 0 < v) → dgo k u (vl v ++ r) = some (u + v * 128 ^ k, r) := by
  intro k
  induction hk : 9 - k generalizing k with
  | zero =>
    intro u v hk9 hb hp
    obtain rfl : k = 9 := by omega
    have hv : v < 2 := by
      have : (128 : Nat) ^ 9 = 2 ^ 63 := by decide
      rw [this] at hb; omega
    rw [vl_lt (by omega)]
    show dgo 9 u (UInt8.ofNat v :: ([] ++ r)) = _
    unfold dgo
    rw [byteN (by omega), if_neg (by omega), if_pos (by omega), if_neg (by have := hp (by omega); omega)]
    rfl
  | succ n ih =>
    intro u v hk9 hb hp
    by_cases hv : v < 128
    · rw [vl_lt hv]
      show dgo k u (UInt8.ofNat v :: ([] ++ r)) = _
      unfold dgo
      rw [byteN (by omega), if_neg (by omega), if_pos hv, if_neg (by omega)]
      rfl
    · rw [vl_ge hv]
      show dgo k u (UInt8.ofNat (v % 128 + 128) :: (vl (v / 128) ++ r)) = _
      unfold dgo
      rw [byteN (by omega), if_neg (by omega), if_neg (by omega)]
      have e : (v % 128 + 128) % 128 = v % 128 := by omega
      rw [e]
      have hmul : v / 128 * 128 ^ (k + 1) ≤ v * 128 ^ k := by
        rw [Nat.pow_succ, Nat.mul_comm (128 ^ k) 128, ← Nat.mul_assoc]
        exact Nat.mul_le_mul_right _ (Nat.div_mul_le_self v 128)
      rw [ih (k + 1) (by omega) _ _ (by omega) (Nat.lt_of_le_of_lt hmul hb) (fun _ => by omega)]
      congr 2
      rw [Nat.pow_succ, Nat.mul_comm (128 ^ k) 128, ← Nat.mul_assoc, Nat.add_assoc, ← Nat.add_mul]
      congr 2
      omega

theorem dnum_enc {n : Int} (h0 : -2 ^ 63 ≤ n) (h1 : n < 2 ^ 63) (r : List UInt8) : dnum (enc n ++ r) = some (n, r) := by
  unfold dnum enc
  rw [dgo_vl r 0 0 (zig n) (by omega) (by simpa using zig_lt h0 h1) (by omega)]
  simp [unzig_zig]

/-- What is read is the code of what it is. -/
theorem dgo_is : ∀ (l : List UInt8) (k u : Nat) (x : Nat) (r : List UInt8), k ≤ 9 → dgo k u l = some (x, r) → ∃ v, l = vl v ++ r ∧ x = u + v * 128 ^ k ∧ (0 < k → 0 < v) ∧ v * 128 ^ k < 2 ^ 64
  | [], k, u, x, r, _, h => by unfold dgo at h; cases h
  | c :: l, k, u, x, r, hk, h => by
    unfold dgo at h
    have hc := c.toNat_lt
    split at h
    · cases h
    · rename_i h9
      have hpow : (128 : Nat) ^ 9 = 2 ^ 63 := by decide
      split at h
      · rename_i h128
        split at h
        · cases h
        · rename_i h0
          simp only [Option.some.injEq, Prod.mk.injEq] at h
          refine ⟨c.toNat, ?_, h.1.symm, fun hk => by omega, ?_⟩
          · rw [vl_lt h128, ← h.2]; simp
          · by_cases hk9 : k = 9
            · subst hk9; rw [hpow]; omega
            · have : (128 : Nat) ^ k ≤ 128 ^ 8 := Nat.pow_le_pow_right (by omega) (by omega)
              have e8 : (128 : Nat) ^ 8 = 2 ^ 56 := by decide
              have := Nat.mul_le_mul (show c.toNat ≤ 127 by omega) this
              omega
      · rename_i h128
        by_cases hk9 : k = 9
        · exact absurd ⟨hk9, by omega⟩ h9
        · obtain ⟨v, h1, h2, h3, h4⟩ := dgo_is l (k + 1) _ x r (by omega) h
          have hv := h3 (by omega)
          refine ⟨c.toNat % 128 + 128 * v, ?_, ?_, fun _ => by omega, ?_⟩
          · rw [vl_ge (by omega), show (c.toNat % 128 + 128 * v) / 128 = v by omega, show (c.toNat % 128 + 128 * v) % 128 + 128 = c.toNat by omega, h1]
            simp
          · rw [h2, Nat.pow_succ, Nat.add_mul, ← Nat.add_assoc]
            congr 1
            rw [Nat.mul_comm (128 ^ k) 128, ← Nat.mul_assoc, Nat.mul_comm v 128]
          · have e : (c.toNat % 128 + 128 * v) * 128 ^ k = c.toNat % 128 * 128 ^ k + v * 128 ^ (k + 1) := by
              rw [Nat.add_mul, Nat.pow_succ, Nat.mul_comm (128 ^ k) 128, ← Nat.mul_assoc v, Nat.mul_comm v 128]
            rw [e]
            have hle : c.toNat % 128 * 128 ^ k ≤ 127 * 128 ^ k := Nat.mul_le_mul_right _ (by omega)
            have hpk : 0 < 128 ^ (k + 1) := Nat.pow_pos (by omega)
            -- v * 128^(k+1) is a multiple of 128^(k+1), which divides 2^64 or is above it
            have hdiv : (v + 1) * 128 ^ (k + 1) ≤ 2 ^ 64 := by
              by_cases hk8 : k + 1 = 9
              · rw [hk8] at h4 ⊢; rw [hpow] at h4 ⊢; omega
              · have e64 : (2 : Nat) ^ 64 = 2 ^ (64 - 7 * (k + 1)) * 128 ^ (k + 1) := by
                  rw [show (128 : Nat) = 2 ^ 7 by decide, ← Nat.pow_mul, ← Nat.pow_add]; congr 1; omega
                rw [e64] at h4 ⊢
                have := Nat.lt_of_mul_lt_mul_right h4
                exact Nat.mul_le_mul_right _ this
            have : 127 * 128 ^ k < 128 ^ (k + 1) := by
              rw [Nat.pow_succ]
              have : 0 < 128 ^ k := Nat.pow_pos (by omega)
              omega
            rw [Nat.add_mul, Nat.one_mul] at hdiv
            omega

theorem dnum_is {l r : List UInt8} {n : Int} (h : dnum l = some (n, r)) : l = enc n ++ r ∧ -2 ^ 63 ≤ n ∧ n < 2 ^ 63 := by
  unfold dnum at h
  obtain ⟨⟨x, r'⟩, h1, h2⟩ := Option.map_eq_some_iff.1 h
  simp only [Prod.mk.injEq] at h2
  obtain ⟨v, h3, h4, _, h5⟩ := dgo_is l 0 0 x r' (by omega) h1
  simp at h4 h5
  subst h4
  have := unzig_bnd h5
  rw [h2.1] at this
  refine ⟨?_, this⟩
  unfold enc
  rw [← h2.1, zig_unzig, ← h2.2]; exact h3

/-- A text's code. -/
def encT (s : List UInt8) : List UInt8 := enc (s.length : Nat) ++ s

def dtext (l : List UInt8) : Option (List UInt8 × List UInt8) := match dnum l with
  | none => none
  | some (n, r) => if n < 0 ∨ 65536 < n ∨ (r.length : Nat) < n then none else some (r.take n.toNat, r.drop n.toNat)

theorem dtext_enc {s : List UInt8} (h : s.length ≤ 65536) (r : List UInt8) : dtext (encT s ++ r) = some (s, r) := by
  unfold dtext encT
  rw [List.append_assoc, dnum_enc (by omega) (by omega)]
  simp only
  rw [if_neg (by simp; omega)]
  simp

theorem dtext_is {l s r : List UInt8} (h : dtext l = some (s, r)) : l = encT s ++ r ∧ s.length ≤ 65536 := by
  unfold dtext at h
  split at h
  · cases h
  · rename_i n r' hn
    split at h
    · cases h
    · rename_i hb
      simp only [Option.some.injEq, Prod.mk.injEq] at h
      obtain ⟨h1, _, _⟩ := dnum_is hn
      have hl : s.length = n.toNat := by rw [← h.1, List.length_take]; omega
      refine ⟨?_, by omega⟩
      unfold encT
      rw [h1, hl, show ((n.toNat : Nat) : Int) = n by omega, List.append_assoc, ← h.1, ← h.2, List.take_append_drop]

/-- Numbers, one behind the other. -/
def encL (ns : List Int) : List UInt8 := ns.flatMap enc

def dnums : Nat → List UInt8 → Option (List Int × List UInt8)
  | 0, l => some ([], l)
  | k + 1, l => match dnum l with
    | none => none
    | some (n, r) => match dnums k r with
      | none => none
      | some (ns, r') => some (n :: ns, r')

def Fits (ns : List Int) : Prop := ∀ n ∈ ns, -2 ^ 63 ≤ n ∧ n < 2 ^ 63

theorem dnums_enc : ∀ {ns : List Int}, Fits ns → ∀ r, dnums ns.length (encL ns ++ r) = some (ns, r)
  | [], _, r => rfl
  | n :: ns, h, r => by
    have hn := h n (by simp)
    show dnums (ns.length + 1) ((n :: ns).flatMap enc ++ r) = _
    rw [dnums, List.flatMap_cons, List.append_assoc, dnum_enc hn.1 hn.2]
    have := dnums_enc (ns := ns) (fun x hx => h x (by simp [hx])) r
    unfold encL at this
    simp only [this]

theorem dnums_is : ∀ {k : Nat} {l r : List UInt8} {ns : List Int}, dnums k l = some (ns, r) → l = encL ns ++ r ∧ ns.length = k ∧ Fits ns
  | 0, l, r, ns, h => by
    unfold dnums at h
    simp only [Option.some.injEq, Prod.mk.injEq] at h
    obtain ⟨rfl, rfl⟩ := h
    exact ⟨rfl, rfl, by intro n hn; cases hn⟩
  | k + 1, l, r, ns, h => by
    unfold dnums at h
    split at h
    · cases h
    · rename_i n r1 hn
      split at h
      · cases h
      · rename_i ns' r2 hns
        simp only [Option.some.injEq, Prod.mk.injEq] at h
        obtain ⟨rfl, rfl⟩ := h
        obtain ⟨h1, h2, h3⟩ := dnum_is hn
        obtain ⟨h4, h5, h6⟩ := dnums_is hns
        refine ⟨?_, by simp [h5], fun x hx => ?_⟩
        · rw [h1, h4]; unfold encL; rw [List.flatMap_cons, List.append_assoc]
        · rcases List.mem_cons.1 hx with rfl | hx
          · exact ⟨h2, h3⟩
          · exact h6 x hx

theorem dnums_succ (k : Nat) (l : List UInt8) : dnums (k + 1) l = match dnums k l with
    | none => none
    | some (ns, r) => match dnum r with
      | none => none
      | some (n, r') => some (ns ++ [n], r') := by
  induction k generalizing l with
  | zero =>
    simp only [dnums]
    cases dnum l with
    | none => rfl
    | some x => rfl
  | succ k ih =>
    rw [dnums]
    conv => rhs; rw [dnums]
    cases h : dnum l with
    | none => rfl
    | some x =>
      obtain ⟨n, r⟩ := x
      simp only
      rw [ih r]
      cases h2 : dnums k r with
      | none => rfl
      | some y =>
        obtain ⟨ns, r2⟩ := y
        simp only
        cases dnum r2 with
        | none => rfl
        | some z => rfl

/-! ## Scripts -/

structure Scr where
  pro : List UInt8
  que : List UInt8
  caps : List Int
  col : List Int
  deriving DecidableEq

def Scr.ok (s : Scr) : Prop := s.pro.length ≤ 65536 ∧ s.que.length ≤ 65536 ∧ s.caps.length = 6 ∧ s.col.length ≤ 1000 ∧ Fits s.caps ∧ Fits s.col

def encS (s : Scr) : List UInt8 := encT s.pro ++ (encT s.que ++ (encL s.caps ++ (enc (s.col.length : Nat) ++ encL s.col)))

def dscr (l : List UInt8) : Option Scr := match dtext l with
  | none => none
  | some (p, l) => match dtext l with
    | none => none
    | some (q, l) => match dnums 6 l with
      | none => none
      | some (cs, l) => match dnum l with
        | none => none
        | some (n, l) => if n < 0 ∨ 1000 < n then none else match dnums n.toNat l with
          | none => none
          | some (ns, l) => if l = [] then some ⟨p, q, cs, ns⟩ else none

theorem dscr_enc {s : Scr} (h : s.ok) : dscr (encS s) = some s := by
  obtain ⟨h1, h2, h3, h4, h5, h6⟩ := h
  unfold dscr encS
  rw [dtext_enc h1]; simp only
  rw [dtext_enc h2]; simp only
  rw [← h3, dnums_enc h5]; simp only
  rw [dnum_enc (by omega) (by omega)]; simp only
  rw [if_neg (by omega), Int.toNat_natCast]
  have := dnums_enc h6 []
  rw [List.append_nil] at this
  rw [this]
  simp

theorem dscr_is {l : List UInt8} {s : Scr} (h : dscr l = some s) : l = encS s ∧ s.ok := by
  unfold dscr at h
  split at h
  · cases h
  rename_i p l1 e1
  split at h
  · cases h
  rename_i q l2 e2
  split at h
  · cases h
  rename_i cs l3 e3
  split at h
  · cases h
  rename_i n l4 e4
  split at h
  · cases h
  rename_i hn
  split at h
  · cases h
  rename_i ns l5 e5
  split at h
  · rename_i hl
    simp only [Option.some.injEq] at h
    subst h hl
    obtain ⟨a1, b1⟩ := dtext_is e1
    obtain ⟨a2, b2⟩ := dtext_is e2
    obtain ⟨a3, b3, c3⟩ := dnums_is e3
    obtain ⟨a4, b4, c4⟩ := dnum_is e4
    obtain ⟨a5, b5, c5⟩ := dnums_is e5
    refine ⟨?_, b1, b2, b3, by show ns.length ≤ 1000; omega, c3, c5⟩
    unfold encS
    rw [a1, a2, a3, a4, a5, List.append_nil]
    show _ = encT p ++ (encT q ++ (encL cs ++ (enc (ns.length : Nat) ++ encL ns)))
    rw [show ((ns.length : Nat) : Int) = n by omega]
  · cases h

/-! ## Runs -/

structure Evn where
  kind : Int
  text : List UInt8
  deriving DecidableEq

structure Rn where
  tag : Int
  evs : List Evn
  tail : List Int
  deriving DecidableEq

def encE (e : Evn) : List UInt8 := enc e.kind ++ encT e.text

def encR (r : Rn) : List UInt8 := enc r.tag ++ (enc (r.evs.length : Nat) ++ (r.evs.flatMap encE ++ encL r.tail))

def Evn.ok (e : Evn) : Prop := -2 ^ 63 ≤ e.kind ∧ e.kind < 2 ^ 63 ∧ e.text.length ≤ 65536

def Rn.ok (r : Rn) : Prop := -2 ^ 63 ≤ r.tag ∧ r.tag < 2 ^ 63 ∧ r.evs.length ≤ 10000 ∧ (∀ e ∈ r.evs, e.ok) ∧ r.tail.length = 4 ∧ Fits r.tail

def dev (l : List UInt8) : Option (Evn × List UInt8) := match dnum l with
  | none => none
  | some (k, l) => match dtext l with
    | none => none
    | some (t, l) => some (⟨k, t⟩, l)

def devs : Nat → List UInt8 → Option (List Evn × List UInt8)
  | 0, l => some ([], l)
  | k + 1, l => match devs k l with
    | none => none
    | some (es, r) => match dev r with
      | none => none
      | some (e, r') => some (es ++ [e], r')

theorem dev_enc {e : Evn} (h : e.ok) (r : List UInt8) : dev (encE e ++ r) = some (e, r) := by
  unfold dev encE
  rw [List.append_assoc, dnum_enc h.1 h.2.1]
  simp only
  rw [dtext_enc h.2.2]

theorem dev_is {l r : List UInt8} {e : Evn} (h : dev l = some (e, r)) : l = encE e ++ r ∧ e.ok := by
  unfold dev at h
  split at h
  · cases h
  rename_i k l1 e1
  split at h
  · cases h
  rename_i t l2 e2
  simp only [Option.some.injEq, Prod.mk.injEq] at h
  obtain ⟨rfl, rfl⟩ := h
  obtain ⟨a1, b1, c1⟩ := dnum_is e1
  obtain ⟨a2, b2⟩ := dtext_is e2
  refine ⟨?_, b1, c1, b2⟩
  unfold encE
  rw [a1, a2, List.append_assoc]

theorem devs_enc {es : List Evn} (h : ∀ e ∈ es, e.ok) (r : List UInt8) : devs es.length (es.flatMap encE ++ r) = some (es, r) := by
  have key : ∀ (k : Nat), k ≤ es.length → devs k (es.flatMap encE ++ r) = some (es.take k, (es.drop k).flatMap encE ++ r) := by
    intro k
    induction k with
    | zero => intro _; rfl
    | succ k ih =>
      intro hk
      rw [devs, ih (by omega)]
      simp only
      rw [List.drop_eq_getElem_cons (show k < es.length by omega), List.flatMap_cons, List.append_assoc, dev_enc (h _ (List.getElem_mem _))]
      simp only
      rw [List.take_succ_eq_append_getElem (by omega)]
  have := key es.length (Nat.le_refl _)
  rw [List.take_length, List.drop_length] at this
  exact this

theorem devs_is : ∀ {k : Nat} {l r : List UInt8} {es : List Evn}, devs k l = some (es, r) → l = es.flatMap encE ++ r ∧ es.length = k ∧ ∀ e ∈ es, e.ok
  | 0, l, r, es, h => by
    unfold devs at h
    simp only [Option.some.injEq, Prod.mk.injEq] at h
    obtain ⟨rfl, rfl⟩ := h
    exact ⟨rfl, rfl, by intro e he; cases he⟩
  | k + 1, l, r, es, h => by
    unfold devs at h
    split at h
    · cases h
    rename_i es' r1 e1
    split at h
    · cases h
    rename_i e r2 e2
    simp only [Option.some.injEq, Prod.mk.injEq] at h
    obtain ⟨rfl, rfl⟩ := h
    obtain ⟨a1, b1, c1⟩ := devs_is e1
    obtain ⟨a2, b2⟩ := dev_is e2
    refine ⟨?_, by simp [b1], fun x hx => ?_⟩
    · rw [a1, a2]; simp
    · rcases List.mem_append.1 hx with hx | hx
      · exact c1 x hx
      · simp at hx; subst hx; exact b2

def drun (l : List UInt8) : Option Rn := match dnum l with
  | none => none
  | some (t, l) => match dnum l with
    | none => none
    | some (n, l) => if n < 0 ∨ 10000 < n then none else match devs n.toNat l with
      | none => none
      | some (es, l) => match dnums 4 l with
        | none => none
        | some (ns, l) => if l = [] then some ⟨t, es, ns⟩ else none

theorem drun_enc {r : Rn} (h : r.ok) : drun (encR r) = some r := by
  obtain ⟨h1, h2, h3, h4, h5, h6⟩ := h
  unfold drun encR
  rw [dnum_enc h1 h2]; simp only
  rw [dnum_enc (by omega) (by omega)]; simp only
  rw [if_neg (by omega), Int.toNat_natCast, devs_enc h4]
  simp only
  have := dnums_enc h6 []
  rw [List.append_nil, h5] at this
  rw [this]
  simp

theorem drun_is {l : List UInt8} {r : Rn} (h : drun l = some r) : l = encR r ∧ r.ok := by
  unfold drun at h
  split at h
  · cases h
  rename_i t l1 e1
  split at h
  · cases h
  rename_i n l2 e2
  split at h
  · cases h
  rename_i hn
  split at h
  · cases h
  rename_i es l3 e3
  split at h
  · cases h
  rename_i ns l4 e4
  split at h
  · rename_i hl
    simp only [Option.some.injEq] at h
    subst h hl
    obtain ⟨a1, b1, c1⟩ := dnum_is e1
    obtain ⟨a2, b2, c2⟩ := dnum_is e2
    obtain ⟨a3, b3, c3⟩ := devs_is e3
    obtain ⟨a4, b4, c4⟩ := dnums_is e4
    refine ⟨?_, b1, c1, by show es.length ≤ 10000; omega, c3, b4, c4⟩
    unfold encR
    rw [a1, a2, a3, a4, List.append_nil]
    show _ = enc t ++ (enc (es.length : Nat) ++ (es.flatMap encE ++ encL ns))
    rw [show ((es.length : Nat) : Int) = n by omega]
  · cases h

end Go.Proofs.YtggbmakfifllnaaDoor
