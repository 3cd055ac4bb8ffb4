/- The readers. -/
import Derived.Test.YtggbmakfifllnaaDoorEnc3
namespace Go.Proofs.YtggbmakfifllnaaDoor
open Go Go.D Go.Proofs
set_option linter.unusedSimpArgs false
set_option linter.unusedVariables false
set_option maxRecDepth 8000

/-- The row lies below, the reader above. -/
def Lo (p : Option Addr) (n N b : Nat) : Prop := N ≤ b ∧ ∀ x, p = some x → n ≠ 0 → x.block < N

/-- A reader: what is left, and whether it is bad. -/
def RdAt (N : Nat) (w : World) (b : Nat) (l : List UInt8) (bad : Bool) : Prop :=
  ∃ p n c, Blk w b #[.slice p n c, .bool bad] ∧ Rd w 1 p n (bc l) ∧ n ≤ c ∧ Lo p n N b

theorem Lo.out {p : Option Addr} {n N b : Nat} {F : List Nat} (h : Lo p n N b) (hF : ∀ k ∈ F, N ≤ k) : Clear p n F := fun x hx hn hm => by
  have := h.2 x hx hn
  have := hF _ hm
  omega

theorem Lo.clear {p : Option Addr} {n N b : Nat} (h : Lo p n N b) : Clear p n [b] := h.out (by simpa using h.1)

theorem Rd_drop {w : World} {p : Option Addr} {n c k : Nat} {l : List UInt8} (h : Rd w 1 p n (bc l)) (hnc : n ≤ c) (hk : k ≤ n) : Rd w 1 (adv p c k 1) (n - k) (bc (l.drop k)) := by
  have hl := h.1
  rw [bc_len] at hl
  refine ⟨by rw [bc_len, List.length_drop]; omega, ?_⟩
  by_cases hn : n - k = 0
  · exact .inl hn
  · right
    rcases h.2 with h0 | ⟨x, hx, hc⟩
    · omega
    · unfold adv
      rw [if_neg (by omega), hx]
      refine ⟨_, rfl, fun i hi => ?_⟩
      rw [addA, Nat.mul_one, hc (k + i) (by omega)]
      simp [bc, List.getElem?_drop]

theorem Clear_adv {p : Option Addr} {n c k : Nat} {F : List Nat} (h : Clear p n F) (hk : k ≤ n) : Clear (adv p c k 1) (n - k) F := by
  intro x hx hn
  unfold adv at hx
  split at hx
  · exact h x hx (by omega)
  · rcases p with _ | a
    · cases hx
    · simp at hx
      subst hx
      rw [add_block]
      exact h a rfl (by omega)

theorem Lo_adv {p : Option Addr} {n c k N b : Nat} (h : Lo p n N b) (hk : k ≤ n) : Lo (adv p c k 1) (n - k) N b := by
  refine ⟨h.1, fun x hx hn => ?_⟩
  unfold adv at hx
  split at hx
  · exact h.2 x hx (by omega)
  · rcases p with _ | a
    · cases hx
    · simp at hx
      subst hx
      rw [add_block]
      exact h.2 a rfl (by omega)

section
variable {N : Nat} {w : World} {b : Nat} {l : List UInt8} {bad : Bool}

theorem RdAt.upd {w' : World} {F : List Nat} (h : RdAt N w b l bad) (u : Upd F w w') (hb : b ∉ F) (hF : ∀ k ∈ F, N ≤ k) : RdAt N w' b l bad := by
  obtain ⟨p, n, c, h1, h2, h3, h4⟩ := h
  exact ⟨p, n, c, h1.upd u hb, h2.upd u (h4.out hF), h3, h4⟩

theorem RdAt.keep {w' : World} (h : RdAt N w b l bad) (u : Upd [] w w') : RdAt N w' b l bad := h.upd u (by simp) (by simp)

/-- A reader's block is stored. -/
theorem rd_set {p : Option Addr} {n c : Nat} {K : World → Prop} (h : Blk w b #[.slice p n c, .bool bad]) (hr : Rd w 1 p n (bc l)) (hnc : n ≤ c) (hcl : Lo p n N b)
    (hK : ∀ w', RdAt N w' b l true → Upd [b] w w' → K w') : St w ⟨b, 1, none⟩ (.bool true) K :=
  St_rule h (by simp) rfl fun w' u hb => hK w' ⟨p, n, c, by simpa using hb, hr.upd u hcl.clear, hnc, hcl⟩ u

theorem next_bad {K : Int → World → Prop} (h : RdAt N w b l true) (hK : ∀ w', RdAt N w' b l true → Upd [b] w w' → K 0 w') : C_script_reader_next (some ⟨b, 0, none⟩) w K := by
  apply C_script_reader_next.of
  unfold F_script_reader_next
  obtain ⟨p, n, c, h1, h2, h3, h4⟩ := h
  simp only [NN_some, addN, drw_cell, drw_heap, exS, exI, exB, exP, exM, exStr, exV, a0, a1, a2, a3, a4, a5, a6, a7, a8, a9, a10, a11, a12, a13, maxI_eq, Nat.zero_add, Nat.add_zero, Nat.mul_one, Option.isNone_some, Option.isNone_none, h1.cell]
  exact ifT rfl (rd_set h1 h2 h3 h4 hK)

theorem next_end {K : Int → World → Prop} (h : RdAt N w b [] false) (hK : ∀ w', RdAt N w' b [] true → Upd [b] w w' → K 0 w') : C_script_reader_next (some ⟨b, 0, none⟩) w K := by
  apply C_script_reader_next.of
  unfold F_script_reader_next
  obtain ⟨p, n, c, h1, h2, h3, h4⟩ := h
  have hn : n = 0 := by have := h2.1; simp [bc] at this; omega
  simp only [NN_some, addN, drw_cell, drw_heap, exS, exI, exB, exP, exM, exStr, exV, a0, a1, a2, a3, a4, a5, a6, a7, a8, a9, a10, a11, a12, a13, maxI_eq, Nat.zero_add, Nat.add_zero, Nat.mul_one, Option.isNone_some, Option.isNone_none, h1.cell]
  refine ifF rfl (ifT (by simp [hn]) ?_)
  exact rd_set h1 h2 h3 h4 hK

theorem next_ok {x : UInt8} {K : Int → World → Prop} (h : RdAt N w b (x :: l) false) (hK : ∀ w', RdAt N w' b l false → Upd [b] w w' → K (x.toNat : Int) w') : C_script_reader_next (some ⟨b, 0, none⟩) w K := by
  apply C_script_reader_next.of
  unfold F_script_reader_next
  obtain ⟨p, n, c, h1, h2, h3, h4⟩ := h
  have hn : n = l.length + 1 := by have := h2.1; simp [bc] at this; omega
  obtain ⟨a, ha, hc⟩ := h2.at (i := 0) (by omega)
  have hc0 : w.cell? (a.add ((0 : Int).toNat * 1)) = some (.int .u8 (x.toNat : Int)) := by simpa [bc] using hc
  simp only [NN_some, addN, drw_cell, drw_heap, exS, exI, exB, exP, exM, exStr, exV, a0, a1, a2, a3, a4, a5, a6, a7, a8, a9, a10, a11, a12, a13, maxI_eq, Nat.zero_add, Nat.add_zero, Nat.mul_one, Option.isNone_some, Option.isNone_none, h1.cell, ha]
  refine ifF rfl (ifF (by simp; omega) ⟨by omega, by omega, _, hc0, by omega, by omega, ?_⟩)
  refine St_rule h1 (by simp) rfl fun w' u hb => hK w' ⟨_, _, _, by simpa using hb, ?_, ?_, ?_⟩ u
  · rw [← ha]
    have := (Rd_drop (k := 1) h2 h3 (by omega)).upd u (Clear_adv h4.clear (by omega))
    exact this
  · omega
  · rw [← ha]; exact Lo_adv (k := 1) h4 (by omega)

/-- What one more byte makes of a number. -/
theorem more_ok {u c k : Nat} (hu : u < 128 ^ k) (hk : k ≤ 9) (hc : c < 256) (h9 : k = 9 → c ≤ 1) :
    orI .u64 (u : Int) (shlI .u64 (IntKind.u64.wrap (andNotI .u8 (c : Int) 128)) (IntKind.i64.wrap (7 * (k : Int)))) = ((u + (c % 128) * 128 ^ k : Nat) : Int) ∧
    u + (c % 128) * 128 ^ k < 2 ^ 64 ∧ (k ≤ 8 → u + (c % 128) * 128 ^ k < 128 ^ (k + 1)) := by
  have h2 : k ≤ 8 → u + (c % 128) * 128 ^ k < 128 ^ (k + 1) := fun _ => by
    have : (c % 128) * 128 ^ k ≤ 127 * 128 ^ k := Nat.mul_le_mul_right _ (by omega)
    rw [Nat.pow_succ]; omega
  have h1 : u + (c % 128) * 128 ^ k < 2 ^ 64 := by
    by_cases h8 : k ≤ 8
    · have h3 := h2 h8
      have h4 : (128 : Nat) ^ (k + 1) ≤ 128 ^ 9 := Nat.pow_le_pow_right (by omega) (by omega)
      have h5 : (128 : Nat) ^ 9 < 2 ^ 64 := by decide
      omega
    · obtain rfl : k = 9 := by omega
      have := h9 rfl
      have h5 : (128 : Nat) ^ 9 = 2 ^ 63 := by decide
      have h6 : (c % 128) * 128 ^ 9 ≤ 1 * 128 ^ 9 := Nat.mul_le_mul_right _ (by omega)
      omega
  refine ⟨?_, h1, h2⟩
  rw [low7 hc, i64id (by omega) (by omega)]
  have e : IntKind.u64.wrap ((c % 128 : Nat) : Int) = ((c % 128 : Nat) : Int) := by rw [u64w']; omega
  rw [e, shl7 hk (by omega), or_at hu h1]

theorem number_bad {K : Int → World → Prop} (h : RdAt N w b l true) (hK : ∀ w', RdAt N w' b l true → Upd [b] w w' → K 0 w') : C_script_reader_number (some ⟨b, 0, none⟩) w K := by
  apply C_script_reader_number.of
  unfold F_script_reader_number F_script_reader_number_L1
  refine ⟨fun s v => s.t7 = 0 ∧ v = w, fun _ _ => 0, ⟨rfl, rfl⟩, ?_⟩
  rintro ⟨u, t⟩ v ⟨rfl, rfl⟩
  unfold B_script_reader_number_L1
  refine ifT (by simp) (next_bad h fun w1 h1 u1 => ?_)
  obtain ⟨p, n, c, z1, z2, z3, z4⟩ := h1
  simp only [NN_some, addN, drw_cell, drw_heap, exS, exI, exB, exP, exM, exStr, exV, a0, a1, a2, a3, a4, a5, a6, a7, a8, a9, a10, a11, a12, a13, maxI_eq, Nat.zero_add, Nat.add_zero, Nat.mul_one, Option.isNone_some, Option.isNone_none, z1.cell]
  refine ifT rfl ?_
  unfold F_script_reader_number_k1
  simp only [NN_some, addN, drw_cell, drw_heap, exS, exI, exB, exP, exM, exStr, exV, a0, a1, a2, a3, a4, a5, a6, a7, a8, a9, a10, a11, a12, a13, maxI_eq, Nat.zero_add, Nat.add_zero, Nat.mul_one, Option.isNone_some, Option.isNone_none]
  exact ifT rfl (rd_set z1 z2 z3 z4 fun w2 h2 u2 => hK w2 h2 (u1.both u2))

theorem number_ok {K : Int → World → Prop} (h : RdAt N w b l false)
    (hg : ∀ x r w', dnum l = some (x, r) → RdAt N w' b r false → Upd [b] w w' → K x w')
    (hb : ∀ l' w', dnum l = none → RdAt N w' b l' true → Upd [b] w w' → K 0 w') : C_script_reader_number (some ⟨b, 0, none⟩) w K := by
  apply C_script_reader_number.of
  unfold F_script_reader_number F_script_reader_number_L1
  refine ⟨fun s v => ∃ (k u : Nat) (l' : List UInt8), s.t7 = k ∧ s.u = u ∧ k ≤ 9 ∧ u < 128 ^ k ∧ RdAt N v b l' false ∧ dgo k u l' = dgo 0 0 l ∧ Upd [b] w v, fun s _ => (10 - s.t7).toNat, ⟨0, 0, l, rfl, rfl, by omega, by simp, h, rfl, Upd.refl _ _⟩, ?_⟩
  rintro ⟨tu, t⟩ v ⟨k, u, l', hk, rfl, hk9, hu, hr, hd, hup⟩
  dsimp only at hk
  subst hk
  have hnone : dgo k u l' = none → dnum l = none := fun h => by unfold dnum; rw [← hd, h]; rfl
  have hsome : ∀ x r, dgo k u l' = some (x, r) → dnum l = some (unzig x, r) := fun x r h => by unfold dnum; rw [← hd, h]; rfl
  have kr : ∀ {w1 : World} {l2 : List UInt8} {bd : Bool} {t11 : Int}, dgo k u l' = none → RdAt N w1 b l2 bd → Upd [b] v w1 → F_script_reader_number_k1 (some ⟨b, 0, none⟩) ⟨(u : Int), (k : Int)⟩ (fun s' w' => (∃ (k u : Nat) (l' : List UInt8), s'.t7 = k ∧ s'.u = u ∧ k ≤ 9 ∧ u < 128 ^ k ∧ RdAt N w' b l' false ∧ dgo k u l' = dgo 0 0 l ∧ Upd [b] w w') ∧ (10 - s'.t7).toNat < (10 - (k : Int)).toNat) (fun u_2 w1_5 => C_script_unfold u_2 w1_5 fun t48 w1_7 => K t48 w1_7) (fun t2_1 w1_6 => K t2_1 w1_6) t11 true w1 := by
    intro w1 l2 bd t11 hn h1 u1
    obtain ⟨p, n, c, z1, z2, z3, z4⟩ := h1
    unfold F_script_reader_number_k1
    simp only [NN_some, addN, drw_cell, drw_heap, exS, exI, exB, exP, exM, exStr, exV, a0, a1, a2, a3, a4, a5, a6, a7, a8, a9, a10, a11, a12, a13, maxI_eq, Nat.zero_add, Nat.add_zero, Nat.mul_one, Option.isNone_some, Option.isNone_none]
    exact ifT rfl (rd_set z1 z2 z3 z4 fun w2 h2 u2 => hb l2 w2 (hnone hn) h2 (hup.both (u1.both u2)))
  unfold B_script_reader_number_L1
  dsimp only
  refine ifT (by simp; omega) ?_
  rcases l' with _ | ⟨x, r⟩
  · refine next_end hr fun w1 h1 u1 => ?_
    have hn : dgo k u [] = none := by unfold dgo; rfl
    have h1' := h1
    obtain ⟨p, n, c, z1, z2, z3, z4⟩ := h1
    simp only [NN_some, addN, drw_cell, drw_heap, exS, exI, exB, exP, exM, exStr, exV, a0, a1, a2, a3, a4, a5, a6, a7, a8, a9, a10, a11, a12, a13, maxI_eq, Nat.zero_add, Nat.add_zero, Nat.mul_one, Option.isNone_some, Option.isNone_none, z1.cell]
    exact ifT rfl (kr hn h1' u1)
  · refine next_ok hr fun w1 h1 u1 => ?_
    have hx := x.toNat_lt
    have h1' := h1
    obtain ⟨p, n, c, z1, z2, z3, z4⟩ := h1
    simp only [NN_some, addN, drw_cell, drw_heap, exS, exI, exB, exP, exM, exStr, exV, a0, a1, a2, a3, a4, a5, a6, a7, a8, a9, a10, a11, a12, a13, maxI_eq, Nat.zero_add, Nat.add_zero, Nat.mul_one, Option.isNone_some, Option.isNone_none, z1.cell]
    refine ifF rfl ?_
    have hdg : dgo k u (x :: r) = if k = 9 ∧ 1 < x.toNat then none else if x.toNat < 128 then (if x.toNat = 0 ∧ 0 < k then none else some (u + x.toNat * 128 ^ k, r)) else dgo (k + 1) (u + (x.toNat % 128) * 128 ^ k) r := by rw [dgo]
    have k3 : ¬ (k = 9 ∧ 1 < x.toNat) → ¬ (x.toNat < 128 ∧ x.toNat = 0 ∧ 0 < k) → F_script_reader_number_k3 ⟨(u : Int), (k : Int)⟩ (fun s' w' => (∃ (k u : Nat) (l' : List UInt8), s'.t7 = k ∧ s'.u = u ∧ k ≤ 9 ∧ u < 128 ^ k ∧ RdAt N w' b l' false ∧ dgo k u l' = dgo 0 0 l ∧ Upd [b] w w') ∧ (10 - s'.t7).toNat < (10 - (k : Int)).toNat) (fun u_2 w1_5 => C_script_unfold u_2 w1_5 fun t48 w1_7 => K t48 w1_7) (x.toNat : Int) w1 := by
      intro g1 g2
      obtain ⟨m1, m2, m3⟩ := more_ok (c := x.toNat) hu hk9 (by omega) (fun h => by omega)
      unfold F_script_reader_number_k3
      dsimp only
      rw [m1]
      refine ⟨by rw [i64id (by omega) (by omega)]; omega, ifC (fun hc => ?_) (fun hc => ?_)⟩
      · simp at hc
        have hm : x.toNat % 128 = x.toNat := by omega
        rw [if_neg g1, if_pos (by omega), if_neg (by omega)] at hdg
        rw [hm] at m2 ⊢
        exact unfold_ok m2 (hg _ r w1 (hsome _ _ hdg) h1' (hup.both u1))
      · simp at hc
        have hk8 : k ≤ 8 := by omega
        rw [if_neg g1, if_neg (by omega)] at hdg
        refine ⟨⟨k + 1, u + x.toNat % 128 * 128 ^ k, r, by rw [i64id (by omega) (by omega)]; simp, rfl, by omega, m3 hk8, h1', by rw [← hdg, hd], hup.both u1⟩, by rw [i64id (by omega) (by omega)]; omega⟩
    refine ifC (fun hc => ?_) (fun hc => ?_)
    · simp at hc
      refine ifC (fun h1 => ?_) (fun h1 => ?_)
      · rw [h1]
        simp at h1
        rw [if_pos ⟨by omega, by omega⟩] at hdg
        exact kr hdg h1' u1
      · simp at h1
        refine ifC (fun h2 => ?_) (fun h2 => ?_)
        · simp at h2
          refine ifC (fun h3 => ?_) (fun h3 => ?_)
          · simp at h3
            rw [if_neg (by omega), if_pos (by omega), if_pos (by omega)] at hdg
            have e : decide ((k : Int) > 0) = true := by simp; omega
            rw [e]
            exact kr hdg h1' u1
          · simp at h3
            exact k3 (by omega) (by omega)
        · simp at h2
          exact k3 (by omega) (by omega)
    · simp at hc
      refine ifC (fun h2 => ?_) (fun h2 => ?_)
      · simp at h2
        refine ifC (fun h3 => ?_) (fun h3 => ?_)
        · simp at h3
          by_cases h0 : 0 < k
          · rw [if_neg (by omega), if_pos (by omega), if_pos (by omega)] at hdg
            have e : decide ((k : Int) > 0) = true := by simp; omega
            rw [e]
            exact kr hdg h1' u1
          · have e : decide ((k : Int) > 0) = false := by simp; omega
            rw [e]
            unfold F_script_reader_number_k1
            exact ifF rfl (k3 (by omega) (by omega))
        · simp at h3
          exact k3 (by omega) (by omega)
      · simp at h2
        exact k3 (by omega) (by omega)
end

end Go.Proofs.YtggbmakfifllnaaDoor
