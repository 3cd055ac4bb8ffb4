/- What is taken is less that is free: the law. -/
import Derived.Test.YtcgnligpjfhjlaaNobody
namespace Go.Proofs.Ytcgnligpjfhjlaa
open Go Go.D Go.Proofs
set_option linter.unusedSimpArgs false
set_option linter.unusedVariables false
set_option maxRecDepth 8000

/-- A call. -/
structure OpV where
  kind : Int
  pos : Int
  n : Int

def OpV.cells (o : OpV) : List Value := [.int .i64 o.kind, .int .i64 o.pos, .int .i64 o.n]

def small (n : Int) : Prop := -2 ^ 63 ≤ n ∧ n < 2 ^ 63

theorem small_wf {x : Int} (h : (Lit.int .i64 x).wf = true) : small x := by
  simp only [Lit.wf, Bool.and_eq_true, decide_eq_true_eq] at h
  have h1 : IntKind.i64.min = -2 ^ 63 := by rfl
  have h2 : IntKind.i64.max = 2 ^ 63 - 1 := by rfl
  rw [h1, h2] at h
  unfold small; omega

/-- The calls of a row. -/
def Ops (cs : List Value) (n : Nat) : Prop := ∀ i, i < n → ∃ o : OpV, (cs.drop (i * 3)).take 3 = o.cells ∧ small o.kind ∧ small o.pos ∧ small o.n

/-- The call at a place. -/
theorem Ops.get {w : World} {p : Option Addr} {n : Nat} {cs : List Value} (hr : Rd w 3 p n cs) (ho : Ops cs n) {i : Nat} (hi : i < n) : ∃ (x : Addr) (o : OpV), p = some x ∧ small o.kind ∧ small o.pos ∧ small o.n ∧ ∀ w', Rd w' 3 p n cs → w'.cell? (x.add (i * 3)) = some (.int .i64 o.kind) ∧ w'.cell? (x.add (i * 3 + 1)) = some (.int .i64 o.pos) ∧ w'.cell? (x.add (i * 3 + 2)) = some (.int .i64 o.n) := by
  obtain ⟨x, hx, hc⟩ := hr.elem hi
  obtain ⟨o, h, k1, k2, k3⟩ := ho i hi
  refine ⟨x, o, hx, k1, k2, k3, fun w' hr' => ?_⟩
  obtain ⟨y, hy, hc⟩ := hr'.elem hi
  obtain rfl := Option.some.inj (hx.symm.trans hy)
  have key : ∀ j, j < 3 → w'.cell? (x.add (i * 3 + j)) = o.cells[j]? := fun j hj => by
    rw [hc j hj, ← h, List.getElem?_take, if_pos hj, List.getElem?_drop]
  exact ⟨key 0 (by omega), key 1 (by omega), key 2 (by omega)⟩

section
variable {w : World} {d : PlD}

theorem SameInts_ok {p q : Option Addr} {n c m e : Nat} {L : List Int} {K : Bool → World → Prop} (hp : Rd w 1 p n (L.map (.int .i64))) (hq : Rd w 1 q m (L.map (.int .i64))) (hL : L.length < 2 ^ 40) (hK : ∀ w', Upd [] w w' → K true w') : C_ref03_SameInts p n c q m e w K := by
  apply C_ref03_SameInts.of
  unfold F_ref03_SameInts F_ref03_SameInts_L1
  have hn : n = L.length := by have := hp.1; simp at this; exact this.symm
  have hm : m = L.length := by have := hq.1; simp at this; exact this.symm
  refine ifF (by simp; omega) ⟨fun s v => 0 ≤ s.i ∧ s.i ≤ n ∧ Upd [] w v, fun s _ => (n - s.i).toNat, ⟨by simp, by simp, Upd.refl _ _⟩, ?_⟩
  rintro ⟨i⟩ v ⟨hi0, hi1, u⟩
  dsimp only at hi0 hi1
  unfold B_ref03_SameInts_L1
  dsimp only
  refine ifC (fun hc => ?_) (fun hc => hK v u)
  simp at hc
  obtain ⟨x, hx, hcx⟩ := (hp.keep u).at (i := i.toNat) (by omega)
  obtain ⟨y, hy, hcy⟩ := (hq.keep u).at (i := i.toNat) (by omega)
  have hil : i.toNat < L.length := by omega
  rw [List.getElem?_map, List.getElem?_eq_getElem hil] at hcx hcy
  simp only [Option.map_some] at hcx hcy
  simp only [NN_some, addN, drw_cell, drw_heap, exS, exI, exB, exP, exM, exStr, exV, a0, a1, a2, a3, a4, a5, a6, a7, a8, a9, a10, a11, a12, a13, maxI_eq, Nat.zero_add, Nat.add_zero, Nat.mul_one, Option.isNone_some, Option.isNone_none, hx, hy, hcx, hcy]
  refine ⟨hi0, hc, hi0, by omega, ifF (by simp) ?_⟩
  rw [i64id (by omega) (by omega)]
  exact ⟨⟨by omega, by omega, u.after (drw_upd v)⟩, by simp; omega⟩

theorem SameRuns_ok {p q : Option Addr} {n c m e : Nat} {L : List Run2} {F G : List Nat} {K : Bool → World → Prop} (hp : RowAt w p n c L F) (hq : RowAt w q m e L G) (hL : L.length < 2 ^ 40) (hK : ∀ w', Upd [] w w' → K true w') : C_ref03_SameRuns p n c q m e w K := by
  apply C_ref03_SameRuns.of
  unfold F_ref03_SameRuns F_ref03_SameRuns_L1
  have hn := hp.len
  have hm := hq.len
  refine ifF (by simp; omega) ⟨fun s v => 0 ≤ s.i ∧ s.i ≤ n ∧ Upd [] w v, fun s _ => (n - s.i).toNat, ⟨by simp, by simp, Upd.refl _ _⟩, ?_⟩
  rintro ⟨i⟩ v ⟨hi0, hi1, u⟩
  dsimp only at hi0 hi1
  unfold B_ref03_SameRuns_L1
  dsimp only
  refine ifC (fun hc => ?_) (fun hc => hK v u)
  simp at hc
  have hil : i.toNat < L.length := by omega
  have kp : RowAt (drw v) p n c L F := SlAt.upd hp (u.after (drw_upd v)) (by intro k _ h; cases h)
  have kq : RowAt (drw v) q m e L G := SlAt.upd hq (u.after (drw_upd v)) (by intro k _ h; cases h)
  obtain ⟨b, o, hb, x1, x2⟩ := RowAt.get kp hil
  obtain ⟨b', o', hb', y1, y2⟩ := RowAt.get kq hil
  simp only [NN_some, addN, drw_cell, drw_heap, exS, exI, exB, exP, exM, exStr, exV, a0, a1, a2, a3, a4, a5, a6, a7, a8, a9, a10, a11, a12, a13, maxI_eq, Nat.zero_add, Nat.add_zero, Nat.mul_one, Option.isNone_some, Option.isNone_none, drw_cell, hb, hb'] at x1 x2 y1 y2 ⊢
  simp only [NN_some, addN, drw_cell, drw_heap, exS, exI, exB, exP, exM, exStr, exV, a0, a1, a2, a3, a4, a5, a6, a7, a8, a9, a10, a11, a12, a13, maxI_eq, Nat.zero_add, Nat.add_zero, Nat.mul_one, Option.isNone_some, Option.isNone_none, x1, x2, y1, y2]
  refine ⟨hi0, hc, hi0, by omega, ?_⟩
  refine runEq (a := L[i.toNat]) (b := L[i.toNat]) ?_
  refine ifF (by simp) ?_
  rw [i64id (by omega) (by omega)]
  exact ⟨⟨by omega, by omega, u.after (drw_upd v)⟩, by simp; omega⟩

theorem leftP_bnd (ok : PlOk d) : 0 ≤ leftP d ∧ leftP d ≤ 2 ^ 34 := by
  have h1 := sum_small (L := d.L) (B := 1048576) ok.sums
  have h2 := ok.len
  have h3 := ok.top
  have h4 := ok.lim
  have h5 := ok.top0
  unfold leftP
  have h6 : (d.L.length : Int) * 1048576 ≤ 4096 * 1048576 := by omega
  omega

end

theorem PoolCounts_law {w : World} {p : Option Addr} {n c : Nat} {ls : List Value} (hl : Rd w 3 p n ls) (ho : Ops ls n) : C_law03_PoolCounts p n c w fun r w' => r = true ∧ Upd [] w w' := by
  apply C_law03_PoolCounts.of
  unfold F_law03_PoolCounts F_law03_PoolCounts_k1 F_law03_PoolCounts_L1
  refine New_ok (by omega) (by omega) fun w1 d h1 ok1 et1 el1 hL1 u1 n1 => lives_ok fun w2 u2 => ifF rfl (ifF rfl (ifF rfl ?_))
  have h2 := h1.keep u2
  have U2 := u1.after u2
  have hl1 : d.L.length = 1 := by obtain ⟨sl, h⟩ := hL1; rw [h]; rfl
  refine ⟨fun s v => 0 ≤ s.i ∧ s.i ≤ 50 ∧ ∃ d', d'.a = d.a ∧ Pl v d' ∧ PlOk d' ∧ (d'.L.length : Int) ≤ s.i + 1 ∧ Upd [] w v ∧ Since d'.FT w, fun s _ => (50 - s.i).toNat, ⟨by simp, by simp, d, rfl, h2, ok1, by simp; omega, U2, n1⟩, ?_⟩
  rintro ⟨i⟩ v ⟨hi0, hi1, d', ha, ht, ok, hlen, U, N⟩
  dsimp only at hi0 hi1 hlen
  unfold B_law03_PoolCounts_L1 F_law03_PoolCounts_k2
  dsimp only
  rw [← ha]
  refine ifC (fun hc => ifC (fun hc2 => ?_) (fun _ => ⟨rfl, U⟩)) (fun _ => ⟨rfl, U⟩)
  simp at hc hc2
  obtain ⟨x, o, hx, ok1, ok2, ok3, hcell⟩ := Ops.get hl ho (i := i.toNat) (by omega)
  subst hx
  have rd : ∀ w', Upd [] w w' → _ := fun w' u => hcell w' (hl.keep u)
  -- behind a call
  have fin : ∀ {w4 : World} {d4 : PlD} {m : Int}, Pl w4 d4 → PlOk d4 → d4.a = d'.a → leftP d4 = m → (d4.L.length : Int) ≤ i + 2 → Upd [] w w4 → Since d4.FT w →
      F_law03_PoolCounts_k3 d'.a ⟨i⟩ (fun s' w' => ((0 ≤ s'.i ∧ s'.i ≤ 50 ∧ ∃ d'', d''.a = d'.a ∧ Pl w' d'' ∧ PlOk d'' ∧ (d''.L.length : Int) ≤ s'.i + 1 ∧ Upd [] w w' ∧ Since d''.FT w) ∧ (50 - s'.i).toNat < (50 - i).toNat)) (fun r w' => r = true ∧ Upd [] w w') m w4 := by
    intro w4 d4 m h4 ok4 a4 l4 hl4 U4 N4
    unfold F_law03_PoolCounts_k3
    dsimp only
    rw [← a4]
    refine Left_ok h4 ok4 fun w5 u5 => ifF (by simp [l4]) ?_
    rw [i64id (by omega) (by omega)]
    exact ⟨⟨by omega, by omega, d4, rfl, h4.keep u5, ok4, by omega, U4.after u5, N4⟩, by omega⟩
  have hb := leftP_bnd ok
  refine Left_ok ht ok fun w3 u3 => ?_
  have h3 := ht.keep u3
  have U3 := U.after u3
  obtain ⟨c0, c1, c2⟩ := rd w3 U3
  simp only [NN_some, addN, drw_cell, drw_heap, exS, exI, exB, exP, exM, exStr, exV, a0, a1, a2, a3, a4, a5, a6, a7, a8, a9, a10, a11, a12, a13, maxI_eq, Nat.zero_add, Nat.add_zero, Nat.mul_one, Option.isNone_some, Option.isNone_none, drw_cell, addA, c0, c1, c2]
  have hne := ok.ne
  obtain ⟨s, hse⟩ : ∃ s, s + 1 = d'.L.length := ⟨d'.L.length - 1, by omega⟩
  refine ⟨hi0, hc, ifC (fun hk => ?_) (fun hk => ifC (fun hk2 => ?_) (fun hk2 => ?_))⟩
  · -- taken
    refine ⟨hi0, hc, Take6 h3 ok ok3 (s := s) (by omega) hse (fun _ w4 h4 u4 => ?_) (fun j hj hjl w4 d4 h4 t4 et4 u4 s4 => ?_) (fun _ _ _ w4 h4 u4 => ?_) (fun hf w4 d4 h4 t4 et4 u4 s4 => ?_)⟩
    · exact ifF rfl (fin h4 ok rfl rfl (by omega) (U3.after u4) N)
    · have U4 := U3.fresh u4 N
      obtain ⟨c0, c1, c2⟩ := rd w4 U4
      have hln : d4.L.length = d'.L.length := by have := congrArg List.length t4.starts; simpa using this
      have hbt := leftP_bnd t4.ok
      have hlt := t4.left
      simp only [NN_some, addN, drw_cell, drw_heap, exS, exI, exB, exP, exM, exStr, exV, a0, a1, a2, a3, a4, a5, a6, a7, a8, a9, a10, a11, a12, a13, maxI_eq, Nat.zero_add, Nat.add_zero, Nat.mul_one, Option.isNone_some, Option.isNone_none, addA, c2]
      refine ifT rfl ⟨hi0, hc, ?_⟩
      rw [i64id (by omega) (by omega)]
      exact fin h4 t4.ok t4.a hlt (by omega) U4 (N.step s4 U3.size)
    · exact ifF rfl (fin h4 ok rfl rfl (by omega) (U3.after u4) N)
    · have U4 := U3.fresh u4 N
      obtain ⟨c0, c1, c2⟩ := rd w4 U4
      have hln : d4.L.length = d'.L.length := by have := congrArg List.length t4.starts; simpa using this
      have hbt := leftP_bnd t4.ok
      have hlt := t4.left
      simp only [NN_some, addN, drw_cell, drw_heap, exS, exI, exB, exP, exM, exStr, exV, a0, a1, a2, a3, a4, a5, a6, a7, a8, a9, a10, a11, a12, a13, maxI_eq, Nat.zero_add, Nat.add_zero, Nat.mul_one, Option.isNone_some, Option.isNone_none, addA, c2]
      refine ifT rfl ⟨hi0, hc, ?_⟩
      rw [i64id (by omega) (by omega)]
      exact fin h4 t4.ok t4.a hlt (by omega) U4 (N.step s4 U3.size)
  · -- given back
    have h3' := h3.keep (drw_upd w3)
    have U3' := U3.after (drw_upd w3)
    refine ⟨hi0, hc, hi0, hc, Give6 h3' ok ok3 (fun _ w4 h4 u4 => ?_) (fun q hq w4 d4 h4 g4 u4 s4 => ?_)⟩
    · exact ifF rfl (fin h4 ok rfl rfl (by omega) (U3'.after u4) N)
    · have U4 := U3'.fresh u4 N
      obtain ⟨c0, c1, c2⟩ := rd w4 U4
      have hln : d4.L.length = d'.L.length := by have := congrArg List.length g4.starts; simpa using this
      have hbt := leftP_bnd g4.ok
      have hlt := g4.left
      simp only [NN_some, addN, drw_cell, drw_heap, exS, exI, exB, exP, exM, exStr, exV, a0, a1, a2, a3, a4, a5, a6, a7, a8, a9, a10, a11, a12, a13, maxI_eq, Nat.zero_add, Nat.add_zero, Nat.mul_one, Option.isNone_some, Option.isNone_none, addA, c2]
      refine ifT rfl ⟨hi0, hc, ?_⟩
      rw [i64id (by omega) (by omega)]
      exact fin h4 g4.ok g4.a hlt (by omega) U4 (N.step s4 U3'.size)
  · -- opened and closed
    have hlen2 := ok.len
    refine Starts_ok h3 ok fun p4 n4 c4 F4 w4 hs4 u4 f4 => ?_
    have h4 := h3.keep u4
    refine Starts_ok h4 ok fun p5 n5 c5 F5 w5 hs5 u5 f5 => ?_
    have h5 := h4.keep u5
    have e4 : n4 = d'.L.length := by have := hs4.1; simp at this; omega
    have e5 : n5 = d'.L.length := by have := hs5.1; simp at this; omega
    have en : (n5 : Int) - 1 = s := by omega
    have em : (n4 : Int) - 1 = s := by omega
    rw [i64id (x := (n5 : Int) - 1) (by omega) (by omega), en]
    refine Runs_ok h5 ok (by omega) (by omega) fun p6 n6 c6 F6 w6 hs6 u6 f6 => ?_
    have hs6 : RowAt w6 p6 n6 c6 (d'.L[s]'(by omega)).runs F6 := hs6
    have h6 := h5.keep u6
    have U6 := ((U3.after u4).after u5).after u6
    have hs4 := (hs4.upd u5 (by intro k _ h; cases h)).upd u6 (by intro k _ h; cases h)
    have D4 : Dis F4 d'.FT := fun k hk hx => by have := f4 k hk; have := h3.inn k hx; omega
    have D6 : Dis F6 d'.FT := fun k hk hx => by have := f6 k hk; have := h5.inn k hx; omega
    refine Open6 h6 ok (fun h => by omega) fun _ w7 d7 h7 g7 e7 u7 s7 => ifF rfl ?_
    have hl7 : d7.L.length = d'.L.length + 1 := by rw [e7]; simp
    have U7 := U6.fresh u7 N
    have N7 := N.step s7 U6.size
    have hs7 := hs4.upd u7 D4
    have hr7 : RowAt w7 p6 n6 c6 (d'.L[s]'(by omega)).runs F6 := SlAt.upd hs6 u7 D6
    have D47 : Dis F4 d7.FT := fun k hk hx => by
      rcases s7 k hx with h | h
      · exact D4 k hk h
      · have := hs4.inn k hk; omega
    have D67 : Dis F6 d7.FT := fun k hk hx => by
      rcases s7 k hx with h | h
      · exact D6 k hk h
      · have := SlAt.inn hs6 k hk; omega
    rw [← g7.a]
    refine Close6 h7 g7.ok (fun h => by omega) fun q hq hq2 w8 d8 h8 g8 ⟨sl, e8⟩ u8 s8 => ifF rfl ?_
    obtain rfl : q = s := by omega
    have U8 := U7.fresh u8 N7
    have N8 := N7.step s8 U7.size
    have hs8 := hs7.upd u8 D47
    have hr8 : RowAt w8 p6 n6 c6 (d'.L[q]'(by omega)).runs F6 := SlAt.upd hr7 u8 D67
    have x1 : d7.L[q] = d'.L[q]'(by omega) := by
      have : d7.L[q]? = d'.L[q]? := by rw [e7, List.getElem?_append_left (by omega)]
      rw [List.getElem?_eq_getElem (by omega), List.getElem?_eq_getElem (by omega)] at this
      exact Option.some.inj this
    have x2 : d7.L[q + 1].runs = [] := by
      have : d7.L[q + 1]? = some ⟨d'.top, (none, 0, 0), []⟩ := by rw [e7, List.getElem?_append_right (by omega), show q + 1 - d'.L.length = 0 by omega]; rfl
      rw [List.getElem?_eq_getElem (by omega)] at this
      rw [Option.some.inj this]
    rw [x1, x2, closeL_nil] at e8
    have x3 : d7.L.take (q + 1) = d'.L := by rw [e7, List.take_append_of_le_length (by omega), List.take_of_length_le (by omega)]
    rw [x3] at e8
    have hl8 : d8.L.length = d'.L.length := by rw [e8]; simp
    have x4 : d8.L.map (·.start) = d'.L.map (·.start) := by
      rw [e8, List.map_set]
      apply List.ext_getElem?
      intro j
      by_cases hj : q = j
      · subst hj
        rw [List.getElem?_set_self (by rw [List.length_map]; omega), List.getElem?_map, List.getElem?_eq_getElem (by omega)]; rfl
      · rw [List.getElem?_set_ne hj]
    have x5 : (d8.L[q]'(by omega)).runs = (d'.L[q]'(by omega)).runs := by
      have : d8.L[q]? = some ⟨(d'.L[q]'(by omega)).start, sl, (d'.L[q]'(by omega)).runs⟩ := by rw [e8, List.getElem?_set_self (by omega)]
      rw [List.getElem?_eq_getElem (by omega)] at this
      rw [Option.some.inj this]
    have ea8 : d8.a = d'.a := g8.a.trans g7.a
    have l8 : leftP d8 = leftP d' := g8.left.trans g7.left
    rw [← g8.a]
    refine Starts_ok h8 g8.ok fun p9 n9 c9 F9 w9 hs9 u9 f9 => ?_
    rw [x4] at hs9
    refine SameInts_ok hs9.rd ((hs8.upd u9 (by intro k _ h; cases h)).rd) (by rw [List.length_map]; omega) fun wa ua => ifF rfl ?_
    have ha' := (h8.keep u9).keep ua
    rw [i64id (x := (n4 : Int) - 1) (by omega) (by omega), em]
    refine Runs_ok ha' g8.ok (by omega) (by omega) fun pb nb cb Fb wb hsb ub fb => ?_
    have hsb : RowAt wb pb nb cb (d8.L[q]'(by omega)).runs Fb := hsb
    rw [x5] at hsb
    have hrb : RowAt wb p6 n6 c6 (d'.L[q]'(by omega)).runs F6 := SlAt.upd hr8 ((u9.after ua).after ub) (by intro k _ h; cases h)
    have := ok.rlen (i := q) (by omega)
    refine SameRuns_ok hsb hrb (by omega) fun wc uc => ifF rfl ?_
    have hc' := (ha'.keep ub).keep uc
    have Uc := (((U8.after u9).after ua).after ub).after uc
    obtain ⟨c0, c1, c2⟩ := rd wc Uc
    simp only [NN_some, addN, drw_cell, drw_heap, exS, exI, exB, exP, exM, exStr, exV, a0, a1, a2, a3, a4, a5, a6, a7, a8, a9, a10, a11, a12, a13, maxI_eq, Nat.zero_add, Nat.add_zero, Nat.mul_one, Option.isNone_some, Option.isNone_none, addA, c0]
    refine ⟨hi0, hc, ifC (fun hk3 => ?_) (fun hk3 => ?_)⟩
    · refine Open6 hc' g8.ok (fun h => by omega) fun _ wd dd hd gd ed ud sd => ?_
      rw [ea8]
      refine fin hd gd.ok (gd.a.trans ea8) (gd.left.trans l8) ?_ (Uc.fresh ud N8) (N8.step sd Uc.size)
      rw [ed]; simp; omega
    · rw [ea8]
      exact fin hc' g8.ok ea8 l8 (by omega) Uc N8

end Go.Proofs.Ytcgnligpjfhjlaa
