/- No cell is taken twice: the law. -/
import Derived.Test.YtcgnligpjfhjlaaCounts
namespace Go.Proofs.Ytcgnligpjfhjlaa
open Go Go.D Go.Proofs
set_option linter.unusedSimpArgs false
set_option linter.unusedVariables false
set_option maxRecDepth 8000

/-- Which cells are held. -/
def HB (w : World) (r : Nat) (H : Nat → Bool) : Prop := ∃ arr, Blk w r arr ∧ arr.size = 400 ∧ ∀ k, k < 400 → arr[k]? = some (.bool (H k))

theorem HB.zero {w : World} {r : Nat} {arr : Array Value} (h : Blk w r arr) (he : arr = Array.replicate 400 (.bool false)) : HB w r fun _ => false := by
  subst he
  exact ⟨_, h, by simp, fun k hk => by simp [hk]⟩

section
variable {w : World} {r : Nat} {H : Nat → Bool}

theorem HB.cell (h : HB w r H) {k : Nat} (hk : k < 400) : w.cell? ⟨r, k, none⟩ = some (.bool (H k)) := by
  obtain ⟨arr, hb, hs, hc⟩ := h
  rw [hb.cell]; exact hc k hk

theorem HB.upd {w' : World} {F : List Nat} (h : HB w r H) (u : Upd F w w') (hr : r ∉ F) : HB w' r H := by
  obtain ⟨arr, hb, hs, hc⟩ := h
  exact ⟨arr, hb.upd u hr, hs, hc⟩

theorem HB.keep {w' : World} (h : HB w r H) (u : Upd [] w w') : HB w' r H := h.upd u (by simp)

theorem HB.lt (h : HB w r H) : r < w.heap.size := by
  obtain ⟨arr, hb, hs, hc⟩ := h
  exact hb.lt

theorem HB.set {k : Nat} {b : Bool} {K : World → Prop} (h : HB w r H) (hk : k < 400) (hK : ∀ w', Upd [r] w w' → HB w' r (fun j => if j = k then b else H j) → K w') : St w ⟨r, k, none⟩ (.bool b) K := by
  obtain ⟨arr, hb, hs, hc⟩ := h
  refine St_rule hb (by omega) rfl fun w' u hb' => hK w' u ⟨_, hb', by simp; exact hs, fun j hj => ?_⟩
  rw [Array.getElem?_setIfInBounds]
  by_cases hjk : k = j
  · subst hjk
    simp [show k < arr.size by omega]
  · have hjk' : ¬ j = k := fun h => hjk h.symm
    simp only [hjk, hjk', if_false]; exact hc j hj

theorem HB.like {H' : Nat → Bool} (h : HB w r H) (he : ∀ k, k < 400 → H' k = H k) : HB w r H' := by
  obtain ⟨arr, hb, hs, hc⟩ := h
  exact ⟨arr, hb, hs, fun k hk => by rw [hc k hk, he k hk]⟩

end

/-- What is held is what is below the top and not free. -/
def Rel (d : PlD) (H : Nat → Bool) : Prop := ∀ k : Nat, k < 400 → (H k = true ↔ (k : Int) < d.top ∧ ¬ freeP d k)

structure On (w v : World) (a : Option Addr) (d : PlD) (r : Nat) (H : Nat → Bool) : Prop where
  a : d.a = a
  pl : Pl v d
  ok : PlOk d
  lim : d.limit = 400
  hb : HB v r H
  rF : r ∉ d.FT
  U : Upd [] w v
  N : Since d.FT w
  rN : w.heap.size ≤ r

section
variable {w v v' : World} {p : Option Addr} {d d' : PlD} {r : Nat} {H H' : Nat → Bool}

theorem On.keep (o : On w v p d r H) (u : Upd [] v v') : On w v' p d r H := ⟨o.a, o.pl.keep u, o.ok, o.lim, o.hb.keep u, o.rF, o.U.after u, o.N, o.rN⟩

theorem On.next (o : On w v p d r H) (h' : Pl v' d') (ok' : PlOk d') (ha : d'.a = d.a) (hl : d'.limit = d.limit) (u : Upd d.FT v v') (s : Sub d'.FT d.FT v) : On w v' p d' r H := by
  refine ⟨ha.trans o.a, h', ok', hl.trans o.lim, o.hb.upd u o.rF, fun hx => ?_, o.U.fresh u o.N, o.N.step s o.U.size, o.rN⟩
  rcases s r hx with h | h
  · exact o.rF h
  · have := o.hb.lt; omega

theorem On.hold (o : On w v p d r H) (u : Upd [r] v v') (h : HB v' r H') : On w v' p d r H' := by
  have hd : Dis d.FT [r] := fun k hk hx => by simp at hx; subst hx; exact o.rF hk
  exact ⟨o.a, o.pl.upd u hd, o.ok, o.lim, h, o.rF, o.U.fresh u (by intro x hx; simp at hx; subst hx; exact o.rN), o.N, o.rN⟩

theorem On.like (o : On w v p d r H) (he : ∀ k, k < 400 → H' k = H k) : On w v p d r H' := ⟨o.a, o.pl, o.ok, o.lim, o.hb.like he, o.rF, o.U, o.N, o.rN⟩

end

/-- All are noted. -/
theorem Note_ok {w v : World} {p : Option Addr} {d : PlD} {r q : Nat} {H : Nat → Bool} {lP p1 : Option Addr} {lN lC : Nat} {i t k1 k2 n : Int} {Kx : World → Prop} {Kr : Bool → World → Prop} (o : On w v p d r H) (hq : Blk v q #[.int .i64 k1, .int .i64 k2, .int .i64 n]) (hqr : q ≠ r)
    (ht : 0 ≤ t) (hn : 1 ≤ n) (hlim : t + n ≤ 400) (hH : ∀ k : Nat, t ≤ k → (k : Int) < t + n → H k = false)
    (hK : ∀ v', On w v' p d r (fun j => H j || decide (t ≤ (j : Int) ∧ (j : Int) < t + n)) → Kx v') : F_law03_PoolOnce_L2 lP lN lC p1 ⟨r, 0, none⟩ i ⟨q, 0, none⟩ t ⟨t⟩ v Kx Kr := by
  unfold F_law03_PoolOnce_L2
  refine ⟨fun s v' => t ≤ s.k ∧ s.k ≤ t + n ∧ On w v' p d r (fun j => H j || decide (t ≤ (j : Int) ∧ (j : Int) < s.k)) ∧ Blk v' q #[.int .i64 k1, .int .i64 k2, .int .i64 n], fun s _ => (t + n - s.k).toNat, ⟨by simp, by simp; omega, o.like fun k hk => ?_, hq⟩, ?_⟩
  · have : ¬ (t ≤ (k : Int) ∧ (k : Int) < t) := by omega
    simp [this]
  rintro ⟨k⟩ v' ⟨hk0, hk1, o', hq'⟩
  dsimp only at hk0 hk1 o'
  unfold B_law03_PoolOnce_L2
  dsimp only
  simp only [NN_some, addN, drw_cell, drw_heap, exS, exI, exB, exP, exM, exStr, exV, a0, a1, a2, a3, a4, a5, a6, a7, a8, a9, a10, a11, a12, a13, maxI_eq, Nat.zero_add, Nat.add_zero, Nat.mul_one, Option.isNone_some, Option.isNone_none, hq'.cell]
  rw [i64id (x := t + n) (by omega) (by omega)]
  refine ifC (fun hc => ?_) (fun hc => ?_)
  · simp at hc
    have hkn : k.toNat < 400 := by omega
    have hcell := o'.hb.cell hkn
    have hfalse : (H k.toNat || decide (t ≤ (k.toNat : Int) ∧ (k.toNat : Int) < k)) = false := by
      have h1 := hH k.toNat (by omega) (by omega)
      have : ¬ (t ≤ (k.toNat : Int) ∧ (k.toNat : Int) < k) := by omega
      rw [h1, decide_eq_false this]; rfl
    rw [hfalse] at hcell
    simp only [Nat.mul_one, hcell, exB]
    refine ⟨by omega, by omega, ifF rfl ⟨by omega, by omega, o'.hb.set hkn fun v2 u2 hb2 => ?_⟩⟩
    have o2 := (o'.hold u2 hb2).like (H' := fun j => H j || decide (t ≤ (j : Int) ∧ (j : Int) < k + 1)) fun j hj => by
      by_cases hjk : j = k.toNat
      · subst hjk
        have : t ≤ (k.toNat : Int) ∧ (k.toNat : Int) < k + 1 := by omega
        simp only [decide_eq_true this, if_true, Bool.or_true, Bool.not_true, Bool.and_false]
      · have : (t ≤ (j : Int) ∧ (j : Int) < k + 1) ↔ (t ≤ (j : Int) ∧ (j : Int) < k) := by omega
        simp [hjk, this]
    rw [i64id (by omega) (by omega)]
    exact ⟨⟨by omega, by omega, o2, hq'.upd u2 (by simpa using hqr)⟩, by omega⟩
  · simp at hc
    obtain rfl : k = t + n := by omega
    exact hK v' o'

/-- All are let go. -/
theorem Let_ok {w v : World} {p : Option Addr} {d : PlD} {r q : Nat} {H : Nat → Bool} {lP p1 : Option Addr} {lN lC : Nat} {i t k1 n : Int} {Kx : World → Prop} (o : On w v p d r H) (hq : Blk v q #[.int .i64 k1, .int .i64 t, .int .i64 n]) (hqr : q ≠ r)
    (ht : 0 ≤ t) (hn : 1 ≤ n) (hlim : t + n ≤ 400)
    (hK : ∀ v', On w v' p d r (fun j => H j && !decide (t ≤ (j : Int) ∧ (j : Int) < t + n)) → Kx v') : F_law03_PoolOnce_L3 lP lN lC p1 ⟨r, 0, none⟩ i ⟨q, 0, none⟩ ⟨t⟩ v Kx := by
  unfold F_law03_PoolOnce_L3
  refine ⟨fun s v' => t ≤ s.k_1 ∧ s.k_1 ≤ t + n ∧ On w v' p d r (fun j => H j && !decide (t ≤ (j : Int) ∧ (j : Int) < s.k_1)) ∧ Blk v' q #[.int .i64 k1, .int .i64 t, .int .i64 n], fun s _ => (t + n - s.k_1).toNat, ⟨by simp, by simp; omega, o.like fun k hk => ?_, hq⟩, ?_⟩
  · have : ¬ (t ≤ (k : Int) ∧ (k : Int) < t) := by omega
    simp [this]
  rintro ⟨k⟩ v' ⟨hk0, hk1, o', hq'⟩
  dsimp only at hk0 hk1 o'
  unfold B_law03_PoolOnce_L3 F_law03_PoolOnce_k3
  dsimp only
  simp only [NN_some, addN, drw_cell, drw_heap, exS, exI, exB, exP, exM, exStr, exV, a0, a1, a2, a3, a4, a5, a6, a7, a8, a9, a10, a11, a12, a13, maxI_eq, Nat.zero_add, Nat.add_zero, Nat.mul_one, Option.isNone_some, Option.isNone_none, hq'.cell]
  rw [i64id (x := t + n) (by omega) (by omega)]
  refine ifC (fun hc => ?_) (fun hc => ?_)
  · simp at hc
    have hkn : k.toNat < 400 := by omega
    refine ifT (by simp; omega) (ifT (by simp; omega) ?_)
    try simp only [Nat.mul_one]
    refine ⟨by omega, by omega, o'.hb.set hkn fun v2 u2 hb2 => ?_⟩
    have o2 := (o'.hold u2 hb2).like (H' := fun j => H j && !decide (t ≤ (j : Int) ∧ (j : Int) < k + 1)) fun j hj => by
      by_cases hjk : j = k.toNat
      · subst hjk
        have : t ≤ (k.toNat : Int) ∧ (k.toNat : Int) < k + 1 := by omega
        simp only [decide_eq_true this, if_true, Bool.or_true, Bool.not_true, Bool.and_false]
      · have : (t ≤ (j : Int) ∧ (j : Int) < k + 1) ↔ (t ≤ (j : Int) ∧ (j : Int) < k) := by omega
        simp [hjk, this]
    rw [i64id (by omega) (by omega)]
    exact ⟨⟨by omega, by omega, o2, hq'.upd u2 (by simpa using hqr)⟩, by omega⟩
  · simp at hc
    obtain rfl : k = t + n := by omega
    exact hK v' o'

/-- All above are let go. -/
theorem Above_ok {w v : World} {p : Option Addr} {d : PlD} {r : Nat} {H : Nat → Bool} {lP p1 : Option Addr} {lN lC : Nat} {i t : Int} {Kx : World → Prop} (o : On w v p d r H) (ht : 0 ≤ t) (hlim : t ≤ 400)
    (hK : ∀ v', On w v' p d r (fun j => H j && decide ((j : Int) < t)) → Kx v') : F_law03_PoolOnce_L4 lP lN lC p1 ⟨r, 0, none⟩ i ⟨t⟩ v Kx := by
  unfold F_law03_PoolOnce_L4
  refine ⟨fun s v' => t ≤ s.k_2 ∧ s.k_2 ≤ 400 ∧ On w v' p d r (fun j => H j && !decide (t ≤ (j : Int) ∧ (j : Int) < s.k_2)), fun s _ => (400 - s.k_2).toNat, ⟨by simp, by simp; omega, o.like fun k hk => ?_⟩, ?_⟩
  · have : ¬ (t ≤ (k : Int) ∧ (k : Int) < t) := by omega
    simp [this]
  rintro ⟨k⟩ v' ⟨hk0, hk1, o'⟩
  dsimp only at hk0 hk1 o'
  unfold B_law03_PoolOnce_L4
  dsimp only
  refine ifC (fun hc => ?_) (fun hc => ?_)
  · simp at hc
    have hkn : k.toNat < 400 := by omega
    refine ifT (by simp; omega) ?_
    try simp only [NN_some, addN, drw_cell, drw_heap, exS, exI, exB, exP, exM, exStr, exV, a0, a1, a2, a3, a4, a5, a6, a7, a8, a9, a10, a11, a12, a13, maxI_eq, Nat.zero_add, Nat.add_zero, Nat.mul_one, Option.isNone_some, Option.isNone_none, Nat.mul_one]
    refine ⟨by omega, by omega, o'.hb.set hkn fun v2 u2 hb2 => ?_⟩
    have o2 := (o'.hold u2 hb2).like (H' := fun j => H j && !decide (t ≤ (j : Int) ∧ (j : Int) < k + 1)) fun j hj => by
      by_cases hjk : j = k.toNat
      · subst hjk
        have : t ≤ (k.toNat : Int) ∧ (k.toNat : Int) < k + 1 := by omega
        simp only [decide_eq_true this, if_true, Bool.or_true, Bool.not_true, Bool.and_false]
      · have : (t ≤ (j : Int) ∧ (j : Int) < k + 1) ↔ (t ≤ (j : Int) ∧ (j : Int) < k) := by omega
        simp [hjk, this]
    rw [i64id (by omega) (by omega)]
    exact ⟨⟨by omega, by omega, o2⟩, by omega⟩
  · simp at hc
    refine hK v' (o'.like fun j hj => ?_)
    by_cases hjt : (j : Int) < t
    · have : ¬ (t ≤ (j : Int) ∧ (j : Int) < k) := by omega
      simp [hjt, this]
    · have : (t ≤ (j : Int) ∧ (j : Int) < k) := by omega
      simp [hjt, this]

theorem PoolOnce_law {w : World} {p : Option Addr} {n c : Nat} {ls : List Value} (hl : Rd w 3 p n ls) (ho : Ops ls n) : C_law03_PoolOnce p n c w fun r w' => r = true ∧ Upd [] w w' := by
  apply C_law03_PoolOnce.of
  unfold F_law03_PoolOnce F_law03_PoolOnce_k1 F_law03_PoolOnce_L1
  refine New_ok (by omega) (by omega) fun w1 d h1 ok1 et1 el1 hL1 u1 n1 => lives_ok fun w2 u2 => ifF rfl (ifF rfl (ifF rfl ?_))
  have h2 := h1.keep u2
  have U2 := u1.after u2
  refine New_rule fun r w3 hr u3 hb3 => ?_
  have hb3 := HB.zero hb3 (by rfl)
  have h3 := h2.keep u3
  have hrF : r ∉ d.FT := fun hx => by have := h2.inn r hx; omega
  have o3 : On w w3 d.a d r fun _ => false := ⟨rfl, h3, ok1, el1, hb3, hrF, U2.after u3, n1, by have := U2.size; omega⟩
  have rel3 : Rel d fun _ => false := fun k hk => by rw [et1]; simp; omega
  refine ⟨fun s v => 0 ≤ s.i ∧ s.i ≤ 60 ∧ ∃ d' H, On w v d.a d' r H ∧ Rel d' H, fun s _ => (60 - s.i).toNat, ⟨by simp, by simp, d, _, o3, rel3⟩, ?_⟩
  rintro ⟨i⟩ v ⟨hi0, hi1, d', H, on, rel⟩
  dsimp only at hi0 hi1
  unfold B_law03_PoolOnce_L1 F_law03_PoolOnce_k2 F_law03_PoolOnce_k4
  dsimp only
  have ha := on.a
  rw [← ha]
  have ok := on.ok
  have hlen2 := ok.len
  have hlim := on.lim
  have htop := ok.top
  have htop0 := ok.top0
  -- the end
  have last : (F_law03_PoolOnce_L5 d'.a ⟨r, 0, none⟩ ⟨0⟩ v (fun w1_30 => true = true ∧ Upd [] w w1_30) fun t2_5 w1_31 => t2_5 = true ∧ Upd [] w w1_31) := by
    unfold F_law03_PoolOnce_L5
    refine ⟨fun s v' => 0 ≤ s.k_3 ∧ s.k_3 ≤ 400 ∧ Upd [] v v', fun s _ => (400 - s.k_3).toNat, ⟨by simp, by simp, Upd.refl _ _⟩, ?_⟩
    rintro ⟨k⟩ v' ⟨hk0, hk1, u⟩
    dsimp only at hk0 hk1
    unfold B_law03_PoolOnce_L5 F_law03_PoolOnce_k5
    dsimp only
    refine ifC (fun hc => ?_) (fun _ => ⟨rfl, on.U.after u⟩)
    simp at hc
    have o1 := (on.keep u).keep (drw_upd v')
    have hkn : k.toNat < 400 := by omega
    have hcell := o1.hb.cell hkn
    simp only [addN, Nat.zero_add, Nat.mul_one, hcell, exB]
    refine ⟨hk0, by omega, Top_ok o1.pl ok.ne ⟨hcell, ?_⟩⟩
    have hr := rel k.toNat hkn
    rw [show ((k.toNat : Nat) : Int) = k by omega] at hr
    have step : ∀ v2, Upd [] v v2 → (0 ≤ IntKind.i64.wrap (k + 1) ∧ IntKind.i64.wrap (k + 1) ≤ 400 ∧ Upd [] v v2) ∧ (400 - IntKind.i64.wrap (k + 1)).toNat < (400 - k).toNat := fun v2 u2 => by
      rw [i64id (by omega) (by omega)]; exact ⟨⟨by omega, by omega, u2⟩, by omega⟩
    refine ifC (fun hc2 => ?_) (fun hc2 => ?_)
    · have hc2 : d'.top ≤ k := by simpa using hc2
      refine ifF ?_ (step _ (u.after (drw_upd v')))
      have : H k.toNat = false := by
        cases hH : H k.toNat with
        | false => rfl
        | true => have := (hr.1 hH).1; omega
      rw [this]; rfl
    · have hc2 : k < d'.top := by simpa using hc2
      refine Free_ok o1.pl ok fun b v2 hb u2 => ⟨?_, ifF ?_ (step _ ((u.after (drw_upd v')).after u2))⟩
      · exact (o1.hb.keep u2).cell hkn
      · cases hH : H k.toNat with
        | false =>
          cases b with
          | true => rfl
          | false =>
            have : ¬ ¬ freeP d' k := fun hf => by
              have := hr.2 ⟨hc2, hf⟩; rw [hH] at this; cases this
            have : freeP d' k := Classical.byContradiction this
            have := hb.2 ⟨hk0, hc2, this⟩; cases this
        | true =>
          cases b with
          | false => rfl
          | true => exact absurd (hb.1 rfl).2.2 (hr.1 hH).2
  refine ifC (fun hc => ifC (fun hc2 => ?_) (fun _ => last)) (fun _ => last)
  clear last
  simp at hc hc2
  obtain ⟨x, o, hx, ok1, ok2, ok3, hcell⟩ := Ops.get hl ho (i := i.toNat) (by omega)
  subst hx
  obtain ⟨c0, c1, c2⟩ := hcell v (hl.keep on.U)
  simp only [NN_some, addN, drw_cell, drw_heap, exS, exI, exB, exP, exM, exStr, exV, a0, a1, a2, a3, a4, a5, a6, a7, a8, a9, a10, a11, a12, a13, maxI_eq, Nat.zero_add, Nat.add_zero, Nat.mul_one, Option.isNone_some, Option.isNone_none, drw_cell, addA, c0, c1, c2]
  refine ⟨hi0, hc, New_rule fun q w4 hq u4 hb4 => ?_⟩
  refine St_acc (Upd.refl _ _) hb4 (by simp) rfl fun w5 u5 hb5 => St_acc u5 hb5 (by simp) rfl fun w6 u6 hb6 => St_acc u6 hb6 (by simp) rfl fun w7 u7 hb7 => ?_
  simp at hb7
  have V7 : Upd [] v w7 := u4.fresh u7 (by intro x hx; simp at hx; omega)
  have o7 := on.keep V7
  have hqr : q ≠ r := by have := on.hb.lt; omega
  have hqF : q ∉ d'.FT := fun hx => by have := on.pl.inn q hx; omega
  simp only [NN_some, addN, drw_cell, drw_heap, exS, exI, exB, exP, exM, exStr, exV, a0, a1, a2, a3, a4, a5, a6, a7, a8, a9, a10, a11, a12, a13, maxI_eq, Nat.zero_add, Nat.add_zero, Nat.mul_one, Option.isNone_some, Option.isNone_none, hb7.cell]
  -- behind a call
  have fin : ∀ {w8 : World} {d8 : PlD} {H8 : Nat → Bool}, On w w8 d.a d8 r H8 → Rel d8 H8 → (0 ≤ IntKind.i64.wrap (i + 1) ∧ IntKind.i64.wrap (i + 1) ≤ 60 ∧ ∃ d'' H, On w w8 d'.a d'' r H ∧ Rel d'' H) ∧ (60 - IntKind.i64.wrap (i + 1)).toNat < (60 - i).toNat := by
    intro w8 d8 H8 o8 r8
    rw [i64id (by omega) (by omega), ha]
    exact ⟨⟨by omega, by omega, d8, H8, o8, r8⟩, by omega⟩
  have hne := ok.ne
  obtain ⟨s, hse⟩ : ∃ s, s + 1 = d'.L.length := ⟨d'.L.length - 1, by omega⟩
  have hs : s < d'.L.length := by omega
  refine ifC (fun hk => ?_) (fun hk => ifC (fun hk => ?_) (fun hk => ifC (fun hk => ?_) (fun hk => ifC (fun hk => ?_) (fun hk => ifC (fun hk => ?_) (fun hk => fin o7 rel)))))
  · -- taken
    have rest : ∀ {t : Int} {w8 : World} {d8 : PlD}, Pl w8 d8 → Tk d' d8 t o.n → Upd d'.FT w7 w8 → Sub d8.FT d'.FT w7 → ∀ (KX : World → Prop), (∀ v' H8, On w v' d.a d8 r H8 → Rel d8 H8 → KX v') → ∀ (Kf : World → Prop) (KR : Bool → World → Prop),
        C_pool_Pool_Starts d'.a w8 fun t57P t57N t57C w1_9 =>
          If (decide (t < 0)) (Kf w1_9) (∃ N_1 : Int, w1_9.cell? ⟨q, 2, none⟩ = some (.int .i64 N_1) ∧
            If (decide (N_1 > IntKind.i64.wrap (400 - t))) (Kf w1_9)
              (If ((t57N : Int) == 0) (Kf w1_9)
                (0 ≤ IntKind.i64.wrap ((t57N : Int) - 1) ∧ IntKind.i64.wrap ((t57N : Int) - 1) < (t57N : Int) ∧ NN t57P fun a_1 => ∃ t79 : Int, w1_9.cell? (a_1.add (IntKind.i64.wrap ((t57N : Int) - 1)).toNat) = some (.int .i64 t79) ∧
                  If (decide (t < t79)) (Kf w1_9) (F_law03_PoolOnce_L2 (some x) n c d'.a ⟨r, 0, none⟩ i ⟨q, 0, none⟩ t ⟨t⟩ w1_9 KX KR)))) := by
      intro t w8 d8 h8 t8 u8 s8 KX hKX Kf KR
      have o8 := o7.next h8 t8.ok t8.a t8.limit u8 s8
      have hln : d8.L.length = d'.L.length := by have := congrArg List.length t8.starts; simpa using this
      have e8 := o8.lim
      have e9 := t8.ok.top
      have h1 := t8.hi
      have h2 := t8.pos
      have h3 := t8.one
      rw [← t8.a]
      refine Starts_ok h8 t8.ok fun p9 n9 c9 F9 w9 hs9 u9 f9 => ?_
      have hn9 : n9 = d'.L.length := by have := hs9.1; simp at this; omega
      have hq9 := (hb7.upd u8 hqF).upd u9 (by simp)
      have o9 := o8.keep u9
      refine ifF (by simp; omega) ?_
      simp only [hq9.cell]
      refine ⟨o.n, rfl, ?_⟩
      rw [i64id (x := 400 - t) (by omega) (by omega), i64id (x := (n9 : Int) - 1) (by omega) (by omega)]
      refine ifF (by simp; omega) (ifF (by simp; omega) ⟨by omega, by omega, ?_⟩)
      obtain ⟨y, hy, hcy⟩ := hs9.rd.at (i := s) (by omega)
      have hsl : s < d8.L.length := by omega
      rw [List.getElem?_map, List.getElem?_map, List.getElem?_eq_getElem hsl] at hcy
      simp only [Option.map_some] at hcy
      have es : ((n9 : Int) - 1).toNat = s := by omega
      simp only [hy, NN_some, es, Nat.mul_one, hcy, exI]
      have hlo : d8.L[s].start ≤ t := by
        have : (d8.L.map (·.start))[s]? = (d'.L.map (·.start))[s]? := by rw [t8.starts]
        rw [List.getElem?_map, List.getElem?_map, List.getElem?_eq_getElem hsl, List.getElem?_eq_getElem hs] at this
        simp at this
        rw [this]; exact t8.lo _ (List.getElem_mem hs)
      refine ifF (by simp; omega) ?_
      refine Note_ok o9 hq9 hqr h2 h3 (by omega) (fun k hk1 hk2 => ?_) fun v' o' => hKX v' _ o' fun k hk => ?_
      · cases hH : H k with
        | false => rfl
        | true =>
          obtain ⟨h5, h6⟩ := (rel k (by omega)).1 hH
          exact absurd (t8.was k hk1 hk2 h5) h6
      · have hr := rel k hk
        have hf := t8.free k
        simp only [Bool.or_eq_true, decide_eq_true_eq]
        rw [hr, hf]
        have ht8 := t8.top
        constructor
        · rintro (⟨a, b⟩ | a)
          · exact ⟨by omega, fun hx => b hx.1⟩
          · exact ⟨by omega, fun hx => hx.2 a⟩
        · rintro ⟨a, b⟩
          by_cases hin : t ≤ (k : Int) ∧ (k : Int) < t + o.n
          · exact .inr hin
          · refine .inl ⟨?_, fun hx => b ⟨hx, hin⟩⟩
            omega
    refine Take6 o7.pl ok ok3 hs hse (fun _ w8 h8 u8 => ifT rfl (fin (o7.keep u8) rel)) (fun j hj hjl w8 d8 h8 t8 et u8 s8 => ifF rfl ?_) (fun _ _ _ w8 h8 u8 => ifT rfl (fin (o7.keep u8) rel)) (fun hf w8 d8 h8 t8 et u8 s8 => ifF rfl ?_)
    · exact rest h8 t8 u8 s8 _ (fun v' H8 o' r' => fin o' r') (fun w' => false = true ∧ Upd [] w w') (fun r w' => r = true ∧ Upd [] w w')
    · exact rest h8 t8 u8 s8 _ (fun v' H8 o' r' => fin o' r') (fun w' => false = true ∧ Upd [] w w') (fun r w' => r = true ∧ Upd [] w w')
  · -- given back
    refine Give6 o7.pl ok ok3 (fun _ w8 h8 u8 => ifF rfl (fin (o7.keep u8) rel)) (fun a ha w8 d8 h8 g8 u8 s8 => ifT rfl ?_)
    have o8 := o7.next h8 g8.ok g8.a g8.limit u8 s8
    have hq8 := hb7.upd u8 hqF
    have h1 := g8.pos
    simp only [NN_some, addN, drw_cell, drw_heap, exS, exI, exB, exP, exM, exStr, exV, a0, a1, a2, a3, a4, a5, a6, a7, a8, a9, a10, a11, a12, a13, maxI_eq, Nat.zero_add, Nat.add_zero, Nat.mul_one, Option.isNone_some, Option.isNone_none, hq8.cell]
    refine Let_ok o8 hq8 hqr (by omega) (by omega) (by omega) fun v' o' => fin o' fun k hk => ?_
    have hr := rel k hk
    have hf := g8.free k
    simp only [Bool.and_eq_true, Bool.not_eq_true', decide_eq_false_iff_not]
    rw [hr, hf, g8.top]
    constructor
    · rintro ⟨⟨a, b⟩, c⟩
      exact ⟨a, fun hx => hx.elim b c⟩
    · rintro ⟨a, b⟩
      exact ⟨⟨a, fun hx => b (.inl hx)⟩, fun hx => b (.inr hx)⟩
  · -- opened
    refine Open6 o7.pl ok (fun _ w8 h8 u8 => fin (o7.keep u8) rel) fun _ w8 d8 h8 g8 e8 u8 s8 => fin (o7.next h8 g8.ok g8.a g8.limit u8 s8) fun k hk => ?_
    rw [rel k hk, g8.top, g8.free]
  · -- closed
    refine Close6 o7.pl ok (fun _ w8 h8 u8 => fin (o7.keep u8) rel) fun a hs' hs2 w8 d8 h8 g8 e8 u8 s8 => fin (o7.next h8 g8.ok g8.a g8.limit u8 s8) fun k hk => ?_
    rw [rel k hk, g8.top, g8.free]
  · -- back
    refine Back6 o7.pl ok hs hse fun w8 d8 h8 ok8 a8' et8 el8 es8 ef8 u8 s8 => ?_
    have o8 := o7.next h8 ok8 a8' el8 u8 s8
    have h1 := ok8.top
    have h2 := ok8.top0
    have h3 := o8.lim
    have h4 := ok.le _ (List.getElem_mem hs)
    rw [← a8']
    refine Top_ok h8 ok8.ne (Above_ok o8 h2 (by omega) fun v' o' => ?_)
    rw [a8']
    refine fin o' fun k hk => ?_
    rw [Bool.and_eq_true, decide_eq_true_eq, rel k hk, ef8, et8]
    constructor
    · rintro ⟨⟨a, b⟩, c⟩
      exact ⟨c, fun hx => b hx.1⟩
    · rintro ⟨a, b⟩
      exact ⟨⟨by omega, fun hx => b ⟨hx, a⟩⟩, a⟩

end Go.Proofs.Ytcgnligpjfhjlaa
