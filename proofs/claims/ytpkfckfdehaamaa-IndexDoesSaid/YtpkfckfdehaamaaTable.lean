/- A table of entries in memory; what it tells. -/
import Derived.Test.YtpkfckfdehaamaaRow2
namespace Go.Proofs.Ytpkfckfdehaamaa
open Go Go.D Go.Proofs
set_option linter.unusedSimpArgs false
set_option linter.unusedVariables false
set_option maxRecDepth 8000

abbrev Key := Int × ByteArray × Int

def kcs (k : Key) : List Value := [.int .i64 k.1, .string k.2.1, .int .i64 k.2.2]
def kV (k : Key) : Value := .agg #[.int .i64 k.1, .string k.2.1, .int .i64 k.2.2]
def zk : Key := (0, ⟨#[]⟩, 0)

theorem keyKey : KeyOf Try.prog 26 kV := by
  refine keyStruct kcs 3 (fun k => rfl) (fun k => rfl) ?_ (by kernel_rfl) (by kernel_rfl) (by kernel_rfl) ?_ ?_
  · rintro ⟨a, b, c⟩ ⟨a', b', c'⟩ h
    simp [kcs] at h
    simp [h]
  · rintro ⟨a, b, c⟩ ⟨a', b', c'⟩
    exact ⟨by decide, rfl, leaf_int (by rfl) _ _, by decide, rfl, leaf_string (by rfl) _ _, by decide, rfl, leaf_int (by rfl) _ _, trivial⟩
  · intro k v hv n
    simp [kcs] at hv
    rcases hv with rfl | rfl | rfl <;> simp [Instr.sameBits, bytesEq]

theorem keyId : KeyOf Try.prog 3 (fun a : Int => Value.int .i64 a) := keyInt (by rfl)

/-- An entry. -/
structure En where
  rank : Int
  id : Int
  key : Key

def rk (e : En) : Int × Int := (e.rank, e.id)
def spotV (e : En) : Value := .agg #[.int .i64 e.key.1, .string e.key.2.1, .int .i64 e.key.2.2, .int .i64 e.rank]

theorem findCongr {α : Type} {l : List α} {p q : α → Bool} (h : ∀ a ∈ l, p a = q a) : l.find? p = l.find? q := by
  induction l with
  | nil => rfl
  | cons a l ih => rw [List.find?_cons, List.find?_cons, h a (by simp), ih fun x hx => h x (by simp [hx])]

/-- Those of a key. -/
def ofKey (k : Key) (E : List En) : List En := E.filter fun e => decide (e.key = k)

structure TbD where
  b : Nat
  r : Nat
  m : Nat
  ap : Option Addr
  an : Nat
  ac : Nat
  first : Int
  last : Int
  E : List En
  RM : List (Key × Value)
  AM : List (Int × Value)
  G : List Nat
  F : Key → List Nat
  FT : List Nat

def TbD.a (d : TbD) : Option Addr := some ⟨d.b, 0, none⟩

structure Tb (w : World) (d : TbD) : Prop where
  blk : Blk w d.b #[.map (some d.r), .slice d.ap d.an d.ac, .map (some d.m), .int .i64 d.first, .int .i64 d.last]
  rmap : MapAt w d.r kV d.RM
  ron : Once d.RM
  amap : MapAt w d.m (fun a : Int => Value.int .i64 a) d.AM
  aon : Once d.AM
  all : RowAt w d.ap d.an d.ac (d.E.map rk) d.G
  rows : ∀ k, ∃ p n c, (Go.D.look k d.RM).getD (.slice none 0 0) = .slice p n c ∧ RowAt w p n c ((ofKey k d.E).map rk) (d.F k)
  spots : ∀ id : Int, Go.D.look id d.AM = (d.E.find? fun e => decide (e.id = id)).map spotV
  br : d.b ≠ d.r
  bm : d.b ≠ d.m
  rm : d.r ≠ d.m
  bG : d.b ∉ d.G
  rG : d.r ∉ d.G
  mG : d.m ∉ d.G
  bF : ∀ k, d.b ∉ d.F k
  rF : ∀ k, d.r ∉ d.F k
  mF : ∀ k, d.m ∉ d.F k
  GF : ∀ k, Dis d.G (d.F k)
  FF : ∀ k k', k ≠ k' → Dis (d.F k) (d.F k')
  ib : d.b ∈ d.FT
  ir : d.r ∈ d.FT
  im : d.m ∈ d.FT
  iG : ∀ x ∈ d.G, x ∈ d.FT
  iF : ∀ k, ∀ x ∈ d.F k, x ∈ d.FT
  inn : In d.FT w

/-- A table as it should be. -/
structure TbOk (d : TbD) (B : Int) : Prop where
  rising : d.E.Pairwise fun a b => a.rank < b.rank
  ids : (d.E.map (·.id)).Nodup
  norm : ∀ e ∈ d.E, e.key.1 = 0 → e.key = zk
  lo : ∀ e ∈ d.E, d.first ≤ e.rank
  hi : ∀ e ∈ d.E, e.rank ≤ d.last
  b0 : -B ≤ d.first
  b1 : d.first ≤ d.last
  b2 : d.last ≤ B
  len : d.E.length ≤ 4096

theorem Tb.upd {w w' : World} {d : TbD} {X : List Nat} (h : Tb w d) (u : Upd X w w') (hd : Dis d.FT X) : Tb w' d where
  blk := h.blk.upd u (hd _ h.ib)
  rmap := h.rmap.upd u (hd _ h.ir)
  ron := h.ron
  amap := h.amap.upd u (hd _ h.im)
  aon := h.aon
  all := SlAt.upd h.all u fun k hk => hd k (h.iG k hk)
  rows := fun k => by
    obtain ⟨p, n, c, h1, h2⟩ := h.rows k
    exact ⟨p, n, c, h1, SlAt.upd h2 u fun x hx => hd x (h.iF k x hx)⟩
  spots := h.spots
  br := h.br
  bm := h.bm
  rm := h.rm
  bG := h.bG
  rG := h.rG
  mG := h.mG
  bF := h.bF
  rF := h.rF
  mF := h.mF
  GF := h.GF
  FF := h.FF
  ib := h.ib
  ir := h.ir
  im := h.im
  iG := h.iG
  iF := h.iF
  inn := h.inn.upd u

theorem Tb.keep {w w' : World} {d : TbD} (h : Tb w d) (u : Upd [] w w') : Tb w' d := h.upd u (by intro k _ h; cases h)

/-! ## Plain -/

theorem rising_map {E : List En} (h : E.Pairwise fun a b => a.rank < b.rank) : Rising (E.map rk) := List.pairwise_map.2 h
theorem rising_key {E : List En} (h : E.Pairwise fun a b => a.rank < b.rank) (k : Key) : Rising ((ofKey k E).map rk) := rising_map (h.filter _)

def meets (k' k : Key) : Bool := decide (k'.1 = 0) || decide (k.1 = 0) || decide (k' = k)

/-- The first one behind a rank whose key meets another one. -/
def nextE (E : List En) (rank : Int) (k : Key) : Option En := E.find? fun e => decide (rank < e.rank) && meets e.key k

theorem behindR_map (E : List En) (rank : Int) : behindR (E.map rk) rank = (E.find? fun e => decide (rank < e.rank)).map rk := by
  unfold behindR
  rw [List.find?_map]; rfl

theorem find_or {E : List En} (h : E.Pairwise fun a b => a.rank < b.rank) (p q : En → Bool) (hpq : ∀ e, ¬ (p e = true ∧ q e = true)) :
    E.find? (fun e => p e || q e) = match E.find? p, E.find? q with
      | none, b => b
      | some x, none => some x
      | some x, some y => if y.rank < x.rank then some y else some x := by
  induction E with
  | nil => rfl
  | cons e E ih =>
    rw [List.pairwise_cons] at h
    rw [List.find?_cons, List.find?_cons, List.find?_cons]
    cases hp : p e with
    | true =>
      have hq : q e = false := by cases hq : q e; rfl; exact absurd ⟨hp, hq⟩ (hpq e)
      simp only [hq, Bool.or_false]
      rcases hf : E.find? q with _ | y
      · rfl
      · have := h.1 y (List.mem_of_find?_eq_some hf)
        simp only
        rw [if_neg (by omega)]
    | false =>
      cases hq : q e with
      | true =>
        simp only [Bool.or_true]
        rcases hf : E.find? p with _ | x
        · rfl
        · have := h.1 x (List.mem_of_find?_eq_some hf)
          simp only
          rw [if_pos (by omega)]
      | false =>
        simp only [Bool.or_self]
        exact ih h.2

theorem nextE_two {E : List En} (h : E.Pairwise fun a b => a.rank < b.rank) (hn : ∀ e ∈ E, e.key.1 = 0 → e.key = zk) {rank : Int} {k : Key} (hk : k.1 ≠ 0) :
    nextE E rank k = match (ofKey k E).find? (fun e => decide (rank < e.rank)), (ofKey zk E).find? (fun e => decide (rank < e.rank)) with
      | none, b => b
      | some x, none => some x
      | some x, some y => if y.rank < x.rank then some y else some x := by
  unfold ofKey
  rw [List.find?_filter, List.find?_filter, ← find_or h]
  · unfold nextE
    apply findCongr
    intro e he
    unfold meets
    have hz := hn e he
    by_cases h0 : e.key.1 = 0
    · have := hz h0
      have hzk : ¬ zk = k := by rintro rfl; exact hk rfl
      simp [this, hzk, hk, zk]
    · have hzk : ¬ e.key = zk := by intro h; rw [h] at h0; exact h0 rfl
      simp only [h0, hk, hzk, decide_false, Bool.false_or, Bool.false_and, Bool.or_false]
      by_cases h1 : e.key = k <;> by_cases h2 : rank < e.rank <;> simp [h1, h2]
  · rintro e ⟨h1, h2⟩
    simp at h1 h2
    have : k = zk := h1.1.symm.trans h2.1
    rw [this] at hk; exact hk rfl

section
variable {w : World} {d : TbD} {B : Int}

theorem Tb.an (h : Tb w d) : d.an = d.E.length := by have := RowAt.len h.all; simpa using this

theorem ofKey_len (k : Key) (E : List En) : (ofKey k E).length ≤ E.length := List.length_filter_le _ _

theorem made_ok {K : Bool → World → Prop} (h : Tb w d) (hK : K true w) : C_index_Table_made d.a w K := by
  apply C_index_Table_made.of
  unfold F_index_Table_made TbD.a
  refine ifT rfl ?_
  simp only [NN_some, addN, drw_cell, drw_heap, exS, exI, exB, exP, exM, exStr, exV, a0, a1, a2, a3, a4, a5, a6, a7, a8, a9, a10, a11, a12, a13, maxI_eq, Nat.zero_add, Nat.add_zero, Nat.mul_one, Option.isNone_some, Option.isNone_none, h.blk.cell]
  exact hK

theorem made_no {K : Bool → World → Prop} (hK : K false w) : C_index_Table_made none w K := by
  apply C_index_Table_made.of
  unfold F_index_Table_made
  exact ifF rfl hK

theorem Len_ok {K : Int → World → Prop} (h : Tb w d) (hK : K d.E.length w) : C_index_Table_Len d.a w K := by
  apply C_index_Table_Len.of
  unfold F_index_Table_Len
  refine made_ok h (ifF rfl ?_)
  unfold TbD.a
  simp only [NN_some, addN, drw_cell, drw_heap, exS, exI, exB, exP, exM, exStr, exV, a0, a1, a2, a3, a4, a5, a6, a7, a8, a9, a10, a11, a12, a13, maxI_eq, Nat.zero_add, Nat.add_zero, Nat.mul_one, Option.isNone_some, Option.isNone_none, h.blk.cell]
  rw [h.an]; exact hK

theorem behind_ok {rank : Int} {k : Key} {K : Int → Bool → World → Prop} (h : Tb w d) (ok : TbOk d B) (h0 : -2 ^ 62 ≤ rank) (h1 : rank < 2 ^ 62)
    (hK : ∀ w', Upd [] w w' → K (((nextE d.E rank k).map (·.id)).getD 0) (nextE d.E rank k).isSome w') : C_index_Table_behind d.a rank k.1 k.2.1 k.2.2 w K := by
  apply C_index_Table_behind.of
  unfold F_index_Table_behind
  have hlen := ok.len
  refine New_rule fun r w1 hr u1 hb1 => ?_
  have t1 := h.keep u1
  simp only [TbD.a, NN_some, addN, drw_cell, drw_heap, exS, exI, exB, exP, exM, exStr, exV, a0, a1, a2, a3, a4, a5, a6, a7, a8, a9, a10, a11, a12, a13, maxI_eq, Nat.zero_add, Nat.add_zero, Nat.mul_one, Option.isNone_some, Option.isNone_none, hb1.cell, t1.blk.cell]
  refine ifC (fun hc => ?_) (fun hc => ?_)
  · simp at hc
    have he : nextE d.E rank k = d.E.find? fun e => decide (rank < e.rank) := by
      unfold nextE; apply findCongr; intro e _; simp [meets, hc]
    refine after_ok t1.all (rising_map ok.rising) (by rw [List.length_map]; omega) h0 h1 fun w2 u2 => ?_
    refine New_rule fun r1 w3 hr1 u3 hb3 => ?_
    refine St_acc (Upd.refl _ _) hb3 (by simp) rfl fun w4 u4 hb4 => St_acc u4 hb4 (by simp) rfl fun w5 u5 hb5 => ?_
    simp at hb5
    simp only [NN_some, addN, drw_cell, drw_heap, exS, exI, exB, exP, exM, exStr, exV, a0, a1, a2, a3, a4, a5, a6, a7, a8, a9, a10, a11, a12, a13, maxI_eq, Nat.zero_add, Nat.add_zero, Nat.mul_one, Option.isNone_some, Option.isNone_none, hb5.cell]
    have := hK w5 (((u1.after u2).after u3).fresh u5 (by intro k hk; simp at hk; have := u1.size; have := u2.size; omega))
    rw [he] at this
    rw [behindR_map]
    rcases hf : d.E.find? (fun e => decide (rank < e.rank)) with _ | e
    · rw [hf] at this ⊢; exact this
    · rw [hf] at this ⊢; exact this
  · simp at hc
    have hk0 : k.1 ≠ 0 := hc
    -- what comes of the second row
    have second : ∀ (wa : World) (q : Nat) (x y : Int) (is : Bool), Upd [] w wa → Blk wa q #[.int .i64 x, .int .i64 y] → x = ((((ofKey k d.E).find? fun e => decide (rank < e.rank)).map rk).getD (0, 0)).1 → y = ((((ofKey k d.E).find? fun e => decide (rank < e.rank)).map rk).getD (0, 0)).2 → is = (((ofKey k d.E).find? fun e => decide (rank < e.rank)).map rk).isSome →
        F_index_Table_behind_k2 d.a rank K ⟨q, 0, none⟩ is wa := by
      intro wa q x y is ua hbq hx hy his
      unfold F_index_Table_behind_k2 F_index_Table_behind_k1
      have ta := h.keep ua
      simp only [TbD.a, NN_some, addN, drw_cell, drw_heap, exS, exI, exB, exP, exM, exStr, exV, a0, a1, a2, a3, a4, a5, a6, a7, a8, a9, a10, a11, a12, a13, maxI_eq, Nat.zero_add, Nat.add_zero, Nat.mul_one, Option.isNone_some, Option.isNone_none, ta.blk.cell]
      refine Lookup_rule (κ := Key) (kt := 26) (et := 58) (inj := kV) (z := .slice none 0 0) (k := zk) keyKey (by rfl) ⟨_, rfl, rfl⟩ ta.rmap ?_
      obtain ⟨p, n, c, hl, hrow⟩ := ta.rows zk
      refine ⟨p, n, c, hl, ?_⟩
      refine after_ok hrow (rising_key ok.rising zk) (by rw [List.length_map]; have := ofKey_len zk d.E; omega) h0 h1 fun wb ub => ?_
      refine New_rule fun r1 wc hr1 uc hbc => ?_
      refine St_acc (Upd.refl _ _) hbc (by simp) rfl fun wd ud hbd => St_acc ud hbd (by simp) rfl fun we ue hbe => ?_
      simp at hbe
      have hsz := hbq.lt
      have hne : q ≠ r1 := by have := ub.size; omega
      have hbqe := ((hbq.upd ub (by simp)).upd uc (by simp)).upd ue (by simpa using hne)
      simp only [NN_some, addN, drw_cell, drw_heap, exS, exI, exB, exP, exM, exStr, exV, a0, a1, a2, a3, a4, a5, a6, a7, a8, a9, a10, a11, a12, a13, maxI_eq, Nat.zero_add, Nat.add_zero, Nat.mul_one, Option.isNone_some, Option.isNone_none, hbe.cell, hbqe.cell]
      have hfin := hK we (((ua.after ub).after uc).fresh ue (by intro k hk; simp at hk; have := ua.size; have := ub.size; omega))
      rw [nextE_two ok.rising ok.norm hk0] at hfin
      rw [behindR_map]
      subst hx hy his
      rcases ha : (ofKey k d.E).find? (fun e => decide (rank < e.rank)) with _ | a
      · rw [ha] at hfin ⊢
        refine ifT rfl ?_
        rcases hb : (ofKey zk d.E).find? (fun e => decide (rank < e.rank)) with _ | b
        · rw [hb] at hfin ⊢; exact hfin
        · rw [hb] at hfin ⊢; exact hfin
      · rw [ha] at hfin ⊢
        refine ifF rfl ?_
        rcases hb : (ofKey zk d.E).find? (fun e => decide (rank < e.rank)) with _ | b
        · rw [hb] at hfin ⊢
          exact ifF rfl hfin
        · rw [hb] at hfin ⊢
          refine ifT rfl (ifC (fun hlt => ?_) (fun hlt => ?_))
          · have hlt : b.rank < a.rank := of_decide_eq_true hlt
            simp only at hfin
            rw [if_pos hlt] at hfin; exact hfin
          · have hlt : ¬ b.rank < a.rank := of_decide_eq_false hlt
            simp only at hfin
            rw [if_neg hlt] at hfin; exact hfin
    obtain ⟨p, n, c, hl, hrow⟩ := h.rows k
    have hle : ((ofKey k d.E).map rk).length ≤ 2 ^ 30 := by rw [List.length_map]; have := ofKey_len k d.E; omega
    refine ⟨?_, ?_⟩
    · refine Lookup_rule (κ := Key) (kt := 26) (et := 58) (inj := kV) (z := .slice none 0 0) (k := k) keyKey (by rfl) ⟨_, rfl, rfl⟩ (t1.keep (drw_upd w1)).rmap ?_
      refine ⟨p, n, c, hl, ?_, ?_⟩
      · refine after_ok (SlAt.drw (SlAt.upd hrow u1 (by intro k _ h; cases h))) (rising_key ok.rising k) hle h0 h1 fun w2 u2 => ?_
        rw [behindR_map]
        refine New_rule fun r1 w3 hr1 u3 hb3 => ?_
        refine St_acc (Upd.refl _ _) hb3 (by simp) rfl fun w4 u4 hb4 => St_acc u4 hb4 (by simp) rfl fun w5 u5 hb5 => ?_
        simp at hb5
        exact second w5 r1 _ _ _ (((((u1.after (drw_upd w1)).after u2).after u3)).fresh u5 (by intro x hx; simp at hx; have h5 : w1.heap.size ≤ w2.heap.size := u2.size; have := u1.size; omega)) hb5 rfl rfl rfl
      · refine New_rule fun r1 w3 hr1 u3 hb3 => ?_
        refine after_ok (SlAt.upd (SlAt.drw (SlAt.upd hrow u1 (by intro k _ h; cases h))) u3 (by intro k _ h; cases h)) (rising_key ok.rising k) hle h0 h1 fun w2 u2 => ?_
        rw [behindR_map]
        refine St_acc (Upd.refl _ _) (hb3.upd u2 (by simp)) (by simp) rfl fun w4 u4 hb4 => St_acc u4 hb4 (by simp) rfl fun w5 u5 hb5 => ?_
        simp at hb5
        exact second w5 r1 _ _ _ (((((u1.after (drw_upd w1)).after u3).after u2)).fresh u5 (by intro x hx; simp at hx; have h5 : r1 = w1.heap.size := hr1; have := u1.size; omega)) hb5 rfl rfl rfl
    · refine New_rule fun r1 w3 hr1 u3 hb3 => ?_
      have hb1' := hb1.drw.upd u3 (by simp)
      have t3 := (t1.keep (drw_upd w1)).keep u3
      simp only [NN_some, addN, drw_cell, drw_heap, exS, exI, exB, exP, exM, exStr, exV, a0, a1, a2, a3, a4, a5, a6, a7, a8, a9, a10, a11, a12, a13, maxI_eq, Nat.zero_add, Nat.add_zero, Nat.mul_one, Option.isNone_some, Option.isNone_none, hb1'.cell, hb1.cell, t3.blk.cell, t1.blk.cell]
      refine ⟨fun i hi => trivial, trivial, ?_⟩
      refine Lookup_rule (κ := Key) (kt := 26) (et := 58) (inj := kV) (z := .slice none 0 0) (k := k) keyKey (by rfl) ⟨_, rfl, rfl⟩ t3.rmap ?_
      refine ⟨p, n, c, hl, ?_⟩
      refine after_ok (SlAt.upd (SlAt.drw (SlAt.upd hrow u1 (by intro k _ h; cases h))) u3 (by intro k _ h; cases h)) (rising_key ok.rising k) hle h0 h1 fun w2 u2 => ?_
      rw [behindR_map]
      refine St_acc (Upd.refl _ _) (hb3.upd u2 (by simp)) (by simp) rfl fun w4 u4 hb4 => St_acc u4 hb4 (by simp) rfl fun w5 u5 hb5 => ?_
      simp at hb5
      exact second w5 r1 _ _ _ (((((u1.after (drw_upd w1)).after u3).after u2)).fresh u5 (by intro x hx; simp at hx; have h5 : r1 = w1.heap.size := hr1; have := u1.size; omega)) hb5 rfl rfl rfl

theorem Head_ok {k : Key} {K : Int → Bool → World → Prop} (h : Tb w d) (ok : TbOk d B) (hB : B < 2 ^ 60) (hK : ∀ w', Upd [] w w' → K (((d.E.find? fun e => meets e.key k).map (·.id)).getD 0) (d.E.find? fun e => meets e.key k).isSome w') : C_index_Table_Head d.a k.1 k.2.1 k.2.2 w K := by
  apply C_index_Table_Head.of
  unfold F_index_Table_Head
  refine New_rule fun r w1 hr u1 hb1 => ?_
  have t1 := h.keep u1
  refine made_ok t1 (ifF rfl ?_)
  have hb0 := ok.b0
  have hb1' := ok.b1
  have hb2 := ok.b2
  have e : nextE d.E (d.first - 1) k = d.E.find? fun e => meets e.key k := by
    unfold nextE; apply findCongr; intro e he; have := ok.lo e he
    have : d.first - 1 < e.rank := by omega
    simp [this]
  have hbh := @behind_ok (drw w1) d B (d.first - 1) k K (t1.keep (drw_upd w1)) ok (by omega) (by omega) fun w2 u2 => by rw [e]; exact hK w2 ((u1.after (drw_upd w1)).after u2)
  simp only [TbD.a, NN_some, addN, drw_cell, drw_heap, exS, exI, exB, exP, exM, exStr, exV, a0, a1, a2, a3, a4, a5, a6, a7, a8, a9, a10, a11, a12, a13, maxI_eq, Nat.zero_add, Nat.add_zero, Nat.mul_one, Option.isNone_some, Option.isNone_none, hb1.cell, t1.blk.cell]
  rw [i64id (by omega) (by omega)]
  exact hbh

theorem Next_ok {id : Int} {k : Key} {K : Int → Bool → World → Prop} (h : Tb w d) (ok : TbOk d B) (hB : B < 2 ^ 60)
    (hK : ∀ w', Upd [] w w' → K ((((d.E.find? fun e => decide (e.id = id)).bind fun e => nextE d.E e.rank k).map (·.id)).getD 0) ((d.E.find? fun e => decide (e.id = id)).bind fun e => nextE d.E e.rank k).isSome w') : C_index_Table_Next d.a id k.1 k.2.1 k.2.2 w K := by
  apply C_index_Table_Next.of
  unfold F_index_Table_Next
  refine New_rule fun r w1 hr u1 hb1 => ?_
  have t1 := h.keep u1
  refine made_ok t1 (ifF rfl ?_)
  simp only [TbD.a, NN_some, addN, drw_cell, drw_heap, exS, exI, exB, exP, exM, exStr, exV, a0, a1, a2, a3, a4, a5, a6, a7, a8, a9, a10, a11, a12, a13, maxI_eq, Nat.zero_add, Nat.add_zero, Nat.mul_one, Option.isNone_some, Option.isNone_none, hb1.cell, t1.blk.cell]
  refine Lookup2_rule (κ := Int) (kt := 3) (et := 64) (inj := fun a : Int => Value.int .i64 a) (z := .agg #[.int .i64 0, .string ⟨#[]⟩, .int .i64 0, .int .i64 0]) keyId (by rfl) ⟨_, rfl, rfl⟩ t1.amap ?_
  rw [h.spots]
  have hb0 := ok.b0
  have hb1' := ok.b1
  have hb2 := ok.b2
  rcases hf : d.E.find? (fun e => decide (e.id = id)) with _ | e
  · rw [hf] at hK ⊢
    refine ⟨_, _, _, _, _, rfl, New_rule fun r1 w2 hr1 u2 hb2 => ?_⟩
    refine St_acc (Upd.refl _ _) hb2 (by simp) rfl fun w3 u3 hb3 => St_acc u3 hb3 (by simp) rfl fun w4 u4 hb4 => St_acc u4 hb4 (by simp) rfl fun w5 u5 hb5 => St_acc u5 hb5 (by simp) rfl fun w6 u6 hb6 => ?_
    exact ifT rfl (hK w6 ((u1.after u2).fresh u6 (by intro k hk; simp at hk; have := u1.size; omega)))
  · rw [hf] at hK ⊢
    have he := List.mem_of_find?_eq_some hf
    have hlo := ok.lo e he
    have hhi := ok.hi e he
    refine ⟨e.key.1, e.key.2.1, e.key.2.2, e.rank, true, rfl, New_rule fun r1 w2 hr1 u2 hb2 => ?_⟩
    refine St_acc (Upd.refl _ _) hb2 (by simp) rfl fun w3 u3 hb3 => St_acc u3 hb3 (by simp) rfl fun w4 u4 hb4 => St_acc u4 hb4 (by simp) rfl fun w5 u5 hb5 => St_acc u5 hb5 (by simp) rfl fun w6 u6 hb6 => ?_
    simp at hb6
    have hne : r ≠ r1 := by have := hb1.lt; omega
    have hbr := (hb1.upd u2 (by simp)).upd u6 (by simpa using hne)
    refine ifF rfl ?_
    have U6 : Upd [] w w6 := (u1.after u2).fresh u6 (by intro k hk; simp at hk; have := u1.size; omega)
    simp only [NN_some, addN, drw_cell, drw_heap, exS, exI, exB, exP, exM, exStr, exV, a0, a1, a2, a3, a4, a5, a6, a7, a8, a9, a10, a11, a12, a13, maxI_eq, Nat.zero_add, Nat.add_zero, Nat.mul_one, Option.isNone_some, Option.isNone_none, hb6.cell, hbr.cell]
    exact behind_ok (h.keep U6) ok (by omega) (by omega) fun w7 u7 => hK w7 (U6.after u7)

/-- Those that meet a key. -/
def metE (E : List En) (k : Key) : List En := E.filter fun e => meets e.key k

theorem nextE_met {E : List En} {k : Key} (h : E.Pairwise fun a b => a.rank < b.rank) {i : Nat} (hi : i < (metE E k).length) : nextE E (metE E k)[i].rank k = (metE E k)[i + 1]? := by
  have hr : (metE E k).Pairwise fun a b => a.rank < b.rank := h.filter _
  have e1 : nextE E (metE E k)[i].rank k = (metE E k).find? fun e => decide ((metE E k)[i].rank < e.rank) := by
    unfold nextE metE
    rw [List.find?_filter]
    apply findCongr; intro e _
    by_cases h1 : meets e.key k = true <;> simp [h1]
  rw [e1]
  have hlt := List.pairwise_iff_getElem.1 hr
  by_cases hn : i + 1 < (metE E k).length
  · rw [List.getElem?_eq_getElem hn, List.find?_eq_some_iff_append]
    refine ⟨by simp; exact hlt i (i + 1) (by omega) hn (by omega), (metE E k).take (i + 1), (metE E k).drop (i + 2), by simp, fun e he => ?_⟩
    obtain ⟨j, hj, rfl⟩ := List.getElem_of_mem he
    rw [List.length_take] at hj
    rw [List.getElem_take]
    by_cases hji : j = i
    · subst hji; simp
    · have := hlt j i (by omega) hi (by omega)
      simp; omega
  · rw [List.getElem?_eq_none (by omega), List.find?_eq_none]
    intro e he
    obtain ⟨j, hj, rfl⟩ := List.getElem_of_mem he
    by_cases hji : j = i
    · subst hji; simp
    · have := hlt j i hj hi (by omega)
      simp; omega

theorem find_id {E : List En} (h : (E.map (·.id)).Nodup) {e : En} (he : e ∈ E) : E.find? (fun x => decide (x.id = e.id)) = some e := by
  induction E with
  | nil => cases he
  | cons x E ih =>
    rw [List.map_cons, List.nodup_cons] at h
    rw [List.find?_cons]
    rcases List.mem_cons.1 he with rfl | he
    · simp
    · have : ¬ x.id = e.id := fun hx => h.1 (by rw [hx]; exact List.mem_map.2 ⟨e, he, rfl⟩)
      simp only [this, decide_false]
      exact ih h.2 he

theorem All_ok {k : Key} {K : Option Addr → Nat → Nat → World → Prop} (h : Tb w d) (ok : TbOk d B) (hB : B < 2 ^ 60)
    (hK : ∀ p n c F w', SlAt w' 1 p n c (((metE d.E k).map (·.id)).map (.int .i64)) F → Upd [] w w' → Since F w → K p n c w') : C_index_Table_All d.a k.1 k.2.1 k.2.2 w K := by
  apply C_index_Table_All.of
  unfold F_index_Table_All F_index_Table_All_L1
  have hlen := ok.len
  have hml : (metE d.E k).length ≤ d.E.length := List.length_filter_le _ _
  refine New_rule fun r w1 hr u1 hb1 => ?_
  have t1 := h.keep u1
  simp only [NN_some, addN, drw_cell, drw_heap, exS, exI, exB, exP, exM, exStr, exV, a0, a1, a2, a3, a4, a5, a6, a7, a8, a9, a10, a11, a12, a13, maxI_eq, Nat.zero_add, Nat.add_zero, Nat.mul_one, Option.isNone_some, Option.isNone_none, hb1.cell]
  refine Head_ok t1 ok hB fun w2 u2 => ?_
  have hhead : d.E.find? (fun e => meets e.key k) = (metE d.E k)[0]? := by
    unfold metE; rw [← List.head?_eq_getElem?, List.head?_filter]
  rw [hhead]
  refine ⟨fun s v => ∃ (i : Nat) (F : List Nat), i ≤ (metE d.E k).length ∧ SlAt v 1 s.outP s.outN s.outC ((((metE d.E k).take i).map (·.id)).map (.int .i64)) F ∧ Upd [] w1 v ∧ Since F w1 ∧ s.isx = ((metE d.E k)[i]?).isSome ∧ s.idx = (((metE d.E k)[i]?).map (·.id)).getD 0, fun s _ => (metE d.E k).length - s.outN, ⟨0, [], Nat.zero_le _, SlAt.nil w2 1, u2, (fun k hk => by cases hk), rfl, rfl⟩, ?_⟩
  rintro ⟨p, n, c, idx, is⟩ v ⟨i, F, hi, hs, u, hF, his, hid⟩
  dsimp only at hs his hid
  subst his hid
  unfold B_index_Table_All_L1
  dsimp only
  have hn : n = i := by have := hs.1; simp at this; omega
  refine ifC (fun hc => ?_) (fun hc => ?_)
  · have hil : i < (metE d.E k).length := by simpa using hc
    rw [List.getElem?_eq_getElem hil]
    simp only [Option.map_some, Option.getD_some]
    refine BSlL_rule eS_43 [.int .i64 (metE d.E k)[i].id] (by rfl) (by simp [Value.cells]) (by rfl) (by omega) fun w3 hs3 u3 => ?_
    refine App_rule (hE := eS_43) (hs.upd u3 (by intro k _ h; cases h)) hs3 (by simp [Value.cells, Value.oneCell']) (by omega) fun p' c' F' w4 hs4 u4 s4 => ?_
    have hsz := u.size
    have hbr : Blk w4 r #[.int .i64 k.1, .string k.2.1, .int .i64 k.2.2] := ((hb1.upd u (by simp)).upd u3 (by simp)).upd u4 fun hx => by have := hF r hx; have := hb1.lt; omega
    have U4 : Upd [] w1 w4 := (u.after u3).fresh u4 hF
    have t4 := t1.keep U4
    simp only [NN_some, addN, drw_cell, drw_heap, exS, exI, exB, exP, exM, exStr, exV, a0, a1, a2, a3, a4, a5, a6, a7, a8, a9, a10, a11, a12, a13, maxI_eq, Nat.zero_add, Nat.add_zero, Nat.mul_one, Option.isNone_some, Option.isNone_none, hbr.cell]
    refine Next_ok t4 ok hB fun w5 u5 => ?_
    have hmem : (metE d.E k)[i] ∈ d.E := (List.mem_filter.1 (List.getElem_mem hil)).1
    rw [find_id ok.ids hmem, Option.bind_some, nextE_met ok.rising hil]
    refine ⟨⟨i + 1, F', by omega, ?_, U4.after u5, hF.step s4 (Nat.le_trans hsz u3.size), rfl, rfl⟩, by omega⟩
    have := hs4.upd u5 (by intro k _ h; cases h)
    rw [List.take_succ_eq_append_getElem hil, List.map_append, List.map_append]
    exact this
  · have hil : (metE d.E k).length ≤ i := by simpa using hc
    rw [List.take_of_length_le hil] at hs
    exact hK p n c F v hs (u1.after u) (fun x hx => by have := hF x hx; have := u1.size; omega)

end

end Go.Proofs.Ytpkfckfdehaamaa
