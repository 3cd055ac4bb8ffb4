/- A pool: Take, Open, Close, Back, Left. -/
import Derived.Test.YtcgnligpjfhjlaaPool3
namespace Go.Proofs.Ytcgnligpjfhjlaa
open Go Go.D Go.Proofs
set_option linter.unusedSimpArgs false
set_option linter.unusedVariables false
set_option maxRecDepth 8000

/-- The first run that is long enough. -/
def fits (rs : List Run2) (n : Int) : Option Nat := rs.findIdx? fun r => decide (n ≤ r.2)

/-- Cells taken from a run. -/
def takeL (i : Nat) (n : Int) (rs : List Run2) : List Run2 := match rs[i]? with
  | some r => if r.2 = n then rs.take i ++ rs.drop (i + 1) else rs.set i (r.1 + n, r.2 - n)
  | none => rs

section
variable {w : World} {d : PlD}

theorem IndexFunc_ok {p : Option Addr} {n c : Nat} {rs : List Run2} {F : List Nat} {r : Nat} {m : Int} {K : Int → World → Prop} (h : RowAt w p n c rs F) (hb : Blk w r #[.int .i64 m]) (hl : rs.length < 2 ^ 40)
    (hK : ∀ w', Upd [] w w' → K (match fits rs m with | some i => (i : Int) | none => -1) w') : C_slices_IndexFunc p n c (.func (.func 31) #[] #[.pointer (some ⟨r, 0, none⟩)]) w K := by
  apply C_slices_IndexFunc.of
  unfold F_slices_IndexFunc F_slices_IndexFunc_L1
  have hn := h.len
  refine ⟨fun s v => 0 ≤ s.t8 ∧ s.t8 ≤ n ∧ (∀ j (hj : j < rs.length), (j : Int) < s.t8 → rs[j].2 < m) ∧ Upd [] w v, fun s _ => (n - s.t8).toNat, ⟨by simp, by simp, fun j hj h => by simp at h; omega, Upd.refl _ _⟩, ?_⟩
  rintro ⟨i⟩ v ⟨h0, h1, h2, u⟩
  dsimp only at h0 h1 h2
  unfold B_slices_IndexFunc_L1
  dsimp only
  have hv : RowAt v p n c rs F := SlAt.upd h u (by intro k _ h; cases h)
  have hbv := hb.upd u (by simp)
  refine ifC (fun hc => ?_) (fun hc => ?_)
  · simp at hc
    have hil : i.toNat < rs.length := by omega
    obtain ⟨b, off, hp, c1, c2⟩ := hv.get hil
    simp only [NN_some, addN, drw_cell, drw_heap, exS, exI, exB, exP, exM, exStr, exV, a0, a1, a2, a3, a4, a5, a6, a7, a8, a9, a10, a11, a12, a13, maxI_eq, Nat.zero_add, Nat.add_zero, Nat.mul_one, Option.isNone_some, Option.isNone_none, hp, c1, c2]
    refine ⟨h0, hc, ?_⟩
    refine ⟨_, _, _, rfl, rfl, ?_⟩
    refine Calls.mono (C_pool_Pool_Take_1.of (r0 := rs[i.toNat].1) (r1 := rs[i.toNat].2) (c0 := ⟨r, 0, none⟩) (R := fun x w' => ∃ t16 : Bool, Value.bool x = (.bool t16) ∧ If t16 (K i w') _) ?_) fun e w2 ⟨x, he, hx⟩ => ⟨_, he, hx⟩
    unfold F_pool_Pool_Take_1
    refine New_rule fun q w1 hq u1 hb1 => ?_
    have hb1' := hbv.upd u1 (by simp)
    simp only [NN_some, addN, drw_cell, drw_heap, exS, exI, exB, exP, exM, exStr, exV, a0, a1, a2, a3, a4, a5, a6, a7, a8, a9, a10, a11, a12, a13, maxI_eq, Nat.zero_add, Nat.add_zero, Nat.mul_one, Option.isNone_some, Option.isNone_none, hb1.cell, hb1'.cell]
    refine ⟨_, rfl, ifC (fun hc2 => ?_) (fun hc2 => ?_)⟩
    · have hc2 : m ≤ rs[i.toNat].2 := by simpa using hc2
      have hf : fits rs m = some i.toNat := by
        unfold fits
        rw [List.findIdx?_eq_some_iff_getElem]
        exact ⟨hil, by simpa using hc2, fun j hj => by have := h2 j (by omega) (by omega); simp; omega⟩
      have := hK w1 (u.after u1)
      rw [hf] at this
      simp only at this
      rw [show ((i.toNat : Nat) : Int) = i by omega] at this
      exact this
    · have hc2 : ¬ m ≤ rs[i.toNat].2 := by simpa using hc2
      rw [i64id (by omega) (by omega)]
      refine ⟨⟨by omega, by omega, fun j hj hji => ?_, u.after u1⟩, by omega⟩
      by_cases hj2 : j = i.toNat
      · subst hj2; omega
      · exact h2 j hj (by omega)
  · simp at hc
    have hf : fits rs m = none := by
      unfold fits
      rw [List.findIdx?_eq_none_iff]
      intro x hx
      obtain ⟨j, hj, rfl⟩ := List.getElem_of_mem hx
      have := h2 j hj (by omega)
      simp; omega
    have := hK v u
    rw [hf] at this; exact this

theorem Take_ok {n : Int} {s : Nat} {K : Int → Int → World → Prop} (h : Pl w d) (ok : PlOk d) (hn : -2 ^ 63 ≤ n ∧ n < 2 ^ 63) (hs : s < d.L.length) (hse : s + 1 = d.L.length)
    (h1 : n < 1 → ∀ w', Pl w' d → Upd [] w w' → K 0 1 w')
    (hhit : 1 ≤ n → ∀ i, fits d.L[s].runs n = some i → ∀ (hi : i < d.L[s].runs.length) w' d', Pl w' d' → Kin d d' s d.L[s].start (takeL i n d.L[s].runs) → Upd d.FT w w' → Sub d'.FT d.FT w → K (d.L[s].runs[i]).1 0 w')
    (hfull : 1 ≤ n → fits d.L[s].runs n = none → d.limit - d.top < n → ∀ w', Pl w' d → Upd [] w w' → K 0 2 w')
    (htop : 1 ≤ n → fits d.L[s].runs n = none → n ≤ d.limit - d.top → ∀ w', Pl w' { d with top := d.top + n } → Upd d.FT w w' → K d.top 0 w') : C_pool_Pool_Take d.a n w K := by
  have hne := ok.ne
  apply C_pool_Pool_Take.of
  unfold F_pool_Pool_Take F_pool_Pool_Take_k1
  have hlen := ok.len
  have ht := ok.top
  have hlim := ok.lim
  have ht0 := ok.top0
  refine New_rule fun r w1 hr u1 hb1 => ?_
  have q1 := h.keep u1
  have hrF : r ∉ d.FT := fun hx => by have := h.inn r hx; omega
  refine made_ok q1 hne (ifF rfl ?_)
  simp only [NN_some, addN, drw_cell, drw_heap, exS, exI, exB, exP, exM, exStr, exV, a0, a1, a2, a3, a4, a5, a6, a7, a8, a9, a10, a11, a12, a13, maxI_eq, Nat.zero_add, Nat.add_zero, Nat.mul_one, Option.isNone_some, Option.isNone_none, hb1.cell]
  refine ifC (fun hc => h1 (by simpa using hc) w1 q1 u1) (fun hc => ?_)
  have hn1 : 1 ≤ n := by simpa using hc
  refine last_ok q1 hne hlen fun lb off hp hG => ?_
  have q2 := q1.keep (drw_upd w1)
  have U2 := u1.after (drw_upd w1)
  obtain ⟨lb', off', hp', _, c0, c1⟩ := q2.cell hs
  rw [hp] at hp'; simp at hp'
  obtain ⟨rfl, rfl⟩ := hp'
  rw [show d.L.length - 1 = s by omega]
  simp only [drw_cell] at c0 c1
  have hrl := ok.rlen hs
  simp only [NN_some, addN, drw_cell, Nat.zero_add, Nat.add_zero, c1, exS]
  refine IndexFunc_ok (q2.runs s hs) hb1.drw (by omega) fun w3 u3 => ?_
  have q3 := q2.keep u3
  have hb3 := hb1.drw.upd u3 (by simp)
  have U3 := U2.after u3
  have c1_3 : w3.cell? ⟨lb, off + s * 2 + 1, none⟩ = some (.slice d.L[s].sl.1 d.L[s].sl.2.1 d.L[s].sl.2.2) := u3.cell (by simpa using c1) (by simp)
  rcases hf : fits d.L[s].runs n with _ | i
  · refine ifF rfl ?_
    simp only [PlD.a, NN_some, addN, drw_cell, drw_heap, exS, exI, exB, exP, exM, exStr, exV, a0, a1, a2, a3, a4, a5, a6, a7, a8, a9, a10, a11, a12, a13, maxI_eq, Nat.zero_add, Nat.add_zero, Nat.mul_one, Option.isNone_some, Option.isNone_none, hb3.cell, q3.blk.cell]
    rw [i64id (x := d.limit - d.top) (by omega) (by omega)]
    refine ifC (fun hc2 => hfull hn1 hf (by simpa using hc2) _ (q3.keep (drw_upd w3)) (U3.after (drw_upd w3))) (fun hc2 => ?_)
    have hc2 : n ≤ d.limit - d.top := by simpa using hc2
    rw [i64id (by omega) (by omega)]
    have q4 := (q3.keep (drw_upd w3)).keep (drw_upd _)
    refine St_rule q4.blk (by simp) rfl fun w5 u5 hb5 => ?_
    simp at hb5
    have V5 : Upd [] w (drw (drw w3)) := (U3.after (drw_upd w3)).after (drw_upd _)
    refine htop hn1 hf hc2 w5 ⟨hb5, q4.row.upd u5 (by intro x hx; simp; rintro rfl; exact h.bG hx), fun i hi => SlAt.upd (q4.runs i hi) u5 (by intro x hx; simp; rintro rfl; exact h.bF i hx), h.out, h.bG, h.bF, h.GF, h.FF, h.ib, h.iG, h.iF, q4.inn.upd u5⟩ (V5.after (u5.mono (by intro x hx; simp at hx; subst hx; exact .inl h.ib)))
  · have hil : i < d.L[s].runs.length := by
      unfold fits at hf
      rw [List.findIdx?_eq_some_iff_getElem] at hf
      exact hf.1
    have hfit : n ≤ d.L[s].runs[i].2 := by
      unfold fits at hf
      rw [List.findIdx?_eq_some_iff_getElem] at hf
      simpa using hf.2.1
    have hsm := ok.small hs _ (List.getElem_mem hil)
    have hnl := RowAt.len (q3.runs s hs)
    refine ifT (by simp) ?_
    obtain ⟨b, o, hb, e0, e1⟩ := RowAt.get (q3.runs s hs) hil
    simp only [NN_some, addN, drw_cell, Nat.zero_add, Nat.add_zero, c1_3, exS, hb, Int.toNat_natCast, e0, exI, hb3.cell, a0]
    rw [i64id (x := d.L[s].runs[i].1 + n) (by omega) (by omega)]
    refine ⟨by omega, by omega, by omega, by omega, by omega, by omega, ?_⟩
    -- where it begins
    have q3d := q3.keep (drw_upd w3)
    refine setRow (i := i) (y := (d.L[s].runs[i].1 + n, d.L[s].runs[i].2)) (k := 0) (q3d.runs s hs) hil hb (by omega) rfl rfl fun w4 hr4 u4 => ?_
    have V4 : Upd (d.F s) w3 w4 := (drw_upd w3).after u4
    have c1_4 : w4.cell? ⟨lb, off + s * 2 + 1, none⟩ = some (.slice d.L[s].sl.1 d.L[s].sl.2.1 d.L[s].sl.2.2) := V4.cell c1_3 (h.GF s lb (by rw [hG]; simp))
    have hb4 := hb3.upd V4 (fun hx => hrF (h.iF s _ hx))
    obtain ⟨b4, o4, hb4', f0, f1⟩ := RowAt.get hr4 (i := i) (by simp; exact hil)
    have hbb : b4 = b ∧ o4 = o := by rw [hb] at hb4'; simp at hb4'; exact ⟨hb4'.1.symm, hb4'.2.symm⟩
    obtain ⟨rfl, rfl⟩ := hbb
    simp only [List.getElem_set_self] at f0 f1
    simp only [NN_some, addN, drw_cell, Nat.zero_add, Nat.add_zero, c1_4, exS, hb, Int.toNat_natCast, f0, f1, exI, hb4.cell, a0]
    rw [i64id (x := d.L[s].runs[i].2 - n) (by omega) (by omega)]
    refine ⟨by omega, by omega, by omega, by omega, ?_⟩
    -- how many
    refine setRow (i := i) (y := (d.L[s].runs[i].1 + n, d.L[s].runs[i].2 - n)) (k := 1) (SlAt.drw hr4) (by simp; exact hil) hb (by omega) rfl (by simp [eC]) fun w5 hr5 u5 => ?_
    have V5 : Upd (d.F s) w3 w5 := V4.both ((drw_upd w4).after u5)
    have c1_5 : w5.cell? ⟨lb, off + s * 2 + 1, none⟩ = some (.slice d.L[s].sl.1 d.L[s].sl.2.1 d.L[s].sl.2.2) := V5.cell c1_3 (h.GF s lb (by rw [hG]; simp))
    rw [List.set_set] at hr5
    obtain ⟨b5, o5, hb5', g0, g1⟩ := RowAt.get hr5 (i := i) (by simp; exact hil)
    have hbb : b5 = b4 ∧ o5 = o4 := by rw [hb] at hb5'; simp at hb5'; exact ⟨hb5'.1.symm, hb5'.2.symm⟩
    obtain ⟨rfl, rfl⟩ := hbb
    simp only [List.getElem_set_self] at g0 g1
    simp only [NN_some, addN, drw_cell, Nat.zero_add, Nat.add_zero, c1_5, exS, hb, Int.toNat_natCast, g0, g1, exI]
    have W5 : Upd (d.F s) w w5 := U3.after V5
    refine ⟨by omega, by omega, ifC (fun hc2 => ?_) (fun hc2 => ?_)⟩
    · have hc2 : d.L[s].runs[i].2 - n = 0 := by simpa using hc2
      rw [i64id (by omega) (by omega)]
      have hr5d := hr5
      rw [hb] at hr5d
      refine Delete_ok hr5d (by simp; exact hil) (by simp; omega) fun p6 c6 F6 w6 hr6 u6 s6 => ?_
      have W6 : Upd (d.F s) w w6 := W5.both u6
      have S6 : Sub F6 (d.F s) w := s6.old W5.size
      have e6 : (d.L[s].runs.set i (d.L[s].runs[i].1 + n, d.L[s].runs[i].2 - n)).take i ++ (d.L[s].runs.set i (d.L[s].runs[i].1 + n, d.L[s].runs[i].2 - n)).drop (i + 1) = takeL i n d.L[s].runs := by
        unfold takeL
        rw [List.getElem?_eq_getElem hil]
        simp only
        rw [if_pos (by omega), List.take_set_of_le (by omega), List.drop_set_of_lt (by omega)]
      rw [e6] at hr6
      refine h.setRuns (sl := (p6, d.L[s].sl.2.1 - 1, c6)) hs hp hG W6 hr6 S6 fun w7 h7 u7 => ?_
      refine hhit hn1 i hf hil w7 _ h7 (kin_put _ _ _ _ _ _) u7 ?_
      intro x hx
      have hx : x ∈ d.FT ++ F6 := hx
      rcases List.mem_append.1 hx with hx | hx
      · exact .inl hx
      · exact (S6 x hx).imp (h.iF s x) (fun h => h)
    · have hc2 : ¬ d.L[s].runs[i].2 - n = 0 := by simpa using hc2
      have e6 : d.L[s].runs.set i (d.L[s].runs[i].1 + n, d.L[s].runs[i].2 - n) = takeL i n d.L[s].runs := by
        unfold takeL
        rw [List.getElem?_eq_getElem hil]
        simp only
        rw [if_neg (by omega)]
      rw [e6] at hr5
      refine hhit hn1 i hf hil w5 _ (h.turn hs W5 hr5) (kin_put _ _ _ _ _ _) (W5.mono fun x hx => .inl (h.iF s x hx)) ?_
      intro x hx
      have hx : x ∈ d.FT ++ d.F s := hx
      rcases List.mem_append.1 hx with hx | hx
      · exact .inl hx
      · exact .inl (h.iF s x hx)

/-- All that is free. -/
def leftP (d : PlD) : Int := d.limit - d.top + (d.L.map fun x => sumR x.runs).sum

theorem sum_small {L : List Sg} {B : Int} (h : ∀ x ∈ L, 0 ≤ sumR x.runs ∧ sumR x.runs ≤ B) : 0 ≤ (L.map fun x => sumR x.runs).sum ∧ (L.map fun x => sumR x.runs).sum ≤ L.length * B := by
  induction L with
  | nil => simp
  | cons x L ih =>
    have a := h x (by simp)
    have b := ih fun y hy => h y (by simp [hy])
    simp only [List.map_cons, List.sum_cons, List.length_cons]
    have : ((L.length + 1 : Nat) : Int) * B = L.length * B + B := by rw [Int.natCast_add, Int.add_mul]; simp
    omega

theorem PlOk.sums (ok : PlOk d) : ∀ x ∈ d.L, 0 ≤ sumR x.runs ∧ sumR x.runs ≤ 1048576 := fun x hx => by
  obtain ⟨i, hi, rfl⟩ := List.getElem_of_mem hx
  have h1 := (ok.ok i hi).sum (start_endOf ok hi)
  have := ok.start0 hi
  have := endOf_le ok i
  have := ok.top; have := ok.lim
  omega

theorem Left_ok {K : Int → World → Prop} (h : Pl w d) (ok : PlOk d) (hK : ∀ w', Upd [] w w' → K (leftP d) w') : C_pool_Pool_Left d.a w K := by
  apply C_pool_Pool_Left.of
  unfold F_pool_Pool_Left F_pool_Pool_Left_L1
  have hn := h.len
  have hlen := ok.len
  have ht := ok.top
  have hlim := ok.lim
  have ht0 := ok.top0
  refine made_ok h ok.ne (ifF rfl ?_)
  simp only [PlD.a, NN_some, addN, drw_cell, drw_heap, exS, exI, exB, exP, exM, exStr, exV, a0, a1, a2, a3, a4, a5, a6, a7, a8, a9, a10, a11, a12, a13, maxI_eq, Nat.zero_add, Nat.add_zero, Nat.mul_one, Option.isNone_some, Option.isNone_none, h.blk.cell]
  rw [i64id (by omega) (by omega)]
  have bnd : ∀ k, 0 ≤ ((d.L.take k).map fun x => sumR x.runs).sum ∧ ((d.L.take k).map fun x => sumR x.runs).sum ≤ 4096 * 1048576 := fun k => by
    have h1 := sum_small (L := d.L.take k) (B := 1048576) fun x hx => ok.sums x (List.mem_of_mem_take hx)
    have h2 : (d.L.take k).length ≤ 4096 := by rw [List.length_take]; omega
    omega
  refine ⟨fun s v => 0 ≤ s.t25 ∧ s.t25 ≤ d.n ∧ s.n = d.limit - d.top + ((d.L.take s.t25.toNat).map fun x => sumR x.runs).sum ∧ Upd [] w v, fun s _ => (d.n - s.t25).toNat, ⟨by simp, by simp, by simp, drw_upd w⟩, ?_⟩
  rintro ⟨m, i⟩ v ⟨hi0, hi1, hm, u⟩
  dsimp only at hi0 hi1 hm
  unfold B_pool_Pool_Left_L1
  dsimp only
  refine ifC (fun hc => ?_) (fun hc => ?_)
  · simp at hc
    have hil : i.toNat < d.L.length := by omega
    have hv := h.keep u
    obtain ⟨lb, off, hp, hG, c0, c1⟩ := hv.cell hil
    simp only [NN_some, addN, drw_cell, drw_heap, exS, exI, exB, exP, exM, exStr, exV, a0, a1, a2, a3, a4, a5, a6, a7, a8, a9, a10, a11, a12, a13, maxI_eq, Nat.zero_add, Nat.add_zero, Nat.mul_one, Option.isNone_some, Option.isNone_none, hp, c0, c1]
    refine ⟨hi0, hc, New_rule fun r w1 hr u1 hb1 => ?_⟩
    refine St_acc (Upd.refl _ _) hb1 (by simp) rfl fun w2 u2 hb2 => St_acc u2 hb2 (by simp) rfl fun w3 u3 hb3 => ?_
    simp at hb3
    simp only [NN_some, addN, drw_cell, drw_heap, exS, exI, exB, exP, exM, exStr, exV, a0, a1, a2, a3, a4, a5, a6, a7, a8, a9, a10, a11, a12, a13, maxI_eq, Nat.zero_add, Nat.add_zero, Nat.mul_one, Option.isNone_some, Option.isNone_none, hb3.cell]
    have V3 : Upd [] v w3 := u1.fresh u3 (by intro x hx; simp at hx; omega)
    have h3 := hv.keep V3
    have hrow := h3.runs i.toNat hil
    have hnr := RowAt.len hrow
    have hrl := ok.rlen hil
    have hrok := ok.ok i.toNat hil
    unfold F_pool_Pool_Left_L2
    have hb0 := bnd i.toNat
    have hsi := ok.sums _ (List.getElem_mem hil)
    have hstep : ((d.L.take (i.toNat + 1)).map fun x => sumR x.runs).sum = ((d.L.take i.toNat).map fun x => sumR x.runs).sum + sumR d.L[i.toNat].runs := by
      rw [List.take_succ_eq_append_getElem hil, List.map_append, List.sum_append]; simp
    refine ⟨fun s v' => 0 ≤ s.t32 ∧ s.t32 ≤ d.L[i.toNat].runs.length ∧ s.n_2 = m + sumR (d.L[i.toNat].runs.take s.t32.toNat) ∧ Upd [] v v', fun s _ => (d.L[i.toNat].runs.length - s.t32).toNat, ⟨by simp, by simp, by simp [sumR], V3⟩, ?_⟩
    rintro ⟨m2, j⟩ v' ⟨hj0, hj1, hm2, u'⟩
    dsimp only at hj0 hj1 hm2
    unfold B_pool_Pool_Left_L2
    dsimp only
    refine ifC (fun hc2 => ?_) (fun hc2 => ?_)
    · simp at hc2
      have hjl : j.toNat < d.L[i.toNat].runs.length := by omega
      have hv' := hv.keep u'
      obtain ⟨b, o, hb, e0, e1⟩ := RowAt.get (hv'.runs i.toNat hil) hjl
      simp only [NN_some, addN, drw_cell, drw_heap, exS, exI, exB, exP, exM, exStr, exV, a0, a1, a2, a3, a4, a5, a6, a7, a8, a9, a10, a11, a12, a13, maxI_eq, Nat.zero_add, Nat.add_zero, Nat.mul_one, Option.isNone_some, Option.isNone_none, hb, e0, e1]
      refine ⟨hj0, by omega, New_rule fun r' w4 hr' u4 hb4 => ?_⟩
      refine St_acc (Upd.refl _ _) hb4 (by simp) rfl fun w5 u5 hb5 => St_acc u5 hb5 (by simp) rfl fun w6 u6 hb6 => ?_
      simp at hb6
      simp only [NN_some, addN, drw_cell, drw_heap, exS, exI, exB, exP, exM, exStr, exV, a0, a1, a2, a3, a4, a5, a6, a7, a8, a9, a10, a11, a12, a13, maxI_eq, Nat.zero_add, Nat.add_zero, Nat.mul_one, Option.isNone_some, Option.isNone_none, hb6.cell]
      have V6 : Upd [] v' w6 := u4.fresh u6 (by intro x hx; simp at hx; omega)
      have hsj := ok.small hil _ (List.getElem_mem hjl)
      have hpart : 0 ≤ sumR (d.L[i.toNat].runs.take j.toNat) ∧ sumR (d.L[i.toNat].runs.take j.toNat) ≤ 1048576 := by
        have hsub : RunsOk d.L[i.toNat].start (endOf d.L d.top i.toNat) (d.L[i.toNat].runs.take j.toNat) := ⟨hrok.apart.sublist (List.take_sublist _ _), fun r hr => hrok.within r (List.mem_of_mem_take hr)⟩
        have h1 := hsub.sum (start_endOf ok hil)
        have := ok.start0 hil
        have := endOf_le ok i.toNat
        omega
      rw [i64id (x := m2 + _) (by omega) (by omega), i64id (x := j + 1) (by omega) (by omega)]
      refine ⟨⟨by omega, by omega, ?_, u'.after V6⟩, by omega⟩
      rw [show (j + 1).toNat = j.toNat + 1 by omega, List.take_succ_eq_append_getElem hjl, sumR_append, hm2]
      simp [sumR]; omega
    · have hj : j.toNat = d.L[i.toNat].runs.length := by simp at hc2; omega
      rw [hj, List.take_length] at hm2
      rw [i64id (x := i + 1) (by omega) (by omega)]
      refine ⟨⟨by omega, by omega, ?_, u.after u'⟩, by omega⟩
      rw [show (i + 1).toNat = i.toNat + 1 by omega, hstep, hm2, hm]; omega
  · simp at hc
    rw [List.take_of_length_le (by omega)] at hm
    rw [hm]
    exact hK v u

theorem Open_ok {K : Int → World → Prop} (h : Pl w d) (ok : PlOk d) (hfull : 4096 ≤ d.L.length → ∀ w', Pl w' d → Upd [] w w' → K 2 w')
    (hK : d.L.length < 4096 → ∀ w' d', Pl w' d' → PlOk d' → d'.a = d.a → d'.top = d.top → d'.limit = d.limit → d'.L = d.L ++ [⟨d.top, (none, 0, 0), []⟩] → Upd d.FT w w' → Sub d'.FT d.FT w → K 0 w') : C_pool_Pool_Open d.a w K := by
  apply C_pool_Pool_Open.of
  unfold F_pool_Pool_Open
  have hn := h.len
  have hlen := ok.len
  refine made_ok h ok.ne (ifF rfl ?_)
  simp only [PlD.a, NN_some, addN, drw_cell, drw_heap, exS, exI, exB, exP, exM, exStr, exV, a0, a1, a2, a3, a4, a5, a6, a7, a8, a9, a10, a11, a12, a13, maxI_eq, Nat.zero_add, Nat.add_zero, Nat.mul_one, Option.isNone_some, Option.isNone_none, h.blk.cell]
  refine ifC (fun hc => hfull (by simp at hc; omega) w h (Upd.refl _ _)) (fun hc => ?_)
  have hc : d.L.length < 4096 := by simp at hc; omega
  have h1 := h.keep (drw_upd w)
  refine BSlL_rule eS_54 [.agg (sC ⟨d.top, (none, 0, 0), []⟩).toArray] (by rfl) (by simp [Value.cells, sC]) (by rfl) (by omega) fun w1 hs1 u1 => ?_
  have V1 := (drw_upd w).after u1
  have h2 := h.keep V1
  have e1 : ([Value.agg (sC ⟨d.top, (none, 0, 0), []⟩).toArray].flatMap fun v => v.cells.toList) = ([⟨d.top, (none, 0, 0), []⟩] : List Sg).flatMap sC := by simp [Value.cells]
  rw [e1] at hs1
  simp only [NN_some, addN, drw_cell, drw_heap, exS, exI, exB, exP, exM, exStr, exV, a0, a1, a2, a3, a4, a5, a6, a7, a8, a9, a10, a11, a12, a13, maxI_eq, Nat.zero_add, Nat.add_zero, Nat.mul_one, Option.isNone_some, Option.isNone_none, h2.blk.cell, h.blk.cell]
  have hone : ∀ v ∈ ([⟨d.top, (none, 0, 0), []⟩] : List Sg).flatMap sC, v.oneCell' = true := by
    intro v hv; simp [sC] at hv; rcases hv with rfl | rfl <;> rfl
  refine ⟨trivial, App_rule (hE := eS_54) h2.row hs1 hone (by omega) fun p' c' G' w2 hs2 u2 s2 => ?_⟩
  rw [← List.flatMap_append] at hs2
  have V2 : Upd d.G w w2 := V1.after u2
  have hbw := h.inn _ h.ib
  have hG' : ∀ x ∈ G', x ∈ d.G ∨ w.heap.size ≤ x := fun x hx => by
    rcases s2 x hx with h7 | h7
    · exact .inl h7
    · have := V1.size; right; omega
  have hbG' : d.b ∉ G' := fun hx => by
    rcases hG' _ hx with h7 | h7
    · exact h.bG h7
    · omega
  refine St_rule (h.blk.upd V2 h.bG) (by simp) rfl fun w3 u3 hb3 => ?_
  simp at hb3
  have V3 : Upd (d.b :: d.G) w w3 := V2.trans u3 (by intro x hx; simp [hx]) (by intro x hx; simp at hx; simp [hx])
  refine hK hc w3 { d with p := p', n := d.n + 1, c := c', L := d.L ++ [⟨d.top, (none, 0, 0), []⟩], G := G', FT := d.FT ++ G' } ⟨hb3, hs2.upd u3 (by intro x hx; simp; rintro rfl; exact hbG' hx), fun i hi => ?_, fun i hi => ?_, hbG', h.bF, fun i => ?_, h.FF, by simp [h.ib], fun x hx => by simp [hx], fun i x hx => by simp [h.iF i x hx], ?_⟩ ?_ rfl rfl rfl rfl (V3.mono ?_) ?_
  · by_cases hi2 : i < d.L.length
    · simp only [List.getElem_append_left hi2]
      refine SlAt.upd (h.runs i hi2) V3 fun x hx hy => ?_
      rcases List.mem_cons.1 hy with rfl | hy
      · exact h.bF i hx
      · exact h.GF i x hy hx
    · have hie : i = d.L.length := by simp at hi; omega
      subst hie
      simp only [List.getElem_concat_length]
      rw [h.out _ (Nat.le_refl _)]
      exact SlAt.nil _ _
  · exact h.out i (by simp at hi; omega)
  · intro x hx hy
    rcases hG' x hx with h7 | h7
    · exact h.GF i x h7 hy
    · have := h.inn x (h.iF i x hy); omega
  · intro x hx
    rcases List.mem_append.1 hx with hx | hx
    · exact h.inn.upd V3 x hx
    · have := hs2.inn x hx; have := u3.size; omega
  · refine ⟨by simp, by simp; omega, ?_, ?_, ?_, ok.top, ok.lim, fun i hi => ?_⟩
    · have := ok.first
      simp only [List.getElem_append_left ok.ne]; exact this
    · rw [List.pairwise_append]
      exact ⟨ok.mono, by simp, fun a ha b hb => by simp at hb; subst hb; exact ok.le a ha⟩
    · intro x hx
      rcases List.mem_append.1 hx with hx | hx
      · exact ok.le x hx
      · simp at hx; subst hx; exact Int.le_refl _
    · by_cases hi2 : i < d.L.length
      · simp only [List.getElem_append_left hi2]
        have e : endOf (d.L ++ [⟨d.top, (none, 0, 0), []⟩]) d.top i = endOf d.L d.top i := by
          unfold endOf
          by_cases hi3 : i + 1 < d.L.length
          · rw [List.getElem?_append_left hi3]
          · rw [List.getElem?_append_right (by omega), List.getElem?_eq_none (l := d.L) (by omega), show i + 1 - d.L.length = 0 by omega]; rfl
        rw [e]; exact ok.ok i hi2
      · have hie : i = d.L.length := by simp at hi; omega
        subst hie
        simp only [List.getElem_concat_length]
        exact RunsOk.nil _ _
  · intro x hx
    rcases List.mem_cons.1 hx with rfl | hx
    · exact .inl h.ib
    · exact .inl (h.iG x hx)
  · intro x hx
    rcases List.mem_append.1 hx with hx | hx
    · exact .inl hx
    · exact (hG' x hx).imp (h.iG x) (fun h => h)

end

end Go.Proofs.Ytcgnligpjfhjlaa
