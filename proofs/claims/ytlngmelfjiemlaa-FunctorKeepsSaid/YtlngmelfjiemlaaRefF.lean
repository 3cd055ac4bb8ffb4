/- The document's table of functors: alone. -/
import Derived.Test.YtlngmelfjiemlaaFun4
import Derived.Test.YtlngmelfjiemlaaRefA
namespace Go.Proofs.Ytlngmelfjiemlaa.Fn
open Go Go.D Go.Proofs Go.Proofs.Ytlngmelfjiemlaa
set_option linter.unusedSimpArgs false
set_option linter.unusedVariables false
set_option maxRecDepth 8000

structure RfD where
  b : Nat
  lp : Option Addr
  ln : Nat
  lc : Nat
  lim : Int
  at' : Option Addr
  L : List Slot
  G : List Nat

def RfD.a (x : RfD) : Option Addr := some ⟨x.b, 0, none⟩
def RfD.FT (x : RfD) : List Nat := x.b :: x.G

structure Rf (w : World) (x : RfD) : Prop where
  blk : Blk w x.b #[.slice x.lp x.ln x.lc, .int .i64 x.lim, .pointer x.at']
  l : SlAt w 4 x.lp x.ln x.lc (x.L.flatMap slC) x.G
  bG : x.b ∉ x.G
  ll : x.L.length ≤ 2 ^ 20

section
variable {w : World} {x : RfD}

theorem Rf.upd {w' : World} {F : List Nat} (h : Rf w x) (u : Upd F w w') (hd : Dis x.FT F) : Rf w' x :=
  ⟨h.blk.upd u (hd _ (by simp [RfD.FT])), h.l.upd u (fun k hk => hd k (by simp [RfD.FT, hk])), h.bG, h.ll⟩

theorem Rf.keep {w' : World} (h : Rf w x) (u : Upd [] w w') : Rf w' x := h.upd u (by intro k _ h; cases h)

theorem Rf.inn (h : Rf w x) : In x.FT w := fun k hk => by
  rcases List.mem_cons.1 hk with rfl | hk
  · exact h.blk.lt
  · exact h.l.inn k hk

theorem Rf.len (h : Rf w x) : x.ln = x.L.length := by
  have := h.l.1
  rw [flat_len slC_len] at this; omega

theorem Rf.c0 (h : Rf w x) : w.cell? ⟨x.b, 0, none⟩ = some (.slice x.lp x.ln x.lc) := by rw [h.blk.cell]; rfl
theorem Rf.c1 (h : Rf w x) : w.cell? ⟨x.b, 1, none⟩ = some (.int .i64 x.lim) := by rw [h.blk.cell]; rfl
theorem Rf.c2 (h : Rf w x) : w.cell? ⟨x.b, 2, none⟩ = some (.pointer x.at') := by rw [h.blk.cell]; rfl

theorem Rf.slot (h : Rf w x) {i : Nat} (hi : i < x.L.length) : ∃ b off, x.lp = some ⟨b, off, none⟩ ∧ w.cell? ⟨b, off + i * 4, none⟩ = some (.int .i64 x.L[i].key.1) ∧ w.cell? ⟨b, off + i * 4 + 1, none⟩ = some (.int .i64 x.L[i].key.2) ∧ w.cell? ⟨b, off + i * 4 + 2, none⟩ = some (.bool x.L[i].is) ∧ w.cell? ⟨b, off + i * 4 + 3, none⟩ = some (.bool x.L[i].mark) := slot_at h.l hi

theorem RfNew_bad {lim : Int} {a : Option Addr} {K : Option Addr → World → Prop} (h : lim < 1 ∨ 16384 < lim ∨ a = none) (hK : K none w) : C_ref05_New lim a w K := by
  apply C_ref05_New.of
  unfold F_ref05_New F_ref05_New_k1
  refine ifC (fun _ => hK) fun h1 => ifC (fun _ => hK) fun h2 => ?_
  simp at h1 h2
  rcases h with h | h | h
  · omega
  · omega
  · subst h; exact ifT rfl hK

theorem RfNew_ok {lim : Int} {ab : Addr} {K : Option Addr → World → Prop} (h0 : 1 ≤ lim) (h1 : lim ≤ 16384) (hK : ∀ w' x, Rf w' x → x.lim = lim → x.at' = some ab → x.L = [] → Upd [] w w' → Since x.FT w → K x.a w') : C_ref05_New lim (some ab) w K := by
  apply C_ref05_New.of
  unfold F_ref05_New
  refine ifF (by simp; omega) (ifF (by simp; omega) (ifF rfl (New_rule fun b w2 hb u2 hb2 => ?_)))
  exact hK w2 ⟨b, none, 0, 0, lim, some ab, [], []⟩ ⟨hb2, SlAt.nil _ _, by simp, by simp⟩ rfl rfl rfl u2 fun k hk => by simp [RfD.FT] at hk; omega

theorem RfIs_ok {id : Int} {K : Bool → World → Prop} (h : Rf w x) (hK : K (isN x.L id) w) : C_ref05_Table_Is x.a id w K := by
  apply C_ref05_Table_Is.of
  unfold F_ref05_Table_Is F_ref05_Table_Is_k1
  have hln := h.len
  unfold isN at hK
  have eN : NN x.a = NN (some ⟨x.b, 0, none⟩) := rfl
  rw [eN]
  refine ifC (fun hc => ?_) (fun hc => ?_)
  · simp at hc
    rw [decide_eq_true hc] at hK
    simp only [NN_some, addN, Nat.zero_add, Nat.add_zero, h.c0, exS]
    refine ifC (fun hc2 => ?_) (fun hc2 => ?_)
    · simp at hc2
      have hil : id.toNat < x.L.length := by omega
      obtain ⟨b, off, hp, q0, q1, q2, q3⟩ := h.slot hil
      simp only [hp, NN_some, addN, q2, exB]
      rw [List.getElem?_eq_getElem hil] at hK
      exact ⟨hc, hc2, hK⟩
    · simp at hc2
      rw [List.getElem?_eq_none (by omega)] at hK
      exact hK
  · simp at hc
    rw [decide_eq_false (by omega)] at hK
    exact hK

theorem RfLen_ok {K : Int → World → Prop} (h : Rf w x) (hK : ∀ w', Upd [] w w' → K (cntIs x.L) w') : C_ref05_Table_Len x.a w K := by
  apply C_ref05_Table_Len.of
  unfold F_ref05_Table_Len F_ref05_Table_Len_L1
  have hln := h.len
  have hll := h.ll
  refine ⟨fun s v => 0 ≤ s.i ∧ s.i ≤ x.L.length ∧ s.n = cntIs (x.L.take s.i.toNat) ∧ Upd [] w v ∧ Rf v x, fun s _ => (x.L.length - s.i).toNat, ⟨by simp, by simp, by simp [cntIs], Upd.refl _ _, h⟩, ?_⟩
  rintro ⟨m, i⟩ v ⟨hi0, hi1, hm, U, h⟩
  dsimp only at hi0 hi1 hm
  unfold B_ref05_Table_Len_L1 F_ref05_Table_Len_k1
  dsimp only
  have eN : NN x.a = NN (some ⟨x.b, 0, none⟩) := rfl
  rw [eN]
  simp only [NN_some, addN, Nat.zero_add, Nat.add_zero, h.c0, exS]
  have hb := cntIs_bnd (x.L.take i.toNat)
  rw [List.length_take] at hb
  refine ifC (fun hc => ?_) (fun hc => ?_)
  · simp at hc
    have hil : i.toNat < x.L.length := by omega
    obtain ⟨b, off, hp, q0, q1, q2, q3⟩ := h.slot hil
    simp only [hp, NN_some, addN, q2, exB]
    have e : cntIs (x.L.take (i + 1).toNat) = m + if x.L[i.toNat].is then 1 else 0 := by
      rw [show (i + 1).toNat = i.toNat + 1 by omega, List.take_succ_eq_append_getElem hil, cntIs_append, hm]
    rw [i64id (x := i + 1) (by omega) (by omega)]
    refine ⟨hi0, hc, ifC (fun hb2 => ?_) (fun hb2 => ?_)⟩
    · rw [hb2] at e
      simp at e
      rw [i64id (x := m + 1) (by omega) (by omega)]
      exact ⟨⟨by omega, by omega, by rw [e], U, h⟩, by omega⟩
    · rw [hb2] at e
      simp at e
      exact ⟨⟨by omega, by omega, by rw [e], U, h⟩, by omega⟩
  · simp at hc
    rw [List.take_of_length_le (by omega)] at hm
    rw [hm]; exact hK v U

theorem RfAt_ok {k : Key} {K : Int → World → Prop} (h : Rf w x) (hK : ∀ w', Upd [] w w' → K (((findN x.L k).map fun i => ((i : Nat) : Int)).getD (-1)) w') : C_ref05_Table_at x.a k.1 k.2 w K := by
  apply C_ref05_Table_at.of
  unfold F_ref05_Table_at F_ref05_Table_at_L1
  have hln := h.len
  have hll := h.ll
  refine ⟨fun s v => 0 ≤ s.i ∧ s.i ≤ x.L.length ∧ (∀ j (hj : j < x.L.length), (j : Int) < s.i → ¬ (x.L[j].is = true ∧ x.L[j].key = k)) ∧ Upd [] w v ∧ Rf v x, fun s _ => (x.L.length - s.i).toNat, ⟨by simp, by simp, fun j hj h => by simp at h; omega, Upd.refl _ _, h⟩, ?_⟩
  rintro ⟨i⟩ v ⟨hi0, hi1, hno, U, h⟩
  dsimp only at hi0 hi1 hno
  unfold B_ref05_Table_at_L1 F_ref05_Table_at_k1 F_ref05_Table_at_k2
  dsimp only
  have eN : NN x.a = NN (some ⟨x.b, 0, none⟩) := rfl
  rw [eN]
  simp only [NN_some, addN, Nat.zero_add, Nat.add_zero, h.c0, exS]
  refine ifC (fun hc => ?_) (fun hc => ?_)
  · simp at hc
    have hil : i.toNat < x.L.length := by omega
    obtain ⟨b, off, hp, q0, q1, q2, q3⟩ := h.slot hil
    simp only [hp, NN_some, addN, Nat.add_zero, q0, q1, q2, exB, exI]
    rw [i64id (x := i + 1) (by omega) (by omega)]
    have step : ¬ (x.L[i.toNat].is = true ∧ x.L[i.toNat].key = k) → (0 ≤ i + 1 ∧ i + 1 ≤ x.L.length ∧ (∀ j (hj : j < x.L.length), (j : Int) < i + 1 → ¬ (x.L[j].is = true ∧ x.L[j].key = k)) ∧ Upd [] w v ∧ Rf v x) ∧ (x.L.length - (i + 1)).toNat < (x.L.length - i).toNat := fun hn => by
      refine ⟨⟨by omega, by omega, fun j hj hji => ?_, U, h⟩, by omega⟩
      by_cases hj2 : j = i.toNat
      · subst hj2; exact hn
      · exact hno j hj (by omega)
    refine ⟨hi0, hc, ifC (fun his => ?_) (fun his => step (by rw [his]; simp))⟩
    refine ⟨hi0, hc, ifC (fun hn => ?_) (fun hn => step (fun hx => by rw [hx.2] at hn; simp at hn))⟩
    refine ⟨hi0, hc, ifC (fun hn2 => ?_) (fun hn => step (fun hx => by rw [hx.2] at hn; simp at hn))⟩
    have hn : x.L[i.toNat].key = k := Prod.ext (by simpa using hn) (by simpa using hn2)
    have hf : findN x.L k = some i.toNat := by
      unfold findN
      rw [List.findIdx?_eq_some_iff_getElem]
      refine ⟨hil, by simp [his, hn], fun j hj => ?_⟩
      have := hno j (by omega) (by omega)
      simp only [Bool.and_eq_true, decide_eq_true_eq]
      exact this
    have hK := hK v U
    rw [hf] at hK
    simp only [Option.map_some, Option.getD_some] at hK
    rw [show ((i.toNat : Nat) : Int) = i by omega] at hK
    exact hK
  · simp at hc
    have hf : findN x.L k = none := by
      unfold findN
      rw [List.findIdx?_eq_none_iff]
      intro s hs
      obtain ⟨j, hj, rfl⟩ := List.getElem_of_mem hs
      have := hno j hj (by omega)
      cases hb : x.L[j].is with
      | false => simp
      | true =>
        have : x.L[j].key ≠ k := fun e => this ⟨hb, e⟩
        simp [this]
    have hK := hK v U
    rw [hf] at hK
    exact hK

theorem RfSweep_ok {K : Int → World → Prop} (h : Rf w x) (hK : ∀ w', Rf w' { x with L := swL x.L x.L.length } → Upd x.FT w w' → K (swC x.L x.L.length) w') : C_ref05_Table_Sweep x.a w K := by
  apply C_ref05_Table_Sweep.of
  unfold F_ref05_Table_Sweep F_ref05_Table_Sweep_L1
  have hln := h.len
  have hll := h.ll
  have hbd := swC_bnd x.L
  have eN : NN x.a = NN (some ⟨x.b, 0, none⟩) := rfl
  refine ⟨fun s v => 0 ≤ s.i ∧ s.i ≤ x.L.length ∧ s.n = swC x.L s.i.toNat ∧ Rf v { x with L := swL x.L s.i.toNat } ∧ Upd x.FT w v, fun s _ => (x.L.length - s.i).toNat, ⟨by simp, by simp, by simp [swC], h, Upd.refl _ _⟩, ?_⟩
  rintro ⟨m, i⟩ v ⟨hi0, hi1, hm, hv, U⟩
  dsimp only at hi0 hi1 hm hv
  unfold B_ref05_Table_Sweep_L1 F_ref05_Table_Sweep_k1
  dsimp only
  have c0 : ∀ {z L'}, Rf z { x with L := L' } → z.cell? ⟨x.b, 0, none⟩ = some (.slice x.lp x.ln x.lc) := fun h => h.c0
  rw [eN]
  simp only [NN_some, addN, Nat.zero_add, Nat.add_zero, c0 hv, exS]
  refine ifC (fun hc => ?_) (fun hc => ?_)
  · simp at hc
    have hil : i.toNat < x.L.length := by omega
    have hil2 : i.toNat < (swL x.L i.toNat).length := by rw [swL_len]; exact hil
    obtain ⟨b, off, hp, q0, q1, q2, q3⟩ := hv.slot (i := i.toNat) hil2
    have hget : (swL x.L i.toNat)[i.toNat]'hil2 = x.L[i.toNat] := by
      have := swL_get x.L i.toNat i.toNat
      rw [if_neg (by omega), List.getElem?_eq_getElem hil2, List.getElem?_eq_getElem hil] at this
      exact Option.some.inj this
    have q2 : v.cell? ⟨b, off + i.toNat * 4 + 2, none⟩ = some (.bool ((swL x.L i.toNat)[i.toNat]'hil2).is) := q2
    have q3 : v.cell? ⟨b, off + i.toNat * 4 + 3, none⟩ = some (.bool ((swL x.L i.toNat)[i.toNat]'hil2).mark) := q3
    rw [hget] at q2 q3
    have hp : x.lp = some ⟨b, off, none⟩ := hp
    have ep : ∀ Q, NN x.lp Q = NN (some ⟨b, off, none⟩) Q := fun Q => by rw [hp]
    simp only [ep, NN_some, addN, Nat.add_zero, q2, q3, exB]
    have estep : swL x.L (i + 1).toNat = (swL x.L i.toNat).set i.toNat (swS x.L[i.toNat]) := by
      rw [show (i + 1).toNat = i.toNat + 1 by omega]
      simp only [swL]
      rw [List.getElem?_eq_getElem hil2, hget]
    have ecnt : swC x.L (i + 1).toNat = m + if goneS x.L[i.toNat] then 1 else 0 := by
      rw [show (i + 1).toNat = i.toNat + 1 by omega, hm]
      simp only [swC]
      rw [List.getElem?_eq_getElem hil]
    have hbi := hbd i.toNat
    rw [i64id (x := i + 1) (by omega) (by omega)]
    have fin : ∀ {v' : World} {L' : List Slot} {m' : Int}, Rf v' { x with L := L' } → (hl : i.toNat < L'.length) → L'.set i.toNat ⟨L'[i.toNat].key, L'[i.toNat].is, false⟩ = swL x.L (i + 1).toNat → Upd x.FT w v' → m' = swC x.L (i + 1).toNat →
        ∃ LP_4 : Option Addr, ∃ LN_4 : Nat, ∃ LC_4 : Nat, v'.cell? ⟨x.b, 0, none⟩ = some (.slice LP_4 LN_4 LC_4) ∧ 0 ≤ i ∧ i < (LN_4 : Int) ∧ NN LP_4 fun a_8 => St v' (((a_8.add (i.toNat * 4)).add 3).add 0) (.bool false) fun w1_6 =>
          (0 ≤ i + 1 ∧ i + 1 ≤ x.L.length ∧ m' = swC x.L (i + 1).toNat ∧ Rf w1_6 { x with L := swL x.L (i + 1).toNat } ∧ Upd x.FT w w1_6) ∧ (x.L.length - (i + 1)).toNat < (x.L.length - i).toNat := by
      intro v' L' m' hr hl e1 u1 e2
      refine ⟨_, _, _, c0 hr, hi0, hc, ?_⟩
      rw [ep]
      simp only [NN_some, addN, Nat.add_zero]
      refine setSlot (j := 3) (y := ⟨L'[i.toNat].key, L'[i.toNat].is, false⟩) hr.l hl hp (by omega) rfl (by simp [slC]) fun v2 hl2 u2 => ?_
      rw [e1] at hl2
      have u2 : Upd x.G v' v2 := u2
      refine ⟨⟨by omega, by omega, e2, ⟨hr.blk.upd u2 h.bG, hl2, h.bG, by show (swL x.L _).length ≤ _; rw [swL_len]; exact hll⟩, u1.both (u2.mono fun k hk => .inl (by simp [RfD.FT, hk]))⟩, by omega⟩
    refine ⟨hi0, hc, ifC (fun his => ?_) (fun his => ?_)⟩
    · refine ⟨hi0, hc, ifC (fun hmk => ?_) (fun hmk => ?_)⟩
      · have hgone : goneS x.L[i.toNat] = true := by
          unfold goneS
          have hmk : x.L[i.toNat].mark = false := by simpa using hmk
          rw [his, hmk]; rfl
        refine ⟨hi0, hc, setSlot4 (y := ⟨(0, 0), false, false⟩) hv.l hil2 hp fun v2 hl2 u2 => ?_⟩
        have u2 : Upd x.G v v2 := u2
        have hr2 : Rf v2 { x with L := (swL x.L i.toNat).set i.toNat ⟨(0, 0), false, false⟩ } := ⟨hv.blk.upd u2 h.bG, hl2, h.bG, by simp [swL_len]; exact hll⟩
        rw [i64id (x := m + 1) (by omega) (by omega)]
        have := fin hr2 (by simpa using hil2) (by
            rw [estep]
            simp only [List.getElem_set_self, List.set_set]
            congr 1
            unfold swS
            rw [hgone]; rfl) (U.both (u2.mono fun k hk => .inl (by simp [RfD.FT, hk]))) (m' := m + 1) (by rw [ecnt, hgone]; rfl)
        simpa only [ep, NN_some, addN, Nat.add_zero] using this
      · have hmk : x.L[i.toNat].mark = true := by simpa using hmk
        have hgone : goneS x.L[i.toNat] = false := by unfold goneS; rw [hmk]; simp
        have := fin hv hil2 (by
            rw [estep, hget]
            unfold swS
            rw [hgone]; rfl) U (m' := m) (by rw [ecnt, hgone]; simp)
        simpa only [c0 hv, exS, ep, NN_some, addN, Nat.add_zero] using this
    · have hgone : goneS x.L[i.toNat] = false := by unfold goneS; rw [his]; simp
      have := fin hv hil2 (by
            rw [estep, hget]
            unfold swS
            rw [hgone]; rfl) U (m' := m) (by rw [ecnt, hgone]; simp)
      simpa only [c0 hv, exS, ep, NN_some, addN, Nat.add_zero] using this
  · simp at hc
    have hi : i.toNat = x.L.length := by omega
    rw [hi] at hm hv
    rw [hm]
    exact hK v hv U

end

end Go.Proofs.Ytlngmelfjiemlaa.Fn
