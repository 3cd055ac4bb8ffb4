/- A pool: Sweep. -/
import Derived.Test.YtcgnligpjfhjlaaRef3
namespace Go.Proofs.Ytcgnligpjfhjlaa
open Go Go.D Go.Proofs
set_option linter.unusedSimpArgs false
set_option linter.unusedVariables false
set_option maxRecDepth 8000

/-- The cells that are asked for. -/
def askI (l : List Bool) (a : Nat) : Nat → List Int
  | 0 => []
  | n + 1 => askI l a n ++ if at? l (a + n) then [] else [((a + n : Nat) : Int)]

theorem askI_add (l : List Bool) (a m : Nat) : ∀ n, askI l a (m + n) = askI l a m ++ askI l (a + m) n
  | 0 => by simp [askI]
  | n + 1 => by
    rw [← Nat.add_assoc]
    simp only [askI, Nat.add_assoc]
    rw [askI_add l a m n, List.append_assoc]

theorem askI_len (l : List Bool) (a : Nat) : ∀ n, (askI l a n).length ≤ n
  | 0 => by simp [askI]
  | n + 1 => by
    have := askI_len l a n
    simp only [askI, List.length_append]
    split <;> simp <;> omega

/-- The cells that go. -/
def goes (l : List Bool) (n : Int) (k : Nat) : Bool := !at? l k && decide ((k : Int).tmod n = 0)

section
variable {w : World} {d : PlD}

theorem PEnd_ok {s : Nat} {K : Int → World → Prop} (h : Pl w d) (hlen : d.L.length ≤ 4096) (hs : s < d.L.length) (hK : K (endOf d.L d.top s) w) : C_pool_Pool_end d.a s w K := by
  apply C_pool_Pool_end.of
  unfold F_pool_Pool_end
  have hn := h.len
  have hL : w.cell? ⟨d.b, 0, none⟩ = some (.slice d.p d.n d.c) := by rw [h.blk.cell]; rfl
  have hT : w.cell? ⟨d.b, 1, none⟩ = some (.int .i64 d.top) := by rw [h.blk.cell]; rfl
  simp only [PlD.a, NN_some, addN, Nat.zero_add, Nat.add_zero, hL, hT, exS, exI]
  rw [i64id (x := (s : Int) + 1) (by omega) (by omega)]
  unfold endOf at hK
  refine ifC (fun hc => ?_) (fun hc => ?_)
  · simp at hc
    obtain ⟨lb, off, hp, hG, c0, c1⟩ := h.cell (i := s + 1) (by omega)
    have et : ((s : Int) + 1).toNat = s + 1 := by omega
    simp only [hp, et, NN_some, addN, Nat.add_zero, c0, exI]
    rw [List.getElem?_eq_getElem (by omega)] at hK
    exact ⟨by omega, by omega, hK⟩
  · simp at hc
    rw [List.getElem?_eq_none (by omega)] at hK
    exact hK

/-- Other runs are a segment's: what is turned. -/
theorem Pl.setRuns2 {w1 : World} {s : Nat} {sl : Sl} {rs : List Run2} {F1 : List Nat} {lb off : Nat} {K : World → Prop} (h : Pl w d) (hs : s < d.L.length) (hp : d.p = some ⟨lb, off, none⟩) (hG : d.G = [lb]) (u : Upd (d.F s) w w1) (hr : RowAt w1 sl.1 sl.2.1 sl.2.2 rs F1) (sub : Sub F1 (d.F s) w)
    (hK : ∀ w2, Pl w2 (d.put s d.L[s].start sl rs F1) → Upd d.G w1 w2 → K w2) : St w1 ⟨lb, off + s * 2 + 1, none⟩ (.slice sl.1 sl.2.1 sl.2.2) K := by
  have hn := h.len
  have hrow1 := h.row.upd u (h.GF s)
  rw [Nat.add_assoc]
  refine St_elem hrow1 hp (k := s * 2 + 1) (by omega) rfl fun w2 hs2 u2 => ?_
  have h3 := flat_set sC_len (l := d.L) (i := s) (j := 1) (v := .slice sl.1 sl.2.1 sl.2.2) (y := ⟨d.L[s].start, sl, rs⟩) hs (by omega) rfl
  rw [h3] at hs2
  have lbF : ∀ i, lb ∉ d.F i := fun i => h.GF i lb (by rw [hG]; simp)
  have lbF1 : lb ∉ F1 := fun hx => by
    rcases sub lb hx with h1 | h1
    · exact lbF s h1
    · have := h.inn lb (h.iG lb (by rw [hG]; simp)); omega
  have U : Upd d.FT w w2 := u.trans u2 (fun x hx => .inl (h.iF s x hx)) (fun x hx => .inl (h.iG x hx))
  refine hK w2 (h.put_of hs U ((h.blk.upd u (h.bF s)).upd u2 h.bG) hs2 (SlAt.upd hr u2 (by rw [hG]; intro x hx; simp; rintro rfl; exact lbF1 hx)) sub fun i his hi => ?_) u2
  exact SlAt.upd (SlAt.upd (h.runs i hi) u (h.FF i s his)) u2 (h.GF i).symm

/-- A cell is added behind all runs. -/
theorem Add_ok {s lb off : Nat} {t : Int} {K : World → Prop} (h : Pl w d) (hs : s < d.L.length) (hp : d.p = some ⟨lb, off, none⟩) (hsm : ∀ r ∈ d.L[s].runs, 0 ≤ r.1 ∧ 1 ≤ r.2 ∧ r.1 + r.2 ≤ 2 ^ 22) (hl : d.L[s].runs.length ≤ 2 ^ 22) (ht : 0 ≤ t ∧ t ≤ 2 ^ 22)
    (hK : ∀ w' sl F1, Pl w' (d.put s d.L[s].start sl (addR d.L[s].runs t) F1) → Upd (d.F s ++ d.G) w w' → Sub F1 (d.F s) w → K w') : C_pool_segment_add (some ⟨lb, off + s * 2, none⟩) t w K := by
  apply C_pool_segment_add.of
  unfold F_pool_segment_add F_pool_segment_add_k1
  have hd := h.keep (drw_upd w)
  obtain ⟨lb', off', hp', hG, c0, c1⟩ := h.cell hs
  rw [hp] at hp'; simp at hp'
  obtain ⟨rfl, rfl⟩ := hp'
  have hrow := h.runs s hs
  have hrowd := hd.runs s hs
  have hnl := RowAt.len hrow
  simp only [NN_some, addN, Nat.add_zero, drw_cell, c1, exS]
  rw [i64id (x := (d.L[s].sl.2.1 : Int) - 1) (by omega) (by omega)]
  -- a run more
  have more : addR d.L[s].runs t = d.L[s].runs ++ [(t, 1)] → BSl Try.prog 40 1 [(0, .agg #[.int .i64 t, .int .i64 1])] (drw w) fun t52P t52N t52C w1_2 =>
      App Try.prog #[40, 40] 40 #[.slice d.L[s].sl.1 d.L[s].sl.2.1 d.L[s].sl.2.2, .slice t52P t52N t52C] w1_2 fun t53P t53N t53C w1_3 => St w1_3 ⟨lb, off + s * 2 + 1, none⟩ (.slice t53P t53N t53C) fun w1_4 => K w1_4 := fun e => by
    refine BSlL_rule eS_40 [.agg #[.int .i64 t, .int .i64 1]] (by rfl) (by simp [Value.cells]) (by rfl) (by omega) fun w1 hs1 u1 => ?_
    have U1 := (drw_upd w).after u1
    have h1 := h.keep U1
    refine App_rule (hE := eS_40) (h1.runs s hs) hs1 (by simp [Value.cells, Value.oneCell']) (by omega) fun p' c' F' w2 hs2 u2 s2 => ?_
    have hs2 : RowAt w2 p' (d.L[s].sl.2.1 + 1) c' (addR d.L[s].runs t) F' := by
      rw [e]
      simpa [RowAt, eC, Value.cells] using hs2
    refine h1.setRuns2 (sl := (p', d.L[s].sl.2.1 + 1, c')) hs hp hG u2 hs2 s2 fun w3 h3 u3 => ?_
    exact hK w3 _ _ h3 (U1.after (u2.trans u3 (fun y hy => .inl (List.mem_append.2 (.inl hy))) (fun y hy => .inl (List.mem_append.2 (.inr hy))))) (s2.old U1.size)
  refine ifC (fun hc => ?_) (fun hc => ?_)
  · have hn0 : 0 < d.L[s].sl.2.1 := by simp at hc; omega
    have hl1 : d.L[s].sl.2.1 - 1 < d.L[s].runs.length := by omega
    obtain ⟨bo, oo, hpo, hcA, hcL⟩ := RowAt.get hrowd hl1
    have et : ((d.L[s].sl.2.1 : Int) - 1).toNat = d.L[s].sl.2.1 - 1 := by omega
    have hwr := hsm _ (List.getElem_mem hl1)
    simp only [drw_cell] at hcA hcL
    have ep : ∀ Q, NN d.L[s].sl.1 Q = NN (some ⟨bo, oo, none⟩) Q := fun Q => by rw [hpo]
    simp only [NN_some, addN, ep, et, Nat.add_zero, hcA, hcL, exI]
    rw [i64id (x := d.L[s].runs[d.L[s].sl.2.1 - 1].1 + d.L[s].runs[d.L[s].sl.2.1 - 1].2) (by omega) (by omega), i64id (x := d.L[s].runs[d.L[s].sl.2.1 - 1].2 + 1) (by omega) (by omega)]
    refine ⟨by omega, by omega, by omega, by omega, ifC (fun hc3 => ?_) (fun hc3 => ?_)⟩
    · have hc3 : d.L[s].runs[d.L[s].sl.2.1 - 1].1 + d.L[s].runs[d.L[s].sl.2.1 - 1].2 = t := by simpa using hc3
      refine ⟨by omega, by omega, by omega, by omega, ?_⟩
      have e : addR d.L[s].runs t = d.L[s].runs.set (d.L[s].sl.2.1 - 1) (d.L[s].runs[d.L[s].sl.2.1 - 1].1, d.L[s].runs[d.L[s].sl.2.1 - 1].2 + 1) := by
        unfold addR
        rw [show d.L[s].runs.length - 1 = d.L[s].sl.2.1 - 1 by omega, List.getElem?_eq_getElem hl1]
        simp only
        rw [if_pos hc3]
      refine setRow (i := d.L[s].sl.2.1 - 1) (y := (d.L[s].runs[d.L[s].sl.2.1 - 1].1, d.L[s].runs[d.L[s].sl.2.1 - 1].2 + 1)) (k := 1) hrowd hl1 hpo (by omega) rfl (by simp [eC]) fun w2 hr2 u2 => ?_
      rw [← e] at hr2
      have U2 : Upd (d.F s) w w2 := (drw_upd w).after u2
      exact hK w2 d.L[s].sl (d.F s) (h.turn hs U2 hr2) (U2.mono fun y hy => .inl (List.mem_append.2 (.inl hy))) (Sub.refl _ _)
    · have hc3 : ¬ d.L[s].runs[d.L[s].sl.2.1 - 1].1 + d.L[s].runs[d.L[s].sl.2.1 - 1].2 = t := by simpa using hc3
      refine more ?_
      unfold addR
      rw [show d.L[s].runs.length - 1 = d.L[s].sl.2.1 - 1 by omega, List.getElem?_eq_getElem hl1]
      simp only
      rw [if_neg hc3]
  · have hn0 : d.L[s].sl.2.1 = 0 := by simp at hc; omega
    refine more ?_
    unfold addR
    rw [List.getElem?_eq_none (by omega)]

theorem Pl.reFT {FT : List Nat} (h : Pl w d) (ib : d.b ∈ FT) (iG : ∀ x ∈ d.G, x ∈ FT) (iF : ∀ i, ∀ x ∈ d.F i, x ∈ FT) (inn : In FT w) : Pl w { d with FT := FT } :=
  ⟨h.blk, h.row, h.runs, h.out, h.bG, h.bF, h.GF, h.FF, ib, iG, iF, inn⟩

theorem Pl.slim {w2 : World} {s : Nat} {st : Int} {sl sl2 : Sl} {rs rs2 : List Run2} {F1 F2 : List Nat} (h0 : Pl w d) (hw : w.heap.size ≤ w2.heap.size) (h2 : Pl w2 ((d.put s st sl rs F1).put s st sl2 rs2 F2)) : Pl w2 (d.put s st sl2 rs2 F2) := by
  have e : d.put s st sl2 rs2 F2 = { (d.put s st sl rs F1).put s st sl2 rs2 F2 with FT := d.FT ++ F2 } := by
    have eL := put_put d s st sl sl2 rs rs2 F1 F2
    have eF : (fun i => if i = s then F2 else if i = s then F1 else d.F i) = fun i => if i = s then F2 else d.F i := by
      funext i
      by_cases hi : i = s
      · simp [hi]
      · simp [hi]
    unfold PlD.put at eL ⊢
    simp only at eL ⊢
    rw [eL, eF]
  rw [e]
  refine h2.reFT ?_ ?_ ?_ ?_
  · show d.b ∈ d.FT ++ F2; simp [h0.ib]
  · intro x hx
    have hx : x ∈ d.G := hx
    show x ∈ d.FT ++ F2; simp [h0.iG x hx]
  · intro i x hx
    have hx : x ∈ (if i = s then F2 else if i = s then F1 else d.F i) := hx
    show x ∈ d.FT ++ F2
    by_cases hi : i = s
    · rw [if_pos hi] at hx; simp [hx]
    · rw [if_neg hi, if_neg hi] at hx; simp [h0.iF i x hx]
  · intro x hx
    have hx : x ∈ d.FT ++ F2 := hx
    rcases List.mem_append.1 hx with hx | hx
    · have := h0.inn x hx; omega
    · exact h2.inn x (by show x ∈ (d.FT ++ F1) ++ F2; simp [hx])

/-! ## Who asks -/

structure Sw (w : World) (r : Nat) (n : Int) (A : List Int) (G : List Nat) : Prop where
  ex : ∃ p m c, Blk w r #[.int .i64 n, .slice p m c] ∧ SlAt w 1 p m c (A.map (.int .i64)) G
  rG : r ∉ G

theorem Sw.upd {w' : World} {r : Nat} {n : Int} {A : List Int} {G F : List Nat} (h : Sw w r n A G) (u : Upd F w w') (hd : Dis (r :: G) F) : Sw w' r n A G := by
  obtain ⟨p, m, c, hb, hs⟩ := h.ex
  exact ⟨⟨p, m, c, hb.upd u (hd r (by simp)), hs.upd u fun k hk => hd k (by simp [hk])⟩, h.rG⟩

theorem Sw.inn {r : Nat} {n : Int} {A : List Int} {G : List Nat} (h : Sw w r n A G) : In (r :: G) w := by
  obtain ⟨p, m, c, hb, hs⟩ := h.ex
  intro k hk
  rcases List.mem_cons.1 hk with rfl | hk
  · exact hb.lt
  · exact hs.inn k hk

theorem Live_ok {r : Nat} {n t : Int} {A : List Int} {G : List Nat} {K : Value → World → Prop} (h : Sw w r n A G) (hn : n ≠ 0) (hA : A.length ≤ 2 ^ 30)
    (hK : ∀ w' G', Sw w' r n (A ++ [t]) G' → Upd (r :: G) w w' → Sub (r :: G') (r :: G) w → K (.bool (t.tmod n != 0)) w') : CallV Try.prog (.func (.func 52) #[.pointer (some ⟨r, 0, none⟩)] #[]) [.int .i64 t] w K := by
  refine ⟨_, _, _, rfl, rfl, ?_⟩
  refine Calls.mono (C_law03_sweeper_live.of (sx := some ⟨r, 0, none⟩) (atx := t) (R := fun x w' => K (.bool x) w') ?_) fun e w2 ⟨x, he, hx⟩ => ⟨_, he, hx⟩
  unfold F_law03_sweeper_live
  obtain ⟨p, m, c, hb, hs⟩ := h.ex
  have hm : m = A.length := by have := hs.1; simp at this; exact this.symm
  have hb1 : w.cell? ⟨r, 1, none⟩ = some (.slice p m c) := by rw [hb.cell]; rfl
  simp only [NN_some, addN, Nat.zero_add, Nat.add_zero, hb1, exS]
  refine BSlL_rule eS_33 [.int .i64 t] (by rfl) (by simp [Value.cells]) (by rfl) (by omega) fun w1 hs1 u1 => ?_
  refine App_rule (hE := eS_33) (hs.upd u1 (by intro k _ h; cases h)) hs1 (by simp [Value.cells, Value.oneCell']) (by omega) fun p' c' G' w2 hs2 u2 s2 => ?_
  have U2 : Upd G w w2 := u1.after u2
  have hrG' : r ∉ G' := fun hx => by
    rcases s2 r hx with h7 | h7
    · exact h.rG h7
    · have := hb.lt; have := u1.size; omega
  refine St_rule (hb.upd U2 h.rG) (by simp) rfl fun w3 u3 hb3 => ?_
  simp at hb3
  have hb30 : w3.cell? ⟨r, 0, none⟩ = some (.int .i64 n) := by rw [hb3.cell]; rfl
  simp only [hb30, exI]
  refine ⟨hn, hK w3 G' ⟨⟨p', m + 1, c', hb3, ?_⟩, hrG'⟩ ((U2.mono fun k hk => .inl (by simp [hk])).both (u3.mono fun k hk => .inl (by simp at hk; simp [hk]))) ?_⟩
  · have := hs2.upd u3 (by intro k hk hx; simp at hx; subst hx; exact hrG' hk)
    simpa [Value.cells] using this
  · intro k hk
    rcases List.mem_cons.1 hk with rfl | hk
    · left; simp
    · rcases s2 k hk with h7 | h7
      · left; simp [h7]
      · have := u1.size; right; omega

end

end Go.Proofs.Ytcgnligpjfhjlaa
