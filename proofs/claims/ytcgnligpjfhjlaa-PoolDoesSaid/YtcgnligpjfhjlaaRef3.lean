/- The document's pool: Take; how both go on alike. -/
import Derived.Test.YtcgnligpjfhjlaaRef2
namespace Go.Proofs.Ytcgnligpjfhjlaa
open Go Go.D Go.Proofs
set_option linter.unusedSimpArgs false
set_option linter.unusedVariables false
set_option maxRecDepth 8000

section
variable {w : World} {x : RxD} {d d' : PlD}

/-- The row of n cells that are not free. -/
theorem RGrow_ok {n : Int} {p2 : Option Addr} {K : World → Prop} (hx : Rx w x) (hn : 0 ≤ n) (hl : x.Fl.length + n ≤ 2 ^ 22) {tt : Int} (hp2 : p2 = x.a)
    (hK : ∀ w' x', Rx w' x' → To x x' (x.Fl ++ List.replicate n.toNat false) x.Ss → Upd x.FT w w' → Sub x'.FT x.FT w → K w') : F_ref03_Pool_Take_L3 p2 n tt ⟨0⟩ w K := by
  subst hp2
  unfold F_ref03_Pool_Take_L3
  refine ⟨fun s v => 0 ≤ s.k_1 ∧ s.k_1 ≤ n ∧ ∃ x', Rx v x' ∧ To x x' (x.Fl ++ List.replicate s.k_1.toNat false) x.Ss ∧ x'.GS = x.GS ∧ Upd x.FT w v ∧ Sub x'.FT x.FT w, fun s _ => (n - s.k_1).toNat, ⟨by simp, by simpa using hn, x, hx, ⟨rfl, by simp, rfl, rfl⟩, rfl, Upd.refl _ _, Sub.refl _ _⟩, ?_⟩
  rintro ⟨k⟩ v ⟨hk0, hk1, x', hv, to, hgs, u, s⟩
  dsimp only at hk0 hk1 to
  unfold B_ref03_Pool_Take_L3
  dsimp only
  refine ifC (fun hc => ?_) (fun hc => ?_)
  · simp at hc
    rw [← to.a]
    have hff : ∀ v, Rx v x' → v.cell? ⟨x'.b, 0, none⟩ = some (.slice x'.fp x'.fn x'.fc) := fun v hv => by rw [hv.blk.cell]; rfl
    simp only [RxD.a, NN_some, addN, Nat.zero_add, Nat.add_zero, hff _ hv, exS]
    refine BSlL_rule eS_68 [.bool false] (by rfl) (by simp [Value.cells]) (by rfl) (by omega) fun w1 hs1 u1 => ?_
    have h1 := hv.keep u1
    have hfl := hv.fl
    have hlen : x'.Fl.length = x.Fl.length + k.toNat := by rw [to.Fl]; simp
    refine App_rule (hE := eS_68) h1.f hs1 (by simp [Value.cells, Value.oneCell']) (by omega) fun p' c' G' w2 hs2 u2 s2 => ?_
    have U2 : Upd x'.GF v w2 := u1.after u2
    have hbw := hv.blk.lt
    have hG' : ∀ y ∈ G', y ∈ x'.GF ∨ v.heap.size ≤ y := fun y hy => by
      rcases s2 y hy with h7 | h7
      · exact .inl h7
      · have := u1.size; right; omega
    have hbG' : x'.b ∉ G' := fun hy => by
      rcases hG' _ hy with h7 | h7
      · exact hv.bF h7
      · omega
    have hSG' : Dis G' x'.GS := fun k hk hy => by
      rcases hG' _ hk with h7 | h7
      · exact hv.FS k h7 hy
      · have := hv.s.inn k hy; omega
    refine St_rule (hv.blk.upd U2 hv.bF) (by simp) rfl fun w3 u3 hb3 => ?_
    simp at hb3
    have nb : ∀ F : List Nat, x'.b ∉ F → Dis F [x'.b] := fun F hF k hk hy => by simp at hy; subst hy; exact hF hk
    have U3 : Upd x'.FT v w3 := (U2.mono fun k hk => .inl (by simp [RxD.FT, hk])).both (u3.mono fun k hk => .inl (by simp at hk; simp [RxD.FT, hk]))
    rw [i64id (by omega) (by omega)]
    refine ⟨⟨by omega, by omega, { x' with fp := p', fn := x'.fn + 1, fc := c', Fl := x'.Fl ++ [false], GF := G' }, ⟨hb3, ?_, (hv.s.upd U2 hv.FS.symm).upd u3 (nb _ hv.bS), hbG', hv.bS, hSG'⟩, ⟨rfl.trans to.a, ?_, to.Ss, to.lim⟩, hgs, ?_, ?_⟩, by omega⟩
    · have := hs2.upd u3 (nb _ hbG')
      simpa [Value.cells] using this
    · show x'.Fl ++ [false] = _
      rw [to.Fl, show (k + 1).toNat = k.toNat + 1 by omega, List.replicate_succ', List.append_assoc]
    · refine u.trans U3 (fun y hy => .inl hy) fun y hy => s y hy
    · intro y hy
      have hmem : y ∈ x'.FT ∨ v.heap.size ≤ y := by
        simp only [RxD.FT] at hy ⊢
        rcases List.mem_cons.1 hy with rfl | hy
        · left; simp
        · rcases List.mem_append.1 hy with hy | hy
          · rcases hG' y hy with h7 | h7
            · left; simp [h7]
            · exact .inr h7
          · left; simp [hy]
      rcases hmem with h7 | h7
      · exact s y h7
      · have := u.size; right; omega
  · simp at hc
    obtain rfl : k = n := by omega
    exact hK v x' hv to u s

theorem RTake_ok {n : Int} {s : Nat} {K : Int → Int → World → Prop} (hx : Rx w x) (sim : Sim d x) (ok : PlOk d) (hn : -2 ^ 63 ≤ n ∧ n < 2 ^ 63) (hs : s < d.L.length) (hse : s + 1 = d.L.length)
    (h1 : n < 1 → K 0 1 w)
    (hhit : 1 ≤ n → ∀ i, fits d.L[s].runs n = some i → ∀ (hi : i < d.L[s].runs.length) w', Rx w' { x with Fl := setB x.Fl (d.L[s].runs[i]).1.toNat false n.toNat } → Upd x.FT w w' → K (d.L[s].runs[i]).1 0 w')
    (hfull : 1 ≤ n → fits d.L[s].runs n = none → d.limit - d.top < n → ∀ w', Rx w' x → Upd [] w w' → K 0 2 w')
    (htop : 1 ≤ n → fits d.L[s].runs n = none → n ≤ d.limit - d.top → ∀ w' x', Rx w' x' → To x x' (x.Fl ++ List.replicate n.toNat false) x.Ss → Upd x.FT w w' → Sub x'.FT x.FT w → K d.top 0 w') : C_ref03_Pool_Take x.a n w K := by
  apply C_ref03_Pool_Take.of
  unfold F_ref03_Pool_Take F_ref03_Pool_Take_L1
  have e1 := hx.sl
  have e2 := sim.sl
  have e3 := hx.fl
  have e4 := ok.len
  have e5 := sim.top
  have e6 := sim.lim
  have ht := ok.top
  have hlim := ok.lim
  have ht0 := ok.top0
  refine ifC (fun hc => h1 (by simpa using hc)) (fun hc => ?_)
  have hn1 : 1 ≤ n := by simpa using hc
  have hss : w.cell? ⟨x.b, 1, none⟩ = some (.slice x.sp x.sn x.sc) := by rw [hx.blk.cell]; rfl
  have hxa : x.a = some ⟨x.b, 0, none⟩ := rfl
  rw [hxa]
  simp only [NN_some, addN, Nat.zero_add, hss, exS]
  rw [i64id (x := (x.sn : Int) - 1) (by omega) (by omega), show (x.sn : Int) - 1 = s by omega]
  refine RRuns_ok hx sim ok hs fun p1 n1 c1 F1 w1 hr1 u1 f1 => ?_
  have hx1 := hx.keep u1
  have hnl := RowAt.len hr1
  have hrl := ok.rlen hs
  have D1 : Dis F1 x.FT := fun k hk hy => by have := f1 k hk; have := hx.inn k hy; omega
  refine ⟨fun t v => 0 ≤ t.i ∧ t.i ≤ n1 ∧ (∀ j (hj : j < d.L[s].runs.length), (j : Int) < t.i → d.L[s].runs[j].2 < n) ∧ Upd [] w1 v, fun t _ => (n1 - t.i).toNat, ⟨by simp, by simp, fun j hj h => by simp at h; omega, Upd.refl _ _⟩, ?_⟩
  rintro ⟨i⟩ v ⟨hi0, hi1, hlt, u⟩
  dsimp only at hi0 hi1 hlt
  unfold B_ref03_Pool_Take_L1
  dsimp only
  have hv : RowAt v p1 n1 c1 d.L[s].runs F1 := SlAt.upd hr1 u (by intro k _ h; cases h)
  have hxv := hx1.keep u
  have U := u1.after u
  refine ifC (fun hc2 => ?_) (fun hc2 => ?_)
  · simp at hc2
    have hil : i.toNat < d.L[s].runs.length := by omega
    obtain ⟨b, o, hb, q0, q1⟩ := RowAt.get hv hil
    simp only [NN_some, addN, hb, q1, exI]
    refine ⟨hi0, hc2, ifC (fun hc3 => ?_) (fun hc3 => ?_)⟩
    · have hfit : n ≤ d.L[s].runs[i.toNat].2 := by simpa using hc3
      have hf : fits d.L[s].runs n = some i.toNat := by
        unfold fits
        rw [List.findIdx?_eq_some_iff_getElem]
        exact ⟨hil, by simpa using hfit, fun j hj => by have := hlt j (by omega) (by omega); simp; omega⟩
      have hsm := ok.small hs _ (List.getElem_mem hil)
      unfold F_ref03_Pool_Take_L2
      refine ⟨fun t v' => 0 ≤ t.k ∧ t.k ≤ n ∧ Rx v' { x with Fl := setB x.Fl (d.L[s].runs[i.toNat]).1.toNat false t.k.toNat } ∧ Upd x.GF v v', fun t _ => (n - t.k).toNat, ⟨by simp, by simp; omega, hxv, Upd.refl _ _⟩, ?_⟩
      rintro ⟨k⟩ v' ⟨hk0, hk1, hv', u'⟩
      dsimp only at hk0 hk1 hv'
      have hr' : RowAt v' p1 n1 c1 d.L[s].runs F1 := SlAt.upd hv u' (fun k hk hy => D1 k hk (by simp [RxD.FT, hy]))
      unfold B_ref03_Pool_Take_L2
      dsimp only
      refine ifC (fun hc4 => ?_) (fun hc4 => ?_)
      · simp at hc4
        have hfv : (drw v').cell? ⟨x.b, 0, none⟩ = some (.slice x.fp x.fn x.fc) := by rw [(hv'.keep (drw_upd v')).blk.cell]; rfl
        have hr2 : RowAt (drw v') p1 n1 c1 d.L[s].runs F1 := SlAt.drw hr'
        obtain ⟨b2, o2, hb2, g0, g1⟩ := RowAt.get hr2 hil
        have hbb : b2 = b ∧ o2 = o := by rw [hb] at hb2; simp at hb2; exact ⟨hb2.1.symm, hb2.2.symm⟩
        obtain ⟨rfl, rfl⟩ := hbb
        obtain ⟨bf, offf, hpf, hcf⟩ := hx.cellF (k := (d.L[s].runs[i.toNat].1 + k).toNat) (by omega)
        simp only [NN_some, addN, Nat.zero_add, Nat.add_zero, hfv, exS, g0, exI]
        rw [i64id (x := d.L[s].runs[i.toNat].1 + k) (by omega) (by omega), i64id (x := k + 1) (by omega) (by omega)]
        refine ⟨hi0, hc2, by omega, by omega, ?_⟩
        have hvd := hv'.keep (drw_upd v')
        have ew : NN x.fp = NN (some ⟨bf, offf, none⟩) := by rw [hpf]
        rw [ew]
        simp only [NN_some, addN, Nat.mul_one, Nat.add_zero]
        refine hvd.setF hpf (by show _ < (setB x.Fl _ false k.toNat).length; rw [setB_len]; omega) fun w2 h2 u2 => ?_
        refine ⟨⟨by omega, by omega, ?_, u'.both ((drw_upd v').after u2)⟩, by omega⟩
        rw [show (k + 1).toNat = k.toNat + 1 by omega]
        have e : (d.L[s].runs[i.toNat].1 + k).toNat = d.L[s].runs[i.toNat].1.toNat + k.toNat := by omega
        rw [e] at h2
        exact h2
      · simp at hc4
        obtain rfl : k = n := by omega
        obtain ⟨b2, o2, hb2, g0, g1⟩ := RowAt.get hr' hil
        have hbb : b2 = b ∧ o2 = o := by rw [hb] at hb2; simp at hb2; exact ⟨hb2.1.symm, hb2.2.symm⟩
        obtain ⟨rfl, rfl⟩ := hbb
        simp only [NN_some, addN, Nat.add_zero, g0, exI]
        exact ⟨hi0, hc2, hhit hn1 i.toNat hf hil v' hv' (U.after (u'.mono fun y hy => .inl (by simp [RxD.FT, hy])))⟩
    · have hfit : ¬ n ≤ d.L[s].runs[i.toNat].2 := by simpa using hc3
      rw [i64id (by omega) (by omega)]
      refine ⟨⟨by omega, by omega, fun j hj hji => ?_, u⟩, by omega⟩
      by_cases hj2 : j = i.toNat
      · subst hj2; omega
      · exact hlt j hj (by omega)
  · simp at hc2
    have hf : fits d.L[s].runs n = none := by
      unfold fits
      rw [List.findIdx?_eq_none_iff]
      intro y hy
      obtain ⟨j, hj, rfl⟩ := List.getElem_of_mem hy
      have := hlt j hj (by omega)
      simp; omega
    have hxd := hxv.keep (drw_upd v)
    have hff : (drw v).cell? ⟨x.b, 0, none⟩ = some (.slice x.fp x.fn x.fc) := by rw [hxd.blk.cell]; rfl
    have hll : (drw v).cell? ⟨x.b, 2, none⟩ = some (.int .i64 x.lim) := by rw [hxd.blk.cell]; rfl
    simp only [NN_some, addN, Nat.zero_add, Nat.add_zero, hff, hll, exS, exI]
    rw [i64id (x := x.lim - (x.fn : Int)) (by omega) (by omega)]
    have Ud := U.after (drw_upd v)
    refine ifC (fun hc3 => hfull hn1 hf (by simp at hc3; omega) _ hxd Ud) (fun hc3 => ?_)
    have hc3 : n ≤ d.limit - d.top := by simp at hc3; omega
    refine RGrow_ok hxd (by omega) (by omega) rfl fun w2 x2 h2 to2 u2 s2 => ?_
    rw [show (x.fn : Int) = d.top by omega]
    exact htop hn1 hf hc3 w2 x2 h2 to2 (Ud.after u2) (s2.old Ud.size)

/-! ## Both go on alike -/

theorem Sim.tk_hit {t n : Int} (sim : Sim d x) (tk : Tk d d' t n) (htop : d'.top = d.top) : Sim d' { x with Fl := setB x.Fl t.toNat false n.toNat } := by
  have h1 := sim.top
  have h2 := tk.hi
  have h3 := tk.pos
  have h4 := tk.one
  refine ⟨sim.Ss.trans tk.starts.symm, by show ((setB x.Fl t.toNat false n.toNat).length : Int) = _; rw [setB_len, htop]; exact h1, sim.lim.trans tk.limit.symm, fun k hk => ?_⟩
  have hk : k < x.Fl.length := by
    have : k < (setB x.Fl t.toNat false n.toNat).length := hk
    rw [setB_len] at this; exact this
  show at? (setB x.Fl t.toNat false n.toNat) k = true ↔ _
  rw [at_iff, setB_get (by omega), tk.free]
  have hs := sim.free k hk
  rw [at_iff] at hs
  split
  · rename_i hin
    simp; intro _; omega
  · rename_i hin
    rw [hs]
    constructor
    · exact fun h => ⟨h, by omega⟩
    · exact fun h => h.1

theorem Sim.tk_top {n : Int} {x' : RxD} (sim : Sim d x) (tk : Tk d d' d.top n) (htop : d'.top = d.top + n) (ok : PlOk d) (to : To x x' (x.Fl ++ List.replicate n.toNat false) x.Ss) : Sim d' x' := by
  have h1 := sim.top
  have h4 := tk.one
  refine ⟨to.Ss.trans (sim.Ss.trans tk.starts.symm), by rw [to.Fl, htop]; simp; omega, to.lim.trans (sim.lim.trans tk.limit.symm), fun k hk => ?_⟩
  rw [to.Fl, at_iff, tk.free]
  rw [to.Fl] at hk
  by_cases hkl : k < x.Fl.length
  · rw [List.getElem?_append_left hkl, ← at_iff, sim.free k hkl]
    constructor
    · exact fun h => ⟨h, by omega⟩
    · exact fun h => h.1
  · rw [List.getElem?_append_right (by omega)]
    constructor
    · intro h
      rw [List.getElem?_replicate] at h
      split at h <;> simp at h
    · intro h
      have := freeP_lt ok h.1; omega

theorem Sim.gv {t m : Int} (sim : Sim d x) (gv : Gv d d' t m) : Sim d' { x with Fl := setB x.Fl t.toNat true m.toNat } := by
  have h1 := sim.top
  have h2 := gv.pos
  refine ⟨sim.Ss.trans gv.starts.symm, by show ((setB x.Fl t.toNat true m.toNat).length : Int) = _; rw [setB_len, gv.top]; exact h1, sim.lim.trans gv.limit.symm, fun k hk => ?_⟩
  have hk : k < x.Fl.length := by
    have : k < (setB x.Fl t.toNat true m.toNat).length := hk
    rw [setB_len] at this; exact this
  show at? (setB x.Fl t.toNat true m.toNat) k = true ↔ _
  rw [at_iff, setB_get (by omega), gv.free]
  have hs := sim.free k hk
  rw [at_iff] at hs
  split
  · rename_i hin
    simp; right; omega
  · rename_i hin
    rw [hs]
    constructor
    · exact fun h => .inl h
    · exact fun h => h.resolve_right (by omega)

end

end Go.Proofs.Ytcgnligpjfhjlaa
