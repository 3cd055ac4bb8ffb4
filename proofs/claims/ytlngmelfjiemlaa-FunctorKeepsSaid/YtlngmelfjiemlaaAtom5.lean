/- A table of names: Sweep. -/
import Derived.Test.YtlngmelfjiemlaaAtom4
namespace Go.Proofs.Ytlngmelfjiemlaa
open Go Go.D Go.Proofs
set_option linter.unusedSimpArgs false
set_option linter.unusedVariables false
set_option maxRecDepth 8000

theorem asc_len : ∀ {E : List Int} {lo hi : Int}, E.Pairwise (· < ·) → (∀ k ∈ E, lo ≤ k ∧ k < hi) → lo ≤ hi → (E.length : Int) ≤ hi - lo
  | [], _, _, _, _, h => by simp; omega
  | k :: E, lo, hi, ha, hb, h => by
    have hp := List.pairwise_cons.1 ha
    have h1 := hb k (by simp)
    have := asc_len (lo := k + 1) (hi := hi) hp.2 (fun j hj => by have := hp.1 j hj; have := hb j (by simp [hj]); omega) (by omega)
    simp; omega

section
variable {w : World} {a : Option Addr} {FT : List Nat} {L : List Slot} {made lim : Int}

theorem Sweep_ok {K : Int → World → Prop} (h : Has w a FT L made lim) (hK : ∀ w' d, Nx w w' a FT lim d → d.L = swL L L.length → d.made = made → K (swC L L.length) w') : C_atom_Table_Sweep a w K := by
  apply C_atom_Table_Sweep.of
  unfold F_atom_Table_Sweep F_atom_Table_Sweep_L1
  refine ready_nx h fun w1 d n hL hm => ifF rfl ?_
  have ea : ∀ (Q : Addr → Prop), NN a Q = NN (some ⟨d.b, 0, none⟩) Q := fun Q => by rw [← n.a]; rfl
  have tb := n.tb
  have hl0 : w1.cell? ⟨d.b, 5, none⟩ = some (.slice d.lp d.ln d.lc) := by rw [tb.blk.cell]; rfl
  simp only [ea, NN_some, addN, Nat.zero_add, Nat.add_zero, hl0, exS]
  have hln := tb.len
  have hll := n.ok.ll
  have hlim := n.ok.lim
  have hel : (d.E.length : Int) ≤ d.L.length := by
    have := asc_len (lo := 0) (hi := d.L.length) n.ok.asc (fun k hk => by
      obtain ⟨i, s, rfl, hi, _⟩ := (n.ok.at'.emem k).1 hk
      have := (List.getElem?_eq_some_iff.1 hi).1
      omega) (by omega)
    omega
  have hbd := swC_bnd L
  have hmd := n.ok.made
  refine ⟨fun s v => 0 ≤ s.t14 ∧ s.t14 ≤ L.length ∧ s.n = swC L s.t14.toNat ∧ ∃ d', Tb v d' ∧ AtM d'.L d'.M d'.E ∧ d'.a = d.a ∧ d'.lim = d.lim ∧ d'.made = d.made ∧ d'.L = swL L s.t14.toNat ∧ (d'.E.length : Int) ≤ d.E.length + s.t14 ∧ Upd d.FT w1 v ∧ Sub d'.FT d.FT w1, fun s _ => (L.length - s.t14).toNat,
    ⟨by simp, by simp, by simp [swC], d, tb, n.ok.at', rfl, rfl, rfl, hL, by simp, Upd.refl _ _, Sub.refl _ _⟩, ?_⟩
  rintro ⟨m, i⟩ v ⟨hi0, hi1, hmm, d', t, hat, ha, hli, hma, hLi, hE, U, S⟩
  dsimp only at hi0 hi1 hmm hLi hE
  unfold B_atom_Table_Sweep_L1 F_atom_Table_Sweep_k1
  dsimp only
  have hb : d'.b = d.b := by have := ha; unfold AtD.a at this; simpa using this
  have eb : ∀ (Q : Addr → Prop), NN a Q = NN (some ⟨d'.b, 0, none⟩) Q := fun Q => by rw [hb]; exact ea Q
  have hlen' : d'.L.length = L.length := by rw [hLi, swL_len]
  have hln' := t.len
  have hel' := t.elen
  have hLL : d.L.length = L.length := by rw [hL]
  refine ifC (fun hc => ?_) (fun hc => ?_)
  · simp at hc
    have hil : i.toNat < d'.L.length := by omega
    have hiL : i.toNat < L.length := by omega
    have hget : d'.L[i.toNat] = L[i.toNat] := by
      have := swL_get L i.toNat i.toNat
      rw [if_neg (by omega), ← hLi, List.getElem?_eq_getElem hil, List.getElem?_eq_getElem hiL] at this
      exact Option.some.inj this
    have hl1 : v.cell? ⟨d'.b, 5, none⟩ = some (.slice d'.lp d'.ln d'.lc) := by rw [t.blk.cell]; rfl
    obtain ⟨bl, ol, hpl, q0, q1, q2⟩ := t.slot hil
    have el : ∀ (Q : Addr → Prop), NN d'.lp Q = NN (some ⟨bl, ol, none⟩) Q := fun Q => by rw [hpl]
    simp only [eb, NN_some, addN, Nat.zero_add, Nat.add_zero, hl1, exS, el, q1, q2, exB]
    rw [hget]
    have nbd : ∀ F : List Nat, d'.b ∉ F → Dis F [d'.b] := fun F hF k hk hy => by simp at hy; subst hy; exact hF hk
    have nrd : ∀ F : List Nat, d'.r ∉ F → Dis F [d'.r] := fun F hF k hk hy => by simp at hy; subst hy; exact hF hk
    have estep : swL L (i + 1).toNat = d'.L.set i.toNat (swS i.toNat L[i.toNat]) := by
      rw [show (i + 1).toNat = i.toNat + 1 by omega]
      simp only [swL]
      rw [← hLi, List.getElem?_eq_getElem hil, hget]
    have ecnt : swC L (i + 1).toNat = m + if goneS i.toNat L[i.toNat] then 1 else 0 := by
      rw [show (i + 1).toNat = i.toNat + 1 by omega, hmm]
      simp only [swC]
      rw [List.getElem?_eq_getElem hiL]
    have hbi := hbd i.toNat
    -- the mark is off
    have fin : ∀ {v' : World} {d'' : AtD} {m' : Int}, Tb v' d'' → AtM d''.L d''.M d''.E → d''.a = d.a → d''.lim = d.lim → d''.made = d.made → d''.lp = d'.lp → (hl : i.toNat < d''.L.length) → d''.L.set i.toNat ⟨d''.L[i.toNat].name, d''.L[i.toNat].is, false⟩ = swL L (i + 1).toNat → (d''.E.length : Int) ≤ d.E.length + (i + 1) → Upd d.FT w1 v' → Sub d''.FT d.FT w1 → m' = swC L (i + 1).toNat →
        F_atom_Table_Sweep_k2 ⟨m, i⟩ (fun s v => (0 ≤ s.t14 ∧ s.t14 ≤ L.length ∧ s.n = swC L s.t14.toNat ∧ ∃ d', Tb v d' ∧ AtM d'.L d'.M d'.E ∧ d'.a = d.a ∧ d'.lim = d.lim ∧ d'.made = d.made ∧ d'.L = swL L s.t14.toNat ∧ (d'.E.length : Int) ≤ d.E.length + s.t14 ∧ Upd d.FT w1 v ∧ Sub d'.FT d.FT w1) ∧ (L.length - s.t14).toNat < (L.length - i).toNat) ⟨bl, ol, none⟩ m' v' := by
      intro v' d'' m' t2 hat2 z1 z2 z3 z4 hl z5 z6 z7 z8 z9
      unfold F_atom_Table_Sweep_k2
      dsimp only
      simp only [NN_some, addN, Nat.add_zero]
      refine setSlot (j := 2) (y := ⟨d''.L[i.toNat].name, d''.L[i.toNat].is, false⟩) t2.l hl (by rw [z4]; exact hpl) (by omega) rfl (by simp [slC]) fun v2 hl2 u2 => ?_
      rw [i64id (by omega) (by omega)]
      refine ⟨⟨by omega, by omega, z9, { d'' with L := d''.L.set i.toNat ⟨d''.L[i.toNat].name, d''.L[i.toNat].is, false⟩ }, ⟨t2.blk.upd u2 t2.bL, hl2, t2.map.upd u2 t2.rL, t2.e.upd u2 t2.LE.symm, t2.br, t2.bL, t2.bE, t2.rL, t2.rE, t2.LE⟩, hat2.mark (List.getElem?_eq_getElem hl), z1, z2, z3, z5, z6, z7.trans u2 (fun x hx => .inl hx) (fun x hx => z8 x (by simp [AtD.FT, hx])), z8⟩, by omega⟩
    have S' : ∀ x ∈ d'.FT, x ∈ d.FT ∨ w1.heap.size ≤ x := S
    refine ⟨hi0, by omega, ifC (fun his => ?_) (fun his => ?_)⟩
    · refine ifC (fun hmk => ?_) (fun hmk => ?_)
      · refine Reserved_ok fun v1 hs1 uv1 => ?_
        have t1 := t.keep uv1
        have td := t1.keep (drw_upd v1)
        refine ifC (fun h15 => ?_) (fun h15 => ?_)
        · -- it goes
          have h15 : 15 ≤ i := by simpa using h15
          have hgone : goneS i.toNat L[i.toNat] = true := by
            unfold goneS
            have hmk : L[i.toNat].mark = false := by simpa using hmk
            rw [his, hmk, decide_eq_true (show 15 ≤ i.toNat by omega)]; rfl
          have hr1 : (drw v1).cell? ⟨d'.b, 6, none⟩ = some (.map (some d'.r)) := by rw [td.blk.cell]; rfl
          obtain ⟨bl2, ol2, hpl2, g0, g1, g2⟩ := td.slot hil
          have hbb : bl2 = bl ∧ ol2 = ol := by rw [hpl] at hpl2; simp at hpl2; exact ⟨hpl2.1.symm, hpl2.2.symm⟩
          obtain ⟨rfl, rfl⟩ := hbb
          simp only [hr1, exM, g0, exStr]
          refine Del_rule (κ := ByteArray) (kt := 9) (et := 3) (inj := nV) (k := d'.L[i.toNat].name) keyName (by rfl) td.map fun vv v2 hm2 u2 => ?_
          have hls2 := td.l.upd u2 (nrd _ td.rL)
          refine setSlot3 (y := ⟨⟨#[]⟩, false, false⟩) hls2 hil hpl fun v3 hls3 u3 => ?_
          have hbr : d'.b ∉ [d'.r] := by simp; exact td.br
          have hb3 := (td.blk.upd u2 hbr).upd u3 td.bL
          have hm3 := hm2.upd u3 td.rL
          have he3 := (td.e.upd u2 (nrd _ td.rE)).upd u3 td.LE.symm
          have hg3 : v3.cell? ⟨d'.b, 7, none⟩ = some (.slice d'.gp d'.gn d'.gc) := by rw [hb3.cell]; rfl
          simp only [hg3, exS]
          refine BSlL_rule eS_43 [.int .i64 i] (by rfl) (by simp [Value.cells]) (by rfl) (by omega) fun v4 hs4 u4 => ?_
          refine App_rule (hE := eS_43) (he3.upd u4 (by intro k _ h; cases h)) hs4 (by simp [Value.cells, Value.oneCell']) (by omega) fun p' c' G' v5 hs5 u5 s5 => ?_
          have V5 : Upd d'.GE v3 v5 := u4.after u5
          have V3 : Upd (d'.r :: d'.GL) (drw v1) v3 := (u2.mono fun k hk => .inl (by simp at hk; simp [hk])).both (u3.mono fun k hk => .inl (by simp [hk]))
          have hsz3 : v1.heap.size ≤ v3.heap.size := V3.size
          have hsz4 := u4.size
          have hG' : ∀ y ∈ G', y ∈ d'.GE ∨ v3.heap.size ≤ y := fun y hy => by
            rcases s5 y hy with e | e
            · exact .inl e
            · right; omega
          have nG : ∀ c, c < v1.heap.size → c ∉ d'.GE → c ∉ G' := fun c hcl hcn hx => by
            rcases hG' c hx with e | e
            · exact hcn e
            · omega
          have hbG := nG d'.b t1.blk.lt t1.bE
          have hrG := nG d'.r t1.map.lt t1.rE
          have hLG : Dis d'.GL G' := fun k hk hx => by
            rcases hG' k hx with e | e
            · exact t1.LE k hk e
            · have := t1.l.inn k hk; omega
          refine St_rule (hb3.upd V5 td.bE) (by simp [atBlk]) rfl fun v6 u6 hb6 => ?_
          have hb6 : Blk v6 d'.b (atBlk 1 0 d'.made d'.lim d'.lp d'.ln d'.lc (some d'.r) p' (d'.gn + 1) c') := hb6
          have hl6 := (hls3.upd V5 td.LE).upd u6 (nbd _ td.bL)
          have hrb : d'.r ∉ [d'.b] := by simp; exact fun e => td.br e.symm
          have hm6 := (hm3.upd V5 td.rE).upd u6 hrb
          have he6 := hs5.upd u6 (nbd _ hbG)
          have he6 : SlAt v6 1 p' (d'.gn + 1) c' ((d'.E ++ [i]).map (.int .i64)) G' := by
            rw [List.map_append]
            simpa [Value.cells] using he6
          have t6 : Tb v6 { d' with L := d'.L.set i.toNat ⟨⟨#[]⟩, false, false⟩, M := drop1 d'.L[i.toNat].name d'.M, E := d'.E ++ [i], gp := p', gn := d'.gn + 1, gc := c', GE := G' } := ⟨hb6, hl6, hm6, he6, td.br, td.bL, hbG, td.rL, hrG, hLG⟩
          have hat6 := hat.kill (i := i.toNat) (s := d'.L[i.toNat]) (z := ⟨#[]⟩) (List.getElem?_eq_getElem hil) (by rw [hget]; exact his) (by omega)
          rw [show ((i.toNat : Nat) : Int) = i by omega] at hat6
          have V6 : Upd d'.FT v v6 := ((((uv1.after (drw_upd v1)).after (V3.mono fun k hk => .inl ?_)).both (V5.mono fun k hk => .inl ?_)).both (u6.mono fun k hk => .inl ?_))
          · rw [i64id (x := m + 1) (by omega) (by omega)]
            refine fin t6 hat6 ha hli hma rfl (by simpa using hil) ?_ (by simp; omega) (U.trans V6 (fun x hx => .inl hx) S) ?_ ?_
            · rw [estep]
              simp only [List.getElem_set_self, List.set_set]
              congr 1
              unfold swS
              rw [hgone]; rfl
            · intro x hx
              have hx' : x ∈ d'.FT ∨ v.heap.size ≤ x := by
                simp only [AtD.FT] at hx ⊢
                rcases List.mem_cons.1 hx with rfl | hx
                · left; simp
                rcases List.mem_cons.1 hx with rfl | hx
                · left; simp
                rcases List.mem_append.1 hx with hx | hx
                · left; simp [hx]
                · rcases hG' x hx with e | e
                  · left; simp [e]
                  · have := uv1.size; right; omega
              rcases hx' with e | e
              · exact S x e
              · have := U.size; right; omega
            · rw [ecnt, hgone]; rfl
          · rcases List.mem_cons.1 hk with rfl | hk
            · simp [AtD.FT]
            · simp [AtD.FT, hk]
          · simp [AtD.FT, hk]
          · simp at hk; subst hk; simp [AtD.FT]
        · -- reserved
          have h15 : ¬ 15 ≤ i := by simpa using h15
          have hgone : goneS i.toNat L[i.toNat] = false := by
            unfold goneS
            rw [decide_eq_false (show ¬ 15 ≤ i.toNat by omega)]; simp
          refine fin t1 hat ha hli hma rfl hil ?_ (by omega) (U.before uv1) S (by rw [ecnt, hgone]; simp)
          rw [estep, hget]
          unfold swS
          rw [hgone]; rfl
      · -- marked
        have hmk : L[i.toNat].mark = true := by simpa using hmk
        have hgone : goneS i.toNat L[i.toNat] = false := by unfold goneS; rw [hmk]; simp
        refine fin t hat ha hli hma rfl hil ?_ (by omega) U S (by rw [ecnt, hgone]; simp)
        rw [estep, hget]
        unfold swS
        rw [hgone]; rfl
    · -- free
      have hgone : goneS i.toNat L[i.toNat] = false := by unfold goneS; rw [his]; simp
      refine fin t hat ha hli hma rfl hil ?_ (by omega) U S (by rw [ecnt, hgone]; simp)
      rw [estep, hget]
      unfold swS
      rw [hgone]; rfl
  · simp at hc
    have hi : i.toNat = L.length := by omega
    rw [hi] at hmm hLi
    have hg1 : v.cell? ⟨d'.b, 7, none⟩ = some (.slice d'.gp d'.gn d'.gc) := by rw [t.blk.cell]; rfl
    have hg1 : v.cell? ⟨d.b, 7, none⟩ = some (.slice d'.gp d'.gn d'.gc) := by rw [← hb]; exact hg1
    simp only [hg1, exS]
    refine Sort_ok t.e (by omega) fun v2 he2 u2 => ?_
    have hsl : (sortL d'.E).length = d'.E.length := by unfold sortL; rw [List.length_mergeSort]
    have t2 : Tb v2 { d' with E := sortL d'.E } := ⟨t.blk.upd u2 t.bE, t.l.upd u2 t.LE, t.map.upd u2 t.rE, he2, t.br, t.bL, t.bE, t.rL, t.rE, t.LE⟩
    have hso := sortL_asc hat.nodup
    rw [hmm]
    refine hK v2 { d' with E := sortL d'.E } ⟨t2, ⟨⟨hat.res, hat.once, hat.ml, hat.look1, hat.look2, hso.2, fun k => ?_⟩, hso.1, ?_, ?_, ?_⟩, ha.trans n.a, hli.trans n.lim, ?_, ?_⟩ hLi (hma.trans hm)
    · rw [sortL_mem]; exact hat.emem k
    · show (d'.L.length : Int) ≤ d'.lim; rw [hlen', hli, ← hLL]; exact hll
    · show d'.lim ≤ _; rw [hli]; exact hlim
    · show 0 ≤ d'.made ∧ d'.made ≤ _; rw [hma]; exact hmd
    · exact (n.U.trans U (fun x hx => .inl hx) (fun x hx => n.S x hx)).trans u2 (fun x hx => .inl hx) fun x hx => by
        rcases S x (by simp [AtD.FT, hx]) with e | e
        · exact n.S x e
        · have := n.U.size; right; omega
    · intro x hx
      have hx : x ∈ d'.FT := hx
      rcases S x hx with e | e
      · exact n.S x e
      · have := n.U.size; right; omega

end

end Go.Proofs.Ytlngmelfjiemlaa
