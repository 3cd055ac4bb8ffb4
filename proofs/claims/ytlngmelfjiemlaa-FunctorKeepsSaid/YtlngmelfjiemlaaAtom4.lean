/- A table of names: Intern, Sweep. -/
import Derived.Test.YtlngmelfjiemlaaAtom3
namespace Go.Proofs.Ytlngmelfjiemlaa
open Go Go.D Go.Proofs
set_option linter.unusedSimpArgs false
set_option linter.unusedVariables false
set_option maxRecDepth 8000

/-- A slot that goes. -/
def goneS (i : Nat) (s : Slot) : Bool := s.is && !s.mark && decide (15 ≤ i)

/-- A slot behind a sweep. -/
def swS (i : Nat) (s : Slot) : Slot := if goneS i s then ⟨⟨#[]⟩, false, false⟩ else ⟨s.name, s.is, false⟩

/-- The first slots swept. -/
def swL (L : List Slot) : Nat → List Slot
  | 0 => L
  | i + 1 => match (swL L i)[i]? with | some s => (swL L i).set i (swS i s) | none => swL L i

/-- How many went. -/
def swC (L : List Slot) : Nat → Int
  | 0 => 0
  | i + 1 => swC L i + match L[i]? with | some s => if goneS i s then 1 else 0 | none => 0

theorem swL_len (L : List Slot) : ∀ i, (swL L i).length = L.length
  | 0 => rfl
  | i + 1 => by
    simp only [swL]
    split
    · rw [List.length_set]; exact swL_len L i
    · exact swL_len L i

theorem swL_get (L : List Slot) : ∀ i j, (swL L i)[j]? = if j < i then (L[j]?).map (swS j) else L[j]?
  | 0, j => by rw [if_neg (by omega)]; rfl
  | i + 1, j => by
    have ih := swL_get L i
    simp only [swL]
    have hi := ih i
    rw [if_neg (by omega)] at hi
    by_cases hj : j = i
    · subst hj
      rw [if_pos (by omega)]
      split
      · rename_i s hs
        rw [hi] at hs
        have hl : j < L.length := (List.getElem?_eq_some_iff.1 hs).1
        rw [List.getElem?_set_self (by rw [swL_len]; exact hl), hs]; rfl
      · rename_i hs
        rw [hi] at hs
        rw [hi, hs]; rfl
    · have e : (if j < i + 1 then (L[j]?).map (swS j) else L[j]?) = if j < i then (L[j]?).map (swS j) else L[j]? := by
        by_cases h1 : j < i
        · rw [if_pos h1, if_pos (by omega)]
        · rw [if_neg h1, if_neg (by omega)]
      rw [e, ← ih j]
      split
      · rw [List.getElem?_set_ne (fun e => hj e.symm)]
      · rfl

theorem swC_bnd (L : List Slot) : ∀ i, 0 ≤ swC L i ∧ swC L i ≤ i
  | 0 => by simp [swC]
  | i + 1 => by
    have := swC_bnd L i
    simp only [swC]
    split
    · split <;> omega
    · omega

section
variable {w : World} {a : Option Addr} {FT : List Nat} {L : List Slot} {made lim : Int}

theorem Intern_ok {name : ByteArray} {K : Int → Int → World → Prop} (h : Has w a FT L made lim) (hmade : made < 2 ^ 40)
    (hlong : 64 < name.size → ∀ w' d, Nx w w' a FT lim d → d.L = L → d.made = made → K 0 3 w')
    (hfound : name.size ≤ 64 → ∀ i, findN L name = some i → ∀ w' d, Nx w w' a FT lim d → d.L = L → d.made = made → K i 0 w')
    (hfree : name.size ≤ 64 → findN L name = none → ∀ i, freeN L = some i → ∀ w' d, Nx w w' a FT lim d → d.L = L.set i ⟨name, true, false⟩ → d.made = made + 1 → K i 0 w')
    (hfull : name.size ≤ 64 → findN L name = none → freeN L = none → lim ≤ L.length → ∀ w' d, Nx w w' a FT lim d → d.L = L → d.made = made → K 0 2 w')
    (hgrow : name.size ≤ 64 → findN L name = none → freeN L = none → L.length < lim → ∀ w' d, Nx w w' a FT lim d → d.L = L ++ [⟨name, true, false⟩] → d.made = made + 1 → K L.length 0 w') : C_atom_Table_Intern a name w K := by
  apply C_atom_Table_Intern.of
  unfold F_atom_Table_Intern F_atom_Table_Intern_k1
  refine ready_nx h fun w1 d n hL hm => ifF rfl (ifC (fun hc => hlong (by simp at hc; omega) w1 d n hL hm) (fun hc => ?_))
  have hsz : name.size ≤ 64 := by simp at hc; omega
  have hr : ∀ {w'}, Tb w' d → w'.cell? ⟨d.b, 6, none⟩ = some (.map (some d.r)) := fun t => by rw [t.blk.cell]; rfl
  have hl : ∀ {w'}, Tb w' d → w'.cell? ⟨d.b, 5, none⟩ = some (.slice d.lp d.ln d.lc) := fun t => by rw [t.blk.cell]; rfl
  have hg : ∀ {w'}, Tb w' d → w'.cell? ⟨d.b, 7, none⟩ = some (.slice d.gp d.gn d.gc) := fun t => by rw [t.blk.cell]; rfl
  have hli : ∀ {w'}, Tb w' d → w'.cell? ⟨d.b, 4, none⟩ = some (.int .i64 d.lim) := fun t => by rw [t.blk.cell]; rfl
  have ea : ∀ (Q : Addr → Prop), NN a Q = NN (some ⟨d.b, 0, none⟩) Q := fun Q => by rw [← n.a]; rfl
  have tb := n.tb
  simp only [ea, NN_some, addN, Nat.zero_add, Nat.add_zero, hr tb, exM]
  refine Lookup2_rule (κ := ByteArray) (kt := 9) (et := 3) (inj := nV) (z := .int .i64 0) (k := name) keyName (by rfl) ⟨_, rfl, rfl⟩ tb.map ?_
  have hfind := n.ok.at'.find name
  rw [hfind, hL]
  have nbd : ∀ F : List Nat, d.b ∉ F → Dis F [d.b] := fun F hF k hk hy => by simp at hy; subst hy; exact hF hk
  have nrd : ∀ F : List Nat, d.r ∉ F → Dis F [d.r] := fun F hF k hk hy => by simp at hy; subst hy; exact hF hk
  have hmd := n.ok.made
  have hbr : d.b ∉ [d.r] := by simp; exact tb.br
  have hrb : d.r ∉ [d.b] := by simp; exact fun e => tb.br e.symm
  have ib : ∀ x ∈ [d.b], x ∈ d.FT := by intro x hx; simp at hx; subst hx; simp [AtD.FT]
  have ir : ∀ x ∈ [d.r], x ∈ d.FT := by intro x hx; simp at hx; subst hx; simp [AtD.FT]
  have iL : ∀ x ∈ d.GL, x ∈ d.FT := fun x hx => by simp [AtD.FT, hx]
  have iE : ∀ x ∈ d.GE, x ∈ d.FT := fun x hx => by simp [AtD.FT, hx]
  rcases hf : findN L name with _ | i
  · refine ⟨_, _, rfl, ifF rfl ?_⟩
    have hlook : Go.D.look name d.M = none := by rw [hfind, hL, hf]; rfl
    simp only [hl tb, hg tb, hli tb, exS, exI]
    have hel := tb.elen
    have hln := tb.len
    have hll := n.ok.ll
    have hlim := n.ok.lim
    refine ifC (fun hc2 => ?_) (fun hc2 => ?_)
    · -- a free one
      obtain ⟨k, E', hE⟩ : ∃ k E', d.E = k :: E' := by
        cases hE : d.E with
        | nil => rw [hE] at hel; simp at hel; simp [hel] at hc2
        | cons k E' => exact ⟨k, E', rfl⟩
      have hat := n.ok.at'
      have hasc := n.ok.asc
      rw [hE] at hat hasc
      obtain ⟨i, s, hk, hfr, hi, his⟩ := hat.free_some hasc
      have hil : i < d.L.length := (List.getElem?_eq_some_iff.1 hi).1
      have hpe := tb.e
      rw [hE] at hpe hel
      obtain ⟨bg, og, hpg, hcg⟩ := hpe.cell (i := 0) (by simp at hel; omega)
      simp only [List.map_cons, List.getElem?_cons_zero] at hcg
      have eg : ∀ (Q : Addr → Prop), NN d.gp Q = NN (some ⟨bg, og, none⟩) Q := fun Q => by rw [hpg]
      have hd := hpe.drop (k := 1) (by simp at hel; omega)
      simp only [eg, NN_some, addN, Int.toNat_zero, Nat.zero_mul, Nat.add_zero, show og + 0 = og from rfl] at hcg ⊢
      simp only [hcg, exI]
      have t1 : (1 : Int).toNat = 1 := rfl
      rw [t1]
      refine ⟨by omega, by simp at hel; omega, by omega, by simp at hel; omega, St_rule tb.blk (by simp [atBlk]) rfl fun w2 u2 hb2 => ?_⟩
      have hb2 : Blk w2 d.b (atBlk 1 0 d.made d.lim d.lp d.ln d.lc (some d.r) (adv d.gp d.gc 1 1) (d.gn - 1) (d.gc - 1)) := hb2
      have hl2 : w2.cell? ⟨d.b, 5, none⟩ = some (.slice d.lp d.ln d.lc) := by rw [hb2.cell]; rfl
      obtain ⟨bl, ol, hpl, _, _, _⟩ := tb.slot hil
      have el : ∀ (Q : Addr → Prop), NN d.lp Q = NN (some ⟨bl, ol, none⟩) Q := fun Q => by rw [hpl]
      rw [hk]
      simp only [hl2, exS, el, NN_some, addN, Int.toNat_natCast, Nat.add_zero]
      refine ⟨by omega, by omega, ?_⟩
      have hls2 := tb.l.upd u2 (nbd _ tb.bL)
      refine setSlot3 (y := ⟨name, true, false⟩) hls2 hil hpl fun w3 hls3 u3 => ?_
      have hb3 := hb2.upd u3 tb.bL
      have hr3 : w3.cell? ⟨d.b, 6, none⟩ = some (.map (some d.r)) := by rw [hb3.cell]; rfl
      simp only [hr3, exM]
      have hm3 := (tb.map.upd u2 hrb).upd u3 tb.rL
      refine MUp_rule (κ := ByteArray) (kt := 9) (et := 3) (inj := nV) (k := name) keyName (by rfl) hm3 fun w4 hm4 u4 => ?_
      have hb4 := hb3.upd u4 hbr
      refine Add64_ok (x := d.made) (y := 1) hb4 (by rfl) (by omega) fun w5 u5 hb5 => ?_
      have hd5 := (((hd.upd u2 (nbd _ tb.bE)).upd u3 tb.LE.symm).upd u4 (nrd _ tb.rE)).upd u5 (nbd _ tb.bE)
      have hl5 := (hls3.upd u4 (nrd _ tb.rL)).upd u5 (nbd _ tb.bL)
      have hm5 := hm4.upd u5 hrb
      have e1 : ((k :: E').map (Value.int .i64)).drop (1 * 1) = E'.map (Value.int .i64) := by simp
      rw [e1] at hd5
      have U5 : Upd d.FT w1 w5 := (((u2.mono fun x hx => .inl (ib x hx)).both (u3.mono fun x hx => .inl (iL x hx))).both (u4.mono fun x hx => .inl (ir x hx))).both (u5.mono fun x hx => .inl (ib x hx))
      have hfr' : freeN L = some i := by rw [← hL]; exact hfr
      refine hfree hsz hf i hfr' w5 { d with L := d.L.set i ⟨name, true, false⟩, M := put name (.int .i64 (i : Nat)) d.M, E := E', made := d.made + 1, gp := adv d.gp d.gc 1 1, gn := d.gn - 1, gc := d.gc - 1 } ⟨⟨hb5, hl5, hm5, hd5, tb.br, tb.bL, tb.bE, tb.rL, tb.rE, tb.LE⟩, ⟨?_, (List.pairwise_cons.1 hasc).2, by simpa using hll, hlim, by show 0 ≤ d.made + 1 ∧ d.made + 1 ≤ 2 ^ 40; omega⟩, n.a, n.lim, n.U.trans U5 (fun x hx => .inl hx) (fun x hx => n.S x hx), n.S⟩ (by show d.L.set i _ = _; rw [hL]) (by show d.made + 1 = _; rw [hm])
      exact AtM.fill (by rw [← hk]; exact hat) hi his hlook
    · -- none is free
      have hE : d.E = [] := by
        have : d.E.length = 0 := by simp at hc2; omega
        simpa using this
      have hat := n.ok.at'
      rw [hE] at hat
      have hfr : freeN L = none := by rw [← hL]; exact hat.free_none
      refine ifC (fun hc3 => hfull hsz hf hfr (by simp at hc3; have := n.lim; rw [← hL]; omega) w1 d n hL hm) (fun hc3 => ?_)
      have hlt : (d.L.length : Int) < d.lim := by simp at hc3; omega
      refine BSlL_rule eS_86 [.agg #[.string name, .bool true, .bool false]] (by rfl) (by simp [Value.cells]) (by rfl) (by omega) fun w2 hs2 u2 => ?_
      have tb2 := tb.keep u2
      refine App_rule (hE := eS_86) tb2.l hs2 (by simp [Value.cells, Value.oneCell']) (by omega) fun p' c' G' w3 hs3 u3 s3 => ?_
      have V3 : Upd d.GL w1 w3 := u2.after u3
      have hsz1 := u2.size
      have hG' : ∀ y ∈ G', y ∈ d.GL ∨ w1.heap.size ≤ y := fun y hy => by
        rcases s3 y hy with e | e
        · exact .inl e
        · right; omega
      have nG : ∀ c, c < w1.heap.size → c ∉ d.GL → c ∉ G' := fun c hcl hcn hx => by
        rcases hG' c hx with e | e
        · exact hcn e
        · omega
      have hbG := nG d.b tb.blk.lt tb.bL
      have hrG := nG d.r tb.map.lt tb.rL
      have hGE : Dis G' d.GE := fun k hk hx => by
        rcases hG' k hk with e | e
        · exact tb.LE k e hx
        · have := tb.e.inn k hx; omega
      refine St_rule (tb.blk.upd V3 tb.bL) (by simp [atBlk]) rfl fun w4 u4 hb4 => ?_
      have hb4 : Blk w4 d.b (atBlk 1 0 d.made d.lim p' (d.ln + 1) c' (some d.r) d.gp d.gn d.gc) := hb4
      have hr4 : w4.cell? ⟨d.b, 6, none⟩ = some (.map (some d.r)) := by rw [hb4.cell]; rfl
      simp only [hr4, exM]
      have hm4 := (tb.map.upd V3 tb.rL).upd u4 hrb
      refine MUp_rule (κ := ByteArray) (kt := 9) (et := 3) (inj := nV) (k := name) keyName (by rfl) hm4 fun w5 hm5 u5 => ?_
      have hb5 := hb4.upd u5 hbr
      refine Add64_ok (x := d.made) (y := 1) hb5 (by rfl) (by omega) fun w6 u6 hb6 => ?_
      have hl6 := ((hs3.upd u4 (nbd _ hbG)).upd u5 (nrd _ hrG)).upd u6 (nbd _ hbG)
      have he6 := (((tb.e.upd V3 tb.LE.symm).upd u4 (nbd _ tb.bE)).upd u5 (nrd _ tb.rE)).upd u6 (nbd _ tb.bE)
      have hm6 := hm5.upd u6 hrb
      have hl6 : SlAt w6 3 p' (d.ln + 1) c' ((d.L ++ [(⟨name, true, false⟩ : Slot)]).flatMap slC) G' := by
        rw [List.flatMap_append]
        simpa [Value.cells, slC] using hl6
      have U6 : Upd d.FT w1 w6 := (((V3.mono fun x hx => .inl (iL x hx)).both (u4.mono fun x hx => .inl (ib x hx))).both (u5.mono fun x hx => .inl (ir x hx))).both (u6.mono fun x hx => .inl (ib x hx))
      have S6 : Sub (d.b :: d.r :: (G' ++ d.GE)) FT w := fun x hx => by
        have hx' : x ∈ d.FT ∨ w1.heap.size ≤ x := by
          rcases List.mem_cons.1 hx with rfl | hx
          · left; simp [AtD.FT]
          rcases List.mem_cons.1 hx with rfl | hx
          · left; simp [AtD.FT]
          rcases List.mem_append.1 hx with hx | hx
          · exact (hG' x hx).imp (iL x) (fun e => e)
          · exact .inl (iE x hx)
        rcases hx' with e | e
        · exact n.S x e
        · have := n.U.size; right; omega
      have ell : (d.ln : Int) = L.length := by rw [hln, hL]
      rw [ell]
      refine hgrow hsz hf hfr (by rw [← hL, ← n.lim]; exact hlt) w6 { d with L := d.L ++ [⟨name, true, false⟩], M := put name (.int .i64 (d.L.length : Nat)) d.M, made := d.made + 1, lp := p', ln := d.ln + 1, lc := c', GL := G' } ⟨⟨hb6, hl6, ?_, he6, tb.br, hbG, tb.bE, hrG, tb.rE, hGE⟩, ⟨n.ok.at'.grow hlook, n.ok.asc, by simp; omega, hlim, by show 0 ≤ d.made + 1 ∧ d.made + 1 ≤ 2 ^ 40; omega⟩, n.a, n.lim, n.U.trans U6 (fun x hx => .inl hx) (fun x hx => n.S x hx), S6⟩ (by show d.L ++ _ = _; rw [hL]) (by show d.made + 1 = _; rw [hm])
      rw [hln] at hm6
      exact hm6
  · exact ⟨_, _, rfl, ifT rfl (hfound hsz i hf w1 d n hL hm)⟩

end

end Go.Proofs.Ytlngmelfjiemlaa
