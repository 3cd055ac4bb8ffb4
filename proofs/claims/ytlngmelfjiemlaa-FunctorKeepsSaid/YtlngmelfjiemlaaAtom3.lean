/- A table of names: its calls. -/
import Derived.Test.YtlngmelfjiemlaaAtom2
import Derived.Test.YtlngmelfjiemlaaSortS2
namespace Go.Proofs.Ytlngmelfjiemlaa
open Go Go.D Go.Proofs
set_option linter.unusedSimpArgs false
set_option linter.unusedVariables false
set_option maxRecDepth 8000

/-- What a table has become. -/
structure Nx (w w' : World) (a : Option Addr) (FT : List Nat) (lim : Int) (d : AtD) : Prop where
  tb : Tb w' d
  ok : AtOk d
  a : d.a = a
  lim : d.lim = lim
  U : Upd FT w w'
  S : Sub d.FT FT w

/-- Is there a name? -/
def isN (L : List Slot) (id : Int) : Bool := decide (0 ≤ id) && match L[id.toNat]? with | some s => s.is | none => false

section
variable {w : World} {a : Option Addr} {FT : List Nat} {L : List Slot} {made lim : Int}

theorem Nx.keep {w' w'' : World} {d : AtD} (n : Nx w w' a FT lim d) (u : Upd [] w' w'') : Nx w w'' a FT lim d := ⟨n.tb.keep u, n.ok, n.a, n.lim, n.U.before u, n.S⟩

theorem Nx.then {w1 w2 : World} {d d' : AtD} (n : Nx w w1 a FT lim d) (m : Nx w1 w2 a d.FT lim d') : Nx w w2 a FT lim d' :=
  ⟨m.tb, m.ok, m.a, m.lim, n.U.trans m.U (fun x hx => .inl hx) (fun x hx => n.S x hx), n.S.trans m.S n.U.size⟩

theorem Nx.has {w' : World} {d : AtD} (n : Nx w w' a FT lim d) : Has w' a d.FT d.L d.made lim := .inl ⟨d, n.tb, n.ok, n.a, rfl, rfl, rfl, n.lim⟩

theorem Has.upd {w' : World} {F : List Nat} (h : Has w a FT L made lim) (u : Upd F w w') (hd : Dis FT F) : Has w' a FT L made lim := by
  rcases h with ⟨d, ht, ok, h1, h2, h3, h4, h5⟩ | ⟨b, ⟨hb, h1, h2⟩, h3, h4, h5⟩
  · subst h2
    exact .inl ⟨d, ht.upd u hd, ok, h1, rfl, h3, h4, h5⟩
  · subst h4
    exact .inr ⟨b, ⟨hb.upd u (hd b (by simp)), h1, h2⟩, h3, rfl, h5⟩

theorem Has.keep {w' : World} (h : Has w a FT L made lim) (u : Upd [] w w') : Has w' a FT L made lim := h.upd u (by intro k _ h; cases h)

theorem Has.inn (h : Has w a FT L made lim) : In FT w := by
  rcases h with ⟨d, ht, ok, h1, h2, h3, h4, h5⟩ | ⟨b, ⟨hb, h1, h2⟩, h3, h4, h5⟩
  · subst h2; exact ht.inn
  · subst h4
    intro k hk; simp at hk; subst hk; exact hb.lt

theorem ready_nx {K : Bool → World → Prop} (h : Has w a FT L made lim) (hK : ∀ w' d, Nx w w' a FT lim d → d.L = L → d.made = made → K true w') : C_atom_Table_ready a w K :=
  ready_ok h fun w' d h1 h2 h3 h4 h5 h6 h7 h8 => hK w' d ⟨h1, h2, h3, h6, h7, h8⟩ h4 h5

theorem ready_no {K : Bool → World → Prop} (hK : K false w) : C_atom_Table_ready none w K := by
  apply C_atom_Table_ready.of
  unfold F_atom_Table_ready
  exact ifT rfl hK

theorem New_ok {K : Option Addr → Int → World → Prop} (h0 : 15 ≤ lim) (h1 : lim ≤ 16384) (hK : ∀ w' b, Has w' (some ⟨b, 0, none⟩) [b] initL 0 lim → Upd [] w w' → w.heap.size ≤ b → K (some ⟨b, 0, none⟩) 0 w') : C_atom_New lim w K := by
  apply C_atom_New.of
  unfold F_atom_New
  refine Reserved_ok fun w1 hs1 u1 => ifF (by simp; omega) (ifF (by simp; omega) (New_rule fun b w2 hb u2 hb2 => ?_))
  have := u1.size
  exact hK w2 b (.inr ⟨b, ⟨hb2, h0, h1⟩, rfl, rfl, rfl, rfl⟩) (u1.after u2) (by omega)

theorem New_bad {K : Option Addr → Int → World → Prop} (h : lim < 15 ∨ 16384 < lim) (hK : ∀ w', Upd [] w w' → K none 1 w') : C_atom_New lim w K := by
  apply C_atom_New.of
  unfold F_atom_New
  refine Reserved_ok fun w1 hs1 u1 => ?_
  by_cases h0 : lim < 15
  · exact ifT (by simp; omega) (hK w1 u1)
  · exact ifF (by simp; omega) (ifT (by simp; omega) (hK w1 u1))

theorem Len_ok {K : Int → World → Prop} (h : Has w a FT L made lim) (hK : ∀ w' d, Nx w w' a FT lim d → d.L = L → d.made = made → K (cntIs L) w') : C_atom_Table_Len a w K := by
  apply C_atom_Table_Len.of
  unfold F_atom_Table_Len
  refine ready_nx h fun w1 d n hL hm => ifF rfl ?_
  rw [← n.a]
  have hr : w1.cell? ⟨d.b, 6, none⟩ = some (.map (some d.r)) := by rw [n.tb.blk.cell]; rfl
  simp only [AtD.a, NN_some, addN, Nat.zero_add, hr, exM]
  refine MLen_rule (inj := nV) (kt := 9) (et := 3) (by rfl) n.tb.map ?_
  rw [n.ok.at'.ml, hL]
  exact hK w1 d n hL hm

theorem Find_ok {name : ByteArray} {K : Int → Bool → World → Prop} (h : Has w a FT L made lim) (hK : ∀ w' d, Nx w w' a FT lim d → d.L = L → d.made = made → K (((findN L name).map fun i => ((i : Nat) : Int)).getD 0) (findN L name).isSome w') : C_atom_Table_Find a name w K := by
  apply C_atom_Table_Find.of
  unfold F_atom_Table_Find
  refine ready_nx h fun w1 d n hL hm => ifF rfl ?_
  rw [← n.a]
  have hr : w1.cell? ⟨d.b, 6, none⟩ = some (.map (some d.r)) := by rw [n.tb.blk.cell]; rfl
  simp only [AtD.a, NN_some, addN, Nat.zero_add, hr, exM]
  refine Lookup2_rule (κ := ByteArray) (kt := 9) (et := 3) (inj := nV) (z := .int .i64 0) (k := name) keyName (by rfl) ⟨_, rfl, rfl⟩ n.tb.map ?_
  have := hK w1 d n hL hm
  rw [n.ok.at'.find name, hL]
  rcases hf : findN L name with _ | i
  · rw [hf] at this; exact ⟨_, _, rfl, this⟩
  · rw [hf] at this; exact ⟨_, _, rfl, this⟩

theorem isN_get {id : Int} (h : isN L id = true) : 0 ≤ id ∧ ∃ hi : id.toNat < L.length, L[id.toNat].is = true := by
  unfold isN at h
  simp only [Bool.and_eq_true, decide_eq_true_eq] at h
  refine ⟨h.1, ?_⟩
  have h2 := h.2
  split at h2
  · rename_i s hs
    obtain ⟨hl, rfl⟩ := List.getElem?_eq_some_iff.1 hs
    exact ⟨hl, h2⟩
  · cases h2

theorem has_ok {id : Int} {K : Bool → World → Prop} (h : Has w a FT L made lim) (hK : ∀ w' d, Nx w w' a FT lim d → d.L = L → d.made = made → K (isN L id) w') : C_atom_Table_has a id w K := by
  apply C_atom_Table_has.of
  unfold F_atom_Table_has F_atom_Table_has_k1
  refine ready_nx h fun w1 d n hL hm => ifT rfl ?_
  have hk := hK w1 d n hL hm
  unfold isN at hk
  refine ifC (fun hc => ?_) (fun hc => ?_)
  · simp at hc
    rw [← n.a]
    have hr : w1.cell? ⟨d.b, 5, none⟩ = some (.slice d.lp d.ln d.lc) := by rw [n.tb.blk.cell]; rfl
    simp only [AtD.a, NN_some, addN, Nat.zero_add, hr, exS]
    have hln := n.tb.len
    rw [decide_eq_true hc] at hk
    refine ifC (fun hc2 => ?_) (fun hc2 => ?_)
    · simp at hc2
      have hil : id.toNat < d.L.length := by omega
      obtain ⟨b, off, hp, c0, c1, c2⟩ := n.tb.slot hil
      simp only [hp, NN_some, addN, c1, exB]
      refine ⟨hc, hc2, ?_⟩
      subst hL
      rw [List.getElem?_eq_getElem hil] at hk
      exact hk
    · simp at hc2
      subst hL
      rw [List.getElem?_eq_none (by omega)] at hk
      exact hk
  · simp at hc
    rw [decide_eq_false (by omega)] at hk
    exact hk

theorem may_ok {id : Int} {K : Int → World → Prop} (h : Has w a FT L made lim) (hK : ∀ w' d, Nx w w' a FT lim d → d.L = L → d.made = made → K (if isN L id then 0 else 4) w') : C_atom_Table_may a id w K := by
  apply C_atom_Table_may.of
  unfold F_atom_Table_may
  refine ready_nx h fun w1 d n hL hm => ifF rfl ?_
  refine has_ok n.has fun w2 d2 n2 hL2 hm2 => ?_
  have hk := hK w2 d2 (n.then n2) (hL2.trans hL) (hm2.trans hm)
  rw [hL]
  cases hb : isN L id with
  | true => rw [hb] at hk; exact ifF rfl hk
  | false => rw [hb] at hk; exact ifT rfl hk

theorem Name_ok {id : Int} {K : ByteArray → Int → World → Prop} (h : Has w a FT L made lim)
    (hno : isN L id = false → ∀ w' d, Nx w w' a FT lim d → d.L = L → d.made = made → K ⟨#[]⟩ 4 w')
    (hK : isN L id = true → ∀ (hi : id.toNat < L.length) w' d, Nx w w' a FT lim d → d.L = L → d.made = made → K L[id.toNat].name 0 w') : C_atom_Table_Name a id w K := by
  apply C_atom_Table_Name.of
  unfold F_atom_Table_Name
  refine may_ok (id := id) h fun w1 d n hL hm => ?_
  cases hb : isN L id with
  | false => exact ifT rfl (hno hb w1 d n hL hm)
  | true =>
    refine ifF rfl ?_
    obtain ⟨h0, hi, his⟩ := isN_get hb
    rw [← n.a]
    have hr : w1.cell? ⟨d.b, 5, none⟩ = some (.slice d.lp d.ln d.lc) := by rw [n.tb.blk.cell]; rfl
    simp only [AtD.a, NN_some, addN, Nat.zero_add, hr, exS]
    have hln := n.tb.len
    subst hL
    obtain ⟨b, off, hp, c0, c1, c2⟩ := n.tb.slot hi
    simp only [hp, NN_some, addN, Nat.add_zero, c0, exStr]
    exact ⟨h0, by omega, hK hb hi w1 d n rfl hm⟩

/-- A cell of a slot is set. -/
theorem setSlot {p : Option Addr} {n c i j b off : Nat} {y : Slot} {v : Value} {F : List Nat} {K : World → Prop} (h : SlAt w 3 p n c (L.flatMap slC) F) (hi : i < L.length) (hp : p = some ⟨b, off, none⟩) (hj : j < 3) (hv : v.oneCell' = true) (hy : slC y = (slC L[i]).set j v)
    (hK : ∀ w', SlAt w' 3 p n c ((L.set i y).flatMap slC) F → Upd F w w' → K w') : St w ⟨b, off + i * 3 + j, none⟩ v K := by
  have hn : n = L.length := by have := h.1; rw [flat_len slC_len] at this; omega
  rw [Nat.add_assoc]
  refine St_elem h hp (k := i * 3 + j) (by omega) hv fun w' hs u => hK w' ?_ u
  have h3 := flat_set slC_len (l := L) (i := i) (j := j) (v := v) (y := y) hi hj hy
  rw [h3] at hs
  exact hs

/-- All of a slot is set. -/
theorem setSlot3 {p : Option Addr} {n c i b off : Nat} {y : Slot} {F : List Nat} {K : World → Prop} (h : SlAt w 3 p n c (L.flatMap slC) F) (hi : i < L.length) (hp : p = some ⟨b, off, none⟩)
    (hK : ∀ w', SlAt w' 3 p n c ((L.set i y).flatMap slC) F → Upd F w w' → K w') : St w ⟨b, off + i * 3, none⟩ (.string y.name) fun w1 => St w1 ⟨b, off + i * 3 + 1, none⟩ (.bool y.is) fun w2 => St w2 ⟨b, off + i * 3 + 2, none⟩ (.bool y.mark) K := by
  rw [← Nat.add_zero (off + i * 3)]
  refine setSlot (j := 0) (y := ⟨y.name, L[i].is, L[i].mark⟩) h hi hp (by omega) rfl (by rfl) fun w1 h1 u1 => ?_
  rw [Nat.add_zero]
  refine setSlot (j := 1) (y := ⟨y.name, y.is, L[i].mark⟩) h1 (by simpa using hi) hp (by omega) rfl (by simp [slC]) fun w2 h2 u2 => ?_
  refine setSlot (j := 2) (y := y) h2 (by simpa using hi) hp (by omega) rfl (by simp [slC]) fun w3 h3 u3 => ?_
  rw [List.set_set, List.set_set] at h3
  exact hK w3 h3 ((u1.both u2).both u3)

theorem Mark_ok {id : Int} {K : Int → World → Prop} (h : Has w a FT L made lim)
    (hno : isN L id = false → ∀ w' d, Nx w w' a FT lim d → d.L = L → d.made = made → K 4 w')
    (hK : isN L id = true → ∀ (hi : id.toNat < L.length) w' d, Nx w w' a FT lim d → d.L = L.set id.toNat ⟨L[id.toNat].name, L[id.toNat].is, true⟩ → d.made = made → K 0 w') : C_atom_Table_Mark a id w K := by
  apply C_atom_Table_Mark.of
  unfold F_atom_Table_Mark
  refine may_ok (id := id) h fun w1 d n hL hm => ?_
  cases hb : isN L id with
  | false => exact ifT rfl (hno hb w1 d n hL hm)
  | true =>
    refine ifF rfl ?_
    obtain ⟨h0, hi, his⟩ := isN_get hb
    have hr : w1.cell? ⟨d.b, 5, none⟩ = some (.slice d.lp d.ln d.lc) := by rw [n.tb.blk.cell]; rfl
    have ea : NN a = NN (some ⟨d.b, 0, none⟩) := by rw [← n.a]; rfl
    rw [ea]
    simp only [NN_some, addN, Nat.zero_add, hr, exS]
    have hln := n.tb.len
    subst hL
    obtain ⟨b, off, hp, c0, c1, c2⟩ := n.tb.slot hi
    have ep : ∀ Q, NN d.lp Q = NN (some ⟨b, off, none⟩) Q := fun Q => by rw [hp]
    simp only [ep, NN_some, addN, Nat.add_zero]
    refine ⟨h0, by omega, setSlot (j := 2) (y := ⟨d.L[id.toNat].name, d.L[id.toNat].is, true⟩) n.tb.l hi hp (by omega) rfl (by simp [slC]) fun w2 hl2 u2 => ?_⟩
    have tb2 : Tb w2 { d with L := d.L.set id.toNat ⟨d.L[id.toNat].name, d.L[id.toNat].is, true⟩ } := ⟨n.tb.blk.upd u2 n.tb.bL, hl2, n.tb.map.upd u2 n.tb.rL, n.tb.e.upd u2 n.tb.LE.symm, n.tb.br, n.tb.bL, n.tb.bE, n.tb.rL, n.tb.rE, n.tb.LE⟩
    refine hK hb hi w2 _ ⟨tb2, ⟨n.ok.at'.mark (List.getElem?_eq_getElem hi), n.ok.asc, by simpa using n.ok.ll, n.ok.lim, n.ok.made⟩, n.a, n.lim, ?_, n.S⟩ rfl hm
    exact n.U.trans u2 (fun x hx => .inl hx) (fun x hx => n.S x (by simp [AtD.FT, hx]))

end

end Go.Proofs.Ytlngmelfjiemlaa
