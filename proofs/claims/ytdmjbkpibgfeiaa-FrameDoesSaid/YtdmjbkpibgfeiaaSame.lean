/- Words and frames that are the same. -/
import Derived.Test.YtdmjbkpibgfeiaaLives
namespace Go.Proofs.Ytdmjbkpibgfeiaa
open Go Go.D Go.Proofs
set_option linter.unusedSimpArgs false
set_option linter.unusedVariables false
set_option maxRecDepth 8000

section
variable {w : World}

theorem SameWords_ok {p q : Option Addr} {n c m e : Nat} {L : List Int} {K : Bool → World → Prop} (hp : Rd w 1 p n (L.map (.int .u64))) (hq : Rd w 1 q m (L.map (.int .u64))) (hL : L.length < 2 ^ 40) (hK : ∀ w', Upd [] w w' → K true w') : C_ref22_SameWords p n c q m e w K := by
  apply C_ref22_SameWords.of
  unfold F_ref22_SameWords F_ref22_SameWords_L1
  have hn : n = L.length := by have := hp.1; simp at this; exact this.symm
  have hm : m = L.length := by have := hq.1; simp at this; exact this.symm
  refine ifF (by simp; omega) ⟨fun s v => 0 ≤ s.i ∧ s.i ≤ n ∧ Upd [] w v, fun s _ => (n - s.i).toNat, ⟨by simp, by simp, Upd.refl _ _⟩, ?_⟩
  rintro ⟨i⟩ v ⟨hi0, hi1, u⟩
  dsimp only at hi0 hi1
  unfold B_ref22_SameWords_L1
  dsimp only
  refine ifC (fun hc => ?_) (fun hc => hK v u)
  simp at hc
  obtain ⟨x, hx, hcx⟩ := (hp.keep u).at (i := i.toNat) (by omega)
  obtain ⟨y, hy, hcy⟩ := (hq.keep u).at (i := i.toNat) (by omega)
  have hil : i.toNat < L.length := by omega
  rw [List.getElem?_map, List.getElem?_eq_getElem hil] at hcx hcy
  simp only [Option.map_some] at hcx hcy
  simp only [NN_some, addN, drw_cell, drw_heap, exS, exI, exB, exP, exM, exStr, exV, a0, a1, a2, a3, a4, a5, a6, a7, a8, a9, a10, a11, a12, a13, maxI_eq, Nat.zero_add, Nat.add_zero, Nat.mul_one, Option.isNone_some, Option.isNone_none, hx, hy, hcx, hcy]
  refine ⟨hi0, hc, hi0, by omega, ifF (by simp) ?_⟩
  rw [i64id (by omega) (by omega)]
  exact ⟨⟨by omega, by omega, u.after (drw_upd v)⟩, by simp; omega⟩

/-- Frames that can be read. -/
def RdFr (w : World) (p : Option Addr) (n : Nat) (l : List Ch) : Prop :=
  n = l.length ∧ ∀ i (hi : i < l.length), l[i].args.length < 2 ^ 40 ∧ ∃ x q m c, p = some x ∧ w.cell? (x.add (i * 4)) = some (.int .i64 l[i].env) ∧ w.cell? (x.add (i * 4 + 1)) = some (.slice q m c) ∧ w.cell? (x.add (i * 4 + 2)) = some (.int .i64 l[i].c2) ∧ w.cell? (x.add (i * 4 + 3)) = some (.int .i64 l[i].c3) ∧ Rd w 1 q m (l[i].args.map (.int .u64))

theorem Upd.keep1 {w w' : World} (u : Upd [] w w') {a : Addr} {v : Value} (h : w.cell? a = some v) : w'.cell? a = some v := u.cell h (by simp)

theorem RdFr.keep {w w' : World} {p : Option Addr} {n : Nat} {l : List Ch} (h : RdFr w p n l) (u : Upd [] w w') : RdFr w' p n l := by
  refine ⟨h.1, fun i hi => ?_⟩
  obtain ⟨h0, x, q, m, c, h1, h2, h3, h4, h5, h6⟩ := h.2 i hi
  exact ⟨h0, x, q, m, c, h1, Upd.keep1 u h2, Upd.keep1 u h3, Upd.keep1 u h4, Upd.keep1 u h5, h6.keep u⟩

theorem FrsAt.rd {w : World} {p : Option Addr} {n c : Nat} {l : List Ch} {F : List Nat} (h : FrsAt w p n c l F) (hl : ∀ x ∈ l, x.args.length < 2 ^ 40) : RdFr w p n l := by
  have hn := h.len
  obtain ⟨L, G, H, hL, hG, hH, hGH, hF⟩ := h
  refine ⟨hn, fun i hi => ⟨hl _ (List.getElem_mem hi), ?_⟩⟩
  subst hL
  rw [List.length_map] at hi
  obtain ⟨H1, hs, hs2⟩ := hH.get i hi
  simp only [List.getElem_map]
  rcases hG.2.2 with ⟨_, hc, _⟩ | ⟨b, off, arr, hp, hG2, hb, hsz, hc⟩
  · have := hG.2.1; rw [List.length_map] at hn; omega
  have hn' : n = L.length := by rw [List.length_map] at hn; exact hn
  have hcell : ∀ j, j < 4 → w.cell? ((⟨b, off, none⟩ : Addr).add (i * 4 + j)) = (frCells L[i])[j]? := fun j hj => by
    rw [addN, hb.cell, hc _ (by omega), flat_at frCells_len hi hj]
  exact ⟨⟨b, off, none⟩, L[i].1.1, L[i].1.2.1, L[i].1.2.2, hp, hcell 0 (by omega), hcell 1 (by omega), hcell 2 (by omega), hcell 3 (by omega), hs.rd⟩

theorem SameFrames_ok {p q : Option Addr} {n c m e : Nat} {l : List Ch} {K : Bool → World → Prop} (hp : RdFr w p n l) (hq : RdFr w q m l) (hL : l.length < 2 ^ 40) (hK : ∀ w', Upd [] w w' → K true w') : C_ref22_SameFrames p n c q m e w K := by
  apply C_ref22_SameFrames.of
  unfold F_ref22_SameFrames F_ref22_SameFrames_L1
  have hn := hp.1
  have hm := hq.1
  refine ifF (by simp; omega) ⟨fun s v => 0 ≤ s.i ∧ s.i ≤ n ∧ Upd [] w v, fun s _ => (n - s.i).toNat, ⟨by simp, by simp, Upd.refl _ _⟩, ?_⟩
  rintro ⟨i⟩ v ⟨hi0, hi1, u⟩
  dsimp only at hi0 hi1
  unfold B_ref22_SameFrames_L1
  dsimp only
  refine ifC (fun hc => ?_) (fun hc => hK v u)
  simp at hc
  obtain ⟨h0, x, px, mx, cx, h1, h2, h3, h4, h5, h6⟩ := (hp.keep u).2 i.toNat (by omega)
  obtain ⟨_, y, py, my, cy, k1, k2, k3, k4, k5, k6⟩ := (hq.keep u).2 i.toNat (by omega)
  subst h1 k1
  simp only [NN_some, addN, drw_cell, drw_heap, exS, exI, exB, exP, exM, exStr, exV, a0, a1, a2, a3, a4, a5, a6, a7, a8, a9, a10, a11, a12, a13, maxI_eq, Nat.zero_add, Nat.add_zero, Nat.mul_one, Option.isNone_some, Option.isNone_none, addA, Nat.add_assoc, Nat.reduceAdd, h2, h3, h4, h5, k2, k3, k4, k5]
  refine ⟨hi0, hc, hi0, by omega, ifF (by simp) ⟨hi0, hc, hi0, by omega, addrEq (ifF (by simp) ⟨hi0, hc, hi0, by omega, ?_⟩)⟩⟩
  refine SameWords_ok (h6.keep (drw_upd v)) (k6.keep (drw_upd v)) h0 fun w' u' => ifF rfl ?_
  rw [i64id (by omega) (by omega)]
  exact ⟨⟨by omega, by omega, u.after ((drw_upd v).after u')⟩, by simp; omega⟩

end

/-! ## Calls that came in -/

/-- A call. -/
structure OpV where
  kind : Int
  n : Int
  w : Int
  c0 : Int
  c1 : Int
  h0 : Int
  ap : Option Addr
  an : Nat
  ac : Nat
  h2 : Int
  h3 : Int
  h4 : Int
  h5 : Int
  h6 : Int
  h7 : Int
  h8 : Int

def OpV.cells (o : OpV) : List Value := [.int .i64 o.kind, .int .i64 o.n, .int .u64 o.w, .int .i64 o.c0, .int .i64 o.c1, .int .i64 o.h0, .slice o.ap o.an o.ac, .int .i64 o.h2, .int .i64 o.h3, .int .i64 o.h4, .int .i64 o.h5, .int .i64 o.h6, .int .i64 o.h7, .int .i64 o.h8]

/-- The calls of a row. -/
def Ops (cs : List Value) (n : Nat) : Prop := ∀ i, i < n → ∃ o : OpV, (cs.drop (i * 14)).take 14 = o.cells

theorem Ops.get {w : World} {p : Option Addr} {n : Nat} {cs : List Value} (hr : Rd w 14 p n cs) (ho : Ops cs n) {i : Nat} (hi : i < n) : ∃ (x : Addr) (o : OpV), p = some x ∧ (cs.drop (i * 14)).take 14 = o.cells ∧ ∀ j, j < 14 → w.cell? (x.add (i * 14 + j)) = o.cells[j]? := by
  obtain ⟨x, hx, hc⟩ := hr.elem hi
  obtain ⟨o, h⟩ := ho i hi
  refine ⟨x, o, hx, h, fun j hj => ?_⟩
  rw [hc j hj, ← h, List.getElem?_take, if_pos hj, List.getElem?_drop]

end Go.Proofs.Ytdmjbkpibgfeiaa
