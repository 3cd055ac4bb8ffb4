/- Choices that are the same; one chain of both. -/
import Derived.Test.YtdmjbkpibgfeiaaChange2
namespace Go.Proofs.Ytdmjbkpibgfeiaa
open Go Go.D Go.Proofs
set_option linter.unusedSimpArgs false
set_option linter.unusedVariables false
set_option maxRecDepth 8000

section
variable {w : World} {d : FrD} {cur : List Int} {lev : List Level} {t : TwD} {φ : Int → Nat}

theorem SameChoice_ok {x : Ch} {p q : Option Addr} {n c m e : Nat} {K : Bool → World → Prop} (hp : Rd w 1 p n (x.args.map (.int .u64))) (hq : Rd w 1 q m (x.args.map (.int .u64))) (hL : x.args.length < 2 ^ 40) (hK : ∀ w', Upd [] w w' → K true w') :
    C_ref22_SameChoice x.kind p n c x.c2 x.c3 x.c4 x.c5 x.c6 x.env x.top x.kind q m e x.c2 x.c3 x.c4 x.c5 x.c6 x.env x.top w K := by
  apply C_ref22_SameChoice.of
  unfold F_ref22_SameChoice
  refine New_rule fun r w1 hr u1 b1 => New_rule fun r1 w2 hr1 u2 b2 => ?_
  have b1' := b1.upd u2 (by simp)
  simp only [NN_some, addN, drw_cell, drw_heap, exS, exI, exB, exP, exM, exStr, exV, a0, a1, a2, a3, a4, a5, a6, a7, a8, a9, a10, a11, a12, a13, maxI_eq, Nat.zero_add, Nat.add_zero, Nat.mul_one, Option.isNone_some, Option.isNone_none, Nat.reduceAdd, Nat.add_zero, b1'.cell, b2.cell]
  refine ifT (by simp) (addrEq (ifT (by simp) (ifT (by simp) (ifT (by simp) (ifT (by simp) (ifT (by simp) (ifT (by simp) ?_)))))))
  have U := u1.after u2
  exact SameWords_ok (hp.keep U) (hq.keep U) hL fun w' u' => hK w' (U.after u')

theorem ChainL.from {W : List Int} : ∀ {xs : List Int} {e h : Int}, ChainL W xs e h → ∀ b ∈ xs, ∃ ys, ChainL W ys b (b + 4 + sizeOf' W b) ∧ ∀ y ∈ ys, y ∈ xs
  | [], _, _, _, b, hb => by cases hb
  | x :: xs, e, h, hc, b, hb => by
    obtain ⟨h1, h2, h3, h4, h5⟩ := hc
    rcases List.mem_cons.1 hb with rfl | hb
    · subst h1
      exact ⟨b :: xs, ⟨rfl, h2, h3, by omega, h5⟩, fun y hy => hy⟩
    · obtain ⟨ys, a, c⟩ := ChainL.from h5 b hb
      exact ⟨ys, a, fun y hy => List.mem_cons_of_mem _ (c y hy)⟩

theorem chain_both {b h : Int} {xs : List Int} {K : Option Addr → Nat → Nat → World → Prop} (bo : Bo w d cur lev t φ) (hc : ChainL d.W xs b h) (hx : ∀ x ∈ xs, Node ((cur, d.env, d.top) :: lev) x)
    (hK : ∀ p n c w1, Bo w1 d cur lev t φ → Upd d.F w w1 → (∀ K2 : Bool → World → Prop, (∀ w2, Bo w2 d cur lev t φ → Upd [] w1 w2 → K2 true w2) → C_ref22_Stack_Chain t.a (eIdx φ b) w1 fun q m e w2 => C_ref22_SameFrames p n c q m e w2 K2) → K p n c w1) :
    C_frame_Stack_Chain d.a b w K := by
  have hWl : d.W.length ≤ 1048576 := by have := bo.ok.Wl; have := bo.ok.wl; omega
  have htl := bo.ok.topl
  have hc' : ChainL d.W xs b d.top := hc.hi fun h0 => by
    rcases xs with _ | ⟨x, xs⟩
    · have : b = -1 := hc
      omega
    · have h1 := hc.1
      have := bo.ok.nd (hx x (by simp))
      subst h1
      exact this.2.2
  have hxl : xs.length < 2 ^ 30 := by
    rcases hc'.len with h1 | h1
    · subst h1; simp
    · omega
  have fin : ∀ {p : Option Addr} {n c : Nat} {w1 : World}, Bo w1 d cur lev t φ → RdFr w1 p n (xs.map (frameOf d.W)) → ∀ K2 : Bool → World → Prop, (∀ w2, Bo w2 d cur lev t φ → Upd [] w1 w2 → K2 true w2) → C_ref22_Stack_Chain t.a (eIdx φ b) w1 fun q m e w2 => C_ref22_SameFrames p n c q m e w2 K2 := by
    intro p n c w1 bo1 hr K2 hK2
    refine RChain_ok bo1.tw bo1.sim hc' hx (by omega) hxl fun q m e w2 hr2 T2 u2 => ?_
    refine SameFrames_ok (hr.keep u2) hr2 (by simp; omega) fun w3 u3 => ?_
    exact hK2 w3 (bo1.keep (u2.after u3)) (u2.after u3)
  rcases xs with _ | ⟨x, xs⟩
  · have hb : b = -1 := hc
    refine Chain_no bo.fr bo.ok (fun hn => ?_) fun w1 f1 u1 => ?_
    · have := bo.ok.nd hn; omega
    · have bo1 : Bo w1 d cur lev t φ := ⟨f1, bo.ok, bo.tw.upd u1 bo.dis.symm, bo.sim, bo.dis, bo.el⟩
      exact hK _ _ _ w1 bo1 u1 (fin bo1 ⟨rfl, fun i hi => absurd hi (by simp)⟩)
  · have hb : Node ((cur, d.env, d.top) :: lev) b := by
      have h1 := hc.1
      rw [← h1]; exact hx x (by simp)
    refine Chain_at bo.fr bo.ok hc' hb hx htl fun p n c F w1 hf f1 u1 s1 => ?_
    have bo1 : Bo w1 d cur lev t φ := ⟨f1, bo.ok, bo.tw.upd u1 bo.dis.symm, bo.sim, bo.dis, bo.el⟩
    refine hK _ _ _ w1 bo1 u1 (fin bo1 (hf.rd fun y hy => ?_))
    obtain ⟨z, hz, rfl⟩ := List.mem_map.1 hy
    show (rowOf d.W z).length < _
    unfold rowOf
    simp; omega

theorem Tw.c10 (h : Tw w t) {i : Nat} (hi : i < t.C.length) : ∃ b off, t.cp = some ⟨b, off, none⟩ ∧ w.cell? ⟨b, off + i * 10, none⟩ = some (.int .i64 t.C[i].1.2.kind) ∧ w.cell? ⟨b, off + i * 10 + 1, none⟩ = some (.slice t.C[i].1.1.1 t.C[i].1.1.2.1 t.C[i].1.1.2.2) ∧
    w.cell? ⟨b, off + i * 10 + 2, none⟩ = some (.int .i64 t.C[i].1.2.c2) ∧ w.cell? ⟨b, off + i * 10 + 3, none⟩ = some (.int .i64 t.C[i].1.2.c3) ∧ w.cell? ⟨b, off + i * 10 + 4, none⟩ = some (.int .i64 t.C[i].1.2.c4) ∧ w.cell? ⟨b, off + i * 10 + 5, none⟩ = some (.int .i64 t.C[i].1.2.c5) ∧
    w.cell? ⟨b, off + i * 10 + 6, none⟩ = some (.int .i64 t.C[i].1.2.c6) ∧ w.cell? ⟨b, off + i * 10 + 7, none⟩ = some (.int .i64 t.C[i].1.2.env) ∧ w.cell? ⟨b, off + i * 10 + 8, none⟩ = some (.int .i64 t.C[i].1.2.top) ∧ w.cell? ⟨b, off + i * 10 + 9, none⟩ = some (.int .i64 t.C[i].2) := by
  obtain ⟨b, off, h1, h2, h3⟩ := h.ccell hi
  exact ⟨b, off, h1, h3 0 (by omega), h3 1 (by omega), h3 2 (by omega), h3 3 (by omega), h3 4 (by omega), h3 5 (by omega), h3 6 (by omega), h3 7 (by omega), h3 8 (by omega), h3 9 (by omega)⟩

theorem Sim.choice (sim : Sim d cur lev t φ) {i : Nat} (hi : i < t.C.length) : ∃ hd : i < d.l.length, t.C[i].1.2 = d.l[i].2 ∧ t.C[i].2 = eIdx φ d.l[i].2.env := by
  have hcl := sim.clen
  have hd : i < d.l.length := by omega
  refine ⟨hd, ?_, ?_⟩
  · have := congrArg (fun l => l[i]?) sim.cs
    simp only [FrD.cs, List.getElem?_map] at this
    rw [List.getElem?_eq_getElem hi, List.getElem?_eq_getElem hd] at this
    simpa using this
  · have := congrArg (fun l => l[i]?) sim.ix
    simp only [FrD.cs, List.getElem?_map] at this
    rw [List.getElem?_eq_getElem hi, List.getElem?_eq_getElem hd] at this
    simpa using this

/-- Which bases are there is asked of both. -/
theorem alike_k4 {base : Int} {K : Bool → World → Prop} (bo : Bo w d cur lev t φ) (hK : ∀ w', Bo w' d cur lev t φ → Upd d.F w w' → K true w') : F_law22_alike_k4 d.a t.a base K w := by
  unfold F_law22_alike_k4
  refine RAt_ok bo.tw bo.ok bo.sim fun w1 u1 => ?_
  have bo1 := bo.keep u1
  by_cases hn : Node ((cur, d.env, d.top) :: lev) base
  · rw [if_pos hn]
    refine ifF (by simp) ?_
    obtain ⟨z, hz, hb⟩ := hn
    obtain ⟨ys, hy, hys⟩ := (Lv.chain bo.ok.lv z hz).from base hb
    refine chain_both bo1 hy (fun y hy => ⟨z, hz, hys y hy⟩) fun p n c w2 bo2 u2 go => ?_
    have h0 := (bo.ok.nd ⟨z, hz, hb⟩).1
    have := go (fun t177 w1_56 => K t177 w1_56) fun w3 bo3 u3 => hK w3 bo3 ((u1.after u2).before u3)
    rw [eIdx_pos h0] at this
    exact this
  · rw [if_neg hn]
    refine ifT (by simp) (Chain_no bo1.fr bo1.ok hn fun w2 f2 u2 => ?_)
    exact hK w2 ⟨f2, bo.ok, bo1.tw.upd u2 bo.dis.symm, bo.sim, bo.dis, bo.el⟩ (u1.after u2)
end

end Go.Proofs.Ytdmjbkpibgfeiaa
