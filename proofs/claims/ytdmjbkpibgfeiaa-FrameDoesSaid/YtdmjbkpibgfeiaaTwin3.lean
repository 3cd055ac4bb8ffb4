/- The document's stack: what turns it, in place. -/
import Derived.Test.YtdmjbkpibgfeiaaTwin2
namespace Go.Proofs.Ytdmjbkpibgfeiaa
open Go Go.D Go.Proofs
set_option linter.unusedSimpArgs false
set_option linter.unusedVariables false
set_option maxRecDepth 8000

theorem flat_same {α β : Type} {f : α → List β} : ∀ {l : List α} {i : Nat} {y : α} (hi : i < l.length), f y = f l[i] → (l.set i y).flatMap f = l.flatMap f
  | x :: l, 0, y, _, h => by simp at h; simp [h]
  | x :: l, i + 1, y, hi, h => by
    simp at h hi
    rw [List.set_cons_succ, List.flatMap_cons, List.flatMap_cons, flat_same hi h]

theorem ArgsAt.trim {w : World} {y : Sl × Ch} {k : Nat} : ∀ {l : List (Sl × Ch)} {H : List Nat} (i : Nat) (hi : i < l.length), ArgsAt w l H → k ≤ l[i].1.2.1 → y.1 = (l[i].1.1, k, l[i].1.2.2) → y.2.args = l[i].2.args.take k → ArgsAt w (l.set i y) H
  | x :: r, H, 0, _, ⟨H1, H2, h1, h2, hH, hd⟩, hk, e1, e2 => by
    simp only [List.getElem_cons_zero] at hk e1 e2
    refine ⟨H1, H2, ?_, h2, hH, hd⟩
    have := h1.take hk
    rw [e1, e2, List.map_take]
    simpa using this
  | x :: r, H, i + 1, hi, ⟨H1, H2, h1, h2, hH, hd⟩, hk, e1, e2 => by
    simp only [List.getElem_cons_succ] at hk e1 e2
    exact ⟨H1, H2, h1, ArgsAt.trim i (by simpa using hi) h2 hk e1 e2, hH, hd⟩

theorem ArgsAt.setArg {w : World} {k : Nat} {v : Int} : ∀ {l : List (Sl × Ch)} {H : List Nat} (i : Nat) (hi : i < l.length), ArgsAt w l H → k < l[i].2.args.length → ∃ b off, l[i].1.1 = some ⟨b, off, none⟩ ∧
    ∀ {K : World → Prop}, (∀ w', ArgsAt w' (l.set i (l[i].1, { l[i].2 with args := l[i].2.args.set k v })) H → Upd H w w' → K w') → St w ⟨b, off + k, none⟩ (.int .u64 v) K
  | x :: r, H, 0, _, ⟨H1, H2, h1, h2, hH, hd⟩, hk => by
    subst hH
    simp only [List.getElem_cons_zero] at hk ⊢
    have hl := h1.1
    simp at hl
    rcases h1.2.2 with ⟨_, hc, _⟩ | ⟨b, off, arr, hp, hG, hb, hsz, hcc⟩
    · have := h1.2.1; omega
    · refine ⟨b, off, hp, fun {K} hK => ?_⟩
      refine St_elem h1 hp (by omega) rfl fun w' hs u => hK w' ⟨H1, H2, ?_, h2.upd u hd.symm, rfl, hd⟩ (u.mono (by intro z hz; simp [hz]))
      rw [← List.map_set] at hs
      exact hs
  | x :: r, H, i + 1, hi, ⟨H1, H2, h1, h2, hH, hd⟩, hk => by
    subst hH
    simp only [List.getElem_cons_succ] at hk ⊢
    obtain ⟨b, off, hp, hK'⟩ := ArgsAt.setArg (k := k) (v := v) i (by simpa using hi) h2 hk
    refine ⟨b, off, hp, fun {K} hK => hK' fun w' hA u => hK w' ⟨H1, H2, h1.upd u hd, hA, rfl, hd⟩ (u.mono (by intro z hz; simp [hz]))⟩

section
variable {w : World} {t : TwD}

/-- A record's cell is turned. -/
theorem Tw.setE {i j : Nat} {v : Value} {y : Sl × Ch} {b off : Nat} {K : World → Prop} (h : Tw w t) (hi : i < t.E.length) (hj : j < 5) (hp : t.ep = some ⟨b, off, none⟩) (hy : evCells y = (evCells t.E[i]).set j v) (hv : v.oneCell' = true)
    (hA : ∀ w', ArgsAt w' t.E t.HE → ArgsAt w' (t.E.set i y) t.HE) (hK : ∀ w', Tw w' { t with E := t.E.set i y } → Upd t.F w w' → K w') : St w ⟨b, off + i * 5 + j, none⟩ v K := by
  rw [Nat.add_assoc]
  refine St_elem h.rowE hp (k := i * 5 + j) (by omega) hv fun w' hs u => ?_
  rw [flat_set evCells_len hi hj hy] at hs
  refine hK w' ⟨?_, ?_, hA w' (h.argE.upd u h.EH.symm), h.rowC.upd u h.EG.symm, h.argC.upd u h.EC.symm, h.bGE, h.bHE, h.bGC, h.bHC, h.EH, h.EG, h.EC, h.HG, h.HH, h.CC⟩ (u.mono (by intro k hk; simp [TwD.F, hk]))
  · show Blk w' t.b #[.slice t.ep (t.E.set i y).length t.ec, _, _, _, _]
    rw [List.length_set]; exact h.blk.upd u h.bGE
  · show SlAt w' 5 t.ep (t.E.set i y).length t.ec _ _
    rw [List.length_set]; exact hs

/-- A choice's cell is turned. -/
theorem Tw.setC {i j : Nat} {v : Value} {y : (Sl × Ch) × Int} {b off : Nat} {K : World → Prop} (h : Tw w t) (hi : i < t.C.length) (hj : j < 10) (hp : t.cp = some ⟨b, off, none⟩) (hy : cvCells y = (cvCells t.C[i]).set j v) (hv : v.oneCell' = true)
    (hA : ∀ w', ArgsAt w' (t.C.map (·.1)) t.HC → ArgsAt w' ((t.C.set i y).map (·.1)) t.HC) (hK : ∀ w', Tw w' { t with C := t.C.set i y } → Upd t.F w w' → K w') : St w ⟨b, off + i * 10 + j, none⟩ v K := by
  rw [Nat.add_assoc]
  refine St_elem h.rowC hp (k := i * 10 + j) (by omega) hv fun w' hs u => ?_
  rw [flat_set cvCells_len hi hj hy] at hs
  refine hK w' ⟨?_, h.rowE.upd u h.EG, h.argE.upd u h.HG, ?_, hA w' (h.argC.upd u h.CC.symm), h.bGE, h.bHE, h.bGC, h.bHC, h.EH, h.EG, h.EC, h.HG, h.HH, h.CC⟩ (u.mono (by intro k hk; simp [TwD.F, hk]))
  · show Blk w' t.b #[_, _, .slice t.cp (t.C.set i y).length t.cc, _, _]
    rw [List.length_set]; exact h.blk.upd u h.bGC
  · show SlAt w' 10 t.cp (t.C.set i y).length t.cc _ _
    rw [List.length_set]; exact hs

def TwD.setSlot (t : TwD) (i k : Nat) (v : Int) (hi : i < t.E.length) : TwD := { t with E := t.E.set i (t.E[i].1, { t.E[i].2 with args := t.E[i].2.args.set k v }) }

/-- A slot is set. -/
theorem Tw.setSlot {i k : Nat} {v : Int} (h : Tw w t) (hi : i < t.E.length) (hk : k < t.E[i].2.args.length) : ∃ b off, t.E[i].1.1 = some ⟨b, off, none⟩ ∧ ∀ {K : World → Prop}, (∀ w', Tw w' (t.setSlot i k v hi) → Upd t.F w w' → K w') → St w ⟨b, off + k, none⟩ (.int .u64 v) K := by
  obtain ⟨b, off, hp, hK'⟩ := ArgsAt.setArg (k := k) (v := v) i hi h.argE hk
  refine ⟨b, off, hp, fun {K} hK => hK' fun w' hA u => hK w' ⟨?_, ?_, hA, h.rowC.upd u h.HG.symm, h.argC.upd u h.HH.symm, h.bGE, h.bHE, h.bGC, h.bHC, h.EH, h.EG, h.EC, h.HG, h.HH, h.CC⟩ (u.mono (by intro k hk; simp [TwD.F, hk]))⟩
  · show Blk w' t.b #[.slice t.ep (t.E.set i _).length t.ec, _, _, _, _]
    rw [List.length_set]; exact h.blk.upd u h.bHE
  · unfold TwD.setSlot
    simp only [List.length_set]
    rw [flat_same hi (by rfl)]; exact h.rowE.upd u h.EH

def TwD.setArg (t : TwD) (i k : Nat) (v : Int) (hi : i < t.C.length) : TwD := { t with C := t.C.set i ((t.C[i].1.1, { t.C[i].1.2 with args := t.C[i].1.2.args.set k v }), t.C[i].2) }

/-- A choice's argument is set. -/
theorem Tw.setArg {i k : Nat} {v : Int} (h : Tw w t) (hi : i < t.C.length) (hk : k < t.C[i].1.2.args.length) : ∃ b off, t.C[i].1.1.1 = some ⟨b, off, none⟩ ∧ ∀ {K : World → Prop}, (∀ w', Tw w' (t.setArg i k v hi) → Upd t.F w w' → K w') → St w ⟨b, off + k, none⟩ (.int .u64 v) K := by
  obtain ⟨b, off, hp, hK'⟩ := ArgsAt.setArg (k := k) (v := v) i (by simpa using hi) h.argC (by simpa using hk)
  simp only [List.getElem_map] at hp hK'
  refine ⟨b, off, hp, fun {K} hK => hK' fun w' hA u => hK w' ⟨?_, h.rowE.upd u h.EC, h.argE.upd u h.HH, ?_, ?_, h.bGE, h.bHE, h.bGC, h.bHC, h.EH, h.EG, h.EC, h.HG, h.HH, h.CC⟩ (u.mono (by intro k hk; simp [TwD.F, hk]))⟩
  · show Blk w' t.b #[_, _, .slice t.cp (t.C.set i _).length t.cc, _, _]
    rw [List.length_set]; exact h.blk.upd u h.bHC
  · unfold TwD.setArg
    simp only [List.length_set]
    rw [flat_same hi (by rfl)]; exact h.rowC.upd u h.CC
  · show ArgsAt w' ((t.C.set i _).map (·.1)) t.HC
    rw [List.map_set]; exact hA

theorem RDealloc_no {K : Int → Int → Int → World → Prop} (h : Tw w t) (h0 : t.cur < 0) (hK : ∀ w', Tw w' t → Upd [] w w' → K 0 0 4 w') : C_ref22_Stack_Dealloc t.a w K := by
  apply C_ref22_Stack_Dealloc.of
  unfold F_ref22_Stack_Dealloc
  refine New_rule fun r w1 hr u1 hb1 => ?_
  have T1 := h.keep u1
  simp only [TwD.a, NN_some, addN, drw_cell, drw_heap, exS, exI, exB, exP, exM, exStr, exV, a0, a1, a2, a3, a4, a5, a6, a7, a8, a9, a10, a11, a12, a13, maxI_eq, Nat.zero_add, Nat.add_zero, Nat.mul_one, Option.isNone_some, Option.isNone_none, T1.blk.cell]
  refine ifT (by simpa using h0) ?_
  refine St_rule hb1 (by simp) rfl fun w2 u2 hb2 => St_rule hb2 (by simp) rfl fun w3 u3 hb3 => ?_
  simp at hb3
  simp only [NN_some, addN, drw_cell, drw_heap, exS, exI, exB, exP, exM, exStr, exV, a0, a1, a2, a3, a4, a5, a6, a7, a8, a9, a10, a11, a12, a13, maxI_eq, Nat.zero_add, Nat.add_zero, Nat.mul_one, Option.isNone_some, Option.isNone_none, hb3.cell]
  have U : Upd [] w w3 := u1.fresh (u2.both u3) (by intro k hk; simp at hk; omega)
  exact hK w3 (h.keep U) U

theorem RDealloc_ok {i : Nat} {K : Int → Int → Int → World → Prop} (h : Tw w t) (hi : i < t.E.length) (hc : t.cur = (i : Int)) (hK : ∀ w', Tw w' { t with cur := t.E[i].2.top } → Upd t.F w w' → K t.E[i].2.c2 t.E[i].2.c3 0 w') : C_ref22_Stack_Dealloc t.a w K := by
  apply C_ref22_Stack_Dealloc.of
  unfold F_ref22_Stack_Dealloc
  refine New_rule fun r w1 hr u1 hb1 => ?_
  have T1 := h.keep u1
  obtain ⟨b, off, hp, _, x0, x1, x2, x3, x4⟩ := T1.e5 hi
  simp only [TwD.a, NN_some, addN, drw_cell, drw_heap, exS, exI, exB, exP, exM, exStr, exV, a0, a1, a2, a3, a4, a5, a6, a7, a8, a9, a10, a11, a12, a13, maxI_eq, Nat.zero_add, Nat.add_zero, Nat.mul_one, Option.isNone_some, Option.isNone_none, T1.blk.cell, hc, hp, Int.toNat_natCast, x3, x4]
  refine ifF (by simp) ⟨by omega, by omega, ?_⟩
  refine New_rule fun r3 w2 hr3 u2 hb2 => ?_
  have ud := drw_upd w1
  have T2 := (T1.keep ud).keep u2
  obtain ⟨b', off', hp', _, y0, y1, y2, y3, y4⟩ := T2.e5 hi
  rw [hp] at hp'; cases hp'
  refine ⟨fun j hj => ?_, by rw [T2.blk.cell]; rw [hc]; rfl, by rw [T2.blk.cell]; rw [hp]; rfl, ?_⟩
  · have : j = 0 ∨ j = 1 := by omega
    rcases this with rfl | rfl
    · rw [Nat.add_zero, y3, x3]
    · rw [y4, x4]
  refine St_rule hb2 (by simp) rfl fun w3 u3 hb3 => St_rule hb3 (by simp) rfl fun w4 u4 hb4 => ?_
  simp at hb4
  have U4 : Upd [] w1 w4 := (ud.after u2).fresh (u3.both u4) (by intro k hk; simp at hk; subst hk; rw [hr3]; exact Nat.le_refl _)
  have T4 := T1.keep U4
  obtain ⟨b', off', hp', _, z0, z1, _⟩ := T4.e5 hi
  rw [hp] at hp'; cases hp'
  simp only [NN_some, addN, drw_cell, drw_heap, exS, exI, exB, exP, exM, exStr, exV, a0, a1, a2, a3, a4, a5, a6, a7, a8, a9, a10, a11, a12, a13, maxI_eq, Nat.zero_add, Nat.add_zero, Nat.mul_one, Option.isNone_some, Option.isNone_none, T4.blk.cell, hc, hp, Int.toNat_natCast, z1]
  have T4' := T4.keep (drw_upd w4)
  refine ⟨by omega, by omega, T4'.setCur fun w5 T5 u5 => ?_⟩
  have dis : ∀ {k}, w.heap.size ≤ k → k ∉ t.F := fun hk hx => by have := h.inn _ hx; omega
  have hb4' := (hb4.drw).upd u5 (dis (by rw [hr3]; exact u1.size))
  simp only [NN_some, addN, drw_cell, drw_heap, exS, exI, exB, exP, exM, exStr, exV, a0, a1, a2, a3, a4, a5, a6, a7, a8, a9, a10, a11, a12, a13, maxI_eq, Nat.zero_add, Nat.add_zero, Nat.mul_one, Option.isNone_some, Option.isNone_none, hb4'.cell]
  have hbr := ((hb1.upd U4 (by simp)).drw).upd u5 (dis (by omega))
  refine St_rule hbr (by simp) rfl fun w6 u6 hb6 => St_rule hb6 (by simp) rfl fun w7 u7 hb7 => ?_
  simp at hb7
  simp only [NN_some, addN, drw_cell, drw_heap, exS, exI, exB, exP, exM, exStr, exV, a0, a1, a2, a3, a4, a5, a6, a7, a8, a9, a10, a11, a12, a13, maxI_eq, Nat.zero_add, Nat.add_zero, Nat.mul_one, Option.isNone_some, Option.isNone_none, hb7.cell]
  have U6 : Upd [r] w5 w7 := u6.both u7
  refine hK w7 (T5.upd U6 ?_) ?_
  · intro k hk h1; simp at h1; subst h1; exact dis (by omega) hk
  · refine ((u1.after U4).after ((drw_upd w4).after u5)).trans U6 (fun _ hx => .inl hx) (fun k hk => ?_)
    simp at hk; right; omega

theorem RTrim_no {n : Int} {K : Bool → World → Prop} (h : Tw w t) (hl : t.C.length < 2 ^ 40) (hc : t.cur < 0 ∨ t.cur.toNat < t.E.length) (hn : t.cur < 0 ∨ n < 0 ∨ t.slots < n ∨ ∃ hh : t.cur.toNat < t.E.length, (t.E[t.cur.toNat]'hh).2.env < t.kept) (hK : ∀ w', Tw w' t → Upd [] w w' → K false w') : C_ref22_Stack_Trim t.a n w K := by
  apply C_ref22_Stack_Trim.of
  unfold F_ref22_Stack_Trim F_ref22_Stack_Trim_k1
  have ud := drw_upd w
  have Td := h.keep ud
  simp only [TwD.a, NN_some, addN, drw_cell, drw_heap, exS, exI, exB, exP, exM, exStr, exV, a0, a1, a2, a3, a4, a5, a6, a7, a8, a9, a10, a11, a12, a13, maxI_eq, Nat.zero_add, Nat.add_zero, Nat.mul_one, Option.isNone_some, Option.isNone_none, h.blk.cell]
  refine ifC (fun _ => hK _ Td ud) fun g1 => ifC (fun _ => hK _ Td ud) fun g2 => ?_
  simp at g1 g2
  refine RSlots_ok Td hc fun w1 u1 => ?_
  have T1 := Td.keep u1
  refine ifC (fun _ => hK _ T1 (ud.after u1)) fun g3 => ?_
  simp at g3
  have hi : t.cur.toNat < t.E.length := by rcases hc with h | h; omega; exact h
  obtain ⟨b, off, hp, _, x0, _⟩ := T1.e5 hi
  simp only [TwD.a, NN_some, addN, drw_cell, drw_heap, exS, exI, exB, exP, exM, exStr, exV, a0, a1, a2, a3, a4, a5, a6, a7, a8, a9, a10, a11, a12, a13, maxI_eq, Nat.zero_add, Nat.add_zero, Nat.mul_one, Option.isNone_some, Option.isNone_none, T1.blk.cell, hp, x0]
  refine ⟨g1, by omega, rkept_ok T1 hl fun w2 u2 => ?_⟩
  have T2 := T1.keep u2
  obtain ⟨b', off', hp', _, y0, _⟩ := T2.e5 hi
  rw [hp] at hp'; cases hp'
  refine ⟨by rw [y0], by rw [T2.blk.cell]; rfl, by rw [T2.blk.cell]; rw [hp]; rfl, ifT ?_ (hK w2 T2 ((ud.after u1).after u2))⟩
  rcases hn with h | h | h | ⟨hh, h⟩
  · omega
  · omega
  · omega
  · simpa using h

theorem RTrim_ok {n : Int} {i : Nat} {K : Bool → World → Prop} (h : Tw w t) (hl : t.C.length < 2 ^ 40) (hi : i < t.E.length) (hc : t.cur = (i : Int)) (h0 : 0 ≤ n) (h1 : n ≤ t.E[i].2.args.length) (h2 : t.kept ≤ t.E[i].2.env)
    (hK : ∀ w' y, y.2 = { t.E[i].2 with args := t.E[i].2.args.take n.toNat } → Tw w' { t with E := t.E.set i y } → Upd t.F w w' → K true w') : C_ref22_Stack_Trim t.a n w K := by
  apply C_ref22_Stack_Trim.of
  unfold F_ref22_Stack_Trim F_ref22_Stack_Trim_k1
  have ud := drw_upd w
  have Td := h.keep ud
  have hsl : t.slots = (t.E[i].2.args.length : Int) := by
    unfold TwD.slots
    have e : t.cur.toNat = i := by omega
    rw [dif_pos ⟨by omega, by omega⟩]
    simp only [e]
  simp only [TwD.a, NN_some, addN, drw_cell, drw_heap, exS, exI, exB, exP, exM, exStr, exV, a0, a1, a2, a3, a4, a5, a6, a7, a8, a9, a10, a11, a12, a13, maxI_eq, Nat.zero_add, Nat.add_zero, Nat.mul_one, Option.isNone_some, Option.isNone_none, h.blk.cell, hc]
  refine ifF (by simp) (ifF (by simp; omega) ?_)
  refine RSlots_ok Td (.inr (by omega)) fun w1 u1 => ?_
  have T1 := Td.keep u1
  refine ifF (by rw [hsl]; simp; omega) ?_
  obtain ⟨b, off, hp, _, x0, _⟩ := T1.e5 hi
  simp only [TwD.a, NN_some, addN, drw_cell, drw_heap, exS, exI, exB, exP, exM, exStr, exV, a0, a1, a2, a3, a4, a5, a6, a7, a8, a9, a10, a11, a12, a13, maxI_eq, Nat.zero_add, Nat.add_zero, Nat.mul_one, Option.isNone_some, Option.isNone_none, T1.blk.cell, hp, hc, Int.toNat_natCast, x0]
  refine ⟨by omega, by omega, rkept_ok T1 hl fun w2 u2 => ?_⟩
  have T2 := T1.keep u2
  obtain ⟨b', off', hp', _, y0, y1, y2, _⟩ := T2.e5 hi
  rw [hp] at hp'; cases hp'
  refine ⟨by rw [y0], by rw [T2.blk.cell]; rw [hc]; rfl, by rw [T2.blk.cell]; rw [hp]; rfl, ifF (by simp; omega) ?_⟩
  have T3 := T2.keep (drw_upd w2)
  simp only [TwD.a, NN_some, addN, drw_cell, drw_heap, exS, exI, exB, exP, exM, exStr, exV, a0, a1, a2, a3, a4, a5, a6, a7, a8, a9, a10, a11, a12, a13, maxI_eq, Nat.zero_add, Nat.add_zero, Nat.mul_one, Option.isNone_some, Option.isNone_none, T2.blk.cell, hp, hc, Int.toNat_natCast, y2]
  have hel := h.elen hi
  obtain ⟨H1, hs1, _⟩ := h.argE.get i hi
  have hle := hs1.2.1
  refine ⟨by omega, by omega, h0, by omega, by omega, by omega, ?_⟩
  refine T3.setE (j := 2) (y := ((t.E[i].1.1, n.toNat, t.E[i].1.2.2), { t.E[i].2 with args := t.E[i].2.args.take n.toNat })) hi (by omega) hp rfl rfl (fun w' hA => ArgsAt.trim i hi hA (k := n.toNat) (by omega) rfl rfl) fun w4 T4 u4 => ?_
  exact hK w4 _ rfl T4 ((ud.after u1).after (u2.after ((drw_upd w2).after u4)))
end

end Go.Proofs.Ytdmjbkpibgfeiaa
