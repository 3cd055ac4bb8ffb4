/- The document's stack: what turns it. -/
import Derived.Test.YtdmjbkpibgfeiaaTwin
namespace Go.Proofs.Ytdmjbkpibgfeiaa
open Go Go.D Go.Proofs
set_option linter.unusedSimpArgs false
set_option linter.unusedVariables false
set_option maxRecDepth 8000

section
variable {w : World} {t : TwD}

def TwD.pushE (t : TwD) (x : Sl × Ch) (p : Option Addr) (c : Nat) (G H : List Nat) (cur : Int) : TwD := { t with ep := p, ec := c, E := t.E ++ [x], GE := G, HE := H, cur := cur }
def TwD.pushC (t : TwD) (x : (Sl × Ch) × Int) (p : Option Addr) (c : Nat) (G H : List Nat) : TwD := { t with cp := p, cc := c, C := t.C ++ [x], GC := G, HC := H }

theorem Tw.pushE {w9 : World} {x : Sl × Ch} {p : Option Addr} {c : Nat} {G A : List Nat} {cur : Int} (h : Tw w t) (hb : Blk w9 t.b #[.slice p (t.E.length + 1) c, .int .i64 cur, .slice t.cp t.C.length t.cc, .int .i64 t.words, .int .i64 t.lim])
    (hs : SlAt w9 5 p (t.E.length + 1) c ((t.E ++ [x]).flatMap evCells) G) (hA9 : SlAt w9 1 x.1.1 x.1.2.1 x.1.2.2 (x.2.args.map (.int .u64)) A) (U9 : Upd (t.b :: t.GE) w w9) (hG : Sub G t.GE w) (hA : ∀ k ∈ A, w.heap.size ≤ k) (hGA : Dis G A) :
    ∃ H', Tw w9 (t.pushE x p c G H' cur) ∧ Sub (t.pushE x p c G H' cur).F t.F w := by
  have hbG : t.b ∉ G := fun hx => by
    rcases hG _ hx with h1 | h1
    · exact h.bGE h1
    · have := h.blk.lt; omega
  have noA : ∀ k, k < w.heap.size → k ∉ A := fun k hk hx => by have := hA k hx; omega
  have dG : ∀ {X : List Nat}, Dis t.GE X → In X w → Dis G X := fun hd hi k hk hx => by
    rcases hG k hk with h1 | h1
    · exact hd k h1 hx
    · have := hi k hx; omega
  have argE9 : ArgsAt w9 t.E t.HE := h.argE.upd U9 (by
    intro k hk hx
    rcases List.mem_cons.1 hx with rfl | hx
    · exact h.bHE hk
    · exact h.EH k hx hk)
  obtain ⟨H', hA', hH'⟩ := ArgsAt.push (x := x) hA9 argE9 (fun k hk => noA k (h.argE.inn k hk))
  refine ⟨H', ⟨by show Blk w9 t.b #[.slice p (t.E ++ [x]).length c, _, _, _, _]; rw [List.length_append]; exact hb, by show SlAt w9 5 p (t.E ++ [x]).length c _ _; rw [List.length_append]; exact hs, hA', h.rowC.upd U9 ?_, h.argC.upd U9 ?_, hbG, ?_, h.bGC, h.bHC, ?_, dG h.EG h.rowC.inn, dG h.EC h.argC.inn, ?_, ?_, h.CC⟩, ?_⟩
  · intro k hk hx
    rcases List.mem_cons.1 hx with rfl | hx
    · exact h.bGC hk
    · exact h.EG k hx hk
  · intro k hk hx
    rcases List.mem_cons.1 hx with rfl | hx
    · exact h.bHC hk
    · exact h.EC k hx hk
  · intro hx
    rcases (hH' _).1 hx with h1 | h1
    · exact h.bHE h1
    · exact noA _ h.blk.lt h1
  · intro k hk hx
    rcases (hH' _).1 hx with h1 | h1
    · exact dG h.EH h.argE.inn k hk h1
    · exact hGA k hk h1
  · intro k hk hx
    rcases (hH' _).1 hk with h1 | h1
    · exact h.HG k h1 hx
    · exact noA k (h.rowC.inn k hx) h1
  · intro k hk hx
    rcases (hH' _).1 hk with h1 | h1
    · exact h.HH k h1 hx
    · exact noA k (h.argC.inn k hx) h1
  · intro k hk
    simp only [TwD.F, TwD.pushE, List.mem_cons, List.mem_append] at hk ⊢
    rcases hk with rfl | hk | hk | hk | hk
    · simp
    · rcases hG k hk with h1 | h1
      · simp [h1]
      · exact .inr h1
    · rcases (hH' _).1 hk with h1 | h1
      · simp [h1]
      · exact .inr (hA k h1)
    · simp [hk]
    · simp [hk]

theorem Tw.pushC {w9 : World} {x : (Sl × Ch) × Int} {p : Option Addr} {c : Nat} {G A : List Nat} (h : Tw w t) (hb : Blk w9 t.b #[.slice t.ep t.E.length t.ec, .int .i64 t.cur, .slice p (t.C.length + 1) c, .int .i64 t.words, .int .i64 t.lim])
    (hs : SlAt w9 10 p (t.C.length + 1) c ((t.C ++ [x]).flatMap cvCells) G) (hA9 : SlAt w9 1 x.1.1.1 x.1.1.2.1 x.1.1.2.2 (x.1.2.args.map (.int .u64)) A) (U9 : Upd (t.b :: t.GC) w w9) (hG : Sub G t.GC w) (hA : ∀ k ∈ A, w.heap.size ≤ k) (hGA : Dis G A) :
    ∃ H', Tw w9 (t.pushC x p c G H') ∧ Sub (t.pushC x p c G H').F t.F w := by
  have hbG : t.b ∉ G := fun hx => by
    rcases hG _ hx with h1 | h1
    · exact h.bGC h1
    · have := h.blk.lt; omega
  have noA : ∀ k, k < w.heap.size → k ∉ A := fun k hk hx => by have := hA k hx; omega
  have dG : ∀ {X : List Nat}, Dis X t.GC → In X w → Dis X G := fun hd hi k hx hk => by
    rcases hG k hk with h1 | h1
    · exact hd k hx h1
    · have := hi k hx; omega
  have argC9 : ArgsAt w9 (t.C.map (·.1)) t.HC := h.argC.upd U9 (by
    intro k hk hx
    rcases List.mem_cons.1 hx with rfl | hx
    · exact h.bHC hk
    · exact h.CC k hx hk)
  obtain ⟨H', hA', hH'⟩ := ArgsAt.push (x := x.1) hA9 argC9 (fun k hk => noA k (h.argC.inn k hk))
  refine ⟨H', ⟨by show Blk w9 t.b #[_, _, .slice p (t.C ++ [x]).length c, _, _]; rw [List.length_append]; exact hb, h.rowE.upd U9 ?_, h.argE.upd U9 ?_, by show SlAt w9 10 p (t.C ++ [x]).length c _ _; rw [List.length_append]; exact hs, by show ArgsAt w9 ((t.C ++ [x]).map (·.1)) H'; rw [List.map_append]; exact hA', h.bGE, h.bHE, hbG, ?_, h.EH, dG h.EG h.rowE.inn, ?_, dG h.HG h.argE.inn, ?_, ?_⟩, ?_⟩
  · intro k hk hx
    rcases List.mem_cons.1 hx with rfl | hx
    · exact h.bGE hk
    · exact h.EG k hk hx
  · intro k hk hx
    rcases List.mem_cons.1 hx with rfl | hx
    · exact h.bHE hk
    · exact h.HG k hk hx
  · intro hx
    rcases (hH' _).1 hx with h1 | h1
    · exact h.bHC h1
    · exact noA _ h.blk.lt h1
  · intro k hk hx
    rcases (hH' _).1 hx with h1 | h1
    · exact h.EC k hk h1
    · exact noA k (h.rowE.inn k hk) h1
  · intro k hk hx
    rcases (hH' _).1 hx with h1 | h1
    · exact h.HH k hk h1
    · exact noA k (h.argE.inn k hk) h1
  · intro k hk hx
    rcases (hH' _).1 hx with h1 | h1
    · rcases hG k hk with h2 | h2
      · exact h.CC k h2 h1
      · have := h.argC.inn k h1; omega
    · exact hGA k hk h1
  · intro k hk
    simp only [TwD.F, TwD.pushC, List.mem_cons, List.mem_append] at hk ⊢
    rcases hk with rfl | hk | hk | hk | hk
    · simp
    · simp [hk]
    · simp [hk]
    · rcases hG k hk with h1 | h1
      · simp [h1]
      · exact .inr h1
    · rcases (hH' _).1 hk with h1 | h1
      · simp [h1]
      · exact .inr (hA k h1)

/-- The current one's number is another. -/
theorem Tw.setCur {v : Int} {K : World → Prop} (h : Tw w t) (hK : ∀ w', Tw w' { t with cur := v } → Upd t.F w w' → K w') : St w ⟨t.b, 1, none⟩ (.int .i64 v) K := by
  refine St_rule h.blk (by simp) rfl fun w' u b => hK w' ?_ (u.mono (by intro k hk; simp at hk; subst hk; simp [TwD.F]))
  have n : ∀ {X : List Nat}, t.b ∉ X → Dis X [t.b] := fun hx k hk h1 => by simp at h1; subst h1; exact hx hk
  exact ⟨by simpa using b, h.rowE.upd u (n h.bGE), h.argE.upd u (n h.bHE), h.rowC.upd u (n h.bGC), h.argC.upd u (n h.bHC), h.bGE, h.bHE, h.bGC, h.bHC, h.EH, h.EG, h.EC, h.HG, h.HH, h.CC⟩

theorem RAlloc_arg {slots c0 c1 : Int} {K : Int → World → Prop} (h0 : slots < 0 ∨ 64 < slots) (hK : ∀ w', Upd [] w w' → K 1 w') : C_ref22_Stack_Alloc t.a slots c0 c1 w K := by
  apply C_ref22_Stack_Alloc.of
  unfold F_ref22_Stack_Alloc
  refine New_rule fun r w1 hr u1 hb1 => ifC (fun _ => hK w1 u1) fun g1 => ifT ?_ (hK w1 u1)
  simp at g1 ⊢; omega

/-- What is asked of a stack ahead of its top. -/
structure TOk (t : TwD) : Prop where
  cl : t.C.length < 2 ^ 20
  el : t.E.length < 2 ^ 20
  cur : t.cur < 0 ∨ t.cur.toNat < t.E.length
  b : 0 ≤ t.cur → ∀ hh : t.cur.toNat < t.E.length, 0 ≤ (t.E[t.cur.toNat]'hh).2.env ∧ (t.E[t.cur.toNat]'hh).2.env < 2 ^ 40 ∧ (t.E[t.cur.toNat]'hh).2.args.length < 2 ^ 40
  tp : 0 ≤ t.top ∧ t.top < 2 ^ 40

def zEnv (t : TwD) (slots c0 c1 : Int) : Ch := { kind := 0, c2 := c0, c3 := c1, c4 := 0, c5 := 0, c6 := 0, env := t.top, top := t.cur, args := List.replicate slots.toNat 0 }

theorem RAlloc_full {slots c0 c1 : Int} {K : Int → World → Prop} (h : Tw w t) (ok : TOk t) (h0 : 0 ≤ slots) (h1 : slots ≤ 64) (hroom : t.words < t.top + 4 + slots) (hK : ∀ w', Upd [] w w' → K 2 w') : C_ref22_Stack_Alloc t.a slots c0 c1 w K := by
  apply C_ref22_Stack_Alloc.of
  unfold F_ref22_Stack_Alloc
  refine New_rule fun r w1 hr u1 hb1 => ifF (by simp; omega) (ifF (by simp; omega) ?_)
  refine RTop_ok (h.keep u1) (Nat.lt_trans ok.cl (by decide)) ok.cur ok.b fun w2 u2 => ?_
  have h2 := (h.keep u1).keep u2
  have := ok.tp
  simp only [TwD.a, NN_some, addN, drw_cell, drw_heap, exS, exI, exB, exP, exM, exStr, exV, a0, a1, a2, a3, a4, a5, a6, a7, a8, a9, a10, a11, a12, a13, maxI_eq, Nat.zero_add, Nat.add_zero, Nat.mul_one, Option.isNone_some, Option.isNone_none, h2.blk.cell]
  exact ifT (by rw [i64id (x := t.top + 4) (by omega) (by omega), i64id (by omega) (by omega)]; simp; omega) (hK w2 (u1.after u2))

theorem RAlloc_ok {slots c0 c1 : Int} {K : Int → World → Prop} (h : Tw w t) (ok : TOk t) (h0 : 0 ≤ slots) (h1 : slots ≤ 64) (hroom : t.top + 4 + slots ≤ t.words)
    (hK : ∀ w' x p c G H, x.2 = zEnv t slots c0 c1 → Tw w' (t.pushE x p c G H t.E.length) → Upd t.F w w' → Sub (t.pushE x p c G H t.E.length).F t.F w → K 0 w') : C_ref22_Stack_Alloc t.a slots c0 c1 w K := by
  apply C_ref22_Stack_Alloc.of
  unfold F_ref22_Stack_Alloc
  refine New_rule fun r w1 hr u1 hb1 => ifF (by simp; omega) (ifF (by simp; omega) ?_)
  have T1 := h.keep u1
  refine RTop_ok T1 (Nat.lt_trans ok.cl (by decide)) ok.cur ok.b fun w2 u2 => ?_
  have T2 := T1.keep u2
  have htp := ok.tp
  have hel := ok.el
  simp only [TwD.a, NN_some, addN, drw_cell, drw_heap, exS, exI, exB, exP, exM, exStr, exV, a0, a1, a2, a3, a4, a5, a6, a7, a8, a9, a10, a11, a12, a13, maxI_eq, Nat.zero_add, Nat.add_zero, Nat.mul_one, Option.isNone_some, Option.isNone_none, T2.blk.cell]
  refine ifF (by rw [i64id (x := t.top + 4) (by omega) (by omega), i64id (by omega) (by omega)]; simp; omega) ?_
  have ud := drw_upd w2
  have hb2 := (hb1.upd u2 (by simp)).upd ud (by simp)
  have hb2' := hb1.upd u2 (by simp)
  simp only [hb2'.cell, NN_some, addN, drw_cell, drw_heap, exS, exI, exB, exP, exM, exStr, exV, a0, a1, a2, a3, a4, a5, a6, a7, a8, a9, a10, a11, a12, a13, maxI_eq, Nat.zero_add, Nat.add_zero, Nat.mul_one, Option.isNone_some, Option.isNone_none]
  refine MkSl_rule eS_32 h0 (Int.le_refl _) (by omega) fun w3 hy3 u3 => ?_
  have T3 := (T2.keep ud).keep u3
  have hb3 := hb2.upd u3 (by simp)
  refine ⟨fun i hi => by rw [hb3.cell], by rw [T3.blk.cell]; rfl, by rw [T3.blk.cell]; rfl, ?_⟩
  rw [zeroL_one, show List.replicate slots.toNat (Value.int .u64 0) = (List.replicate slots.toNat (0 : Int)).map (.int .u64) by simp] at hy3
  obtain ⟨x, hx⟩ : ∃ x : Sl × Ch, x = ((some ⟨(drw w2).heap.size, 0, none⟩, slots.toNat, slots.toNat), zEnv t slots c0 c1) := ⟨_, rfl⟩
  refine BSlP_rule (hE := eS_85) [.agg (evCells x).toArray] (by subst hx; rfl) (by simp [Value.cells, evCells]) rfl (by simp) fun w4 hs4 _ u4 => ?_
  have e4 : ([Value.agg (evCells x).toArray].flatMap fun v => v.cells.toList) = [x].flatMap evCells := by simp [Value.cells]
  rw [e4] at hs4
  have T4 := T3.keep u4
  refine ⟨by rw [T4.blk.cell]; rfl, ?_⟩
  refine App_rule (hE := eS_85) T4.rowE hs4 (by simp [evCells, Value.oneCell']) (by simp; omega) fun p5 c5 G5 w5 hs5 u5 s5 => ?_
  have U4 : Upd [] w w4 := ((u1.after u2).after (ud.after u3)).after u4
  have U5 : Upd t.GE w w5 := U4.after u5
  have hG5 : Sub G5 t.GE w := s5.old U4.size
  have hbG5 : t.b ∉ G5 := fun hx => by
    rcases hG5 _ hx with h1 | h1
    · exact h.bGE h1
    · have := h.blk.lt; omega
  have hb5 := h.blk.upd U5 h.bGE
  refine St_rule hb5 (by simp) rfl fun w6 u6 hb6 => ?_
  simp at hb6
  simp only [NN_some, addN, drw_cell, drw_heap, exS, exI, exB, exP, exM, exStr, exV, a0, a1, a2, a3, a4, a5, a6, a7, a8, a9, a10, a11, a12, a13, maxI_eq, Nat.zero_add, Nat.add_zero, Nat.mul_one, Option.isNone_some, Option.isNone_none, hb6.cell]
  refine St_rule hb6 (by simp) rfl fun w7 u7 hb7 => ?_
  simp at hb7
  have U7 : Upd (t.b :: t.GE) w w7 := U5.trans (u6.both u7) (by intro k hk; simp [hk]) (by intro k hk; simp at hk; simp [hk])
  have hlen : ([Value.agg (evCells x).toArray] : List Value).length = 1 := rfl
  rw [hlen] at hs5
  have ecur : IntKind.i64.wrap (t.E.length : Int) = (t.E.length : Int) := i64id (by omega) (by omega)
  rw [ecur] at hb7
  have hnew : ∀ k ∈ [(drw w2).heap.size], w.heap.size ≤ k := by
    intro k hk
    simp only [List.mem_singleton] at hk
    subst hk
    show w.heap.size ≤ w2.heap.size
    have := u1.size; have := u2.size; omega
  have hA7 : SlAt w7 1 x.1.1 x.1.2.1 x.1.2.2 (x.2.args.map (.int .u64)) [(drw w2).heap.size] := by
    have a : SlAt w4 1 x.1.1 x.1.2.1 x.1.2.2 (x.2.args.map (.int .u64)) [(drw w2).heap.size] := by subst hx; exact hy3.upd u4 (by intro k _ h; cases h)
    refine (a.upd u5 fun k hk hg => ?_).upd (u6.both u7) fun k hk hg => ?_
    · have := hnew k hk; have := h.rowE.inn k hg; omega
    · simp at hg; subst hg; have := hnew _ hk; have := h.blk.lt; omega
  have hs7 := hs5.upd (u6.both u7) (by intro k hk h1; simp at h1; subst h1; exact hbG5 hk)
  rw [← List.flatMap_append] at hs7
  obtain ⟨H', T', S'⟩ := h.pushE hb7 hs7 hA7 U7 hG5 hnew (by
    intro k hk ha
    rcases s5 k hk with h1 | h1
    · have := hnew k ha; have := h.rowE.inn k h1; omega
    · simp only [List.mem_singleton] at ha
      subst ha
      have := (hy3.inn (drw w2).heap.size (by simp)); have := u4.size; omega)
  exact hK w7 x p5 c5 G5 H' (by rw [hx]) T' (U7.mono (by intro k hk; simp at hk; rcases hk with rfl | hk <;> simp [TwD.F, *])) S'
end

end Go.Proofs.Ytdmjbkpibgfeiaa
