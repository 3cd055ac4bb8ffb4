/- The document's stack of environments and choices: what it is in memory; its small functions. -/
import Derived.Test.YtdmjbkpibgfeiaaSame
import Derived.Test.YtdmjbkpibgfeiaaOwn12
namespace Go.Proofs.Ytdmjbkpibgfeiaa
open Go Go.D Go.Proofs
set_option linter.unusedSimpArgs false
set_option linter.unusedVariables false
set_option maxRecDepth 8000

/-- A record: its base (env), its previous one's number (top), its slots (args), where it goes on (c2, c3). -/
def evCells (x : Sl × Ch) : List Value := [.int .i64 x.2.env, .int .i64 x.2.top, .slice x.1.1 x.1.2.1 x.1.2.2, .int .i64 x.2.c2, .int .i64 x.2.c3]
theorem evCells_len (x : Sl × Ch) : (evCells x).length = 5 := rfl

/-- A choice, and its record's number. -/
def cvCells (x : (Sl × Ch) × Int) : List Value := [.int .i64 x.1.2.kind, .slice x.1.1.1 x.1.1.2.1 x.1.1.2.2, .int .i64 x.1.2.c2, .int .i64 x.1.2.c3, .int .i64 x.1.2.c4, .int .i64 x.1.2.c5, .int .i64 x.1.2.c6, .int .i64 x.1.2.env, .int .i64 x.1.2.top, .int .i64 x.2]
theorem cvCells_len (x : (Sl × Ch) × Int) : (cvCells x).length = 10 := rfl

structure TwD where
  b : Nat
  ep : Option Addr
  ec : Nat
  E : List (Sl × Ch)
  GE : List Nat
  HE : List Nat
  cur : Int
  cp : Option Addr
  cc : Nat
  C : List ((Sl × Ch) × Int)
  GC : List Nat
  HC : List Nat
  words : Int
  lim : Int

def TwD.F (t : TwD) : List Nat := t.b :: (t.GE ++ (t.HE ++ (t.GC ++ t.HC)))
def TwD.a (t : TwD) : Option Addr := some ⟨t.b, 0, none⟩

structure Tw (w : World) (t : TwD) : Prop where
  blk : Blk w t.b #[.slice t.ep t.E.length t.ec, .int .i64 t.cur, .slice t.cp t.C.length t.cc, .int .i64 t.words, .int .i64 t.lim]
  rowE : SlAt w 5 t.ep t.E.length t.ec (t.E.flatMap evCells) t.GE
  argE : ArgsAt w t.E t.HE
  rowC : SlAt w 10 t.cp t.C.length t.cc (t.C.flatMap cvCells) t.GC
  argC : ArgsAt w (t.C.map (·.1)) t.HC
  bGE : t.b ∉ t.GE
  bHE : t.b ∉ t.HE
  bGC : t.b ∉ t.GC
  bHC : t.b ∉ t.HC
  EH : Dis t.GE t.HE
  EG : Dis t.GE t.GC
  EC : Dis t.GE t.HC
  HG : Dis t.HE t.GC
  HH : Dis t.HE t.HC
  CC : Dis t.GC t.HC

section
variable {w : World} {t : TwD}

theorem Tw.inn (h : Tw w t) : In t.F w := by
  intro k hk
  simp only [TwD.F, List.mem_cons, List.mem_append] at hk
  rcases hk with rfl | hk | hk | hk | hk
  · exact h.blk.lt
  · exact h.rowE.inn k hk
  · exact h.argE.inn k hk
  · exact h.rowC.inn k hk
  · exact h.argC.inn k hk

theorem Tw.upd {w' : World} {F : List Nat} (h : Tw w t) (u : Upd F w w') (hd : Dis t.F F) : Tw w' t := by
  have m : ∀ k, k ∈ t.F → k ∉ F := fun k hk => hd k hk
  simp only [TwD.F, List.mem_cons, List.mem_append] at m
  exact ⟨h.blk.upd u (m _ (.inl rfl)), h.rowE.upd u (fun k hk => m _ (by simp [hk])), h.argE.upd u (fun k hk => m _ (by simp [hk])), h.rowC.upd u (fun k hk => m _ (by simp [hk])), h.argC.upd u (fun k hk => m _ (by simp [hk])), h.bGE, h.bHE, h.bGC, h.bHC, h.EH, h.EG, h.EC, h.HG, h.HH, h.CC⟩

theorem Tw.keep {w' : World} (h : Tw w t) (u : Upd [] w w') : Tw w' t := h.upd u (by intro k _ h; cases h)

theorem Tw.ecell (h : Tw w t) {i : Nat} (hi : i < t.E.length) : ∃ b off, t.ep = some ⟨b, off, none⟩ ∧ t.GE = [b] ∧ ∀ j, j < 5 → w.cell? ⟨b, off + i * 5 + j, none⟩ = (evCells t.E[i])[j]? := by
  rcases h.rowE.2.2 with ⟨_, hc, _⟩ | ⟨b, off, arr, hp, hG, hb, hs, hc⟩
  · have := h.rowE.2.1; omega
  · refine ⟨b, off, hp, hG, fun j hj => ?_⟩
    rw [hb.cell, Nat.add_assoc, hc _ (by omega), flat_at evCells_len hi hj]

theorem Tw.ccell (h : Tw w t) {i : Nat} (hi : i < t.C.length) : ∃ b off, t.cp = some ⟨b, off, none⟩ ∧ t.GC = [b] ∧ ∀ j, j < 10 → w.cell? ⟨b, off + i * 10 + j, none⟩ = (cvCells t.C[i])[j]? := by
  rcases h.rowC.2.2 with ⟨_, hc, _⟩ | ⟨b, off, arr, hp, hG, hb, hs, hc⟩
  · have := h.rowC.2.1; omega
  · refine ⟨b, off, hp, hG, fun j hj => ?_⟩
    rw [hb.cell, Nat.add_assoc, hc _ (by omega), flat_at cvCells_len hi hj]

/-- The records' cells, one by one. -/
theorem Tw.e5 (h : Tw w t) {i : Nat} (hi : i < t.E.length) : ∃ b off, t.ep = some ⟨b, off, none⟩ ∧ t.GE = [b] ∧ w.cell? ⟨b, off + i * 5, none⟩ = some (.int .i64 t.E[i].2.env) ∧ w.cell? ⟨b, off + i * 5 + 1, none⟩ = some (.int .i64 t.E[i].2.top) ∧
    w.cell? ⟨b, off + i * 5 + 2, none⟩ = some (.slice t.E[i].1.1 t.E[i].1.2.1 t.E[i].1.2.2) ∧ w.cell? ⟨b, off + i * 5 + 3, none⟩ = some (.int .i64 t.E[i].2.c2) ∧ w.cell? ⟨b, off + i * 5 + 3 + 1, none⟩ = some (.int .i64 t.E[i].2.c3) := by
  obtain ⟨b, off, h1, h2, h3⟩ := h.ecell hi
  exact ⟨b, off, h1, h2, h3 0 (by omega), h3 1 (by omega), h3 2 (by omega), h3 3 (by omega), by rw [Nat.add_assoc]; exact h3 4 (by omega)⟩

theorem Tw.elen (h : Tw w t) {i : Nat} (hi : i < t.E.length) : t.E[i].1.2.1 = t.E[i].2.args.length := by
  obtain ⟨H, hs, _⟩ := h.argE.get i hi
  have := hs.1
  simp at this; omega

theorem rbase_no {n : Int} {K : Int → World → Prop} (hn : n < 0) (hK : K (-1) w) : C_ref22_Stack_base t.a n w K := by
  apply C_ref22_Stack_base.of
  unfold F_ref22_Stack_base
  exact ifT (by simpa using hn) hK

theorem rbase_ok {i : Nat} {K : Int → World → Prop} (h : Tw w t) (hi : i < t.E.length) (hK : K t.E[i].2.env w) : C_ref22_Stack_base t.a (i : Int) w K := by
  apply C_ref22_Stack_base.of
  unfold F_ref22_Stack_base
  obtain ⟨b, off, hp, _, h0, _⟩ := h.e5 hi
  refine ifF (by simp) ?_
  simp only [TwD.a, NN_some, addN, drw_cell, drw_heap, exS, exI, exB, exP, exM, exStr, exV, a0, a1, a2, a3, a4, a5, a6, a7, a8, a9, a10, a11, a12, a13, maxI_eq, Nat.zero_add, Nat.add_zero, Nat.mul_one, Option.isNone_some, Option.isNone_none, h.blk.cell, hp, Int.toNat_natCast, h0]
  exact ⟨by omega, by omega, hK⟩

def TwD.kept (t : TwD) : Int := match t.C.getLast? with | some x => x.1.2.top | none => 0

theorem rkept_ok {K : Int → World → Prop} (h : Tw w t) (hl : t.C.length < 2 ^ 40) (hK : ∀ w', Upd [] w w' → K t.kept w') : C_ref22_Stack_kept t.a w K := by
  apply C_ref22_Stack_kept.of
  unfold F_ref22_Stack_kept
  simp only [TwD.a, NN_some, addN, drw_cell, drw_heap, exS, exI, exB, exP, exM, exStr, exV, a0, a1, a2, a3, a4, a5, a6, a7, a8, a9, a10, a11, a12, a13, maxI_eq, Nat.zero_add, Nat.add_zero, Nat.mul_one, Option.isNone_some, Option.isNone_none, h.blk.cell]
  refine ifC (fun hc => ?_) (fun hc => ?_)
  · simp at hc
    have hk : t.kept = 0 := by unfold TwD.kept; rw [List.getLast?_eq_none_iff.2 hc]
    rw [hk] at hK
    exact hK w (Upd.refl _ _)
  · simp at hc
    have h0 : 0 < t.C.length := by rcases ht : t.C with _ | ⟨x, r⟩; exact absurd ht hc; simp
    obtain ⟨b, off, hp, _, hcell⟩ := h.ccell (i := t.C.length - 1) (by omega)
    have c8 := hcell 8 (by omega)
    have e1 : IntKind.i64.wrap ((t.C.length : Int) - 1) = ((t.C.length - 1 : Nat) : Int) := by rw [i64id (by omega) (by omega)]; omega
    have hk : t.kept = (t.C[t.C.length - 1]'(by omega)).1.2.top := by unfold TwD.kept; rw [last_get h0]
    rw [hk] at hK
    simp only [cvCells, List.getElem?_cons_zero, List.getElem?_cons_succ] at c8
    simp only [hp, NN_some, addN, drw_cell, drw_heap, exS, exI, exB, exP, exM, exStr, exV, a0, a1, a2, a3, a4, a5, a6, a7, a8, a9, a10, a11, a12, a13, maxI_eq, Nat.zero_add, Nat.add_zero, Nat.mul_one, Option.isNone_some, Option.isNone_none, e1, Int.toNat_natCast, c8]
    exact ⟨by omega, by omega, hK _ (drw_upd w)⟩

def TwD.cEnd (t : TwD) : Int := if h : 0 ≤ t.cur ∧ t.cur.toNat < t.E.length then (t.E[t.cur.toNat]'h.2).2.env + 4 + ((t.E[t.cur.toNat]'h.2).2.args.length : Int) else 0
def TwD.top (t : TwD) : Int := max t.kept t.cEnd

theorem RTop_ok {K : Int → World → Prop} (h : Tw w t) (hl : t.C.length < 2 ^ 40) (hc : t.cur < 0 ∨ t.cur.toNat < t.E.length) (hb : 0 ≤ t.cur → ∀ hh : t.cur.toNat < t.E.length, 0 ≤ (t.E[t.cur.toNat]'hh).2.env ∧ (t.E[t.cur.toNat]'hh).2.env < 2 ^ 40 ∧ (t.E[t.cur.toNat]'hh).2.args.length < 2 ^ 40)
    (hK : ∀ w', Upd [] w w' → K t.top w') : C_ref22_Stack_Top t.a w K := by
  apply C_ref22_Stack_Top.of
  unfold F_ref22_Stack_Top
  simp only [TwD.a, NN_some, addN, drw_cell, drw_heap, exS, exI, exB, exP, exM, exStr, exV, a0, a1, a2, a3, a4, a5, a6, a7, a8, a9, a10, a11, a12, a13, maxI_eq, Nat.zero_add, Nat.add_zero, Nat.mul_one, Option.isNone_some, Option.isNone_none, h.blk.cell]
  have fin : ∀ {v : World} {n : Int}, Upd [] w v → n = t.cEnd → F_ref22_Stack_Top_k1 t.a K n v := by
    intro v n u hn
    unfold F_ref22_Stack_Top_k1
    refine rkept_ok (h.keep u) hl fun w' u' => ?_
    have hK' := hK w' (u.after u')
    unfold TwD.top at hK'
    refine ifC (fun g => ?_) (fun g => ?_)
    · simp at g; rw [show max t.kept t.cEnd = t.kept by omega] at hK'; exact hK'
    · simp at g; rw [show max t.kept t.cEnd = n by omega] at hK'; exact hK'
  refine ifC (fun g => ?_) (fun g => ?_)
  · simp at g
    have hi : t.cur.toNat < t.E.length := by rcases hc with h | h; omega; exact h
    obtain ⟨b, off, hp, _, x0, _, x2, _, _⟩ := h.e5 hi
    obtain ⟨b0, b1, b2⟩ := hb g hi
    have hle := h.elen hi
    simp only [hp, NN_some, addN, drw_cell, drw_heap, exS, exI, exB, exP, exM, exStr, exV, a0, a1, a2, a3, a4, a5, a6, a7, a8, a9, a10, a11, a12, a13, maxI_eq, Nat.zero_add, Nat.add_zero, Nat.mul_one, Option.isNone_some, Option.isNone_none, x0, x2]
    refine ⟨g, by omega, g, by omega, fin (drw_upd w) ?_⟩
    unfold TwD.cEnd
    rw [dif_pos ⟨g, hi⟩, hle, i64id (x := _ + 4) (by omega) (by omega), i64id (by omega) (by omega)]
  · simp at g
    refine fin (Upd.refl _ _) ?_
    unfold TwD.cEnd
    rw [dif_neg (by omega)]

def TwD.slots (t : TwD) : Int := if h : 0 ≤ t.cur ∧ t.cur.toNat < t.E.length then ((t.E[t.cur.toNat]'h.2).2.args.length : Int) else 0

theorem RSlots_ok {K : Int → World → Prop} (h : Tw w t) (hc : t.cur < 0 ∨ t.cur.toNat < t.E.length) (hK : ∀ w', Upd [] w w' → K t.slots w') : C_ref22_Stack_Slots t.a w K := by
  apply C_ref22_Stack_Slots.of
  unfold F_ref22_Stack_Slots
  simp only [TwD.a, NN_some, addN, drw_cell, drw_heap, exS, exI, exB, exP, exM, exStr, exV, a0, a1, a2, a3, a4, a5, a6, a7, a8, a9, a10, a11, a12, a13, maxI_eq, Nat.zero_add, Nat.add_zero, Nat.mul_one, Option.isNone_some, Option.isNone_none, h.blk.cell]
  refine ifC (fun g => ?_) (fun g => ?_)
  · simp at g
    have e : t.slots = 0 := by unfold TwD.slots; rw [dif_neg (by omega)]
    rw [e] at hK; exact hK _ (Upd.refl _ _)
  · simp at g
    have hi : t.cur.toNat < t.E.length := by rcases hc with h | h; omega; exact h
    obtain ⟨b, off, hp, _, _, _, x2, _, _⟩ := h.e5 hi
    have e : t.slots = ((t.E[t.cur.toNat]'hi).2.args.length : Int) := by unfold TwD.slots; rw [dif_pos ⟨g, hi⟩]
    rw [e, ← h.elen hi] at hK
    simp only [hp, NN_some, addN, drw_cell, drw_heap, exS, exI, exB, exP, exM, exStr, exV, a0, a1, a2, a3, a4, a5, a6, a7, a8, a9, a10, a11, a12, a13, maxI_eq, Nat.zero_add, Nat.add_zero, Nat.mul_one, Option.isNone_some, Option.isNone_none, x2]
    exact ⟨g, by omega, hK _ (drw_upd w)⟩

theorem RNew_ok {words ch : Int} {K : Option Addr → World → Prop} (h0 : 0 ≤ words) (h1 : words ≤ 1048576) (h2 : 0 ≤ ch) (h3 : ch < 4096)
    (hK : ∀ b w', b = w.heap.size → Tw w' ⟨b, none, 0, [], [], [], -1, none, 0, [], [], [], words, ch⟩ → Upd [] w w' → K (some ⟨b, 0, none⟩) w') : C_ref22_New words ch w K := by
  apply C_ref22_New.of
  unfold F_ref22_New
  refine ifF (by simp; omega) (ifF (by simp; omega) (ifF (by simp; omega) (ifF (by simp; omega) ?_)))
  refine New_rule fun r w1 hr u1 b1 => hK r w1 hr ⟨b1, SlAt.nil _ _, rfl, SlAt.nil _ _, rfl, by simp, by simp, by simp, by simp, ?_, ?_, ?_, ?_, ?_, ?_⟩ u1
  all_goals (intro k hk; cases hk)

theorem RNew_bad {words ch : Int} {K : Option Addr → World → Prop} (h0 : words < 0 ∨ 1048576 < words ∨ ch < 0 ∨ 4096 ≤ ch) (hK : K none w) : C_ref22_New words ch w K := by
  apply C_ref22_New.of
  unfold F_ref22_New F_ref22_New_k1
  refine ifC (fun _ => hK) fun g1 => ifC (fun _ => hK) fun g2 => ifC (fun _ => hK) fun g3 => ifT ?_ hK
  simp at g1 g2 g3 ⊢
  omega
end

end Go.Proofs.Ytdmjbkpibgfeiaa
