/- The document's stack: choices, chains, and which record a base is. -/
import Derived.Test.YtdmjbkpibgfeiaaTwin3
import Derived.Test.YtdmjbkpibgfeiaaOwn16
namespace Go.Proofs.Ytdmjbkpibgfeiaa
open Go Go.D Go.Proofs
set_option linter.unusedSimpArgs false
set_option linter.unusedVariables false
set_option maxRecDepth 8000

theorem u64_one (L : List Int) : ∀ v ∈ L.map (Value.int .u64), v.oneCell' = true := by
  intro v hv
  obtain ⟨x, _, rfl⟩ := List.mem_map.1 hv
  rfl

/-- Bytes of one's own, out of a row that is read. -/
theorem Copy_rule {w : World} {p : Option Addr} {n c : Nat} {L : List Int} {K : Option Addr → Nat → Nat → World → Prop} (hr : Rd w 1 p n (L.map (.int .u64))) (hl : L.length < 2 ^ 40)
    (hK : ∀ p' n' c' A w', SlAt w' 1 p' n' c' (L.map (.int .u64)) A → Upd [] w w' → Since A w → K p' n' c' w') :
    BSl Try.prog 32 0 [] w fun t5P t5N t5C w1 => App Try.prog #[32, 32] 32 #[.slice t5P t5N t5C, .slice p n c] w1 K := by
  have hn : n = L.length := by have := hr.1; simp at this; omega
  refine BSl_rule (len := 0) (ps := []) (cs := []) eS_32 (by simp [Instr.fill]) (by simp) (by omega) fun w1 hs1 hu1 => ?_
  refine AppR_rule (hE := eS_32) rfl hs1 (hr.keep hu1) (u64_one L) (by omega) fun p' c' F' w2 hs2 hu2 hsub => ?_
  refine hK _ _ _ F' w2 (by simpa using hs2) (hu1.fresh hu2 (by intro k hk; simp at hk; omega)) ?_
  intro k hk
  rcases hsub k hk with h | h
  · simp at h; omega
  · have := hu1.size; omega

theorem Cloned.rd {w : World} {p : Option Addr} {n c : Nat} {L : List Int} (hr : Rd w 1 p n (L.map (.int .u64))) (hl : L.length < 2 ^ 40) : Cloned w p n c L := fun w1 u K hK => by
  apply C_slices_Clone.of
  unfold F_slices_Clone
  refine ifC (fun hc => ?_) (fun hc => Copy_rule (hr.keep u) hl fun p' n' c' A w' h1 h2 h3 => hK p' n' c' A w' h1 h2 h3)
  rcases p with _ | x
  · have hL : L = [] := by
      have h1 := hr.1
      rcases hr.2 with h0 | ⟨x, hx, _⟩
      · subst h0; simpa using h1
      · cases hx
    subst hL
    exact hK _ _ _ [] w1 (SlAt.nil _ _) (Upd.refl _ _) (by intro k hk; cases hk)
  · cases hc

section
variable {w : World} {t : TwD}

def TwD.bas (t : TwD) (n : Int) : Int := if h : 0 ≤ n ∧ n.toNat < t.E.length then (t.E[n.toNat]'h.2).2.env else -1

def rpushed (t : TwD) (c : Ch) : Ch := { c with env := t.bas t.cur, top := t.top }

theorem RPush_full {c0 c2 c3 c4 c5 c6 c7 c8 : Int} {ap : Option Addr} {an ac : Nat} {K : Int → World → Prop} (h : Tw w t) (hroom : t.lim ≤ t.C.length) (hK : ∀ w', Tw w' t → Upd [] w w' → K 2 w') : C_ref22_Stack_Push t.a c0 ap an ac c2 c3 c4 c5 c6 c7 c8 w K := by
  apply C_ref22_Stack_Push.of
  unfold F_ref22_Stack_Push
  refine New_rule fun r w1 hr u1 hb1 => ?_
  have T1 := h.keep u1
  simp only [TwD.a, NN_some, addN, drw_cell, drw_heap, exS, exI, exB, exP, exM, exStr, exV, a0, a1, a2, a3, a4, a5, a6, a7, a8, a9, a10, a11, a12, a13, maxI_eq, Nat.zero_add, Nat.add_zero, Nat.mul_one, Option.isNone_some, Option.isNone_none, T1.blk.cell]
  exact ifT (by simp; omega) (hK _ (T1.keep (drw_upd w1)) (u1.after (drw_upd w1)))

theorem RPush_ok {ch : Ch} {ap : Option Addr} {an ac : Nat} {x7 x8 : Int} {K : Int → World → Prop} (h : Tw w t) (ok : TOk t) (hroom : t.C.length < t.lim) (hr : Rd w 1 ap an (ch.args.map (.int .u64))) (hl : ch.args.length < 2 ^ 40)
    (hK : ∀ w' x p c G H, x.1.2 = rpushed t ch → x.2 = t.cur → Tw w' (t.pushC x p c G H) → Upd t.F w w' → Sub (t.pushC x p c G H).F t.F w → K 0 w') :
    C_ref22_Stack_Push t.a ch.kind ap an ac ch.c2 ch.c3 ch.c4 ch.c5 ch.c6 x7 x8 w K := by
  apply C_ref22_Stack_Push.of
  unfold F_ref22_Stack_Push
  refine New_rule fun r w1 hr1 u1 hb1 => ?_
  have T1 := h.keep u1
  simp only [TwD.a, NN_some, addN, drw_cell, drw_heap, exS, exI, exB, exP, exM, exStr, exV, a0, a1, a2, a3, a4, a5, a6, a7, a8, a9, a10, a11, a12, a13, maxI_eq, Nat.zero_add, Nat.add_zero, Nat.mul_one, Option.isNone_some, Option.isNone_none, T1.blk.cell]
  have ud := drw_upd w1
  have hrF : r ∉ t.F := fun hx => by have := h.inn _ hx; omega
  refine ifF (by simp; omega) ?_
  have hb1d := hb1.drw
  -- the copy of the arguments
  have copied : ∀ {K' : Option Addr → Nat → Nat → World → Prop}, (∀ p' n' c' A w', SlAt w' 1 p' n' c' (ch.args.map (.int .u64)) A → Upd [] (drw w1) w' → Since A (drw w1) → K' p' n' c' w') →
      BSl Try.prog 32 0 [] (drw w1) fun t15P t15N t15C w1_1 => ∃ ArgsP : Option Addr, ∃ ArgsN : Nat, ∃ ArgsC : Nat, w1_1.cell? ⟨r, 1, none⟩ = some (.slice ArgsP ArgsN ArgsC) ∧
      App Try.prog #[32, 32] 32 #[.slice t15P t15N t15C, .slice ArgsP ArgsN ArgsC] w1_1 K' := by
    intro K' hK'
    have hn : an = ch.args.length := by have := hr.1; simp at this; omega
    refine BSl_rule (len := 0) (ps := []) (cs := []) eS_32 (by simp [Instr.fill]) (by simp) (by omega) fun w2 hs2 hu2 => ?_
    have hb2 := hb1d.upd hu2 (by simp)
    simp only [NN_some, addN, drw_cell, drw_heap, exS, exI, exB, exP, exM, exStr, exV, a0, a1, a2, a3, a4, a5, a6, a7, a8, a9, a10, a11, a12, a13, maxI_eq, Nat.zero_add, Nat.add_zero, Nat.mul_one, Option.isNone_some, Option.isNone_none, hb2.cell]
    refine AppR_rule (hE := eS_32) rfl hs2 (((hr.keep u1).keep ud).keep hu2) (u64_one _) (by omega) fun p' c' F' w3 hs3 hu3 hsub => ?_
    refine hK' _ _ _ F' w3 (by simpa using hs3) (hu2.fresh hu3 (by intro k hk; simp at hk; rw [hk]; exact Nat.le_refl _)) ?_
    intro k hk
    rcases hsub k hk with h | h
    · simp at h; rw [h]; exact Nat.le_refl _
    · exact Nat.le_trans hu2.size h
  refine copied fun p' n' c' A w2 hA u2 nA => ?_
  have hb2 := hb1d.upd u2 (by simp)
  refine St_rule hb2 (by simp) rfl fun w3 u3 hb3 => ?_
  simp at hb3
  have U2 : Upd [] w w2 := u1.after (ud.after u2)
  have U3 : Upd [] w w3 := U2.fresh u3 (by intro k hk; simp at hk; omega)
  have hAw : ∀ k ∈ A, w.heap.size ≤ k := fun k hk => Nat.le_trans u1.size (nA k hk)
  have rA : r ∉ A := fun hx => by have h5 : w1.heap.size ≤ r := nA r hx; have := hb1.lt; omega
  have T3 := h.keep U3
  have hA3 := hA.upd u3 (by intro k hk; simp; rintro rfl; exact rA hk)
  simp only [NN_some, addN, drw_cell, drw_heap, exS, exI, exB, exP, exM, exStr, exV, a0, a1, a2, a3, a4, a5, a6, a7, a8, a9, a10, a11, a12, a13, maxI_eq, Nat.zero_add, Nat.add_zero, Nat.mul_one, Option.isNone_some, Option.isNone_none, T3.blk.cell]
  have base : ∀ {K : Int → World → Prop}, K (t.bas t.cur) w3 → C_ref22_Stack_base t.a t.cur w3 K := by
    intro K hk
    by_cases hc : t.cur < 0
    · refine rbase_no hc ?_
      unfold TwD.bas at hk; rw [dif_neg (by omega)] at hk; exact hk
    · have hi : t.cur.toNat < t.E.length := by rcases ok.cur with h | h; exact absurd h hc; exact h
      have e : t.cur = (t.cur.toNat : Int) := by omega
      unfold TwD.bas at hk
      rw [dif_pos ⟨by omega, hi⟩] at hk
      have := rbase_ok (i := t.cur.toNat) T3 hi hk
      rw [← e] at this
      exact this
  refine base ?_
  refine RTop_ok T3 (Nat.lt_trans ok.cl (by decide)) ok.cur ok.b fun w4 u4 => ?_
  have T4 := T3.keep u4
  have hb4 := hb3.upd u4 (by simp)
  refine St_acc (Upd.refl _ _) hb4 (by simp) rfl fun w5 u5 hb5 => St_acc u5 hb5 (by simp) rfl fun w6 u6 hb6 => ?_
  simp at hb6
  have U6 : Upd [] w w6 := (U3.after u4).fresh u6 (by intro k hk; simp at hk; omega)
  have T6 := h.keep U6
  have hA6 := (hA3.upd u4 (by intro k _ h; cases h)).upd u6 (by intro k hk; simp; rintro rfl; exact rA hk)
  simp only [NN_some, addN, drw_cell, drw_heap, exS, exI, exB, exP, exM, exStr, exV, a0, a1, a2, a3, a4, a5, a6, a7, a8, a9, a10, a11, a12, a13, maxI_eq, Nat.zero_add, Nat.add_zero, Nat.mul_one, Option.isNone_some, Option.isNone_none, T6.blk.cell, hb6.cell]
  obtain ⟨x, hx⟩ : ∃ x : (Sl × Ch) × Int, x = (((p', n', c'), rpushed t ch), t.cur) := ⟨_, rfl⟩
  refine BSlP_rule (hE := eS_86) [.agg (cvCells x).toArray] (by subst hx; rfl) (by simp [Value.cells, cvCells]) rfl (by simp) fun w7 hs7 _ u7 => ?_
  have e7 : ([Value.agg (cvCells x).toArray].flatMap fun v => v.cells.toList) = [x].flatMap cvCells := by simp [Value.cells]
  rw [e7] at hs7
  have U7 : Upd [] w w7 := U6.after ((drw_upd w6).after u7)
  have T7 := h.keep U7
  refine ⟨by rw [T7.blk.cell]; rfl, ?_⟩
  have hcl := ok.cl
  refine App_rule (hE := eS_86) T7.rowC hs7 (by simp [cvCells, Value.oneCell']) (by simp; omega) fun p8 c8 G8 w8 hs8 u8 s8 => ?_
  have U8 : Upd t.GC w w8 := U7.after u8
  have hG8 : Sub G8 t.GC w := s8.old U7.size
  have hbG8 : t.b ∉ G8 := fun hx => by
    rcases hG8 _ hx with h1 | h1
    · exact h.bGC h1
    · have := h.blk.lt; omega
  have hlen : ([Value.agg (cvCells x).toArray] : List Value).length = 1 := rfl
  rw [hlen] at hs8
  refine St_rule (h.blk.upd U8 h.bGC) (by simp) rfl fun w9 u9 hb9 => ?_
  simp at hb9
  have U9 : Upd (t.b :: t.GC) w w9 := U8.trans u9 (by intro k hk; simp [hk]) (by intro k hk; simp at hk; simp [hk])
  have hA7 : SlAt w7 1 x.1.1.1 x.1.1.2.1 x.1.1.2.2 (x.1.2.args.map (.int .u64)) A := by subst hx; exact hA6.upd ((drw_upd w6).after u7) (by intro k _ h; cases h)
  have hA9 := (hA7.upd u8 fun k hk hg => by have := hAw k hk; have := h.rowC.inn k hg; omega).upd u9 fun k hk hg => by simp at hg; subst hg; have := hAw _ hk; have := h.blk.lt; omega
  have hs9 := hs8.upd u9 (by intro k hk h1; simp at h1; subst h1; exact hbG8 hk)
  rw [← List.flatMap_append] at hs9
  obtain ⟨H', T', S'⟩ := h.pushC hb9 hs9 hA9 U9 hG8 hAw (by
    intro k hk ha
    rcases s8 k hk with h1 | h1
    · have := hAw k ha; have := h.rowC.inn k h1; omega
    · have := hA7.inn k ha; omega)
  exact hK w9 x p8 c8 G8 H' (by rw [hx]) (by rw [hx]) T' (U9.mono (by intro k hk; simp at hk; rcases hk with rfl | hk <;> simp [TwD.F, *])) S'
end

end Go.Proofs.Ytdmjbkpibgfeiaa
