/- A stack of environments and choices: Dealloc, and what choices do. -/
import Derived.Test.YtdmjbkpibgfeiaaFrame3
namespace Go.Proofs.Ytdmjbkpibgfeiaa
open Go Go.D Go.Proofs
set_option linter.unusedSimpArgs false
set_option linter.unusedVariables false
set_option maxRecDepth 8000

section
variable {w : World} {d : FrD} {cur : List Int} {lev : List Level}

/-! ## Dealloc -/

def FrD.left (d : FrD) : FrD := { d with env := prevOf d.W d.env }

theorem Ok.left (ok : Ok d cur lev) (h0 : 0 ≤ d.env) : Ok d.left cur.tail lev ∧ d.left.top ≤ d.top := by
  obtain ⟨xs, hc, hs, hch⟩ := ok.cons h0
  subst hc
  obtain ⟨l1, l2, l3, l4⟩ := ok.lv
  have hk : d.left.kept = d.kept := kept_eq rfl
  have hkt := ok.kept_top
  have hk0 := ok.kept0
  have het := ok.envtop h0
  -- the new top
  have htop : d.left.top ≤ d.top ∧ 0 ≤ d.left.top ∧ d.kept ≤ d.left.top ∧ (0 ≤ prevOf d.W d.env → prevOf d.W d.env + 4 + sizeOf' d.W (prevOf d.W d.env) ≤ d.left.top) := by
    have e : d.left.top = if prevOf d.W d.env < 0 then d.left.kept else max d.left.kept (prevOf d.W d.env + 4 + sizeOf' d.W (prevOf d.W d.env)) := rfl
    rw [e, hk]
    by_cases hp : prevOf d.W d.env < 0
    · rw [if_pos hp]; omega
    · rw [if_neg hp]
      rcases xs with _ | ⟨y, ys⟩
      · have : prevOf d.W d.env = -1 := hch
        omega
      · have h4 := hch.2.2.2.1
        omega
  refine ⟨⟨ok.wl, ok.Wl, ok.ll, ok.lim, Int.le_trans htop.1 ok.topl, ⟨?_, htop.2.1, ?_, l4⟩, ok.tops⟩, htop.1⟩
  · exact hch.hi htop.2.2.2
  · intro y hy
    obtain ⟨a, b⟩ := l3 y hy
    refine ⟨?_, fun x hx hxy => b x (by simp; exact .inr hx) hxy⟩
    have : y.2.2 = d.kept := by rw [kept_lev ok.tops, hy]; simp
    dsimp only
    omega

theorem prev_word {b : Int} (h : ChainL d.W cur b d.top) (hb : 0 ≤ b) : -2 ^ 63 < wordOf d.W b := by
  rcases cur with _ | ⟨x, xs⟩
  · have : b = -1 := h
    omega
  · have := h.2.2.2.2.neg
    unfold prevOf at this
    omega

theorem Dealloc_ok {K : Int → Int → Int → World → Prop} (h : Fr w d) (ok : Ok d cur lev) (h0 : 0 ≤ d.env) (hK : ∀ w', Fr w' d.left → Upd d.F w w' → K (wordOf d.W (d.env + 1)) (wordOf d.W (d.env + 2)) 0 w') : C_frame_Stack_Dealloc d.a w K := by
  apply C_frame_Stack_Dealloc.of
  unfold F_frame_Stack_Dealloc
  have ht := ok.topl
  have hw := ok.Wl
  have hl := ok.wl
  have het := ok.envtop h0
  obtain ⟨xs, hc, hs, hch⟩ := ok.cons h0
  refine New_rule fun r w1 hr u1 hb1 => ?_
  have f1 := h.keep u1
  refine made_ok f1 (ifF rfl ?_)
  simp only [FrD.a, NN_some, addN, drw_cell, drw_heap, exS, exI, exB, exP, exM, exStr, exV, a0, a1, a2, a3, a4, a5, a6, a7, a8, a9, a10, a11, a12, a13, maxI_eq, Nat.zero_add, Nat.add_zero, Nat.mul_one, Option.isNone_some, Option.isNone_none, f1.blk.cell]
  refine ifF (by simpa using h0) (cont_ok f1 (by omega) (by omega) fun w2 f2 u2 => New_rule fun r5 w3 hr5 u3 hb3 => ?_)
  refine St_acc (Upd.refl _ _) hb3 (by simp) rfl fun w4 u4 hb4 => St_acc u4 hb4 (by simp) rfl fun w5 u5 hb5 => ?_
  simp at hb5
  have U5 : Upd [] w w5 := ((u1.after u2).after u3).fresh u5 (by intro k hk; simp at hk; have := u1.size; have := u2.size; omega)
  have f5 := h.keep U5
  simp only [NN_some, addN, drw_cell, drw_heap, exS, exI, exB, exP, exM, exStr, exV, a0, a1, a2, a3, a4, a5, a6, a7, a8, a9, a10, a11, a12, a13, maxI_eq, Nat.zero_add, Nat.add_zero, Nat.mul_one, Option.isNone_some, Option.isNone_none, f5.blk.cell]
  refine prev_ok f5 (prev_word ok.lv.1 h0) (wordOf_range _ _).2 ?_
  refine f5.setEnv fun w6 f6 u6 => ?_
  have hr5F : r5 ∉ d.F := fun hx => by have := h.inn _ hx; have := u1.size; have := u2.size; omega
  have hrF : r ∉ d.F := fun hx => by have := h.inn _ hx; omega
  have hb6 := hb5.upd u6 hr5F
  simp only [NN_some, addN, drw_cell, drw_heap, exS, exI, exB, exP, exM, exStr, exV, a0, a1, a2, a3, a4, a5, a6, a7, a8, a9, a10, a11, a12, a13, maxI_eq, Nat.zero_add, Nat.add_zero, Nat.mul_one, Option.isNone_some, Option.isNone_none, hb6.cell]
  have hrr : r ≠ r5 := by have := hb1.lt; have := u2.size; omega
  have hbr := (((hb1.upd u2 (by simp)).upd u3 (by simp)).upd u5 (by simpa using hrr)).upd u6 hrF
  refine St_acc (Upd.refl _ _) hbr (by simp) rfl fun w7 u7 hb7 => St_acc u7 hb7 (by simp) rfl fun w8 u8 hb8 => ?_
  simp at hb8
  simp only [NN_some, addN, drw_cell, drw_heap, exS, exI, exB, exP, exM, exStr, exV, a0, a1, a2, a3, a4, a5, a6, a7, a8, a9, a10, a11, a12, a13, maxI_eq, Nat.zero_add, Nat.add_zero, Nat.mul_one, Option.isNone_some, Option.isNone_none, hb8.cell]
  refine hK w8 (f6.upd u8 ?_) ((U5.after u6).trans u8 (fun k hk => .inl hk) (by intro k hk; simp at hk; right; omega))
  intro k hk; simp; rintro rfl; exact hrF hk

theorem Dealloc_no {K : Int → Int → Int → World → Prop} (h : Fr w d) (h0 : d.env < 0) (hK : ∀ w', Fr w' d → Upd [] w w' → K 0 0 4 w') : C_frame_Stack_Dealloc d.a w K := by
  apply C_frame_Stack_Dealloc.of
  unfold F_frame_Stack_Dealloc
  refine New_rule fun r w1 hr u1 hb1 => ?_
  have f1 := h.keep u1
  refine made_ok f1 (ifF rfl ?_)
  simp only [FrD.a, NN_some, addN, drw_cell, drw_heap, exS, exI, exB, exP, exM, exStr, exV, a0, a1, a2, a3, a4, a5, a6, a7, a8, a9, a10, a11, a12, a13, maxI_eq, Nat.zero_add, Nat.add_zero, Nat.mul_one, Option.isNone_some, Option.isNone_none, f1.blk.cell]
  refine ifT (by simpa using h0) ?_
  refine St_acc (Upd.refl _ _) hb1 (by simp) rfl fun w4 u4 hb4 => St_acc u4 hb4 (by simp) rfl fun w5 u5 hb5 => ?_
  simp at hb5
  simp only [NN_some, addN, drw_cell, drw_heap, exS, exI, exB, exP, exM, exStr, exV, a0, a1, a2, a3, a4, a5, a6, a7, a8, a9, a10, a11, a12, a13, maxI_eq, Nat.zero_add, Nat.add_zero, Nat.mul_one, Option.isNone_some, Option.isNone_none, hb5.cell]
  have U5 : Upd [] w w5 := u1.fresh u5 (by intro k hk; simp at hk; omega)
  exact hK w5 (h.keep U5) U5

/-! ## Choices -/

def FrD.dropped (d : FrD) (H : List Nat) : FrD := { d with l := d.l.take (d.l.length - 1), n := d.l.length - 1, H := H }
def FrD.restored (d : FrD) : FrD := { d with env := (d.tops.head?.getD (0, 0)).1 }

theorem Drop_ok {K : Int → World → Prop} (h : Fr w d) (hl : d.l.length < 2 ^ 40) (h0 : 0 < d.l.length) (hK : ∀ w' H, Fr w' (d.dropped H) → (∀ x ∈ H, x ∈ d.H) → Upd d.F w w' → K 0 w') : C_frame_Stack_Drop d.a w K := by
  apply C_frame_Stack_Drop.of
  unfold F_frame_Stack_Drop F_frame_Stack_Drop_k1
  have hn := h.len
  have hnc := h.row.2.1
  refine last_ok h hl h0 fun b off w1 hp hG f1 u1 => ifT rfl ?_
  have f1d := f1.keep (drw_upd w1)
  simp only [FrD.a, NN_some, addN, drw_cell, drw_heap, exS, exI, exB, exP, exM, exStr, exV, a0, a1, a2, a3, a4, a5, a6, a7, a8, a9, a10, a11, a12, a13, maxI_eq, Nat.zero_add, Nat.add_zero, Nat.mul_one, Option.isNone_some, Option.isNone_none, f1.blk.cell]
  rw [i64id (by omega) (by omega)]
  have e : ((d.n : Int) - 1).toNat = d.l.length - 1 := by omega
  rw [e]
  refine ⟨by omega, by omega, St_rule f1d.blk (by simp) rfl fun w2 u2 hb2 => ?_⟩
  simp at hb2
  obtain ⟨H, hA, hH⟩ := ArgsAt.take (d.l.length - 1) (f1d.args.upd u2 (by intro k hk; simp; rintro rfl; exact h.bH hk))
  refine hK w2 H ⟨hb2, f1d.room.upd u2 (by intro k hk; simp; rintro rfl; exact h.bW hk), ?_, hA, h.bW, h.bG, fun hx => h.bH (hH _ hx), h.WG, fun k hk hk2 => h.WH k hk (hH _ hk2), fun k hk hk2 => h.GH k hk (hH _ hk2)⟩ hH ((u1.after (drw_upd w1)).after (u2.mono (by intro k hk; simp at hk; simp [FrD.F, hk])))
  have := (f1d.row.upd u2 (by intro k hk; simp; rintro rfl; exact h.bG hk)).take (k := d.l.length - 1) (by omega)
  rw [flat_take chCells_len] at this
  exact this

theorem Drop_no {K : Int → World → Prop} (h : Fr w d) (h0 : d.l.length = 0) (hK : K 4 w) : C_frame_Stack_Drop d.a w K := by
  apply C_frame_Stack_Drop.of
  unfold F_frame_Stack_Drop F_frame_Stack_Drop_k1
  exact last_no h h0 (ifF rfl hK)

theorem tops_head (h0 : 0 < d.l.length) : d.tops.head? = some ((d.l[d.l.length - 1]'(by omega)).2.env, (d.l[d.l.length - 1]'(by omega)).2.top) := by
  unfold FrD.tops
  rw [List.head?_map, List.head?_reverse, last_get h0]; rfl

theorem Restore_ok {K : Int → World → Prop} (h : Fr w d) (hl : d.l.length < 2 ^ 40) (h0 : 0 < d.l.length) (hK : ∀ w', Fr w' d.restored → Upd d.F w w' → K 0 w') : C_frame_Stack_Restore d.a w K := by
  apply C_frame_Stack_Restore.of
  unfold F_frame_Stack_Restore F_frame_Stack_Restore_k1
  refine last_ok h hl h0 fun b off w1 hp hG f1 u1 => ifT rfl ?_
  obtain ⟨b', off', hp', _, hc⟩ := f1.cell (i := d.l.length - 1) (by omega)
  have : b' = b ∧ off' = off := by rw [hp] at hp'; simp at hp'; exact ⟨hp'.1.symm, hp'.2.symm⟩
  obtain ⟨rfl, rfl⟩ := this
  have hc7 := hc 7 (by omega)
  have e2 : (chCells (d.l[d.l.length - 1]'(by omega)))[7]? = some (.int .i64 (d.l[d.l.length - 1]'(by omega)).2.env) := rfl
  rw [e2] at hc7
  simp only [FrD.a, NN_some, addN, drw_cell, drw_heap, exS, exI, exB, exP, exM, exStr, exV, a0, a1, a2, a3, a4, a5, a6, a7, a8, a9, a10, a11, a12, a13, maxI_eq, Nat.zero_add, Nat.add_zero, Nat.mul_one, Option.isNone_some, Option.isNone_none, hc7]
  refine f1.setEnv fun w2 f2 u2 => hK w2 ?_ (u1.after u2)
  unfold FrD.restored
  rw [tops_head h0]; exact f2

theorem Restore_no {K : Int → World → Prop} (h : Fr w d) (h0 : d.l.length = 0) (hK : K 4 w) : C_frame_Stack_Restore d.a w K := by
  apply C_frame_Stack_Restore.of
  unfold F_frame_Stack_Restore F_frame_Stack_Restore_k1
  exact last_no h h0 (ifF rfl hK)

theorem Ok.restored (ok : Ok d cur lev) (h0 : 0 < d.l.length) : ∃ y r, lev = y :: r ∧ Ok d.restored y.1 lev ∧ d.restored.top = d.kept := by
  have htl := ok.tops
  rcases lev with _ | ⟨y, r⟩
  · have := congrArg List.length htl
    unfold FrD.tops at this
    simp at this; omega
  refine ⟨y, r, rfl, ?_⟩
  obtain ⟨l1, l2, l3, l4⟩ := ok.lv
  obtain ⟨a, b⟩ := l3 y rfl
  have hk : d.kept = y.2.2 := by rw [kept_lev ok.tops]; simp
  have he : d.restored.env = y.2.1 := by
    show (d.tops.head?.getD (0, 0)).1 = _
    rw [← ok.tops]; simp
  have hkr : d.restored.kept = d.kept := kept_eq rfl
  have htop : d.restored.top = d.kept := by
    have e : d.restored.top = if d.restored.env < 0 then d.restored.kept else max d.restored.kept (d.restored.env + 4 + sizeOf' d.W d.restored.env) := rfl
    rw [e, hkr, he]
    split
    · rfl
    · rename_i hn
      have h5 := l4.1
      rcases hy : y.1 with _ | ⟨z, zs⟩
      · rw [hy] at h5
        have : y.2.1 = -1 := h5
        omega
      · rw [hy] at h5
        have := h5.2.2.2.1
        omega
  refine ⟨⟨ok.wl, ok.Wl, ok.ll, ok.lim, ?_, ⟨?_, ?_, ?_, l4⟩, ok.tops⟩, htop⟩
  · rw [htop]; exact Int.le_trans ok.kept_top ok.topl
  · show ChainL d.W y.1 d.restored.env d.restored.top
    rw [he, htop, hk]; exact l4.1
  · show 0 ≤ d.restored.top
    rw [htop]; exact ok.kept0
  · intro q hq
    simp at hq; subst hq
    exact ⟨by show y.2.2 ≤ d.restored.top; rw [htop, hk]; exact Int.le_refl _, fun x hx _ => hx⟩

theorem Ok.dropped (ok : Ok d cur lev) (h0 : 0 < d.l.length) (H : List Nat) : ∃ y r, lev = y :: r ∧ Ok (d.dropped H) cur r ∧ (d.dropped H).top ≤ d.top := by
  have htl := ok.tops
  rcases lev with _ | ⟨y, r⟩
  · have := congrArg List.length htl
    unfold FrD.tops at this
    simp at this; omega
  refine ⟨y, r, rfl, ?_⟩
  obtain ⟨l1, l2, l3, l4⟩ := ok.lv
  obtain ⟨a, b⟩ := l3 y rfl
  have hk : d.kept = y.2.2 := by rw [kept_lev ok.tops]; simp
  have hte : r.map (·.2) = (d.dropped H).tops := by
    have h2 : d.tops.tail = (d.dropped H).tops := by
      unfold FrD.tops
      show ((d.l.reverse.map _).tail) = ((d.l.take (d.l.length - 1)).reverse.map _)
      rw [← List.dropLast_eq_take, List.map_reverse, List.map_reverse, List.tail_reverse, List.map_dropLast]
    rw [← h2, ← ok.tops]; rfl
  have hkr : (d.dropped H).kept ≤ d.kept ∧ 0 ≤ (d.dropped H).kept := by
    rw [kept_lev hte]
    rcases r with _ | ⟨z, zs⟩
    · simp; exact ok.kept0
    · have h3 := (l4.2.2.1 z rfl).1
      have h4 := l4.2.2.2.2.1
      simp; omega
  have e : (d.dropped H).top = if d.env < 0 then (d.dropped H).kept else max (d.dropped H).kept (d.env + 4 + sizeOf' d.W d.env) := rfl
  have e' : d.top = if d.env < 0 then d.kept else max d.kept (d.env + 4 + sizeOf' d.W d.env) := rfl
  have htop : (d.dropped H).top ≤ d.top ∧ 0 ≤ (d.dropped H).top ∧ (d.dropped H).kept ≤ (d.dropped H).top ∧ (0 ≤ d.env → d.env + 4 + sizeOf' d.W d.env ≤ (d.dropped H).top) := by
    rw [e, e']
    split <;> omega
  refine ⟨⟨ok.wl, ok.Wl, ?_, ok.lim, Int.le_trans htop.1 ok.topl, ⟨l1.hi htop.2.2.2, htop.2.1, ?_, l4.2.2.2⟩, hte⟩, htop.1⟩
  · show ((d.l.take (d.l.length - 1)).length : Int) ≤ d.lim
    have := ok.ll
    rw [List.length_take]; omega
  · intro q hq
    obtain ⟨c, e⟩ := l4.2.2.1 q hq
    have hq2 : q.2.2 = (d.dropped H).kept := by rw [kept_lev hte, hq]; simp
    refine ⟨by show q.2.2 ≤ (d.dropped H).top; rw [hq2]; exact htop.2.2.1, fun x hx hxq => e x (b x hx (by omega)) hxq⟩

end

end Go.Proofs.Ytdmjbkpibgfeiaa
