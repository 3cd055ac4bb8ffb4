/- A stack of environments and choices: its functions. -/
import Derived.Test.YtdmjbkpibgfeiaaChain
namespace Go.Proofs.Ytdmjbkpibgfeiaa
open Go Go.D Go.Proofs
set_option linter.unusedSimpArgs false
set_option linter.unusedVariables false
set_option maxRecDepth 8000

/-- Where a new environment begins. -/
def FrD.top (d : FrD) : Int := if d.env < 0 then d.kept else max d.kept (d.env + 4 + sizeOf' d.W d.env)

/-- What each choice keeps, the last one first. -/
def FrD.tops (d : FrD) : List (Int × Int) := d.l.reverse.map fun x => (x.2.env, x.2.top)

/-- A stack as it should be: the current environment's bases, and the levels of the choices. -/
structure Ok (d : FrD) (cur : List Int) (lev : List Level) : Prop where
  wl : d.wlim ≤ 1048576
  Wl : d.W.length ≤ d.wlim
  ll : d.l.length ≤ d.lim
  lim : d.lim ≤ 4096
  topl : d.top ≤ d.W.length
  lv : Lv d.W ((cur, d.env, d.top) :: lev)
  tops : lev.map (·.2) = d.tops

theorem kept_lev {d : FrD} {lev : List Level} (h : lev.map (·.2) = d.tops) : d.kept = (lev.head?.map (·.2.2)).getD 0 := by
  unfold FrD.kept FrD.tops at *
  rw [List.getLast?_eq_head?_reverse]
  rcases lev with _ | ⟨y, r⟩
  · rcases hr : d.l.reverse with _ | ⟨z, q⟩
    · simp
    · rw [hr] at h; simp at h
  · rcases hr : d.l.reverse with _ | ⟨z, q⟩
    · rw [hr] at h; simp at h
    · rw [hr] at h; simp at h; simp [h.1]

section
variable {w : World} {d : FrD} {cur : List Int} {lev : List Level}

theorem Ok.kept0 (ok : Ok d cur lev) : 0 ≤ d.kept := by
  rw [kept_lev ok.tops]
  rcases lev with _ | ⟨y, r⟩
  · simp
  · simp; exact ok.lv.2.2.2.2.1

theorem Ok.top0 (ok : Ok d cur lev) : 0 ≤ d.top := ok.lv.2.1

theorem Ok.kept_top (ok : Ok d cur lev) : d.kept ≤ d.top := by
  unfold FrD.top; split <;> omega

theorem Ok.env1 (ok : Ok d cur lev) : -1 ≤ d.env := ok.lv.1.neg

theorem Ok.envtop (ok : Ok d cur lev) (h : 0 ≤ d.env) : d.env + 4 + sizeOf' d.W d.env ≤ d.top := by
  unfold FrD.top; rw [if_neg (by omega)]; omega

theorem Ok.cons (ok : Ok d cur lev) (h : 0 ≤ d.env) : ∃ xs, cur = d.env :: xs ∧ 0 ≤ sizeOf' d.W d.env ∧ ChainL d.W xs (prevOf d.W d.env) d.env := by
  have hc := ok.lv.1
  rcases cur with _ | ⟨x, xs⟩
  · have : d.env = -1 := hc
    omega
  · obtain ⟨h1, h2, h3, h4, h5⟩ := hc
    exact ⟨xs, by rw [h1], h3, h5⟩

theorem Ok.len40 (ok : Ok d cur lev) : d.l.length < 2 ^ 40 := by
  have := ok.ll; have := ok.lim; omega

/-- All that choices keep lies below the last one's top. -/
theorem Ok.below (ok : Ok d cur lev) : ∀ z ∈ lev, ∀ x ∈ z.1, 0 ≤ x ∧ 0 ≤ sizeOf' d.W x ∧ x + 4 + sizeOf' d.W x ≤ d.kept := by
  refine ok.lv.2.2.2.le fun y hy => ?_
  rw [kept_lev ok.tops, hy]; simp

theorem Env_ok {K : Int → World → Prop} (h : Fr w d) (hK : K d.env w) : C_frame_Stack_Env d.a w K := by
  apply C_frame_Stack_Env.of
  unfold F_frame_Stack_Env
  refine made_ok h (ifF rfl ?_)
  unfold FrD.a
  simp only [NN_some, addN, drw_cell, drw_heap, exS, exI, exB, exP, exM, exStr, exV, a0, a1, a2, a3, a4, a5, a6, a7, a8, a9, a10, a11, a12, a13, maxI_eq, Nat.zero_add, Nat.add_zero, Nat.mul_one, Option.isNone_some, Option.isNone_none, h.blk.cell]
  exact hK

theorem kept2_ok {K : Int → World → Prop} (h : Fr w d) (hl : d.l.length < 2 ^ 40) (hK : ∀ w', Fr w' d → Upd [] w w' → K d.kept w') : C_frame_Stack_kept2 d.a w K := by
  apply C_frame_Stack_kept2.of
  unfold F_frame_Stack_kept2
  exact made_ok h (ifF rfl (kept_ok h hl hK))

theorem Depth_ok {K : Int → World → Prop} (h : Fr w d) (hK : K d.l.length w) : C_frame_Stack_Depth d.a w K := by
  apply C_frame_Stack_Depth.of
  unfold F_frame_Stack_Depth
  refine made_ok h (ifF rfl ?_)
  unfold FrD.a
  simp only [NN_some, addN, drw_cell, drw_heap, exS, exI, exB, exP, exM, exStr, exV, a0, a1, a2, a3, a4, a5, a6, a7, a8, a9, a10, a11, a12, a13, maxI_eq, Nat.zero_add, Nat.add_zero, Nat.mul_one, Option.isNone_some, Option.isNone_none, h.blk.cell]
  rw [h.len]; exact hK

theorem top_ok {K : Int → World → Prop} (h : Fr w d) (ok : Ok d cur lev) (hK : ∀ w', Fr w' d → Upd [] w w' → K d.top w') : C_frame_Stack_top d.a w K := by
  apply C_frame_Stack_top.of
  unfold F_frame_Stack_top
  have ht := ok.topl
  have hw := ok.Wl
  have hl := ok.wl
  have h40 := ok.len40
  have hk := ok.kept_top
  have hk0 := ok.kept0
  have e1 := ok.env1
  simp only [FrD.a, NN_some, addN, drw_cell, drw_heap, exS, exI, exB, exP, exM, exStr, exV, a0, a1, a2, a3, a4, a5, a6, a7, a8, a9, a10, a11, a12, a13, maxI_eq, Nat.zero_add, Nat.add_zero, Nat.mul_one, Option.isNone_some, Option.isNone_none, h.blk.cell]
  by_cases he : d.env < 0
  · refine ifT (by simpa using he) (kept_ok h h40 fun w' h' u => ?_)
    have := hK w' h' u
    unfold FrD.top at this
    rwa [if_pos he] at this
  · refine ifF (by simpa using he) (kept_ok (h.keep (drw_upd w)) h40 fun w' h' u => ?_)
    obtain ⟨xs, hc, hs, _⟩ := ok.cons (by omega)
    have het := ok.envtop (by omega)
    simp only [NN_some, addN, drw_cell, drw_heap, exS, exI, exB, exP, exM, exStr, exV, a0, a1, a2, a3, a4, a5, a6, a7, a8, a9, a10, a11, a12, a13, maxI_eq, Nat.zero_add, Nat.add_zero, Nat.mul_one, Option.isNone_some, Option.isNone_none, h.blk.cell, h'.blk.cell]
    refine ⟨trivial, trivial, size_ok h' (by omega) (by omega) ?_⟩
    simp only [NN_some, addN, drw_cell, drw_heap, exS, exI, exB, exP, exM, exStr, exV, a0, a1, a2, a3, a4, a5, a6, a7, a8, a9, a10, a11, a12, a13, maxI_eq, Nat.zero_add, Nat.add_zero, Nat.mul_one, Option.isNone_some, Option.isNone_none, h.blk.cell, h'.blk.cell]
    rw [i64id (x := d.env + 4) (by omega) (by omega), i64id (by omega) (by omega)]
    have := hK w' h' ((drw_upd w).after u)
    unfold FrD.top at this
    rw [if_neg he] at this
    exact ⟨trivial, this⟩

theorem Slots_ok {K : Int → World → Prop} (h : Fr w d) (ok : Ok d cur lev) (hK : K (if d.env < 0 then 0 else sizeOf' d.W d.env) w) : C_frame_Stack_Slots d.a w K := by
  apply C_frame_Stack_Slots.of
  unfold F_frame_Stack_Slots
  have ht := ok.topl
  have hw := ok.Wl
  have hl := ok.wl
  have e1 := ok.env1
  refine Env_ok h ?_
  by_cases he : d.env < 0
  · refine ifT (by simpa using he) ?_
    rwa [if_pos he] at hK
  · refine ifF (by simpa using he) ?_
    obtain ⟨xs, hc, hs, _⟩ := ok.cons (by omega)
    have het := ok.envtop (by omega)
    rw [if_neg he] at hK
    simp only [FrD.a, NN_some, addN, drw_cell, drw_heap, exS, exI, exB, exP, exM, exStr, exV, a0, a1, a2, a3, a4, a5, a6, a7, a8, a9, a10, a11, a12, a13, maxI_eq, Nat.zero_add, Nat.add_zero, Nat.mul_one, Option.isNone_some, Option.isNone_none, h.blk.cell]
    exact size_ok h (by omega) (by omega) hK

/-- Is there such a slot? -/
def FrD.has (d : FrD) (i : Int) : Prop := 0 ≤ d.env ∧ 1 ≤ i ∧ i ≤ sizeOf' d.W d.env

theorem slot_ok {i : Int} {K : Int → Int → World → Prop} (h : Fr w d) (ok : Ok d cur lev) (hi : d.has i) (hK : K (d.env + 4 + i - 1) 0 w) : C_frame_Stack_slot d.a i w K := by
  apply C_frame_Stack_slot.of
  unfold F_frame_Stack_slot
  obtain ⟨h0, h1, h2⟩ := hi
  have ht := ok.topl
  have hw := ok.Wl
  have hl := ok.wl
  have het := ok.envtop (by omega)
  refine made_ok h (ifF rfl (ifF (by simp; omega) (Slots_ok h ok ?_)))
  rw [if_neg (by omega)]
  refine ifF (by simp; omega) ?_
  simp only [FrD.a, NN_some, addN, drw_cell, drw_heap, exS, exI, exB, exP, exM, exStr, exV, a0, a1, a2, a3, a4, a5, a6, a7, a8, a9, a10, a11, a12, a13, maxI_eq, Nat.zero_add, Nat.add_zero, Nat.mul_one, Option.isNone_some, Option.isNone_none, h.blk.cell]
  rw [i64id (x := d.env + 4) (by omega) (by omega), i64id (x := d.env + 4 + i) (by omega) (by omega), i64id (by omega) (by omega)]
  exact hK

theorem slot_no {i : Int} {K : Int → Int → World → Prop} (h : Fr w d) (ok : Ok d cur lev) (hi : ¬ d.has i) (hK : K 0 4 w) : C_frame_Stack_slot d.a i w K := by
  apply C_frame_Stack_slot.of
  unfold F_frame_Stack_slot
  have e1 := ok.env1
  refine made_ok h (ifF rfl (ifC (fun _ => hK) fun hc => Slots_ok h ok ?_))
  simp at hc
  refine ifT ?_ hK
  unfold FrD.has at hi
  by_cases he : d.env < 0
  · rw [if_pos he]; simp; omega
  · rw [if_neg he]; simp; omega

theorem Get_ok' {i : Int} {K : Int → Int → World → Prop} (h : Fr w d) (ok : Ok d cur lev) (hi : d.has i) {v : Int} (hv : d.W[(d.env + 4 + i - 1).toNat]? = some v) (hK : K v 0 w) : C_frame_Stack_Get d.a i w K := by
  apply C_frame_Stack_Get.of
  unfold F_frame_Stack_Get
  refine slot_ok h ok hi (ifF rfl ?_)
  simp only [FrD.a, NN_some, addN, drw_cell, drw_heap, exS, exI, exB, exP, exM, exStr, exV, a0, a1, a2, a3, a4, a5, a6, a7, a8, a9, a10, a11, a12, a13, maxI_eq, Nat.zero_add, Nat.add_zero, Nat.mul_one, Option.isNone_some, Option.isNone_none, h.blk.cell]
  have hlt := (List.getElem?_eq_some_iff.1 hv).1
  obtain ⟨h0, h1, h2⟩ := hi
  refine Get_ok h.room (by omega) (by omega) ?_
  rw [List.getElem?_eq_getElem hlt] at hv
  rw [Option.some.inj hv]; exact hK

theorem Get_no' {i : Int} {K : Int → Int → World → Prop} (h : Fr w d) (ok : Ok d cur lev) (hi : ¬ d.has i) (hK : K 0 4 w) : C_frame_Stack_Get d.a i w K := by
  apply C_frame_Stack_Get.of
  unfold F_frame_Stack_Get
  exact slot_no h ok hi (ifT rfl hK)

theorem Set_ok' {i x : Int} {K : Int → World → Prop} (h : Fr w d) (ok : Ok d cur lev) (hi : d.has i) (hK : ∀ w', Fr w' { d with W := d.W.set (d.env + 4 + i - 1).toNat x } → Upd d.F w w' → K 0 w') : C_frame_Stack_Set d.a i x w K := by
  apply C_frame_Stack_Set.of
  unfold F_frame_Stack_Set
  refine slot_ok h ok hi (ifF rfl ?_)
  obtain ⟨h0, h1, h2⟩ := hi
  have ht := ok.topl
  have het := ok.envtop (by omega)
  simp only [FrD.a, NN_some, addN, drw_cell, drw_heap, exS, exI, exB, exP, exM, exStr, exV, a0, a1, a2, a3, a4, a5, a6, a7, a8, a9, a10, a11, a12, a13, maxI_eq, Nat.zero_add, Nat.add_zero, Nat.mul_one, Option.isNone_some, Option.isNone_none, h.blk.cell]
  refine Set_ok h.room (by omega) (by omega) fun w' hr u => ?_
  obtain ⟨h1, h2, _⟩ := h.words hr u (Sub.refl _ _)
  exact hK w' h1 h2

theorem Set_no' {i x : Int} {K : Int → World → Prop} (h : Fr w d) (ok : Ok d cur lev) (hi : ¬ d.has i) (hK : K 4 w) : C_frame_Stack_Set d.a i x w K := by
  apply C_frame_Stack_Set.of
  unfold F_frame_Stack_Set
  exact slot_no h ok hi (ifT rfl hK)

/-- May it be trimmed? -/
def FrD.trims (d : FrD) (n : Int) : Prop := d.kept ≤ d.env ∧ 0 ≤ d.env ∧ 0 ≤ n ∧ n ≤ sizeOf' d.W d.env

theorem Trim_ok {n : Int} {K : Bool → World → Prop} (h : Fr w d) (ok : Ok d cur lev) (hn : d.trims n) (hK : ∀ w', Fr w' { d with W := setW d.W (d.env + 3) n } → Upd d.F w w' → K true w') : C_frame_Stack_Trim d.a n w K := by
  apply C_frame_Stack_Trim.of
  unfold F_frame_Stack_Trim
  obtain ⟨h0, h1, h2, h3⟩ := hn
  have ht := ok.topl
  have hw := ok.Wl
  have hl := ok.wl
  have het := ok.envtop (by omega)
  refine Env_ok h (kept2_ok h ok.len40 fun w1 f1 u1 => ifF (by simp; omega) (Env_ok f1 (ifF (by simp; omega) (ifF (by simp; omega) (Slots_ok f1 ok ?_)))))
  rw [if_neg (by omega)]
  refine ifF (by simp; omega) ?_
  simp only [FrD.a, NN_some, addN, drw_cell, drw_heap, exS, exI, exB, exP, exM, exStr, exV, a0, a1, a2, a3, a4, a5, a6, a7, a8, a9, a10, a11, a12, a13, maxI_eq, Nat.zero_add, Nat.add_zero, Nat.mul_one, Option.isNone_some, Option.isNone_none, f1.blk.cell]
  rw [i64id (by omega) (by omega)]
  exact set_ok f1 fun w' f' u => hK w' f' (u1.after u)

theorem Trim_no {n : Int} {K : Bool → World → Prop} (h : Fr w d) (ok : Ok d cur lev) (hn : ¬ d.trims n) (hK : ∀ w', Fr w' d → Upd [] w w' → K false w') : C_frame_Stack_Trim d.a n w K := by
  apply C_frame_Stack_Trim.of
  unfold F_frame_Stack_Trim F_frame_Stack_Trim_k1
  have e1 := ok.env1
  refine Env_ok h (kept2_ok h ok.len40 fun w1 f1 u1 => ifC (fun _ => hK w1 f1 u1) fun hc1 => Env_ok f1 (ifC (fun _ => hK w1 f1 u1) fun hc2 => ifC (fun _ => hK w1 f1 u1) fun hc3 => Slots_ok f1 ok ?_))
  simp at hc1 hc2 hc3
  rw [if_neg (by omega)]
  refine ifT ?_ (hK w1 f1 u1)
  unfold FrD.trims at hn
  simp; omega

theorem last_ok {K : Option Addr → Int → World → Prop} (h : Fr w d) (hl : d.l.length < 2 ^ 40) (h0 : 0 < d.l.length) (hK : ∀ b off w', d.p = some ⟨b, off, none⟩ → d.G = [b] → Fr w' d → Upd [] w w' → K (some ⟨b, off + (d.l.length - 1) * 9, none⟩) 0 w') : C_frame_Stack_last d.a w K := by
  apply C_frame_Stack_last.of
  unfold F_frame_Stack_last
  have hn := h.len
  obtain ⟨b, off, hp, hG, hc⟩ := h.cell (i := d.l.length - 1) (by omega)
  refine made_ok h (ifF rfl ?_)
  simp only [FrD.a, NN_some, addN, drw_cell, drw_heap, exS, exI, exB, exP, exM, exStr, exV, a0, a1, a2, a3, a4, a5, a6, a7, a8, a9, a10, a11, a12, a13, maxI_eq, Nat.zero_add, Nat.add_zero, Nat.mul_one, Option.isNone_some, Option.isNone_none, h.blk.cell]
  refine ifF (by simp; omega) ?_
  rw [i64id (by omega) (by omega)]
  refine ⟨by omega, by omega, ?_⟩
  have e : ((d.n : Int) - 1).toNat = d.l.length - 1 := by omega
  simp only [NN_some, addN, drw_cell, drw_heap, exS, exI, exB, exP, exM, exStr, exV, a0, a1, a2, a3, a4, a5, a6, a7, a8, a9, a10, a11, a12, a13, maxI_eq, Nat.zero_add, Nat.add_zero, Nat.mul_one, Option.isNone_some, Option.isNone_none, hp, e]
  exact hK b off _ hp hG (h.keep (drw_upd w)) (drw_upd w)

theorem last_no {K : Option Addr → Int → World → Prop} (h : Fr w d) (h0 : d.l.length = 0) (hK : K none 4 w) : C_frame_Stack_last d.a w K := by
  apply C_frame_Stack_last.of
  unfold F_frame_Stack_last
  have hn := h.len
  refine made_ok h (ifF rfl ?_)
  simp only [FrD.a, NN_some, addN, drw_cell, drw_heap, exS, exI, exB, exP, exM, exStr, exV, a0, a1, a2, a3, a4, a5, a6, a7, a8, a9, a10, a11, a12, a13, maxI_eq, Nat.zero_add, Nat.add_zero, Nat.mul_one, Option.isNone_some, Option.isNone_none, h.blk.cell]
  exact ifT (by simp; omega) hK

end

end Go.Proofs.Ytdmjbkpibgfeiaa
