/- What a choice keeps is as it was behind Restore: one call. -/
import Derived.Test.YtdmjbkpibgfeiaaSame
namespace Go.Proofs.Ytdmjbkpibgfeiaa
open Go Go.D Go.Proofs
set_option linter.unusedSimpArgs false
set_option linter.unusedVariables false
set_option maxRecDepth 8000

theorem lev_len {d : FrD} {lev : List Level} (h : lev.map (·.2) = d.tops) : lev.length = d.l.length := by
  have := congrArg List.length h
  unfold FrD.tops at this
  simpa using this

/-- The oldest levels' top is below all others'. -/
theorem Lv.top_ge {W : List Int} {lev0 : List Level} {T : Int} (hT : (lev0 = [] ∧ T ≤ 0) ∨ ∃ c e r, lev0 = (c, e, T) :: r) : ∀ pre : List Level, Lv W (pre ++ lev0) → T ≤ ((pre ++ lev0).head?.map (·.2.2)).getD 0
  | [], _ => by
    rcases hT with ⟨rfl, h⟩ | ⟨c, e, r, rfl⟩
    · simpa using h
    · simp
  | u :: pre, h => by
    have ih := Lv.top_ge hT pre h.2.2.2
    simp only [List.cons_append, List.head?_cons, Option.map_some, Option.getD_some]
    have h0 : 0 ≤ u.2.2 := h.2.1
    rcases hh : (pre ++ lev0).head? with _ | y
    · rw [hh] at ih; simp at ih; omega
    · have := (h.2.2.1 y (by show y ∈ (pre ++ lev0).head?; rw [hh]; rfl)).1
      rw [hh] at ih; simp at ih; omega

section
variable {w : World} {d : FrD} {cur : List Int} {lev lev0 : List Level} {T : Int} {W0 : List Int}

theorem step_ok {o : OpV} {K : World → Prop} (hT : (lev0 = [] ∧ T ≤ 0) ∨ ∃ c e r, lev0 = (c, e, T) :: r) (h : Fr w d) (ok : Ok d cur lev) (hs : ∃ pre, lev = pre ++ lev0) (hW : ∀ j : Nat, (j : Int) < T → d.W[j]? = W0[j]?)
    (h4 : o.kind = 4 → T ≤ 0) (h8 : o.kind = 8 → lev0.length < lev.length ∨ lev.length = 0)
    (hK : ∀ w' d' cur' lev', Fr w' d' → Ok d' cur' lev' → d'.a = d.a → d'.lim = d.lim → (∃ pre, lev' = pre ++ lev0) → (∀ j : Nat, (j : Int) < T → d'.W[j]? = W0[j]?) → lev'.length ≤ lev.length + 1 → Upd d.F w w' → Sub d'.F d.F w → K w') :
    C_law22_step d.a o.kind o.n o.w o.c0 o.c1 o.h0 o.ap o.an o.ac o.h2 o.h3 o.h4 o.h5 o.h6 o.h7 o.h8 w K := by
  apply C_law22_step.of
  unfold F_law22_step
  have hTk : T ≤ d.kept := by
    obtain ⟨pre, rfl⟩ := hs
    rw [kept_lev ok.tops]
    exact Lv.top_ge hT pre ok.lv.2.2.2
  have hll := lev_len ok.tops
  have h40 := ok.len40
  refine New_rule fun r w1 hr u1 hb1 => ?_
  have f1 := h.keep u1
  simp only [NN_some, addN, drw_cell, drw_heap, exS, exI, exB, exP, exM, exStr, exV, a0, a1, a2, a3, a4, a5, a6, a7, a8, a9, a10, a11, a12, a13, maxI_eq, Nat.zero_add, Nat.add_zero, Nat.mul_one, Option.isNone_some, Option.isNone_none, Nat.reduceAdd, hb1.cell]
  have hK1 : ∀ w' d' cur' lev', Fr w' d' → Ok d' cur' lev' → d'.a = d.a → d'.lim = d.lim → (∃ pre, lev' = pre ++ lev0) → (∀ j : Nat, (j : Int) < T → d'.W[j]? = W0[j]?) → lev'.length ≤ lev.length + 1 → Upd d.F w1 w' → Sub d'.F d.F w1 → K w' :=
    fun w' d' cur' lev' a b c e f g i u s => hK w' d' cur' lev' a b c e f g i (u1.after u) (s.old u1.size)
  have same : ∀ w', Fr w' d → Upd [] w1 w' → K w' := fun w' f u => hK1 w' d cur lev f ok rfl rfl hs hW (by omega) (u.mono (by simp)) (Sub.refl _ _)
  refine ifC (fun _ => ?_) (fun _ => ifC (fun _ => ?_) (fun _ => ifC (fun hk => ?_) (fun _ => ifC (fun _ => ?_) (fun _ => ifC (fun _ => ?_) (fun _ => ifC (fun hk => ?_) (fun _ => ifC (fun _ => ?_) (fun _ => ?_)))))))
  · -- Alloc
    by_cases ha : o.n < 0 ∨ 64 < o.n
    · exact Alloc_arg f1 ha fun w' f' u => same w' f' u
    by_cases hroom : d.wlim < d.top + 4 + o.n
    · exact Alloc_full f1 ok (by omega) (by omega) hroom fun w' f' u => same w' f' u
    refine Alloc_ok f1 ok (by omega) (by omega) (by omega) fun w' m F f' u s => ?_
    obtain ⟨ok', h2, h3, h4⟩ := ok.alloc (slots := o.n) (c0 := o.c0) (c1 := o.c1) (most := m) (FW := F) (by omega) (by omega) (by omega)
    refine hK1 w' _ _ _ f' ok' rfl rfl hs (fun j hj => ?_) (by omega) u s
    show (allocW d o.n o.c0 o.c1)[j]? = _
    rw [allocW_lt ok (by omega) (by have := ok.kept_top; omega)]
    exact hW j hj
  · -- Dealloc
    by_cases he : d.env < 0
    · exact Dealloc_no f1 he fun w' f' u => same w' f' u
    · exact Dealloc_ok f1 ok (by omega) fun w' f' u => hK1 w' _ _ _ f' (ok.left (by omega)).1 rfl rfl hs hW (by omega) u (Sub.refl _ _)
  · -- Set
    simp at hk
    have hT0 := h4 hk
    by_cases hi : d.has o.n
    · exact Set_ok' f1 ok hi fun w' f' u => hK1 w' _ _ _ f' (ok.set hi).1 rfl rfl hs (fun j hj => by omega) (by omega) u (Sub.refl _ _)
    · exact Set_no' f1 ok hi (same w1 f1 (Upd.refl _ _))
  · -- Trim
    by_cases hn : d.trims o.n
    · refine Trim_ok f1 ok hn fun w' f' u => hK1 w' _ _ _ f' (ok.trim hn).1 rfl rfl hs (fun j hj => ?_) (by omega) u (Sub.refl _ _)
      show (setW d.W (d.env + 3) o.n)[j]? = _
      rw [setW_ne (by have := hn.1; omega)]
      exact hW j hj
    · exact Trim_no f1 ok hn fun w' f' u => same w' f' u
  · -- Push
    by_cases hf : d.l.length < d.lim
    · refine Push_ok' (ch := { kind := 1, c2 := 0, c3 := 0, c4 := 0, c5 := 0, c6 := 0, env := 0, top := 0, args := [] }) f1 ok hf (Cloned.none _ _ _ rfl) fun w' x p c G H hx f' u s => ?_
      obtain ⟨ok', _, _⟩ := ok.push hx hf (p := p) (c := c) (G := G) (H := H)
      refine hK1 w' _ _ _ f' ok' rfl rfl ?_ hW (by simp) u s
      obtain ⟨pre, rfl⟩ := hs
      exact ⟨_ :: pre, rfl⟩
    · exact Push_full' f1 (by omega) fun w' f' u => same w' f' u
  · -- Drop
    simp at hk
    by_cases hz : d.l.length = 0
    · exact Drop_no f1 hz (same w1 f1 (Upd.refl _ _))
    · refine Drop_ok f1 h40 (by omega) fun w' H f' hH u => ?_
      obtain ⟨y, r', hyr, ok', _⟩ := ok.dropped (by omega) H
      refine hK1 w' _ _ _ f' ok' rfl rfl ?_ hW (by rw [hyr]; simp; omega) u ?_
      · obtain ⟨pre, hpre⟩ := hs
        rcases pre with _ | ⟨z, pre⟩
        · exfalso
          rcases h8 hk with h5 | h5
          · rw [hpre] at h5; simp at h5
          · omega
        · rw [hyr] at hpre
          simp at hpre
          exact ⟨pre, hpre.2⟩
      · intro k hk
        simp only [FrD.F, FrD.dropped, List.mem_cons, List.mem_append] at hk ⊢
        rcases hk with h1 | h1 | h1 | h1
        · simp [h1]
        · simp [h1]
        · simp [h1]
        · left; simp [hH k h1]
  · -- Restore
    by_cases hz : d.l.length = 0
    · exact Restore_no f1 hz (same w1 f1 (Upd.refl _ _))
    · refine Restore_ok f1 h40 (by omega) fun w' f' u => ?_
      obtain ⟨y, r', hyr, ok', _⟩ := ok.restored (by omega)
      exact hK1 w' _ _ _ f' ok' rfl rfl hs hW (by omega) u (Sub.refl _ _)
  · exact same w1 f1 (Upd.refl _ _)

/-- An environment reads the same where its words are the same. -/
theorem frameOf_eq {W W' : List Int} {b : Int} (h0 : 0 ≤ b) (h1 : 0 ≤ sizeOf' W b) (hT : b + 4 + sizeOf' W b ≤ T) (hW : ∀ j : Nat, (j : Int) < T → W'[j]? = W[j]?) : frameOf W' b = frameOf W b := by
  have e : ∀ i : Int, i < T → wordOf W' i = wordOf W i := fun i hi => wordOf_lt hW hi
  have e3 : sizeOf' W' b = sizeOf' W b := e _ (by omega)
  have er : rowOf W' b = rowOf W b := by
    unfold rowOf
    rw [e3]
    apply List.ext_getElem?
    intro i
    by_cases hi : i < (sizeOf' W b).toNat
    · rw [List.getElem?_take_of_lt hi, List.getElem?_take_of_lt hi, List.getElem?_drop, List.getElem?_drop]
      exact hW _ (by omega)
    · rw [List.getElem?_take_eq_none (by omega), List.getElem?_take_eq_none (by omega)]
  unfold frameOf
  rw [e _ (by omega), e _ (by omega), er]

end

end Go.Proofs.Ytdmjbkpibgfeiaa
