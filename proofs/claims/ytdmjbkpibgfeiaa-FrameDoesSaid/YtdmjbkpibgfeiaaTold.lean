/- A stack of environments and choices: an environment, and its previous ones, told. -/
import Derived.Test.YtdmjbkpibgfeiaaChoice
namespace Go.Proofs.Ytdmjbkpibgfeiaa
open Go Go.D Go.Proofs
set_option linter.unusedSimpArgs false
set_option linter.unusedVariables false
set_option maxRecDepth 8000

def frCells (x : Sl × Ch) : List Value := [.int .i64 x.2.env, .slice x.1.1 x.1.2.1 x.1.2.2, .int .i64 x.2.c2, .int .i64 x.2.c3]

theorem frCells_len (x : Sl × Ch) : (frCells x).length = 4 := rfl

/-- A row of frames, each with a row of words of its own. -/
def FrsAt (w : World) (p : Option Addr) (n c : Nat) (l : List Ch) (F : List Nat) : Prop :=
  ∃ (L : List (Sl × Ch)) (G H : List Nat), L.map (·.2) = l ∧ SlAt w 4 p n c (L.flatMap frCells) G ∧ ArgsAt w L H ∧ Dis G H ∧ ∀ k, k ∈ F ↔ k ∈ G ∨ k ∈ H

theorem FrsAt.nil (w : World) : FrsAt w none 0 0 [] [] := ⟨[], [], [], rfl, SlAt.nil _ _, rfl, (by intro k hk; cases hk), by simp⟩

theorem FrsAt.upd {w w' : World} {p : Option Addr} {n c : Nat} {l : List Ch} {F G : List Nat} (h : FrsAt w p n c l F) (u : Upd G w w') (hd : Dis F G) : FrsAt w' p n c l F := by
  obtain ⟨L, A, B, h1, h2, h3, h4, h5⟩ := h
  exact ⟨L, A, B, h1, h2.upd u fun k hk => hd k ((h5 k).2 (.inl hk)), h3.upd u fun k hk => hd k ((h5 k).2 (.inr hk)), h4, h5⟩

theorem FrsAt.len {w : World} {p : Option Addr} {n c : Nat} {l : List Ch} {F : List Nat} (h : FrsAt w p n c l F) : n = l.length := by
  obtain ⟨L, A, B, h1, h2, h3, h4, h5⟩ := h
  have := h2.1
  rw [flat_len frCells_len] at this
  rw [← h1, List.length_map]; omega

theorem FrsAt.inn {w : World} {p : Option Addr} {n c : Nat} {l : List Ch} {F : List Nat} (h : FrsAt w p n c l F) : In F w := by
  obtain ⟨L, A, B, h1, h2, h3, h4, h5⟩ := h
  intro k hk
  rcases (h5 k).1 hk with h | h
  · exact h2.inn k h
  · exact h3.inn k h

theorem ChainL.len {W : List Int} : ∀ {xs : List Int} {e hi : Int}, ChainL W xs e hi → xs = [] ∨ 4 * (xs.length : Int) ≤ hi
  | [], _, _, _ => .inl rfl
  | x :: xs, e, hi, ⟨h1, h2, h3, h4, h5⟩ => by
    right
    have := h5.len
    rcases this with h | h
    · subst h; simp; omega
    · simp; omega

section
variable {w : World} {d : FrD} {cur : List Int} {lev : List Level}

/-- What is asked of each environment: is it this one? -/
def isI (d : FrD) (r r1 : Nat) (base : Int) (vs : List Int) (H : List Nat) (w : World) : Prop :=
  Fr w d ∧ Blk w r #[.int .i64 base] ∧ Blk w r1 #[.bool (decide (base ∈ vs))] ∧ r ∉ d.F ∧ r1 ∉ d.F ∧ r ≠ r1 ∧ H = r :: r1 :: d.F

theorem isEach (r r1 : Nat) (base : Int) (lv : List Level) : Each d lv (.func (.func 36) #[] #[.pointer (some ⟨r1, 0, none⟩), .pointer (some ⟨r, 0, none⟩)]) (fun vs b => !decide (base ∈ vs ++ [b])) (isI d r r1 base) where
  keep := by
    rintro vs H w w' G ⟨h1, h2, h3, h4, h5, h6, rfl⟩ u hd
    exact ⟨h1.upd u fun k hk => hd k (by simp [hk]), h2.upd u (hd _ (by simp)), h3.upd u (hd _ (by simp)), h4, h5, h6, rfl⟩
  inn := by
    rintro vs H w ⟨h1, h2, h3, h4, h5, h6, rfl⟩ k hk
    rcases List.mem_cons.1 hk with rfl | hk
    · exact h2.lt
    rcases List.mem_cons.1 hk with rfl | hk
    · exact h3.lt
    · exact h1.inn k hk
  fr := by
    rintro vs H w ⟨h1, h2, h3, h4, h5, h6, rfl⟩
    exact ⟨d, h1, rfl, fun _ _ => rfl⟩
  ask := by
    rintro vs H w K b ⟨h1, h2, h3, h4, h5, h6, rfl⟩ hn hb hK
    refine ⟨_, _, _, rfl, rfl, ?_⟩
    refine Calls.mono (C_frame_Stack_Chain_1.of (b := b) (c0 := ⟨r1, 0, none⟩) (c1 := ⟨r, 0, none⟩) (R := fun x w' => K (.bool x) w') ?_) fun e w2 ⟨x, he, hx⟩ => ⟨_, he, hx⟩
    unfold F_frame_Stack_Chain_1 F_frame_Stack_Chain_1_k1
    simp only [NN_some, addN, drw_cell, drw_heap, exS, exI, exB, exP, exM, exStr, exV, a0, a1, a2, a3, a4, a5, a6, a7, a8, a9, a10, a11, a12, a13, maxI_eq, Nat.zero_add, Nat.add_zero, Nat.mul_one, Option.isNone_some, Option.isNone_none, h3.cell, h2.cell]
    refine ifC (fun hc => ?_) (fun hc => ?_)
    · simp at hc
      refine St_rule h3 (by simp) rfl fun w' u hb' => ?_
      simp at hb'
      simp only [NN_some, addN, drw_cell, drw_heap, exS, exI, exB, exP, exM, exStr, exV, a0, a1, a2, a3, a4, a5, a6, a7, a8, a9, a10, a11, a12, a13, maxI_eq, Nat.zero_add, Nat.add_zero, Nat.mul_one, Option.isNone_some, Option.isNone_none, hb'.cell]
      have := hK (r :: r1 :: d.F) w' ⟨h1.upd u (by intro k hk; simp; rintro rfl; exact h5 hk), h2.upd u (by simpa using h6), by simpa [hc] using hb', h4, h5, h6, rfl⟩ (u.mono (by intro k hk; simp at hk; simp [hk])) (Sub.refl _ _)
      simpa [hc] using this
    · simp at hc
      refine St_rule h3 (by simp) rfl fun w' u hb' => ?_
      simp at hb'
      simp only [NN_some, addN, drw_cell, drw_heap, exS, exI, exB, exP, exM, exStr, exV, a0, a1, a2, a3, a4, a5, a6, a7, a8, a9, a10, a11, a12, a13, maxI_eq, Nat.zero_add, Nat.add_zero, Nat.mul_one, Option.isNone_some, Option.isNone_none, hb'.cell]
      have e : (b == base) = decide (base ∈ vs ++ [b]) := by
        by_cases hbb : b = base
        · simp [hbb]
        · have : ¬ base = b := fun h => hbb h.symm
          simp [hbb, hc, this]
      rw [e] at hb' ⊢
      exact hK (r :: r1 :: d.F) w' ⟨h1.upd u (by intro k hk; simp; rintro rfl; exact h5 hk), h2.upd u (by simpa using h6), hb', h4, h5, h6, rfl⟩ (u.mono (by intro k hk; simp at hk; simp [hk])) (Sub.refl _ _)

theorem Chain_L {r : Nat} {base : Int} {xs : List Int} {hi : Int} {K : Option Addr → Nat → Nat → World → Prop} (h : Fr w d) (ok : Ok d cur lev) (hb : Blk w r #[.int .i64 base]) (hr : r ∉ d.F) (hc : ChainL d.W xs base hi)
    (hx : ∀ x ∈ xs, Node ((cur, d.env, d.top) :: lev) x) (hhi : hi ≤ d.W.length)
    (hK : ∀ p n c F w', FrsAt w' p n c (xs.map (frameOf d.W)) F → Fr w' d → Upd [r] w w' → Since F w → K p n c w') : F_frame_Stack_Chain_L1 d.a ⟨r, 0, none⟩ ⟨none, 0, 0⟩ w K := by
  unfold F_frame_Stack_Chain_L1
  have hw := ok.Wl
  have hl := ok.wl
  have hlen : 4 * (xs.length : Int) ≤ 1048576 := by
    rcases hc.len with h1 | h1
    · subst h1; simp
    · omega
  refine ⟨fun s v => ∃ pre suf e F, xs = pre ++ suf ∧ (∃ h, ChainL d.W suf e h) ∧ Blk v r #[.int .i64 e] ∧ FrsAt v s.outP s.outN s.outC (pre.map (frameOf d.W)) F ∧ Fr v d ∧ Upd [r] w v ∧ Since F w, fun s _ => xs.length - s.outN, ⟨[], xs, base, [], rfl, ⟨hi, hc⟩, hb, FrsAt.nil _, h, Upd.refl _ _, (by intro k hk; cases hk)⟩, ?_⟩
  rintro ⟨p, n, c⟩ v ⟨pre, suf, e, F, hxs, ⟨hh, hch⟩, hbv, hfs, fv, hu, hF⟩
  dsimp only at hfs
  have hn : n = pre.length := by have := hfs.len; rw [List.length_map] at this; exact this
  unfold B_frame_Stack_Chain_L1
  simp only [NN_some, addN, drw_cell, drw_heap, exS, exI, exB, exP, exM, exStr, exV, a0, a1, a2, a3, a4, a5, a6, a7, a8, a9, a10, a11, a12, a13, maxI_eq, Nat.zero_add, Nat.add_zero, Nat.mul_one, Option.isNone_some, Option.isNone_none, hbv.cell]
  refine ifC (fun hc1 => ?_) (fun hc1 => ?_)
  · simp at hc1
    rcases suf with _ | ⟨z, suf⟩
    · have : e = -1 := hch
      omega
    obtain ⟨hze, he0, hsz, hhi2, hch'⟩ := hch
    subst hze
    have hzx : z ∈ xs := by rw [hxs]; simp
    obtain ⟨m0, m1, m2⟩ := hc.mem z hzx
    have hrow := rowOf_len (W := d.W) (b := z) m0 m1 (by omega)
    refine row_ok (fv.keep (drw_upd v)) m0 m1 (by omega) (by omega) fun p1 n1 c1 F1 w1 hs1 f1 u1 n1F => ?_
    have hb1 := hbv.drw.upd u1 (by simp)
    simp only [NN_some, addN, drw_cell, drw_heap, exS, exI, exB, exP, exM, exStr, exV, a0, a1, a2, a3, a4, a5, a6, a7, a8, a9, a10, a11, a12, a13, maxI_eq, Nat.zero_add, Nat.add_zero, Nat.mul_one, Option.isNone_some, Option.isNone_none, hb1.cell, hbv.cell]
    refine ⟨trivial, trivial, cont_ok f1 (by omega) (by omega) fun w2 f2 u2 => ?_⟩
    have hb2 := hb1.upd u2 (by simp)
    have hs2 := hs1.upd u2 (by intro k _ h; cases h)
    simp only [NN_some, addN, drw_cell, drw_heap, exS, exI, exB, exP, exM, exStr, exV, a0, a1, a2, a3, a4, a5, a6, a7, a8, a9, a10, a11, a12, a13, maxI_eq, Nat.zero_add, Nat.add_zero, Nat.mul_one, Option.isNone_some, Option.isNone_none, hb2.cell, hb1.cell]
    refine ⟨trivial, BSlL_rule eS_38 [.agg (frCells ((p1, n1, c1), frameOf d.W z)).toArray] (by rfl) (by simp [Value.cells, frCells]) (by rfl) (by omega) fun w3 hs3 u3 => ?_⟩
    have e3 : ([Value.agg (frCells ((p1, n1, c1), frameOf d.W z)).toArray].flatMap fun v => v.cells.toList) = [((p1, n1, c1), frameOf d.W z)].flatMap frCells := by simp [Value.cells]
    rw [e3] at hs3
    have U3 : Upd [] v w3 := (((drw_upd v).after u1).after u2).after u3
    have hfs3 := hfs.upd U3 (by intro k _ h; cases h)
    obtain ⟨L, G, H, hL, hG, hH, hGH, hFm⟩ := hfs3
    refine App_rule (hE := eS_38) hG hs3 (by simp [frCells, Value.oneCell']) (by
      have : pre.length + (suf.length + 1) = xs.length := by rw [hxs]; simp
      omega) fun p4 c4 G4 w4 hs4 u4 s4 => ?_
    have hsz3 := U3.size
    have hvsz := hu.size
    have hGin := hG.inn
    have hGnew : ∀ k ∈ G4, w.heap.size ≤ k := fun k hk => by
      rcases s4 k hk with h1 | h1
      · exact hF k ((hFm k).2 (.inl h1))
      · omega
    have hG4w : ∀ k ∈ G, w.heap.size ≤ k := fun k hk => hF k ((hFm k).2 (.inl hk))
    have hrlt := hb.lt
    have hrG : r ∉ G := fun hx => by have := hG4w r hx; omega
    have hb4 := ((hb2.upd u3 (by simp)).upd u4 hrG)
    have hd4 : Dis d.F G := fun k hk hg => by have := h.inn k hk; have := hG4w k hg; omega
    have f4 := (f2.keep u3).upd u4 hd4
    have hF1v : ∀ k ∈ F1, v.heap.size ≤ k := fun k hk => n1F k hk
    simp only [NN_some, addN, drw_cell, drw_heap, exS, exI, exB, exP, exM, exStr, exV, a0, a1, a2, a3, a4, a5, a6, a7, a8, a9, a10, a11, a12, a13, maxI_eq, Nat.zero_add, Nat.add_zero, Nat.mul_one, Option.isNone_some, Option.isNone_none, hb4.cell]
    refine prev_ok f4 ?_ (wordOf_range _ _).2 ?_
    · exact (ok.node z (hx z hzx)).2.2
    refine St_rule hb4 (by simp) rfl fun w5 u5 hb5 => ?_
    simp at hb5
    have hs1_4 : SlAt w4 1 p1 n1 c1 ((rowOf d.W z).map (.int .u64)) F1 := (hs2.upd u3 (by intro k _ h; cases h)).upd u4 fun k hk hg => by
      rcases hF1v k hk with h1
      have h2 : k ∈ F := (hFm k).2 (.inl hg)
      have := hfs.inn k h2; omega
    have hH4 : ArgsAt w4 L H := hH.upd u4 hGH.symm
    obtain ⟨H', hA', hH'⟩ := ArgsAt.push (x := ((p1, n1, c1), frameOf d.W z)) hs1_4 hH4 (by
      intro k hk h1
      have h2 : k ∈ F := (hFm k).2 (.inr hk)
      have := hfs.inn k h2; have := hF1v k h1; omega)
    have hGH' : Dis G4 H' := fun k hk hk2 => by
      rcases (hH' k).1 hk2 with h1 | h1
      · rcases s4 k hk with h2 | h2
        · exact hGH k h2 h1
        · have := hH.inn k h1; omega
      · rcases s4 k hk with h2 | h2
        · have h3 : k ∈ F := (hFm k).2 (.inl h2)
          have := hfs.inn k h3; have := hF1v k h1; omega
        · have := (hs2.upd u3 (by intro k _ h; cases h)).inn k h1; omega
    have hFs : FrsAt w4 p4 (n + 1) c4 ((pre ++ [z]).map (frameOf d.W)) (G4 ++ H') :=
      ⟨L ++ [((p1, n1, c1), frameOf d.W z)], G4, H', by simp [hL], by rw [List.flatMap_append]; exact hs4, hA', hGH', by simp⟩
    have hFn : ∀ k ∈ G4 ++ H', w.heap.size ≤ k := fun k hk => by
      rcases List.mem_append.1 hk with h1 | h1
      · exact hGnew k h1
      · rcases (hH' k).1 h1 with h2 | h2
        · exact hF k ((hFm k).2 (.inr h2))
        · have := hF1v k h2; omega
    refine ⟨⟨pre ++ [z], suf, prevOf d.W z, G4 ++ H', by rw [hxs]; simp, ⟨z, hch'⟩, hb5, hFs.upd u5 ?_, f4.upd u5 ?_, ?_, hFn⟩, ?_⟩
    · intro k hk; simp; rintro rfl
      have := hFn _ hk; omega
    · intro k hk; simp; rintro rfl; exact hr hk
    · refine (hu.trans (U3.after u4) (fun k hk => .inl hk) fun k hk => .inr (hG4w k hk)).trans u5 (fun k hk => .inl hk) fun k hk => .inl hk
    · have : pre.length + (suf.length + 1) = xs.length := by rw [hxs]; simp
      show xs.length - (n + 1) < xs.length - n
      omega
  · simp at hc1
    rcases suf with _ | ⟨z, suf⟩
    · rw [List.append_nil] at hxs
      rw [hxs] at hK
      exact hK p n c F v hfs fv hu hF
    · have := hch.1; have := hch.2.1; omega

theorem Chain_at {base : Int} {xs : List Int} {hi : Int} {K : Option Addr → Nat → Nat → World → Prop} (h : Fr w d) (ok : Ok d cur lev) (hc : ChainL d.W xs base hi) (hn : Node ((cur, d.env, d.top) :: lev) base)
    (hx : ∀ x ∈ xs, Node ((cur, d.env, d.top) :: lev) x) (hhi : hi ≤ d.W.length)
    (hK : ∀ p n c F w', FrsAt w' p n c (xs.map (frameOf d.W)) F → Fr w' d → Upd d.F w w' → Since F w → K p n c w') : C_frame_Stack_Chain d.a base w K := by
  apply C_frame_Stack_Chain.of
  unfold F_frame_Stack_Chain
  refine New_rule fun r w1 hr u1 hb1 => ?_
  have f1 := h.keep u1
  refine made_ok f1 (ifF rfl (New_rule fun r1 w2 hr1 u2 hb2 => ?_))
  simp only [NN_some, addN, drw_cell, drw_heap, exS, exI, exB, exP, exM, exStr, exV, a0, a1, a2, a3, a4, a5, a6, a7, a8, a9, a10, a11, a12, a13, maxI_eq, Nat.zero_add, Nat.add_zero, Nat.mul_one, Option.isNone_some, Option.isNone_none]
  refine St_rule hb2 (by simp) rfl fun w3 u3 hb3 => ?_
  simp at hb3
  have hrr : r ≠ r1 := by have := hb1.lt; omega
  have hrF : r ∉ d.F := fun hx => by have := h.inn _ hx; omega
  have hr1F : r1 ∉ d.F := fun hx => by have := f1.inn _ hx; omega
  have hbr := (hb1.upd u2 (by simp)).upd u3 (by simpa using hrr)
  have U3 : Upd [] w w3 := (u1.after u2).fresh u3 (by intro k hk; simp at hk; have := u1.size; omega)
  have f3 := h.keep U3
  have hfin : ∀ vs H' w', isI d r r1 base vs H' w' → base ∈ vs → Upd (r :: r1 :: d.F) w3 w' → ∃ t13 : Bool, w'.cell? ⟨r1, 0, none⟩ = some (.bool t13) ∧ If (!t13) (K none 0 0 w') (F_frame_Stack_Chain_L1 d.a ⟨r, 0, none⟩ ⟨none, 0, 0⟩ w' (fun outP_2 outN_2 outC_2 w1_11 => K outP_2 outN_2 outC_2 w1_11)) := by
    rintro vs H' w' ⟨h1, h2, h3, h4, h5, h6, h7⟩ hv u
    simp only [NN_some, addN, drw_cell, drw_heap, exS, exI, exB, exP, exM, exStr, exV, a0, a1, a2, a3, a4, a5, a6, a7, a8, a9, a10, a11, a12, a13, maxI_eq, Nat.zero_add, Nat.add_zero, Nat.mul_one, Option.isNone_some, Option.isNone_none, h3.cell]
    refine ifF (by simp [hv]) (Chain_L h1 ok h2 hrF hc hx hhi fun p n c F w5 hfs f5 u5 hF => hK p n c F w5 hfs f5 ?_ ?_)
    · have V : Upd (r :: r1 :: d.F) w w5 := U3.after (u.trans u5 (fun k hk => .inl hk) (fun k hk => by simp at hk; exact .inl (by simp [hk])))
      refine V.mono fun k hk => ?_
      · rcases List.mem_cons.1 hk with rfl | hk
        · right; omega
        rcases List.mem_cons.1 hk with rfl | hk
        · right; have := u1.size; omega
        · exact .inl hk
    · intro k hk
      have := hF k hk; have := U3.size; have := u.size; omega
  refine all_ok f3 ok (isEach r r1 base _) ⟨f3, hbr, by simpa using hb3, hrF, hr1F, hrr, rfl⟩ (fun vs H' w' hI hall hvs hnd u s => ?_) (fun vs b H' w' hI hg hvs u s => ?_)
  · exact hfin vs H' w' hI (hall base hn) u
  · exact hfin _ H' w' hI (by by_cases hv : base ∈ vs <;> simp [hv] at hg ⊢ <;> exact hg) u

theorem Chain_no {base : Int} {K : Option Addr → Nat → Nat → World → Prop} (h : Fr w d) (ok : Ok d cur lev) (hn : ¬ Node ((cur, d.env, d.top) :: lev) base)
    (hK : ∀ w', Fr w' d → Upd d.F w w' → K none 0 0 w') : C_frame_Stack_Chain d.a base w K := by
  apply C_frame_Stack_Chain.of
  unfold F_frame_Stack_Chain
  refine New_rule fun r w1 hr u1 hb1 => ?_
  have f1 := h.keep u1
  refine made_ok f1 (ifF rfl (New_rule fun r1 w2 hr1 u2 hb2 => ?_))
  simp only [NN_some, addN, drw_cell, drw_heap, exS, exI, exB, exP, exM, exStr, exV, a0, a1, a2, a3, a4, a5, a6, a7, a8, a9, a10, a11, a12, a13, maxI_eq, Nat.zero_add, Nat.add_zero, Nat.mul_one, Option.isNone_some, Option.isNone_none]
  refine St_rule hb2 (by simp) rfl fun w3 u3 hb3 => ?_
  simp at hb3
  have hrr : r ≠ r1 := by have := hb1.lt; omega
  have hrF : r ∉ d.F := fun hx => by have := h.inn _ hx; omega
  have hr1F : r1 ∉ d.F := fun hx => by have := f1.inn _ hx; omega
  have hbr := (hb1.upd u2 (by simp)).upd u3 (by simpa using hrr)
  have U3 : Upd [] w w3 := (u1.after u2).fresh u3 (by intro k hk; simp at hk; have := u1.size; omega)
  have f3 := h.keep U3
  refine all_ok f3 ok (isEach r r1 base _) ⟨f3, hbr, by simpa using hb3, hrF, hr1F, hrr, rfl⟩ (fun vs H' w' hI hall hvs hnd u s => ?_) (fun vs b H' w' hI hg hvs u s => ?_)
  · obtain ⟨h1, h2, h3, h4, h5, h6, h7⟩ := hI
    have : base ∉ vs := fun hx => hn (hvs base hx)
    simp only [NN_some, addN, drw_cell, drw_heap, exS, exI, exB, exP, exM, exStr, exV, a0, a1, a2, a3, a4, a5, a6, a7, a8, a9, a10, a11, a12, a13, maxI_eq, Nat.zero_add, Nat.add_zero, Nat.mul_one, Option.isNone_some, Option.isNone_none, h3.cell]
    refine ifT (by simp [this]) (hK w' h1 ((U3.after u).mono fun k hk => ?_))
    rcases List.mem_cons.1 hk with rfl | hk
    · right; omega
    rcases List.mem_cons.1 hk with rfl | hk
    · right; have := u1.size; omega
    · exact .inl hk
  · exact absurd (hvs base (by by_cases hv : base ∈ vs <;> simp [hv] at hg ⊢ <;> exact hg)) hn

end

end Go.Proofs.Ytdmjbkpibgfeiaa
