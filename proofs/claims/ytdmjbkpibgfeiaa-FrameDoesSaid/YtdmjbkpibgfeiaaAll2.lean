/- A stack of environments and choices: all environments, each once: the whole. -/
import Derived.Test.YtdmjbkpibgfeiaaAll
namespace Go.Proofs.Ytdmjbkpibgfeiaa
open Go Go.D Go.Proofs
set_option linter.unusedSimpArgs false
set_option linter.unusedVariables false
set_option maxRecDepth 8000

section
variable {d : FrD} {cur : List Int} {lev : List Level} {each : Value} {go : List Int → Int → Bool} {I : List Int → List Nat → World → Prop}

theorem Ok.node (ok : Ok d cur lev) : ∀ x, Node ((cur, d.env, d.top) :: lev) x → -2 ^ 62 ≤ x ∧ x < 2 ^ 62 ∧ -2 ^ 63 < wordOf d.W x := by
  rintro x ⟨z, hz, hx⟩
  have ht := ok.topl
  have hw := ok.Wl
  have hl := ok.wl
  have h1 := ok.lv.le (t := d.top) (by intro q hq; simp at hq; subst hq; exact Int.le_refl _) z hz x hx
  refine ⟨by omega, by omega, ?_⟩
  -- its previous one is no less than -1
  have hall : ∀ (r : List Level), Lv d.W r → ∀ z ∈ r, ∃ h, ChainL d.W z.1 z.2.1 h := by
    intro r
    induction r with
    | nil => intro _ z hz; cases hz
    | cons u r ih =>
      intro h z hz
      rcases List.mem_cons.1 hz with rfl | hz
      · exact ⟨_, h.1⟩
      · exact ih h.2.2.2 z hz
  obtain ⟨h, hc⟩ := hall _ ok.lv z hz
  have hprev : ∀ (zs : List Int) (e h : Int), ChainL d.W zs e h → x ∈ zs → -1 ≤ prevOf d.W x := by
    intro zs
    induction zs with
    | nil => intro e h _ hx; cases hx
    | cons y zs ih =>
      intro e h hc hx
      rcases List.mem_cons.1 hx with hxy | hx
      · rw [hxy, hc.1]; exact hc.2.2.2.2.neg
      · exact ih _ _ hc.2.2.2.2 hx
  have := hprev z.1 z.2.1 h hc hx
  unfold prevOf at this
  omega

theorem Lv.chain {W : List Int} : ∀ {r : List Level}, Lv W r → ∀ z ∈ r, ChainL W z.1 z.2.1 z.2.2
  | [], _, z, hz => by cases hz
  | u :: r, h, z, hz => by
    rcases List.mem_cons.1 hz with rfl | hz
    · exact h.1
    · exact h.2.2.2.chain z hz

/-- Where the walks begin. -/
def FrD.starts (d : FrD) : List Int := d.env :: d.l.map (·.2.env)

theorem Ok.start (ok : Ok d cur lev) : ∀ s ∈ d.starts, ∃ z ∈ ((cur, d.env, d.top) :: lev : List Level), z.2.1 = s := by
  intro s hs
  rcases List.mem_cons.1 hs with rfl | hs
  · exact ⟨(cur, d.env, d.top), by simp, rfl⟩
  · obtain ⟨x, hx, rfl⟩ := List.mem_map.1 hs
    have : (x.2.env, x.2.top) ∈ lev.map (·.2) := by
      rw [ok.tops]; unfold FrD.tops
      exact List.mem_map.2 ⟨x, by simpa using hx, rfl⟩
    obtain ⟨z, hz, he⟩ := List.mem_map.1 this
    exact ⟨z, by simp [hz], by rw [he]⟩

theorem Ok.started (ok : Ok d cur lev) : ∀ z ∈ ((cur, d.env, d.top) :: lev : List Level), z.2.1 ∈ d.starts := by
  intro z hz
  rcases List.mem_cons.1 hz with rfl | hz
  · simp [FrD.starts]
  · have : z.2 ∈ d.tops := by rw [← ok.tops]; exact List.mem_map.2 ⟨z, hz, rfl⟩
    unfold FrD.tops at this
    obtain ⟨x, hx, he⟩ := List.mem_map.1 this
    refine List.mem_cons_of_mem _ (List.mem_map.2 ⟨x, by simpa using hx, ?_⟩)
    rw [← he]

theorem all_ok {w : World} {H : List Nat} {K : World → Prop} (h : Fr w d) (ok : Ok d cur lev) (hE : Each d ((cur, d.env, d.top) :: lev) each go I) (hI : I [] H w)
    (hK : ∀ vs H' w', I vs H' w' → (∀ x, Node ((cur, d.env, d.top) :: lev) x → x ∈ vs) → (∀ v ∈ vs, Node ((cur, d.env, d.top) :: lev) v) → vs.Nodup → Upd H w w' → Sub H' H w → K w')
    (hKr : ∀ vs b H' w', I (vs ++ [b]) H' w' → go vs b = false → (∀ v ∈ vs ++ [b], Node ((cur, d.env, d.top) :: lev) v) → Upd H w w' → Sub H' H w → K w') :
    C_frame_Stack_all d.a each w K := by
  apply C_frame_Stack_all.of
  unfold F_frame_Stack_all F_frame_Stack_all_L1 F_frame_Stack_all_L2
  have hn := h.len
  have h40 := ok.len40
  have hll := ok.ll
  have hlim := ok.lim
  refine New_map fun r w1 hr u1 hm => ?_
  have hs1 : SeenAt w1 r [] := ⟨[], MapAt.new _ hm, by intro k; simp⟩
  have f1 := h.keep u1
  have hrw : r < w1.heap.size := (Array.getElem?_eq_some_iff.1 hm).1
  simp only [FrD.a, NN_some, addN, drw_cell, drw_heap, exS, exI, exB, exP, exM, exStr, exV, a0, a1, a2, a3, a4, a5, a6, a7, a8, a9, a10, a11, a12, a13, maxI_eq, Nat.zero_add, Nat.add_zero, Nat.mul_one, Option.isNone_some, Option.isNone_none, f1.blk.cell]
  refine BSlL_rule eS_44 [.int .i64 d.env] (by rfl) (by simp [Value.cells]) (by rfl) (by omega) fun w2 hst2 u2 => ?_
  have U2 : Upd [] w w2 := u1.after u2
  have f2 := h.keep U2
  simp only [NN_some, addN, drw_cell, drw_heap, exS, exI, exB, exP, exM, exStr, exV, a0, a1, a2, a3, a4, a5, a6, a7, a8, a9, a10, a11, a12, a13, maxI_eq, Nat.zero_add, Nat.add_zero, Nat.mul_one, Option.isNone_some, Option.isNone_none, f2.blk.cell]
  have hst2' : SlAt w2 1 (some ⟨w1.heap.size, 0, none⟩) 1 1 ((d.starts.take 1).map (.int .i64)) [w1.heap.size] := by simpa [FrD.starts, Value.cells] using hst2
  -- the starts are gathered
  refine ⟨fun s v => 0 ≤ s.t21 ∧ s.t21 ≤ d.n ∧ ∃ G, SlAt v 1 s.startsP s.startsN s.startsC ((d.starts.take (s.t21.toNat + 1)).map (.int .i64)) G ∧ Upd [] w1 v ∧ Since G w1, fun s _ => (d.n - s.t21).toNat, ⟨by simp, by simp, _, hst2', u2, by intro k hk; simp at hk; omega⟩, ?_⟩
  rintro ⟨sP, sN, sC, j⟩ v ⟨hj0, hj1, G, hsl, hu, hG⟩
  dsimp only at hj0 hj1 hsl
  unfold B_frame_Stack_all_L1
  dsimp only
  have fv := f1.keep hu
  refine ifC (fun hc => ?_) (fun hc => ?_)
  · simp at hc
    obtain ⟨b, off, hp, _, hcell⟩ := fv.cell (i := j.toNat) (by omega)
    have c0 := hcell 0 (by omega)
    have c1 := hcell 1 (by omega)
    have c2 := hcell 2 (by omega)
    have c3 := hcell 3 (by omega)
    have c4 := hcell 4 (by omega)
    have c5 := hcell 5 (by omega)
    have c6 := hcell 6 (by omega)
    have c7 := hcell 7 (by omega)
    have c8 := hcell 8 (by omega)
    simp only [chCells, List.getElem?_cons_zero, List.getElem?_cons_succ, Nat.add_zero] at c0 c1 c2 c3 c4 c5 c6 c7 c8
    simp only [NN_some, addN, drw_cell, drw_heap, exS, exI, exB, exP, exM, exStr, exV, a0, a1, a2, a3, a4, a5, a6, a7, a8, a9, a10, a11, a12, a13, maxI_eq, Nat.zero_add, Nat.add_zero, Nat.mul_one, Option.isNone_some, Option.isNone_none, hp, c0, c1, c2, c3, c4, c5, c6, c7, c8]
    refine ⟨hj0, hc, New_rule fun q v1 hq uq hb1 => ?_⟩
    refine St_acc (Upd.refl _ _) hb1 (by simp) rfl fun v2 t2 hb2 => St_acc t2 hb2 (by simp) rfl fun v3 t3 hb3 => St_acc t3 hb3 (by simp) rfl fun v4 t4 hb4 => St_acc t4 hb4 (by simp) rfl fun v5 t5 hb5 => St_acc t5 hb5 (by simp) rfl fun v6 t6 hb6 => St_acc t6 hb6 (by simp) rfl fun v7 t7 hb7 => St_acc t7 hb7 (by simp) rfl fun v8 t8 hb8 => St_acc t8 hb8 (by simp) rfl fun v9 t9 hb9 => St_acc t9 hb9 (by simp) rfl fun v10 t10 hb10 => ?_
    simp at hb10
    simp only [NN_some, addN, drw_cell, drw_heap, exS, exI, exB, exP, exM, exStr, exV, a0, a1, a2, a3, a4, a5, a6, a7, a8, a9, a10, a11, a12, a13, maxI_eq, Nat.zero_add, Nat.add_zero, Nat.mul_one, Option.isNone_some, Option.isNone_none, hb10.cell]
    have V10 : Upd [] v v10 := uq.fresh t10 (by intro k hk; simp at hk; omega)
    refine BSlL_rule eS_44 [.int .i64 d.l[j.toNat].2.env] (by rfl) (by simp [Value.cells]) (by rfl) (by omega) fun v11 hsb ub => ?_
    have V11 : Upd [] v v11 := V10.after ub
    have hlen : (d.starts.take (j.toNat + 1)).length = j.toNat + 1 := by simp [FrD.starts]; omega
    have hsN : sN = j.toNat + 1 := by
      have := hsl.1
      rw [List.length_map, hlen] at this; omega
    refine App_rule (hE := eS_44) (hsl.upd V11 (by intro k _ h; cases h)) hsb (by simp [Value.cells, Value.oneCell']) (by omega) fun p' c' G' v12 hs12 u12 hsub => ?_
    rw [i64id (by omega) (by omega)]
    refine ⟨⟨by omega, by omega, G', ?_, (hu.after V11).fresh u12 hG, hG.step hsub (Nat.le_trans hu.size V11.size)⟩, by simp; omega⟩
    rw [show (j + 1).toNat + 1 = (j.toNat + 1) + 1 by omega, List.take_succ_eq_append_getElem (by simp [FrD.starts]; omega)]
    have : d.starts[j.toNat + 1]'(by simp [FrD.starts]; omega) = d.l[j.toNat].2.env := by simp [FrD.starts]
    rw [this]
    simpa [Value.cells] using hs12
  · simp at hc
    have hfull : d.starts.take (j.toNat + 1) = d.starts := List.take_of_length_le (by simp [FrD.starts]; omega)
    rw [hfull] at hsl
    have hslen : sN = d.starts.length := by
      have := hsl.1
      rw [List.length_map] at this; omega
    have hsl40 : d.starts.length = d.l.length + 1 := by simp [FrD.starts]
    have U1v : Upd [] w v := u1.after hu
    have hIn : In H w := hE.inn _ _ _ hI
    have hIv := hE.keep _ _ _ _ _ hI U1v (by intro k _ h; cases h)
    have hrH : r ∉ H := fun hx => by have := hIn r hx; omega
    have hsv : SeenAt v r [] := by
      obtain ⟨M, hM, hl⟩ := hs1
      exact ⟨M, hM.upd hu (by simp), hl⟩
    have hrG : r ∉ G := fun hx => by have := hG r hx; omega
    have hGH : Dis G H := fun k hk hx => by have := hG k hk; have := hIn k hx; have := u1.size; omega
    -- each start's chain is gone along
    refine ⟨fun s v1 => 0 ≤ s.t33 ∧ s.t33 ≤ sN ∧ ∃ vs H', I vs H' v1 ∧ SeenAt v1 r vs ∧ Closed d.W vs ∧ (∀ x ∈ vs, Node ((cur, d.env, d.top) :: lev) x) ∧ vs.Nodup ∧ (∀ z ∈ ((cur, d.env, d.top) :: lev : List Level), z.2.1 ∈ d.starts.take s.t33.toNat → ∀ x ∈ z.1, x ∈ vs) ∧ Upd (r :: H) v v1 ∧ Sub H' H v, fun s _ => (sN - s.t33).toNat, ⟨by simp, by simp, [], H, hIv, hsv, (fun b hb => by cases hb), by simp, by simp, by simp, Upd.refl _ _, Sub.refl _ _⟩, ?_⟩
    rintro ⟨i⟩ v1 ⟨hi0, hi1, vs, H1, hI1, hsv1, hcl, hnode, hnd, hdone, hu1, hsub1⟩
    dsimp only at hi0 hi1 hdone
    unfold B_frame_Stack_all_L2
    dsimp only
    have hUw : Upd H w v1 := by
      refine U1v.trans hu1 (by simp) fun k hk => ?_
      rcases List.mem_cons.1 hk with rfl | hk
      · right; omega
      · exact .inl hk
    have hSw : Sub H1 H w := hsub1.old U1v.size
    refine ifC (fun hc2 => ?_) (fun hc2 => ?_)
    · simp at hc2
      have hin : In G v := hsl.inn
      obtain ⟨b, o, rfl, hcell⟩ := (hsl.upd hu1 (by
        intro k hk hx
        rcases List.mem_cons.1 hx with rfl | hx
        · exact hrG hk
        · exact hGH k hk hx)).cell (i := i.toNat) (by omega)
      have hil : i.toNat < d.starts.length := by omega
      rw [List.getElem?_map, List.getElem?_eq_getElem hil] at hcell
      simp only [Option.map_some] at hcell
      simp only [NN_some, addN, drw_cell, drw_heap, exS, exI, exB, exP, exM, exStr, exV, a0, a1, a2, a3, a4, a5, a6, a7, a8, a9, a10, a11, a12, a13, maxI_eq, Nat.zero_add, Nat.add_zero, Nat.mul_one, Option.isNone_some, Option.isNone_none, hcell]
      refine ⟨hi0, hc2, ?_⟩
      obtain ⟨z, hz, hze⟩ := ok.start d.starts[i.toNat] (List.getElem_mem hil)
      have hch := ok.lv.chain z hz
      rw [hze] at hch
      have hr1 : r ∉ H1 := fun hx => by
        rcases hsub1 r hx with h1 | h1
        · exact hrH h1
        · have := hu.size; omega
      refine walk_ok hE ok.node hI1 hsv1 hr1 (Nat.lt_of_lt_of_le hrw (Nat.le_trans hu.size hu1.size)) hch (fun x hx => ⟨z, hz, hx⟩) hcl hnode hnd (fun vs' H' w' hI' hs' hcl' hnode' hnd' hold hnew u' s' => ?_) (fun vs' b' H' w' hI' hg hnode' u' s' => ?_)
      · rw [i64id (by omega) (by omega)]
        refine ⟨⟨by omega, by omega, vs', H', hI', hs', hcl', hnode', hnd', ?_, ?_, hsub1.trans s' hu1.size⟩, by simp; omega⟩
        · intro q hq hqs x hx
          rw [show (i + 1).toNat = i.toNat + 1 by omega, List.take_succ_eq_append_getElem hil] at hqs
          rcases List.mem_append.1 hqs with h1 | h1
          · exact hold x (hdone q hq h1 x hx)
          · simp at h1
            have hcq := ok.lv.chain q hq
            rw [h1] at hcq
            rw [hcq.same hch] at hx
            exact hnew x hx
        · refine hu1.trans u' (fun _ h => .inl h) fun k hk => ?_
          rcases List.mem_cons.1 hk with rfl | hk
          · simp
          · rcases hsub1 k hk with h1 | h1
            · simp [h1]
            · exact .inr h1
      · refine hKr vs' b' H' w' hI' hg hnode' (hUw.trans u' (fun _ h => .inl h) fun k hk => ?_) (hSw.trans s' hUw.size)
        rcases List.mem_cons.1 hk with rfl | hk
        · right; omega
        · exact hSw k hk
    · simp at hc2
      obtain rfl : i = sN := by omega
      refine hK vs H1 v1 hI1 (fun x ⟨z, hz, hx⟩ => hdone z hz ?_ x hx) hnode hnd hUw hSw
      rw [show (sN : Int).toNat = d.starts.length by omega, List.take_length]
      exact ok.started z hz

end

end Go.Proofs.Ytdmjbkpibgfeiaa
