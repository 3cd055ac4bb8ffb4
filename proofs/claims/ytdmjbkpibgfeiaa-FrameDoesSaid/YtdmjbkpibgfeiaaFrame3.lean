/- A stack of environments and choices: what makes, leaves and keeps environments. -/
import Derived.Test.YtdmjbkpibgfeiaaFrame2
namespace Go.Proofs.Ytdmjbkpibgfeiaa
open Go Go.D Go.Proofs
set_option linter.unusedSimpArgs false
set_option linter.unusedVariables false
set_option maxRecDepth 8000

theorem kept_eq {d d' : FrD} (h : d'.l = d.l) : d'.kept = d.kept := by unfold FrD.kept; rw [h]
theorem tops_eq {d d' : FrD} (h : d'.l = d.l) : d'.tops = d.tops := by unfold FrD.tops; rw [h]

theorem wordOf_lt {W W' : List Int} {t i : Int} (h : ∀ j : Nat, (j : Int) < t → W'[j]? = W[j]?) (hi : i < t) : wordOf W' i = wordOf W i :=
  wordOf_eq fun h0 => h _ (by omega)

/-- Levels under words that are turned above all of them. -/
theorem Lv.above {W W' : List Int} {r : List Level} {t : Int} (h : Lv W r) (hr : ∀ y ∈ r.head?, y.2.2 ≤ t) (ht : ∀ j : Nat, (j : Int) < t → W'[j]? = W[j]?) : Lv W' r := by
  refine h.turn fun z hz x hx => ?_
  obtain ⟨h0, h1, h2⟩ := h.le hr z hz x hx
  exact ⟨wordOf_lt ht (by omega), wordOf_lt ht (by omega)⟩

section
variable {w : World} {d : FrD} {cur : List Int} {lev : List Level}

/-! ## Alloc -/

def grow (W : List Int) (n : Int) : List Int := W ++ List.replicate (n.toNat - W.length) 0

theorem grow_len (W : List Int) (n : Int) : (grow W n).length = max W.length n.toNat := by unfold grow; simp; omega

theorem grow_lt {W : List Int} {n : Int} {j : Nat} (h : j < W.length) : (grow W n)[j]? = W[j]? := by
  unfold grow; rw [List.getElem?_append_left h]

def header (d : FrD) (slots c0 c1 : Int) : List Int := [d.env + 1, c0, c1, slots]

def allocW (d : FrD) (slots c0 c1 : Int) : List Int := lay (grow d.W (d.top + 4 + slots)) d.top.toNat (header d slots c0 c1 ++ List.replicate slots.toNat 0)

def FrD.alloc (d : FrD) (slots c0 c1 most : Int) (FW : List Nat) : FrD := { d with W := allocW d slots c0 c1, env := d.top, most := most, FW := FW }

theorem allocW_fits {d : FrD} (ok : Ok d cur lev) {slots c0 c1 : Int} (h0 : 0 ≤ slots) : d.top.toNat + (header d slots c0 c1 ++ List.replicate slots.toNat 0).length ≤ (grow d.W (d.top + 4 + slots)).length := by
  have h1 := ok.top0
  rw [grow_len, List.length_append, List.length_replicate]
  show d.top.toNat + (4 + slots.toNat) ≤ _
  omega

theorem allocW_len {d : FrD} (ok : Ok d cur lev) {slots c0 c1 : Int} (h0 : 0 ≤ slots) : (allocW d slots c0 c1).length = max d.W.length (d.top + 4 + slots).toNat := by
  unfold allocW
  rw [lay_len (allocW_fits ok h0), grow_len]

theorem allocW_lt {d : FrD} (ok : Ok d cur lev) {slots c0 c1 : Int} (h0 : 0 ≤ slots) {j : Nat} (hj : (j : Int) < d.top) : (allocW d slots c0 c1)[j]? = d.W[j]? := by
  have h1 := ok.topl
  unfold allocW
  rw [lay_lt (allocW_fits ok h0) (by omega), grow_lt (by omega)]

theorem allocW_head {d : FrD} (ok : Ok d cur lev) {slots c0 c1 : Int} (h0 : 0 ≤ slots) {i : Nat} (hi : i < 4) (hr : -2 ^ 63 ≤ (header d slots c0 c1)[i] ∧ (header d slots c0 c1)[i] < 2 ^ 63) : wordOf (allocW d slots c0 c1) (d.top + i) = (header d slots c0 c1)[i] := by
  have h1 := ok.top0
  have hin := lay_in (allocW_fits ok (c0 := c0) (c1 := c1) h0) (j := i) (by simp [header]; omega)
  have := wordOf_at hin
  rw [show ((d.top.toNat + i : Nat) : Int) = d.top + i by omega] at this
  unfold allocW
  rw [this, List.getElem_append_left (by simp [header]; omega)]
  exact i64u64 hr.1 hr.2

theorem Ok.alloc (ok : Ok d cur lev) {slots c0 c1 most : Int} {FW : List Nat} (h0 : 0 ≤ slots) (h1 : slots ≤ 64) (hroom : d.top + 4 + slots ≤ d.wlim) :
    Ok (d.alloc slots c0 c1 most FW) (d.top :: cur) lev ∧ (d.alloc slots c0 c1 most FW).top = d.top + 4 + slots ∧ sizeOf' (d.alloc slots c0 c1 most FW).W d.top = slots ∧ prevOf (d.alloc slots c0 c1 most FW).W d.top = d.env := by
  have ht := ok.topl
  have hw := ok.Wl
  have hl := ok.wl
  have e1 := ok.env1
  have ht0 := ok.top0
  have hk := ok.kept_top
  have hen : d.env < 2 ^ 62 := by
    by_cases he : d.env < 0
    · omega
    · obtain ⟨xs, hc, hs, _⟩ := ok.cons (by omega)
      have := ok.envtop (by omega)
      omega
  have hs : sizeOf' (allocW d slots c0 c1) d.top = slots := allocW_head ok h0 (i := 3) (by omega) (by simp [header]; omega)
  have hp : prevOf (allocW d slots c0 c1) d.top = d.env := by
    have := allocW_head ok h0 (c0 := c0) (c1 := c1) (i := 0) (by omega) (by simp [header]; omega)
    unfold prevOf
    rw [show d.top = d.top + ((0 : Nat) : Int) by simp, this]
    simp [header]
  have hkept : (d.alloc slots c0 c1 most FW).kept = d.kept := kept_eq rfl
  have htop : (d.alloc slots c0 c1 most FW).top = d.top + 4 + slots := by
    have e : (d.alloc slots c0 c1 most FW).top = if d.top < 0 then (d.alloc slots c0 c1 most FW).kept else max (d.alloc slots c0 c1 most FW).kept (d.top + 4 + sizeOf' (allocW d slots c0 c1) d.top) := rfl
    rw [e, hkept, if_neg (by omega), hs]; omega
  refine ⟨⟨hl, ?_, ok.ll, ok.lim, ?_, ?_, ok.tops⟩, htop, hs, hp⟩
  · show ((allocW d slots c0 c1).length : Int) ≤ d.wlim
    rw [allocW_len ok h0]; omega
  · rw [htop]
    show _ ≤ ((allocW d slots c0 c1).length : Int)
    rw [allocW_len ok h0]; omega
  · rw [htop]
    obtain ⟨l1, l2, l3, l4⟩ := ok.lv
    have lt : ∀ j : Nat, (j : Int) < d.top → (allocW d slots c0 c1)[j]? = d.W[j]? := fun j hj => allocW_lt ok h0 hj
    refine ⟨⟨rfl, ht0, by show 0 ≤ sizeOf' (allocW d slots c0 c1) d.top; rw [hs]; exact h0, by show d.top + 4 + sizeOf' (allocW d slots c0 c1) d.top ≤ _; rw [hs]; exact Int.le_refl _, ?_⟩, by show 0 ≤ d.top + 4 + slots; omega, ?_, ?_⟩
    · show ChainL (allocW d slots c0 c1) cur (prevOf (allocW d slots c0 c1) d.top) d.top
      rw [hp]
      exact l1.turn fun x hx => by
        obtain ⟨a, b, c⟩ := l1.mem x hx
        dsimp only at c
        exact ⟨wordOf_lt lt (by omega), wordOf_lt lt (by omega)⟩
    · intro y hy
      obtain ⟨a, b⟩ := l3 y hy
      refine ⟨by show y.2.2 ≤ d.top + 4 + slots; simp at a; omega, fun x hx hxy => ?_⟩
      rcases List.mem_cons.1 hx with rfl | hx
      · simp at a; omega
      · exact b x hx hxy
    · exact l4.above (fun y hy => (l3 y hy).1) lt

theorem Alloc_ok {slots c0 c1 : Int} {K : Int → World → Prop} (h : Fr w d) (ok : Ok d cur lev) (h0 : 0 ≤ slots) (h1 : slots ≤ 64) (hroom : d.top + 4 + slots ≤ d.wlim)
    (hK : ∀ w' most FW, Fr w' (d.alloc slots c0 c1 most FW) → Upd d.F w w' → Sub (d.alloc slots c0 c1 most FW).F d.F w → K 0 w') : C_frame_Stack_Alloc d.a slots c0 c1 w K := by
  apply C_frame_Stack_Alloc.of
  unfold F_frame_Stack_Alloc
  have ht := ok.topl
  have hw := ok.Wl
  have hl := ok.wl
  have e1 := ok.env1
  have ht0 := ok.top0
  have hen : d.env < 2 ^ 62 := by
    by_cases he : d.env < 0
    · omega
    · obtain ⟨xs, hc, hs, _⟩ := ok.cons (by omega)
      have := ok.envtop (by omega)
      omega
  refine New_rule fun r w1 hr u1 hb1 => ?_
  have f1 := h.keep u1
  refine made_ok f1 (ifF rfl (ifF (by simp; omega) (ifF (by simp; omega) (top_ok f1 ok fun w2 f2 u2 => ?_))))
  have hb2 := hb1.upd u2 (by simp)
  simp only [FrD.a, NN_some, addN, drw_cell, drw_heap, exS, exI, exB, exP, exM, exStr, exV, a0, a1, a2, a3, a4, a5, a6, a7, a8, a9, a10, a11, a12, a13, maxI_eq, Nat.zero_add, Nat.add_zero, Nat.mul_one, Option.isNone_some, Option.isNone_none, f2.blk.cell]
  refine Limit_ok f2.room (ifF ?_ ?_)
  · rw [i64id (x := d.top + 4) (by omega) (by omega), i64id (by omega) (by omega)]
    simp; omega
  simp only [FrD.a, NN_some, addN, drw_cell, drw_heap, exS, exI, exB, exP, exM, exStr, exV, a0, a1, a2, a3, a4, a5, a6, a7, a8, a9, a10, a11, a12, a13, maxI_eq, Nat.zero_add, Nat.add_zero, Nat.mul_one, Option.isNone_some, Option.isNone_none, f2.blk.cell]
  refine Len_ok f2.room ?_
  rw [i64id (x := d.top + 4) (by omega) (by omega), i64id (x := d.top + 4 + slots) (by omega) (by omega)]
  -- behind the growth
  have hrF : r ∉ d.F := fun hx => by have := h.inn _ hx; omega
  have rest : ∀ w3 most FW, Fr w3 { d with W := grow d.W (d.top + 4 + slots), most := most, FW := FW } → Upd d.F w2 w3 → Sub ({ d with W := grow d.W (d.top + 4 + slots), most := most, FW := FW } : FrD).F d.F w2 → F_frame_Stack_Alloc_k1 (some ⟨d.b, 0, none⟩) slots K r d.top w3 := by
    intro w3 most FW f3 u3 s3
    have hb3 := hb2.upd u3 hrF
    unfold F_frame_Stack_Alloc_k1 F_frame_Stack_Alloc_L1 F_frame_Stack_Alloc_L2
    have hblk3 := f3.blk
    simp only [NN_some, addN, drw_cell, drw_heap, exS, exI, exB, exP, exM, exStr, exV, a0, a1, a2, a3, a4, a5, a6, a7, a8, a9, a10, a11, a12, a13, maxI_eq, Nat.zero_add, Nat.add_zero, Nat.mul_one, Option.isNone_some, Option.isNone_none, hblk3.cell, hb3.cell]
    rw [i64id (x := d.env + 1) (by omega) (by omega)]
    refine BSlL_rule eS_44 [.int .i64 (d.env + 1), .int .i64 c0, .int .i64 c1, .int .i64 slots] (by rfl) (by simp [Value.cells]) (by rfl) (by omega) fun w4 hs4 u4 => ?_
    have U4 : Upd [] w3 w4 := (drw_upd w3).after u4
    have f4 := f3.keep U4
    have hall := allocW_fits ok (c0 := c0) (c1 := c1) h0
    have hcells : ([Value.int .i64 (d.env + 1), .int .i64 c0, .int .i64 c1, .int .i64 slots].flatMap fun v => v.cells.toList) = (header d slots c0 c1).map (.int .i64) := rfl
    rw [hcells] at hs4
    -- the header is laid
    refine ⟨fun s v => 0 ≤ s.t65 ∧ s.t65 ≤ 4 ∧ Fr v { d with W := lay (grow d.W (d.top + 4 + slots)) d.top.toNat ((header d slots c0 c1 ++ List.replicate slots.toNat 0).take s.t65.toNat), most := most, FW := FW } ∧ Upd ({ d with W := grow d.W (d.top + 4 + slots), most := most, FW := FW } : FrD).F w4 v, fun s _ => (4 - s.t65).toNat, ⟨by simp, by simp, by simpa [lay_nil] using f4, Upd.refl _ _⟩, ?_⟩
    rintro ⟨i⟩ v ⟨hi0, hi1, fv, uv⟩
    dsimp only at hi0 hi1 fv
    unfold B_frame_Stack_Alloc_L1
    dsimp only
    have hnew : Dis [w3.drew.heap.size] ({ d with W := grow d.W (d.top + 4 + slots), most := most, FW := FW } : FrD).F := by
      intro k hk hk2
      simp at hk
      have := f3.inn k hk2
      rw [hk] at this
      exact absurd this (by simp [World.drew])
    have hsv := hs4.upd uv hnew
    refine ifC (fun hc => ?_) (fun hc => ?_)
    · simp at hc
      obtain ⟨b', off, hp, hcell⟩ := hsv.cell (i := i.toNat) (by omega)
      cases hp
      have hi4 : i.toNat < (header d slots c0 c1).length := by simp [header]; omega
      rw [List.getElem?_map, List.getElem?_eq_getElem hi4] at hcell
      simp only [drw_heap, Nat.zero_add, Option.map_some] at hcell
      simp only [NN_some, addN, drw_cell, drw_heap, exS, exI, exB, exP, exM, exStr, exV, a0, a1, a2, a3, a4, a5, a6, a7, a8, a9, a10, a11, a12, a13, maxI_eq, Nat.zero_add, Nat.add_zero, Nat.mul_one, Option.isNone_some, Option.isNone_none, hcell, Option.map_some]
      refine ⟨hi0, hc, ?_⟩
      rw [i64id (by omega) (by omega)]
      apply set_ok fv
      intro v' fv' uv'
      rw [i64id (by omega) (by omega)]
      have hil : i.toNat < (header d slots c0 c1 ++ List.replicate slots.toNat 0).length := by rw [List.length_append]; omega
      have e := setW_lay hall hil
      rw [List.getElem_append_left hi4, show ((d.top.toNat : Int) + (i.toNat : Int)) = d.top + i by omega] at e
      simp only [e] at fv'
      refine ⟨⟨by omega, by omega, ?_, uv.both uv'⟩, by simp; omega⟩
      rw [show (i + 1).toNat = i.toNat + 1 by omega]
      exact fv'
    · simp at hc
      obtain rfl : i = 4 := by omega
      -- the slots are laid
      refine ⟨fun s v => 0 ≤ s.t78 ∧ s.t78 ≤ slots ∧ Fr v { d with W := lay (grow d.W (d.top + 4 + slots)) d.top.toNat ((header d slots c0 c1 ++ List.replicate slots.toNat 0).take (4 + s.t78.toNat)), most := most, FW := FW } ∧ Upd ({ d with W := grow d.W (d.top + 4 + slots), most := most, FW := FW } : FrD).F w4 v, fun s _ => (slots - s.t78).toNat, ⟨by simp, by simpa using h0, by simpa using fv, uv⟩, ?_⟩
      rintro ⟨j⟩ v2 ⟨hj0, hj1, fv2, uv2⟩
      dsimp only at hj0 hj1 fv2
      unfold B_frame_Stack_Alloc_L2
      dsimp only
      refine ifC (fun hc2 => ?_) (fun hc2 => ?_)
      · simp at hc2
        rw [i64id (x := d.top + 4) (by omega) (by omega), i64id (x := d.top + 4 + j) (by omega) (by omega)]
        apply set_ok fv2
        intro v' fv' uv'
        rw [i64id (by omega) (by omega)]
        have hh4 : (header d slots c0 c1).length = 4 := rfl
        have hil : 4 + j.toNat < (header d slots c0 c1 ++ List.replicate slots.toNat 0).length := by rw [List.length_append, hh4]; simp; omega
        have e := setW_lay hall hil
        have e0 : (header d slots c0 c1 ++ List.replicate slots.toNat 0)[4 + j.toNat] = 0 := by
          rw [List.getElem_append_right (by rw [hh4]; omega)]; simp
        rw [e0, show ((d.top.toNat : Int) + ((4 + j.toNat : Nat) : Int)) = d.top + 4 + j by omega] at e
        simp only [e] at fv'
        refine ⟨⟨by omega, by omega, ?_, uv2.both uv'⟩, by simp; omega⟩
        rw [show 4 + (j + 1).toNat = 4 + j.toNat + 1 by omega]
        exact fv'
      · simp at hc2
        obtain rfl : j = slots := by omega
        have hfull : (header d j c0 c1 ++ List.replicate j.toNat 0).take (4 + j.toNat) = header d j c0 c1 ++ List.replicate j.toNat 0 := List.take_of_length_le (by simp [header]; omega)
        rw [hfull] at fv2
        refine fv2.setEnv fun w5 f5 u5 => hK w5 most FW f5 ?_ ?_
        · have U2 : Upd d.F w w3 := (u1.after u2).after u3
          have U4' : Upd d.F w w4 := U2.before U4
          refine (U4'.trans (uv2.both u5) (fun k hk => .inl hk) fun k hk => ?_)
          exact s3.old (Nat.le_trans u1.size u2.size) k hk
        · exact s3.old (Nat.le_trans u1.size u2.size)
  refine ifC (fun hc => ?_) (fun hc => ?_)
  · simp at hc
    simp only [FrD.a, NN_some, addN, drw_cell, drw_heap, exS, exI, exB, exP, exM, exStr, exV, a0, a1, a2, a3, a4, a5, a6, a7, a8, a9, a10, a11, a12, a13, maxI_eq, Nat.zero_add, Nat.add_zero, Nat.mul_one, Option.isNone_some, Option.isNone_none, f2.blk.cell]
    rw [i64id (by omega) (by omega)]
    refine Grow_ok f2.room (by omega) (by omega) (by omega) fun w3 FW hr3 u3 s3 => ?_
    obtain ⟨g1, g2, g3⟩ := f2.words hr3 u3 s3
    have e : (d.top + 4 + slots - (d.W.length : Int)).toNat = (d.top + 4 + slots).toNat - d.W.length := by omega
    rw [e] at g1 g3
    exact rest w3 _ FW g1 g2 g3
  · simp at hc
    have e : grow d.W (d.top + 4 + slots) = d.W := by unfold grow; rw [show (d.top + 4 + slots).toNat - d.W.length = 0 by omega]; simp
    refine rest w2 d.most d.FW ?_ (Upd.refl _ _) ?_
    · rw [e]; exact f2
    · exact Sub.refl _ _

theorem Alloc_arg {slots c0 c1 : Int} {K : Int → World → Prop} (h : Fr w d) (h0 : slots < 0 ∨ 64 < slots) (hK : ∀ w', Fr w' d → Upd [] w w' → K 1 w') : C_frame_Stack_Alloc d.a slots c0 c1 w K := by
  apply C_frame_Stack_Alloc.of
  unfold F_frame_Stack_Alloc
  refine New_rule fun r w1 hr u1 hb1 => ?_
  have f1 := h.keep u1
  refine made_ok f1 (ifF rfl (ifC (fun _ => hK w1 f1 u1) fun hc => ifT ?_ (hK w1 f1 u1)))
  simp at hc ⊢; omega

theorem Alloc_full {slots c0 c1 : Int} {K : Int → World → Prop} (h : Fr w d) (ok : Ok d cur lev) (h0 : 0 ≤ slots) (h1 : slots ≤ 64) (hroom : d.wlim < d.top + 4 + slots) (hK : ∀ w', Fr w' d → Upd [] w w' → K 2 w') : C_frame_Stack_Alloc d.a slots c0 c1 w K := by
  apply C_frame_Stack_Alloc.of
  unfold F_frame_Stack_Alloc
  have ht := ok.topl
  have hw := ok.Wl
  have hl := ok.wl
  have ht0 := ok.top0
  refine New_rule fun r w1 hr u1 hb1 => ?_
  have f1 := h.keep u1
  refine made_ok f1 (ifF rfl (ifF (by simp; omega) (ifF (by simp; omega) (top_ok f1 ok fun w2 f2 u2 => ?_))))
  simp only [FrD.a, NN_some, addN, drw_cell, drw_heap, exS, exI, exB, exP, exM, exStr, exV, a0, a1, a2, a3, a4, a5, a6, a7, a8, a9, a10, a11, a12, a13, maxI_eq, Nat.zero_add, Nat.add_zero, Nat.mul_one, Option.isNone_some, Option.isNone_none, f2.blk.cell]
  refine Limit_ok f2.room (ifT ?_ (hK w2 f2 (u1.after u2)))
  rw [i64id (x := d.top + 4) (by omega) (by omega), i64id (by omega) (by omega)]
  simp; omega

end

end Go.Proofs.Ytdmjbkpibgfeiaa
