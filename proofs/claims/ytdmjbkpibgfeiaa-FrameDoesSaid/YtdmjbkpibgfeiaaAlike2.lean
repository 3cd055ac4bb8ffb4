/- Both stacks are found alike, in all that is asked. -/
import Derived.Test.YtdmjbkpibgfeiaaAlike
namespace Go.Proofs.Ytdmjbkpibgfeiaa
open Go Go.D Go.Proofs
set_option linter.unusedSimpArgs false
set_option linter.unusedVariables false
set_option maxRecDepth 8000

section
variable {w : World} {d : FrD} {cur : List Int} {lev : List Level} {t : TwD} {φ : Int → Nat}

/-- The choices, one by one. -/
theorem alike_L1 {base : Int} {Kx : World → Prop} {Kr : Bool → World → Prop} (bo : Bo w d cur lev t φ) (hA : ∀ x ∈ d.l, x.2.args.length < 2 ^ 40) (hK : ∀ w', Bo w' d cur lev t φ → Upd d.F w w' → Kx w') : F_law22_alike_L1 d.a t.a base ⟨0⟩ w Kx Kr := by
  unfold F_law22_alike_L1
  have hcl := bo.sim.clen
  have h40 := bo.ok.len40
  refine ⟨fun s v => ∃ i : Nat, s.i = i ∧ i ≤ t.C.length ∧ Bo v d cur lev t φ ∧ Upd d.F w v, fun s _ => (t.C.length - s.i).toNat, ⟨0, rfl, by omega, bo, Upd.refl _ _⟩, ?_⟩
  rintro ⟨si⟩ v ⟨i, hi0, hi, bv, uv⟩
  dsimp only at hi0
  subst hi0
  unfold B_law22_alike_L1
  dsimp only
  simp only [TwD.a, NN_some, addN, drw_cell, drw_heap, exS, exI, exB, exP, exM, exStr, exV, a0, a1, a2, a3, a4, a5, a6, a7, a8, a9, a10, a11, a12, a13, maxI_eq, Nat.zero_add, Nat.add_zero, Nat.mul_one, Option.isNone_some, Option.isNone_none, bv.tw.blk.cell]
  refine ifC (fun g => ?_) (fun g => hK v bv uv)
  simp at g
  obtain ⟨hd, e1, e2⟩ := bv.sim.choice g
  refine Choice_ok bv.fr (by omega) (by omega) (hA _ (List.getElem_mem _)) fun p n c F w1 hs f1 u1 s1 => ?_
  simp only [Int.toNat_natCast] at hs ⊢
  have bo1 := bv.keep u1
  refine New_rule fun r w2 hr u2 hb2 => ?_
  refine St9n hb2 rfl (by simp [Value.oneCell']) fun w3 u3 hb3 => ifF rfl ?_
  have U3 : Upd [] v w3 := (u1.after u2).fresh u3 (by intro k hk; simp at hk; have := u1.size; omega)
  have bo3 := bv.keep U3
  have hs3 : SlAt w3 1 p n c (d.l[i].2.args.map (.int .u64)) F := (hs.upd u2 (by intro k _ h; cases h)).upd u3 (by intro k hk hk2; simp at hk2; subst hk2; have := hs.inn _ hk; omega)
  have hbd := hb3.drw
  obtain ⟨b, off, hp, c0, c1, c2, c3, c4, c5, c6, c7, c8, c9⟩ := (bo3.keep (drw_upd w3)).tw.c10 g
  obtain ⟨H, hsC, _⟩ := (bo3.keep (drw_upd w3)).tw.argC.get i (by simpa using g)
  simp only [List.getElem_map] at hsC
  rw [e1] at c0 c2 c3 c4 c5 c6 c7 c8 hsC
  simp only [NN_some, addN, drw_cell, drw_heap, exS, exI, exB, exP, exM, exStr, exV, a0, a1, a2, a3, a4, a5, a6, a7, a8, a9, a10, a11, a12, a13, maxI_eq, Nat.zero_add, Nat.add_zero, Nat.mul_one, Option.isNone_some, Option.isNone_none] at c0 c1 c2 c3 c4 c5 c6 c7 c8 c9
  simp only [NN_some, addN, drw_cell, drw_heap, exS, exI, exB, exP, exM, exStr, exV, a0, a1, a2, a3, a4, a5, a6, a7, a8, a9, a10, a11, a12, a13, maxI_eq, Nat.zero_add, Nat.add_zero, Nat.mul_one, Option.isNone_some, Option.isNone_none, hb3.cell, bo3.tw.blk.cell, hp, Nat.add_zero, c0, c1, c2, c3, c4, c5, c6, c7, c8]
  refine ⟨by omega, by omega, ?_⟩
  refine SameChoice_ok (hs3.rd.keep (drw_upd w3)) hsC.rd (hA _ (List.getElem_mem _)) fun w4 u4 => ifF rfl ?_
  have U4 : Upd [] v w4 := (U3.after (drw_upd w3)).after u4
  have bo4 := bv.keep U4
  have hb4 := hbd.upd u4 (by simp)
  obtain ⟨b', off', hp', _, _, _, _, _, _, _, _, _, x9⟩ := bo4.tw.c10 g
  rw [hp] at hp'; cases hp'
  simp only [NN_some, addN, drw_cell, drw_heap, exS, exI, exB, exP, exM, exStr, exV, a0, a1, a2, a3, a4, a5, a6, a7, a8, a9, a10, a11, a12, a13, maxI_eq, Nat.zero_add, Nat.add_zero, Nat.mul_one, Option.isNone_some, Option.isNone_none, hb4.cell, bo4.tw.blk.cell, hp, x9]
  refine ⟨by omega, by omega, ?_⟩
  obtain ⟨z, hz, hze⟩ := bv.ok.start d.l[i].2.env (List.mem_cons_of_mem _ (List.mem_map.2 ⟨_, List.getElem_mem hd, rfl⟩))
  have hch := Lv.chain bv.ok.lv z hz
  rw [hze] at hch
  refine chain_both bo4 hch (fun x hx => ⟨z, hz, hx⟩) fun p5 n5 c5 w5 bo5 u5 go => ?_
  obtain ⟨b'', off'', hp'', _, _, _, _, _, _, _, _, _, y9⟩ := bo5.tw.c10 g
  rw [hp] at hp''; cases hp''
  refine ⟨by rw [y9], by simp only [NN_some, addN, drw_cell, drw_heap, exS, exI, exB, exP, exM, exStr, exV, a0, a1, a2, a3, a4, a5, a6, a7, a8, a9, a10, a11, a12, a13, maxI_eq, Nat.zero_add, Nat.add_zero, Nat.mul_one, Option.isNone_some, Option.isNone_none, bo5.tw.blk.cell, hp], ?_⟩
  rw [e2]
  refine go (fun t w => If (!t) (Kr false w) _) fun w6 bo6 u6 => ifF rfl ?_
  rw [i64id (by omega) (by omega)]
  exact ⟨⟨i + 1, by simp, by omega, bo6, uv.both (((U4.after u5).before u6))⟩, by simp; omega⟩

/-- Behind them. -/
theorem alike_k6 {base : Int} {K : Bool → World → Prop} (bo : Bo w d cur lev t φ) (hA : ∀ x ∈ d.l, x.2.args.length < 2 ^ 40) (hK : ∀ w', Bo w' d cur lev t φ → Upd d.F w w' → K true w') : F_law22_alike_k5 d.a t.a base K d.env w := by
  unfold F_law22_alike_k5
  have hcl := bo.sim.clen
  have h40 := bo.ok.len40
  have bod := bo.keep (drw_upd w)
  have hsl := bo.sim.slots bo.ok
  refine Env_ok bod.fr (ifF (by simp) (Slots_ok bod.fr bo.ok (RSlots_ok bod.tw (bo.sim.curOk bo.ok) fun w1 u1 => ifF (by rw [hsl]; simp) ?_)))
  have U1 : Upd [] w w1 := (drw_upd w).after u1
  have bo1 := bo.keep U1
  simp only [TwD.a, NN_some, addN, drw_cell, drw_heap, exS, exI, exB, exP, exM, exStr, exV, a0, a1, a2, a3, a4, a5, a6, a7, a8, a9, a10, a11, a12, a13, maxI_eq, Nat.zero_add, Nat.add_zero, Nat.mul_one, Option.isNone_some, Option.isNone_none, bo1.tw.blk.cell]
  refine Depth_ok bo1.fr ⟨by simp only [NN_some, addN, drw_cell, drw_heap, exS, exI, exB, exP, exM, exStr, exV, a0, a1, a2, a3, a4, a5, a6, a7, a8, a9, a10, a11, a12, a13, maxI_eq, Nat.zero_add, Nat.add_zero, Nat.mul_one, Option.isNone_some, Option.isNone_none, bo1.tw.blk.cell], ifF (by simp; omega) ?_⟩
  simp only [NN_some, addN, drw_cell, drw_heap, exS, exI, exB, exP, exM, exStr, exV, a0, a1, a2, a3, a4, a5, a6, a7, a8, a9, a10, a11, a12, a13, maxI_eq, Nat.zero_add, Nat.add_zero, Nat.mul_one, Option.isNone_some, Option.isNone_none, bo1.tw.blk.cell]
  obtain ⟨z, hz, hze⟩ := bo.ok.start d.env (by simp [FrD.starts])
  have hch := Lv.chain bo.ok.lv z hz
  rw [hze] at hch
  refine chain_both bo1 hch (fun x hx => ⟨z, hz, hx⟩) fun p n c w2 bo2 u2 go => ?_
  refine ⟨by simp only [NN_some, addN, drw_cell, drw_heap, exS, exI, exB, exP, exM, exStr, exV, a0, a1, a2, a3, a4, a5, a6, a7, a8, a9, a10, a11, a12, a13, maxI_eq, Nat.zero_add, Nat.add_zero, Nat.mul_one, Option.isNone_some, Option.isNone_none, bo2.tw.blk.cell], ?_⟩
  rw [bo.sim.cur]
  refine go (fun t w => If (!t) _ _) fun w3 bo3 u3 => ifF rfl ?_
  have U3 : Upd d.F w w3 := (U1.after u2).before u3
  refine alike_L1 bo3 hA fun w4 bo4 u4 => ?_
  have U4 := U3.both u4
  simp only [NN_some, addN, drw_cell, drw_heap, exS, exI, exB, exP, exM, exStr, exV, a0, a1, a2, a3, a4, a5, a6, a7, a8, a9, a10, a11, a12, a13, maxI_eq, Nat.zero_add, Nat.add_zero, Nat.mul_one, Option.isNone_some, Option.isNone_none, bo4.tw.blk.cell]
  refine Choice_no bo4.fr (.inr (by omega)) fun w5 f5 u5 => New_rule fun r w6 hr u6 hb6 => ?_
  refine St9n hb6 rfl (by simp [Value.oneCell']) fun w7 u7 hb7 => ?_
  have V7 : Upd [] w4 w7 := (u5.after u6).fresh u7 (by intro k hk; simp at hk; have := u5.size; omega)
  have bo7 := bo4.keep V7
  -- the last one
  have fin : ∀ w', Bo w' d cur lev t φ → Upd [] w4 w' → F_law22_alike_k4 d.a t.a base K w' := fun w' bo' u' => alike_k4 bo' fun w'' bo'' u'' => hK w'' bo'' (U4.both (u'.after u''))
  by_cases hz0 : d.l.length = 0
  · refine Last_no bo7.fr hz0 fun w8 f8 u8 => New_rule fun r2 w9 hr2 u9 hb9 => ?_
    refine St9n hb9 rfl (by simp [Value.oneCell']) fun w10 u10 hb10 => ifF rfl ?_
    have V10 : Upd [] w4 w10 := ((V7.after u8).after u9).fresh u10 (by intro k hk; simp at hk; have := V7.size; have := u8.size; omega)
    have bo10 := bo4.keep V10
    simp only [NN_some, addN, drw_cell, drw_heap, exS, exI, exB, exP, exM, exStr, exV, a0, a1, a2, a3, a4, a5, a6, a7, a8, a9, a10, a11, a12, a13, maxI_eq, Nat.zero_add, Nat.add_zero, Nat.mul_one, Option.isNone_some, Option.isNone_none, bo10.tw.blk.cell]
    have hnil : t.C = [] := List.eq_nil_of_length_eq_zero (by omega)
    refine ifF (by simp [hnil]) (ifF rfl (fin _ (bo10.keep (drw_upd _)) (V10.after (drw_upd _))))
  · refine Last_ok bo7.fr h40 (by omega) (hA _ (List.getElem_mem _)) fun p n c F w8 hs f8 u8 s8 => New_rule fun r2 w9 hr2 u9 hb9 => ?_
    refine St9n hb9 rfl (by simp [Value.oneCell']) fun w10 u10 hb10 => ifF rfl ?_
    have V10 : Upd [] w4 w10 := ((V7.after u8).after u9).fresh u10 (by intro k hk; simp at hk; have := V7.size; have := u8.size; omega)
    have bo10 := bo4.keep V10
    have hs10 := (hs.upd u9 (by intro k _ h; cases h)).upd u10 (by intro k hk hk2; simp at hk2; subst hk2; have := hs.inn _ hk; omega)
    have hi : t.C.length - 1 < t.C.length := by omega
    obtain ⟨hd, e1, e2⟩ := bo.sim.choice hi
    have e3 : IntKind.i64.wrap ((t.C.length : Int) - 1) = ((t.C.length - 1 : Nat) : Int) := by rw [i64id (by omega) (by omega)]; omega
    obtain ⟨b, off, hp, c0, c1, c2, c3, c4, c5, c6, c7, c8, c9⟩ := bo10.tw.c10 hi
    obtain ⟨H, hsC, _⟩ := (bo10.keep (drw_upd w10)).tw.argC.get (t.C.length - 1) (by simpa using hi)
    simp only [List.getElem_map] at hsC
    rw [e1] at c0 c2 c3 c4 c5 c6 c7 c8 hsC
    have e4 : d.l[d.l.length - 1]'(by omega) = d.l[t.C.length - 1] := by simp only [hcl]
    rw [e4] at hb10 hs10
    simp only [NN_some, addN, drw_cell, drw_heap, exS, exI, exB, exP, exM, exStr, exV, a0, a1, a2, a3, a4, a5, a6, a7, a8, a9, a10, a11, a12, a13, maxI_eq, Nat.zero_add, Nat.add_zero, Nat.mul_one, Option.isNone_some, Option.isNone_none, bo10.tw.blk.cell, hb10.cell]
    refine ifF (by simp; omega) (ifT rfl ?_)
    simp only [NN_some, addN, drw_cell, drw_heap, exS, exI, exB, exP, exM, exStr, exV, a0, a1, a2, a3, a4, a5, a6, a7, a8, a9, a10, a11, a12, a13, maxI_eq, Nat.zero_add, Nat.add_zero, Nat.mul_one, Option.isNone_some, Option.isNone_none, bo10.tw.blk.cell, hb10.cell, e3, Int.toNat_natCast, hp, Nat.add_zero, c0, c1, c2, c3, c4, c5, c6, c7, c8]
    refine ⟨by omega, by omega, ?_⟩
    refine SameChoice_ok (hs10.rd.keep (drw_upd w10)) hsC.rd (hA _ (List.getElem_mem _)) fun w11 u11 => ifF rfl ?_
    exact fin w11 ((bo10.keep (drw_upd w10)).keep u11) ((V10.after (drw_upd w10)).after u11)

theorem alike_ok {base : Int} {K : Bool → World → Prop} (bo : Bo w d cur lev t φ) (hA : ∀ x ∈ d.l, x.2.args.length < 2 ^ 40) (hK : ∀ w', Bo w' d cur lev t φ → Upd d.F w w' → K true w') : C_law22_alike d.a t.a base w K := by
  apply C_law22_alike.of
  unfold F_law22_alike
  simp only [TwD.a, NN_some, addN, drw_cell, drw_heap, exS, exI, exB, exP, exM, exStr, exV, a0, a1, a2, a3, a4, a5, a6, a7, a8, a9, a10, a11, a12, a13, maxI_eq, Nat.zero_add, Nat.add_zero, Nat.mul_one, Option.isNone_some, Option.isNone_none, bo.tw.blk.cell]
  refine ifC (fun g => ?_) (fun g => ?_)
  · simp at g
    have he : 0 ≤ d.env := by
      rcases Int.lt_or_le d.env 0 with h | h
      · rw [bo.sim.cur, eIdx_neg h] at g; omega
      · exact h
    obtain ⟨hc, hi, hE⟩ := bo.sim.curE bo.ok he
    obtain ⟨b, off, hp, _, x0, _⟩ := bo.tw.e5 hi
    have henv : (t.E[φ d.env]).2.env = d.env := by rw [hE]; rfl
    rw [henv] at x0
    simp only [TwD.a, NN_some, addN, drw_cell, drw_heap, exS, exI, exB, exP, exM, exStr, exV, a0, a1, a2, a3, a4, a5, a6, a7, a8, a9, a10, a11, a12, a13, maxI_eq, Nat.zero_add, Nat.add_zero, Nat.mul_one, Option.isNone_some, Option.isNone_none, bo.tw.blk.cell, hc, hp, Int.toNat_natCast, Nat.add_zero, x0]
    refine ⟨by omega, by omega, ?_⟩
    exact alike_k6 (bo.keep (drw_upd w)) hA fun w' bo' u' => hK w' bo' ((drw_upd w).after u')
  · simp at g
    have he : d.env = -1 := by
      have := bo.ok.env1
      rcases Int.lt_or_le d.env 0 with h | h
      · omega
      · rw [bo.sim.cur, eIdx_pos h] at g; omega
    have := alike_k6 (base := base) bo hA hK
    rw [he] at this
    exact this
end

end Go.Proofs.Ytdmjbkpibgfeiaa
