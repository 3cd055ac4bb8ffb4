/- One call of both stacks: slots, and choices. -/
import Derived.Test.YtdmjbkpibgfeiaaBoth
namespace Go.Proofs.Ytdmjbkpibgfeiaa
open Go Go.D Go.Proofs
set_option linter.unusedSimpArgs false
set_option linter.unusedVariables false
set_option maxRecDepth 8000

section
variable {w : World} {d : FrD} {cur : List Int} {lev : List Level} {t : TwD} {φ : Int → Nat}

/-- The document's went first, then ours. -/
theorem Goes.pair2 {K : World → Prop} {w1 w2 : World} {d' : FrD} {cur' : List Int} {lev' : List Level} {t' : TwD} {φ' : Int → Nat} (g : Goes w d t K) (bo : Bo w d cur lev t φ) (T1 : Tw w1 t') (u1 : Upd t.F w w1) (s1 : Sub t'.F t.F w)
    (f2 : Fr w2 d') (u2 : Upd d.F w1 w2) (s2 : Sub d'.F d.F w1) (ok' : Ok d' cur' lev') (sim' : Sim d' cur' lev' t' φ') (hb : d'.b = d.b) (hb' : t'.b = t.b) (he : t'.E.length ≤ t.E.length + 1) (hel : t'.E.length < 2 ^ 19) (sh : Sht d.l → Sht d'.l := by exact fun h => h) : K w2 := by
  have hd : Dis t'.F d.F := bo.dis.symm.step s1 bo.fr.inn
  refine g w2 d' cur' lev' t' φ' ⟨f2, ok', T1.upd u2 hd, sim', (dis_pair bo.dis.symm bo.fr.inn s1 T1.inn s2).symm, hel⟩ hb hb' he sh (u1.trans u2 (fun k hk => .inl (by simp [hk])) (fun k hk => .inl (by simp [hk]))) ?_
  intro k hk
  rcases List.mem_append.1 hk with h | h
  · exact ((s2.old u1.size) k h).imp (by intro h; simp [h]) id
  · exact (s1 k h).imp (by intro h; simp [h]) id

theorem Bo.new {r : Nat} (bo : Bo w d cur lev t φ) (hr : w.heap.size ≤ r) : r ∉ d.F ∧ r ∉ t.F := ⟨fun h => by have := bo.fr.inn _ h; omega, fun h => by have := bo.tw.inn _ h; omega⟩

/-- A slot's word, as both have it. -/
theorem Sim.slotAt (sim : Sim d cur lev t φ) (ok : Ok d cur lev) {i : Int} (hi : d.has i) (hl : φ d.env < t.E.length) : ∃ v, d.W[(d.env + 4 + i - 1).toNat]? = some v ∧ (t.E[φ d.env]).2.args[(i - 1).toNat]? = some v ∧ (t.E[φ d.env]).2.args.length = (sizeOf' d.W d.env).toNat := by
  obtain ⟨h0, h1, h2⟩ := hi
  obtain ⟨_, hi', hE⟩ := sim.curE ok h0
  have hr := ok.rowlen (ok.nenv h0)
  have hnd := ok.nd (ok.nenv h0)
  have htl := ok.topl
  have e : (rowOf d.W d.env)[(i - 1).toNat]? = d.W[(d.env + 4 + i - 1).toNat]? := by
    unfold rowOf
    rw [List.getElem?_take_of_lt (by omega), List.getElem?_drop]
    congr 1; omega
  have hlt : (d.env + 4 + i - 1).toNat < d.W.length := by omega
  refine ⟨d.W[(d.env + 4 + i - 1).toNat], List.getElem?_eq_getElem hlt, ?_, ?_⟩
  · rw [hE]
    show (rowOf d.W d.env)[(i - 1).toNat]? = _
    rw [e, List.getElem?_eq_getElem hlt]
  · rw [hE]; exact hr

theorem slots_ok {kind n x c0 c1 h0 h2 h3 h4 h5 h6 h7 h8 : Int} {ap : Option Addr} {an ac : Nat} {K : Bool → World → Prop} (bo : Bo w d cur lev t φ) (hn : -2 ^ 63 ≤ n ∧ n < 2 ^ 63) (g : Goes w d t (K true)) : C_law22_slots d.a t.a kind n x c0 c1 h0 ap an ac h2 h3 h4 h5 h6 h7 h8 w K := by
  obtain ⟨fr, ok, tw, sim, dis, el⟩ := bo
  have bo : Bo w d cur lev t φ := ⟨fr, ok, tw, sim, dis, el⟩
  apply C_law22_slots.of
  unfold F_law22_slots
  refine New_rule fun r w1 hr u1 b1 => ?_
  obtain ⟨rd, rt⟩ := bo.new (r := r) (by omega)
  have ud := drw_upd w1
  have U1 : Upd [] w (drw w1) := u1.after ud
  have T1 := tw.keep u1
  have Td := T1.keep ud
  have b1d := b1.drw
  have hsl := sim.slots ok
  -- where there is no such slot
  have no : ¬ d.has n → F_law22_slots_k1 d.a t.a K r (drw w1) := by
    intro hno
    unfold F_law22_slots_k1
    simp only [NN_some, addN, drw_cell, drw_heap, exS, exI, exB, exP, exM, exStr, exV, a0, a1, a2, a3, a4, a5, a6, a7, a8, a9, a10, a11, a12, a13, maxI_eq, Nat.zero_add, Nat.add_zero, Nat.mul_one, Option.isNone_some, Option.isNone_none, b1.cell]
    refine ifC (fun _ => ?_) (fun _ => ?_)
    · exact Set_no' (fr.keep U1) ok hno (ifT rfl (g.same bo U1))
    · exact Get_no' (fr.keep U1) ok hno (ifT rfl (ifT rfl (g.same bo U1)))
  simp only [TwD.a, NN_some, addN, drw_cell, drw_heap, exS, exI, exB, exP, exM, exStr, exV, a0, a1, a2, a3, a4, a5, a6, a7, a8, a9, a10, a11, a12, a13, maxI_eq, Nat.zero_add, Nat.add_zero, Nat.mul_one, Option.isNone_some, Option.isNone_none, T1.blk.cell, b1.cell]
  refine ifC (fun gc => ?_) (fun gc => ?_)
  · simp at gc
    have he : 0 ≤ d.env := by
      rcases Int.lt_or_le d.env 0 with h | h
      · rw [sim.cur, eIdx_neg h] at gc; omega
      · exact h
    rw [if_neg (by omega)] at hsl
    refine ifC (fun gn => ?_) (fun gn => ?_)
    · simp at gn
      refine RSlots_ok Td (sim.curOk ok) fun w2 u2 => ?_
      have b2 := b1d.upd u2 (by simp)
      have U2 : Upd [] w w2 := U1.after u2
      have f2 := fr.keep U2
      have T2 := tw.keep U2
      simp only [NN_some, addN, drw_cell, drw_heap, exS, exI, exB, exP, exM, exStr, exV, a0, a1, a2, a3, a4, a5, a6, a7, a8, a9, a10, a11, a12, a13, maxI_eq, Nat.zero_add, Nat.add_zero, Nat.mul_one, Option.isNone_some, Option.isNone_none, b2.cell]
      refine ⟨trivial, ?_⟩
      by_cases hh : d.has n
      · obtain ⟨k0, k1, k2⟩ := hh
        obtain ⟨hc, hi, hE⟩ := sim.curE ok he
        obtain ⟨v, hv1, hv2, hv3⟩ := sim.slotAt ok ⟨k0, k1, k2⟩ hi
        have hlt := (List.getElem?_eq_some_iff.1 hv2).1
        have hel := tw.elen hi
        have e1 : IntKind.i64.wrap (n - 1) = n - 1 := i64id (by omega) (by omega)
        have yes : (!decide (n ≤ t.slots)) = false := by simp; omega
        refine ifC (fun _ => ?_) (fun _ => ?_)
        · refine Set_ok' f2 ok ⟨k0, k1, k2⟩ fun w3 f3 u3 => ifF yes ?_
          have T3 := (T2.upd u3 dis.symm).keep (drw_upd w3)
          have b3 := b2.upd u3 rd
          obtain ⟨b, off, hp, _, y0, y1, y2, _⟩ := T3.e5 hi
          simp only [drw_cell] at y2
          have hb3 := (T2.upd u3 dis.symm).blk
          obtain ⟨yb, yo, hyp, hst⟩ := T3.setSlot (k := (n - 1).toNat) (v := x) hi hlt
          simp only [NN_some, addN, drw_cell, drw_heap, exS, exI, exB, exP, exM, exStr, exV, a0, a1, a2, a3, a4, a5, a6, a7, a8, a9, a10, a11, a12, a13, maxI_eq, Nat.zero_add, Nat.add_zero, Nat.mul_one, Option.isNone_some, Option.isNone_none, hb3.cell, b3.cell, hc, hp, Int.toNat_natCast, y2, e1, hyp]
          refine ⟨by omega, by omega, by omega, by omega, hst fun w4 T4 u4 => ?_⟩
          have hT : t.setSlot (φ d.env) (n - 1).toNat x hi = t.setSlot (φ d.env) (n.toNat - 1) x hi := by rw [show (n - 1).toNat = n.toNat - 1 by omega]
          rw [hT] at T4
          refine g.pair bo f3 (U2.after u3) (Sub.refl _ _) T4 ((drw_upd w3).after u4) (Sub.refl _ _) (ok.set ⟨k0, k1, k2⟩).1 (sim.set ok ⟨k0, k1, k2⟩ hi) rfl rfl ?_ ?_
          · show (t.E.set _ _).length ≤ _; simp
          · show (t.E.set _ _).length < _; simpa using el
        · refine Get_ok' f2 ok ⟨k0, k1, k2⟩ hv1 (ifF yes ?_)
          have T3 := T2.keep (drw_upd w2)
          obtain ⟨b, off, hp, _, y0, y1, y2, _⟩ := T3.e5 hi
          simp only [drw_cell] at y2
          obtain ⟨H, hs, _⟩ := T2.argE.get (φ d.env) hi
          obtain ⟨z, hz, hcz⟩ := hs.rd.at (i := (n - 1).toNat) (by omega)
          rw [List.getElem?_map, hv2] at hcz
          simp only [Option.map_some] at hcz
          simp only [NN_some, addN, drw_cell, drw_heap, exS, exI, exB, exP, exM, exStr, exV, a0, a1, a2, a3, a4, a5, a6, a7, a8, a9, a10, a11, a12, a13, maxI_eq, Nat.zero_add, Nat.add_zero, Nat.mul_one, Option.isNone_some, Option.isNone_none, T2.blk.cell, b2.cell, hc, hp, Int.toNat_natCast, y2, e1, hz, hcz]
          refine ⟨by omega, by omega, by omega, by omega, ifT (by simp) ?_⟩
          exact g.same bo (U2.after (drw_upd w2))
      · have yes : (!decide (n ≤ t.slots)) = true := by unfold FrD.has at hh; simp; omega
        refine ifC (fun _ => ?_) (fun _ => ?_)
        · exact Set_no' f2 ok hh (ifT yes (g.same bo U2))
        · exact Get_no' f2 ok hh (ifT yes (ifT rfl (g.same bo U2)))
    · simp at gn
      exact no (fun hh => by have := hh.2.1; omega)
  · simp at gc
    refine no (fun hh => ?_)
    rw [sim.cur, eIdx_pos hh.1] at gc; omega

/-! ## Choices -/

theorem choices_ok {kind n x c0 c1 h0 h2 h3 h4 h5 h6 h7 h8 : Int} {ap : Option Addr} {an ac : Nat} {K : Bool → World → Prop} (bo : Bo w d cur lev t φ) (g : Goes w d t (K true)) : C_law22_choices d.a t.a kind n x c0 c1 h0 ap an ac h2 h3 h4 h5 h6 h7 h8 w K := by
  obtain ⟨fr, ok, tw, sim, dis, el⟩ := bo
  have bo : Bo w d cur lev t φ := ⟨fr, ok, tw, sim, dis, el⟩
  apply C_law22_choices.of
  unfold F_law22_choices
  refine New_rule fun r w1 hr u1 b1 => ?_
  obtain ⟨rd, rt⟩ := bo.new (r := r) (by omega)
  have T1 := tw.keep u1
  have f1 := fr.keep u1
  have hcl := sim.clen
  have h40 := ok.len40
  have ud := drw_upd w1
  simp only [TwD.a, NN_some, addN, drw_cell, drw_heap, exS, exI, exB, exP, exM, exStr, exV, a0, a1, a2, a3, a4, a5, a6, a7, a8, a9, a10, a11, a12, a13, maxI_eq, Nat.zero_add, Nat.add_zero, Nat.mul_one, Option.isNone_some, Option.isNone_none, T1.blk.cell]
  have e1 : IntKind.i64.wrap ((t.C.length : Int) - 1) = (t.C.length : Int) - 1 := i64id (by omega) (by omega)
  rw [e1]
  by_cases hz : d.l.length = 0
  · have hneg : ((t.C.length : Int) - 1) < 0 := by omega
    refine ifT (by simpa using hneg) ?_
    unfold F_law22_choices_k4 F_law22_choices_k1 F_law22_choices_k2 F_law22_choices_k3
    rw [e1]
    simp only [TwD.a, NN_some, addN, drw_cell, drw_heap, exS, exI, exB, exP, exM, exStr, exV, a0, a1, a2, a3, a4, a5, a6, a7, a8, a9, a10, a11, a12, a13, maxI_eq, Nat.zero_add, Nat.add_zero, Nat.mul_one, Option.isNone_some, Option.isNone_none, T1.blk.cell, b1.cell]
    have hno : decide ((t.C.length : Int) - 1 ≥ 0) = false := by simp; omega
    refine ifC (fun _ => ifF hno (Turn_no f1 hz (g.same bo u1))) fun _ => ifC (fun _ => ifF hno (Drop_no f1 hz (g.same bo u1))) fun _ => ifF hno (Restore_no f1 hz (g.same bo u1))
  · refine ifF (by simp; omega) ?_
    unfold F_law22_choices_k4 F_law22_choices_k1 F_law22_choices_k2 F_law22_choices_k3
    rw [e1]
    have hi : t.C.length - 1 < t.C.length := by omega
    have e2 : ((t.C.length : Int) - 1).toNat = t.C.length - 1 := by omega
    have hyes : decide ((t.C.length : Int) - 1 ≥ 0) = true := by simp; omega
    obtain ⟨b, off, hp, _, hcell⟩ := T1.ccell hi
    have hlast : d.l.length - 1 < d.l.length := by omega
    have hcs : (t.C[t.C.length - 1]).1.2 = (d.l[d.l.length - 1]'hlast).2 := by
      have := congrArg (fun l => l[t.C.length - 1]?) sim.cs
      simp only [FrD.cs, List.getElem?_map] at this
      rw [List.getElem?_eq_getElem hi, List.getElem?_eq_getElem (show t.C.length - 1 < d.l.length by omega)] at this
      simp only [Option.map_some, Option.some.injEq] at this
      rw [this]; simp only [hcl]
    have hix : (t.C[t.C.length - 1]).2 = eIdx φ (d.l[d.l.length - 1]'hlast).2.env := by
      have := congrArg (fun l => l[t.C.length - 1]?) sim.ix
      simp only [FrD.cs, List.getElem?_map] at this
      rw [List.getElem?_eq_getElem hi, List.getElem?_eq_getElem (show t.C.length - 1 < d.l.length by omega)] at this
      simp only [Option.map_some, Option.some.injEq] at this
      rw [this]; simp only [hcl]
    simp only [TwD.a, NN_some, addN, drw_cell, drw_heap, exS, exI, exB, exP, exM, exStr, exV, a0, a1, a2, a3, a4, a5, a6, a7, a8, a9, a10, a11, a12, a13, maxI_eq, Nat.zero_add, Nat.add_zero, Nat.mul_one, Option.isNone_some, Option.isNone_none, T1.blk.cell, b1.cell, hp, e2]
    refine ifC (fun _ => ifT hyes ?_) fun _ => ifC (fun _ => ifT hyes ?_) fun _ => ifT hyes ?_
    · -- Turn
      refine ⟨by omega, by omega, ?_⟩
      obtain ⟨y, hy⟩ : ∃ y : (Sl × Ch) × Int, y = (((t.C[t.C.length - 1]).1.1, { (t.C[t.C.length - 1]).1.2 with c5 := n }), (t.C[t.C.length - 1]).2) := ⟨_, rfl⟩
      refine (T1.keep ud).setC (j := 5) (y := y) hi (by omega) hp (by rw [hy]; rfl) rfl (fun w' hA => ?_) fun w2 T2 u2 => ?_
      · have := ArgsAt.set (y := y.1) (t.C.length - 1) (by simpa using hi) hA (by rw [hy]; simp) (by rw [hy]; simp)
        rw [List.map_set]; exact this
      · have b2 := b1.drw.upd u2 rt
        have f2 := (f1.keep ud).upd u2 dis
        simp only [NN_some, addN, drw_cell, drw_heap, exS, exI, exB, exP, exM, exStr, exV, a0, a1, a2, a3, a4, a5, a6, a7, a8, a9, a10, a11, a12, a13, maxI_eq, Nat.zero_add, Nat.add_zero, Nat.mul_one, Option.isNone_some, Option.isNone_none, b2.cell]
        refine Turn_ok f2 h40 (by omega) fun w3 z hz1 hz2 f3 u3 => ?_
        obtain ⟨ok', _, _⟩ := ok.like (d' := { d with l := d.l.set (d.l.length - 1) z }) rfl rfl (by simp) (tops_set (by omega) hz2) rfl rfl
        have shh : Sht d.l → Sht (d.l.set (d.l.length - 1) z) := fun h q hq => by
          rcases List.mem_or_eq_of_mem_set hq with h1 | h1
          · exact h q h1
          · rw [h1, hz2]; exact h _ (List.getElem_mem hlast)
        refine g.pair2 (φ' := φ) bo T2 ((u1.after ud).after u2) (Sub.refl _ _) f3 u3 (Sub.refl _ _) ok' ?_ rfl rfl (by show t.E.length ≤ _; omega) el shh
        refine sim.sub (fun b hb => ?_) rfl rfl sim.cur ?_ ?_ sim.words sim.lim
        · obtain ⟨q, hq, hbq⟩ := hb
          rcases List.mem_cons.1 hq with rfl | hq
          · exact ⟨_, List.mem_cons_self .., hbq⟩
          · exact ⟨q, List.mem_cons_of_mem _ hq, hbq⟩
        · show (t.C.set _ y).map (·.1.2) = (d.l.set _ z).map (·.2)
          have hcs' : t.C.map (·.1.2) = d.l.map (·.2) := sim.cs
          rw [List.map_set, List.map_set, hcs', hcl, hz2, hy]
          dsimp only
          rw [hcs]
        · show (t.C.set _ y).map (·.2) = ((d.l.set _ z).map (·.2)).map (fun c => eIdx φ c.env)
          have hix' : t.C.map (·.2) = (d.l.map (·.2)).map (fun c => eIdx φ c.env) := sim.ix
          rw [List.map_set, List.map_set, List.map_set, ← hix', hz2, hcl, hy]
          dsimp only
          rw [hix]
    · -- Drop
      refine ⟨by omega, by have := T1.rowC.2.1; omega, ?_⟩
      refine St_rule T1.blk (by simp) rfl fun w2 u2 hb2 => ?_
      simp at hb2
      have n1 : ∀ {X : List Nat}, t.b ∉ X → Dis X [t.b] := fun hx k hk h1 => by simp at h1; subst h1; exact hx hk
      obtain ⟨H, hA, hH⟩ := ArgsAt.take (t.C.length - 1) (T1.argC.upd u2 (n1 T1.bHC))
      have T2 : Tw w2 { t with C := t.C.take (t.C.length - 1), HC := H } := by
        refine ⟨?_, T1.rowE.upd u2 (n1 T1.bGE), T1.argE.upd u2 (n1 T1.bHE), ?_, by rw [List.map_take]; exact hA, T1.bGE, T1.bHE, T1.bGC, fun hx => T1.bHC (hH _ hx), T1.EH, T1.EG, fun k hk hx => T1.EC k hk (hH _ hx), T1.HG, fun k hk hx => T1.HH k hk (hH _ hx), fun k hk hx => T1.CC k hk (hH _ hx)⟩
        · show Blk w2 t.b #[_, _, .slice t.cp (t.C.take (t.C.length - 1)).length t.cc, _, _]
          rw [List.length_take, Nat.min_eq_left (by omega), hp]; exact hb2
        · show SlAt w2 10 t.cp (t.C.take (t.C.length - 1)).length t.cc ((t.C.take (t.C.length - 1)).flatMap cvCells) t.GC
          have := (T1.rowC.upd u2 (n1 T1.bGC)).take (k := t.C.length - 1) (by omega)
          rw [flat_take cvCells_len] at this
          rw [List.length_take, Nat.min_eq_left (by omega)]; exact this
      have f2 := f1.upd u2 (fun k hk h1 => by simp at h1; subst h1; exact dis _ hk (by simp [TwD.F]))
      refine Drop_ok f2 h40 (by omega) fun w3 H3 f3 hH3 u3 => ?_
      obtain ⟨y, r', hyr, ok', _⟩ := ok.dropped (by omega) H3
      refine g.pair2 (φ' := φ) bo T2 (u1.after (u2.mono (by intro k hk; simp at hk; subst hk; simp [TwD.F]))) ?_ f3 u3 ?_ ok' ?_ rfl rfl (by show t.E.length ≤ _; omega) el (fun h q hq => h q (List.mem_of_mem_take hq))
      · intro k hk
        simp only [TwD.F, List.mem_cons, List.mem_append] at hk ⊢
        rcases hk with h | h | h | h | h
        · simp [h]
        · simp [h]
        · simp [h]
        · simp [h]
        · left; simp [hH k h]
      · intro k hk
        simp only [FrD.F, FrD.dropped, List.mem_cons, List.mem_append] at hk ⊢
        rcases hk with h1 | h1 | h1 | h1
        · simp [h1]
        · simp [h1]
        · simp [h1]
        · left; simp [hH3 k h1]
      · refine sim.sub (fun b hb => ?_) rfl rfl sim.cur ?_ ?_ sim.words sim.lim
        · obtain ⟨q, hq, hbq⟩ := hb
          rcases List.mem_cons.1 hq with rfl | hq
          · exact ⟨_, List.mem_cons_self .., hbq⟩
          · exact ⟨q, List.mem_cons_of_mem _ (by rw [hyr]; exact List.mem_cons_of_mem _ hq), hbq⟩
        · show (t.C.take _).map (·.1.2) = (d.l.take _).map (·.2)
          have hcs' : t.C.map (·.1.2) = d.l.map (·.2) := sim.cs
          rw [List.map_take, List.map_take, hcs', hcl]
        · show (t.C.take _).map (·.2) = ((d.l.take _).map (·.2)).map (fun c => eIdx φ c.env)
          have hix' : t.C.map (·.2) = (d.l.map (·.2)).map (fun c => eIdx φ c.env) := sim.ix
          rw [List.map_take, hix', List.map_take, List.map_take, hcl]
    · -- Restore
      have c9 := hcell 9 (by omega)
      simp only [cvCells, List.getElem?_cons_zero, List.getElem?_cons_succ] at c9
      simp only [c9, NN_some, addN, drw_cell, drw_heap, exS, exI, exB, exP, exM, exStr, exV, a0, a1, a2, a3, a4, a5, a6, a7, a8, a9, a10, a11, a12, a13, maxI_eq, Nat.zero_add, Nat.add_zero, Nat.mul_one, Option.isNone_some, Option.isNone_none]
      refine ⟨by omega, by omega, T1.setCur fun w2 T2 u2 => ?_⟩
      have f2 := f1.upd u2 dis
      refine Restore_ok f2 h40 (by omega) fun w3 f3 u3 => ?_
      obtain ⟨y, r', hyr, ok', _⟩ := ok.restored (by omega)
      refine g.pair2 (φ' := φ) bo T2 (u1.after u2) (Sub.refl _ _) f3 u3 (Sub.refl _ _) ok' ?_ rfl rfl (by show t.E.length ≤ _; omega) el
      refine sim.sub (fun b hb => ?_) rfl rfl ?_ sim.cs sim.ix sim.words sim.lim
      · obtain ⟨q, hq, hbq⟩ := hb
        rcases List.mem_cons.1 hq with rfl | hq
        · exact ⟨y, by rw [hyr]; simp, hbq⟩
        · exact ⟨q, List.mem_cons_of_mem _ hq, hbq⟩
      · show (t.C[t.C.length - 1]).2 = eIdx φ d.restored.env
        rw [hix]
        unfold FrD.restored
        rw [tops_head (by omega)]
        rfl
end

end Go.Proofs.Ytdmjbkpibgfeiaa
