/- All words and arguments are changed: the document's. -/
import Derived.Test.YtdmjbkpibgfeiaaChange
namespace Go.Proofs.Ytdmjbkpibgfeiaa
open Go Go.D Go.Proofs
set_option linter.unusedSimpArgs false
set_option linter.unusedVariables false
set_option maxRecDepth 8000

section
variable {w : World} {d : FrD} {cur : List Int} {lev : List Level} {t : TwD} {φ : Int → Nat} {cw : Int}

def nodeIdx (cur : List Int) (lev : List Level) (d : FrD) (t : TwD) (φ : Int → Nat) (i : Nat) : Prop := Node ((cur, d.env, d.top) :: lev) (er t i).2.env ∧ φ (er t i).2.env = i

open Classical in
noncomputable def selL (cur : List Int) (lev : List Level) (d : FrD) (t : TwD) (φ : Int → Nat) (n : Nat) : List Nat := (List.range n).filter fun i => decide (nodeIdx cur lev d t φ i)

theorem sel_mem {n i : Nat} : i ∈ selL cur lev d t φ n ↔ i < n ∧ nodeIdx cur lev d t φ i := by
  unfold selL
  simp [List.mem_filter]

theorem sel_succ (n : Nat) : (nodeIdx cur lev d t φ n → selL cur lev d t φ (n + 1) = selL cur lev d t φ n ++ [n]) ∧ (¬ nodeIdx cur lev d t φ n → selL cur lev d t φ (n + 1) = selL cur lev d t φ n) := by
  unfold selL
  rw [List.range_succ, List.filter_append]
  constructor
  · intro h; simp [h]
  · intro h; simp [h]

theorem sel_nodup (n : Nat) : (selL cur lev d t φ n).Nodup := List.Sublist.nodup List.filter_sublist List.nodup_range

theorem sel_len (n : Nat) : (selL cur lev d t φ n).length ≤ n := by
  unfold selL
  have := List.length_filter_le (fun i => @decide (nodeIdx cur lev d t φ i) (Classical.propDecidable _)) (List.range n)
  simpa using this

def TwD.wE (t : TwD) (E : List (Sl × Ch)) : TwD := { t with E := E }
def TwD.wC (t : TwD) (C : List ((Sl × Ch) × Int)) : TwD := { t with C := C }

/-- One record's slots. -/
theorem slots_change {rc : Nat} {m i1 : Nat} {lP : Option Addr} {lN lC : Nat} {l : List Nat} {G : List Nat} {E1 : List (Sl × Ch)} {K : World → Prop} (h : Tw w (t.wE E1)) (hrc : Blk w rc #[.int .u64 cw]) (hrcF : rc ∉ t.F) (hs : SlAt w 1 lP lN lC (l.map fun (n : Nat) => Value.int .i64 (n : Int)) G) (hG : Dis G t.F)
    (hm : m < l.length) (hml : l[m] = i1) (hi : i1 < E1.length) (hl : E1[i1].2.args.length < 2 ^ 40)
    (hK : ∀ w', Tw w' (t.wE (E1.set i1 (chL cw E1[i1]))) → Upd t.F w w' → K w') : F_law22_changed_L3 t.a ⟨rc, 0, none⟩ lP lN lC (m : Int) ⟨0⟩ w K := by
  unfold F_law22_changed_L3
  have hlN : lN = l.length := by have := hs.1; simp at this; omega
  refine ⟨fun s y => ∃ (k : Nat) (E2 : List (Sl × Ch)), s.k = k ∧ k ≤ E1[i1].2.args.length ∧ E2 = E1.set i1 (E1[i1].1, { E1[i1].2 with args := (E1[i1].2.args.take k).map (chg cw) ++ E1[i1].2.args.drop k }) ∧ Tw y (t.wE E2) ∧ Upd t.F w y, fun s _ => (E1[i1].2.args.length - s.k).toNat, ⟨0, E1, rfl, by omega, ?_, h, Upd.refl _ _⟩, ?_⟩
  · apply List.ext_getElem (by simp)
    intro j h1 h2
    by_cases hj : j = i1
    · subst hj; rw [List.getElem_set_self]; simp
    · rw [List.getElem_set_ne (Ne.symm hj)]
  rintro ⟨tk⟩ y ⟨k, E2, hk0, hk, hE2, Ty, uy⟩
  dsimp only at hk0
  subst hk0
  unfold B_law22_changed_L3
  dsimp only
  have hiE : i1 < E2.length := by rw [hE2]; simpa using hi
  have e2 : E2[i1] = (E1[i1].1, { E1[i1].2 with args := (E1[i1].2.args.take k).map (chg cw) ++ E1[i1].2.args.drop k }) := by simp only [hE2, List.getElem_set_self]
  have brc := hrc.upd uy hrcF
  have hsy := hs.upd uy hG
  obtain ⟨z, hz, hcz⟩ := hsy.rd.at (i := m) (by omega)
  rw [List.getElem?_map, List.getElem?_eq_getElem hm, hml] at hcz
  simp only [Option.map_some] at hcz
  obtain ⟨b, off, hp, _, _, _, x2, _⟩ := Ty.e5 (i := i1) hiE
  have hp' : t.ep = some ⟨b, off, none⟩ := hp
  have x2' : y.cell? ⟨b, off + i1 * 5 + 2, none⟩ = some (.slice E1[i1].1.1 E1[i1].1.2.1 E1[i1].1.2.2) := by
    have := x2
    rw [show ((t.wE E2).E[i1]'hiE) = E2[i1] from rfl, e2] at this
    exact this
  have b0 : y.cell? ⟨t.b, 0, none⟩ = some (.slice t.ep E2.length t.ec) := by rw [show t.b = (t.wE E2).b from rfl, Ty.blk.cell]; rfl
  have hel : E1[i1].1.2.1 = E1[i1].2.args.length := h.elen (i := i1) hi
  simp only [TwD.a, NN_some, addN, drw_cell, drw_heap, exS, exI, exB, exP, exM, exStr, exV, a0, a1, a2, a3, a4, a5, a6, a7, a8, a9, a10, a11, a12, a13, maxI_eq, Nat.zero_add, Nat.add_zero, Nat.mul_one, Option.isNone_some, Option.isNone_none, b0, hz, hcz, Int.toNat_natCast, hp', x2']
  refine ⟨by omega, by omega, by omega, by omega, ifC (fun g => ?_) (fun g => ?_)⟩
  · simp at g
    have hkl : k < E1[i1].2.args.length := by omega
    have hargs2 : E2[i1].2.args[k]? = some (E1[i1].2.args[k]) := by
      rw [e2]
      dsimp only
      rw [List.getElem?_append_right (by simp; omega)]
      simp only [List.length_map, List.length_take, Nat.min_eq_left (Nat.le_of_lt hkl), Nat.sub_self]
      rw [List.getElem?_drop, Nat.add_zero, List.getElem?_eq_getElem hkl]
    have hk2 : k < E2[i1].2.args.length := (List.getElem?_eq_some_iff.1 hargs2).1
    obtain ⟨H2, hs2, _⟩ := Ty.argE.get i1 hiE
    obtain ⟨yb, yo, hyp, hst⟩ := ((Ty.keep (drw_upd y)).keep (drw_upd (drw y))).setSlot (k := k) (v := chg cw (E1[i1].2.args[k])) hiE hk2
    have hyp' : E1[i1].1.1 = some ⟨yb, yo, none⟩ := by
      have : E2[i1].1.1 = some ⟨yb, yo, none⟩ := hyp
      rw [e2] at this; exact this
    obtain ⟨z2, hz2, hcz2⟩ := hs2.rd.at (i := k) (by have h3 := hs2.1; simp at h3; show k < E2[i1].1.2.1 * 1; rw [Nat.mul_one]; have h4 : E2[i1].2.args.length = E2[i1].1.2.1 := h3; omega)
    have hz2' : E1[i1].1.1 = some z2 := by
      have : E2[i1].1.1 = some z2 := hz2
      rw [e2] at this; exact this
    obtain rfl : z2 = ⟨yb, yo, none⟩ := by rw [hz2'] at hyp'; exact Option.some.inj hyp'
    have hcz2' : y.cell? ⟨yb, yo + k, none⟩ = some (.int .u64 (E1[i1].2.args[k])) := by
      rw [addN] at hcz2
      rw [hcz2, List.getElem?_map]
      show (E2[i1].2.args[k]?).map _ = _
      rw [hargs2]; rfl
    simp only [hyp', NN_some, addN, drw_cell, drw_heap, exS, exI, exB, exP, exM, exStr, exV, a0, a1, a2, a3, a4, a5, a6, a7, a8, a9, a10, a11, a12, a13, maxI_eq, Nat.zero_add, Nat.add_zero, Nat.mul_one, Option.isNone_some, Option.isNone_none, hcz2', b0, hz, hcz, Int.toNat_natCast, hp', x2']
    refine ⟨by omega, by omega, by omega, by omega, by omega, by omega, by omega, by omega, by omega, by omega, ?_⟩
    refine changer_ok (brc.drw.drw) ⟨?_, ?_, ?_, by omega, by omega, hst fun y2 Ty2 uy2 => ?_⟩
    · first | rfl | (rw [drw_cell, drw_cell, x2', hyp']) | (rw [drw_cell, drw_cell, x2'])
    · first | rfl | (rw [drw_cell, drw_cell, hcz])
    · first | rfl | (rw [drw_cell, drw_cell, b0, hp']) | (rw [drw_cell, drw_cell, b0])
    rw [i64id (by omega) (by omega)]
    refine ⟨⟨k + 1, _, by simp, by omega, ?_, Ty2, uy.both (((drw_upd y).after (drw_upd (drw y))).after uy2)⟩, by omega⟩
    show E2.set i1 (E2[i1].1, { E2[i1].2 with args := E2[i1].2.args.set k _ }) = _
    rw [e2, hE2, List.set_set]
    congr 1
    dsimp only
    congr 2
    have hmin : (List.map (chg cw) (E1[i1].2.args.take k)).length = k := by simp; omega
    rw [List.set_append_right _ _ (by omega), hmin, Nat.sub_self]
    rw [List.take_succ_eq_append_getElem hkl, List.map_append, List.append_assoc]
    congr 1
    rw [List.drop_eq_getElem_cons hkl]
    rfl
  · simp at g
    have hkk : k = E1[i1].2.args.length := by omega
    have T' := Ty.keep (drw_upd y)
    have e : E2 = E1.set i1 (chL cw E1[i1]) := by
      rw [hE2, hkk]
      unfold chL
      simp
    rw [e] at T'
    exact hK _ T' (uy.before (drw_upd y))

def chC (cw : Int) (x : (Sl × Ch) × Int) : (Sl × Ch) × Int := (chL cw x.1, x.2)

/-- One choice's arguments. -/
theorem args_change {rc i : Nat} {C1 : List ((Sl × Ch) × Int)} {K : World → Prop} (h : Tw w (t.wC C1)) (hrc : Blk w rc #[.int .u64 cw]) (hrcF : rc ∉ t.F) (hi : i < C1.length) (hl : C1[i].1.2.args.length < 2 ^ 40)
    (hK : ∀ w', Tw w' (t.wC (C1.set i (chC cw C1[i]))) → Upd t.F w w' → K w') : F_law22_changed_L5 t.a ⟨rc, 0, none⟩ (i : Int) ⟨0⟩ w K := by
  unfold F_law22_changed_L5
  refine ⟨fun s y => ∃ (k : Nat) (C2 : List ((Sl × Ch) × Int)), s.k_1 = k ∧ k ≤ C1[i].1.2.args.length ∧ C2 = C1.set i ((C1[i].1.1, { C1[i].1.2 with args := (C1[i].1.2.args.take k).map (chg cw) ++ C1[i].1.2.args.drop k }), C1[i].2) ∧ Tw y (t.wC C2) ∧ Upd t.F w y, fun s _ => (C1[i].1.2.args.length - s.k_1).toNat, ⟨0, C1, rfl, by omega, ?_, h, Upd.refl _ _⟩, ?_⟩
  · apply List.ext_getElem (by simp)
    intro j h1 h2
    by_cases hj : j = i
    · subst hj; rw [List.getElem_set_self]; simp
    · rw [List.getElem_set_ne (Ne.symm hj)]
  rintro ⟨tk⟩ y ⟨k, C2, hk0, hk, hC2, Ty, uy⟩
  dsimp only at hk0
  subst hk0
  unfold B_law22_changed_L5
  dsimp only
  have hiC : i < C2.length := by rw [hC2]; simpa using hi
  have e2 : C2[i] = ((C1[i].1.1, { C1[i].1.2 with args := (C1[i].1.2.args.take k).map (chg cw) ++ C1[i].1.2.args.drop k }), C1[i].2) := by simp only [hC2, List.getElem_set_self]
  have brc := hrc.upd uy hrcF
  obtain ⟨b, off, hp, _, hcell⟩ := Ty.ccell (i := i) hiC
  have x1 := hcell 1 (by omega)
  have hp' : t.cp = some ⟨b, off, none⟩ := hp
  have x1' : y.cell? ⟨b, off + i * 10 + 1, none⟩ = some (.slice C1[i].1.1.1 C1[i].1.1.2.1 C1[i].1.1.2.2) := by
    rw [x1, show ((t.wC C2).C[i]'hiC) = C2[i] from rfl, e2]; rfl
  have b2 : y.cell? ⟨t.b, 2, none⟩ = some (.slice t.cp C2.length t.cc) := by rw [show t.b = (t.wC C2).b from rfl, Ty.blk.cell]; rfl
  have hal : C1[i].1.1.2.1 = C1[i].1.2.args.length := by
    obtain ⟨H, hs, _⟩ := h.argC.get i (by simpa [TwD.wC] using hi)
    have := hs.1
    simp [TwD.wC] at this; omega
  simp only [TwD.a, NN_some, addN, drw_cell, drw_heap, exS, exI, exB, exP, exM, exStr, exV, a0, a1, a2, a3, a4, a5, a6, a7, a8, a9, a10, a11, a12, a13, maxI_eq, Nat.zero_add, Nat.add_zero, Nat.mul_one, Option.isNone_some, Option.isNone_none, b2, Int.toNat_natCast, hp', x1']
  refine ⟨by omega, by omega, ifC (fun g => ?_) (fun g => ?_)⟩
  · simp at g
    have hkl : k < C1[i].1.2.args.length := by omega
    have hargs2 : C2[i].1.2.args[k]? = some (C1[i].1.2.args[k]) := by
      rw [e2]
      dsimp only
      rw [List.getElem?_append_right (by simp; omega)]
      simp only [List.length_map, List.length_take, Nat.min_eq_left (Nat.le_of_lt hkl), Nat.sub_self]
      rw [List.getElem?_drop, Nat.add_zero, List.getElem?_eq_getElem hkl]
    have hk2 : k < C2[i].1.2.args.length := (List.getElem?_eq_some_iff.1 hargs2).1
    obtain ⟨H2, hs2, _⟩ := Ty.argC.get i (by simpa [TwD.wC] using hiC)
    simp only [List.getElem_map] at hs2
    obtain ⟨yb, yo, hyp, hst⟩ := (Ty.keep (drw_upd y)).setArg (k := k) (v := chg cw (C1[i].1.2.args[k])) hiC hk2
    have hyp' : C1[i].1.1.1 = some ⟨yb, yo, none⟩ := by
      have : C2[i].1.1.1 = some ⟨yb, yo, none⟩ := hyp
      rw [e2] at this; exact this
    obtain ⟨z2, hz2, hcz2⟩ := hs2.rd.at (i := k) (by have h3 := hs2.1; simp at h3; show k < C2[i].1.1.2.1 * 1; rw [Nat.mul_one]; have h4 : C2[i].1.2.args.length = C2[i].1.1.2.1 := h3; omega)
    have hz2' : C1[i].1.1.1 = some z2 := by
      have : C2[i].1.1.1 = some z2 := hz2
      rw [e2] at this; exact this
    obtain rfl : z2 = ⟨yb, yo, none⟩ := by rw [hz2'] at hyp'; exact Option.some.inj hyp'
    have hcz2' : y.cell? ⟨yb, yo + k, none⟩ = some (.int .u64 (C1[i].1.2.args[k])) := by
      rw [addN] at hcz2
      rw [hcz2, List.getElem?_map]
      show (C2[i].1.2.args[k]?).map _ = _
      rw [hargs2]; rfl
    simp only [hyp', NN_some, addN, drw_cell, drw_heap, exS, exI, exB, exP, exM, exStr, exV, a0, a1, a2, a3, a4, a5, a6, a7, a8, a9, a10, a11, a12, a13, maxI_eq, Nat.zero_add, Nat.add_zero, Nat.mul_one, Option.isNone_some, Option.isNone_none, hcz2', b2, Int.toNat_natCast, hp', x1']
    refine ⟨by omega, by omega, by omega, by omega, by omega, by omega, ?_⟩
    refine changer_ok (brc.drw) ⟨?_, ?_, by omega, by omega, hst fun y2 Ty2 uy2 => ?_⟩
    · first | rfl | (rw [drw_cell, x1', hyp']) | (rw [drw_cell, x1'])
    · first | rfl | (rw [drw_cell, b2, hp']) | (rw [drw_cell, b2])
    rw [i64id (by omega) (by omega)]
    refine ⟨⟨k + 1, _, by simp, by omega, ?_, Ty2, uy.both ((drw_upd y).after uy2)⟩, by omega⟩
    show C2.set i ((C2[i].1.1, { C2[i].1.2 with args := C2[i].1.2.args.set k _ }), C2[i].2) = _
    rw [e2, hC2, List.set_set]
    congr 1
    dsimp only
    congr 3
    have hmin : (List.map (chg cw) (C1[i].1.2.args.take k)).length = k := by simp; omega
    rw [List.set_append_right _ _ (by omega), hmin, Nat.sub_self]
    rw [List.take_succ_eq_append_getElem hkl, List.map_append, List.append_assoc]
    congr 1
    rw [List.drop_eq_getElem_cons hkl]
    rfl
  · simp at g
    have hkk : k = C1[i].1.2.args.length := by omega
    have e : C2 = C1.set i (chC cw C1[i]) := by
      rw [hC2, hkk]
      unfold chC chL
      simp
    rw [e] at Ty
    exact hK _ Ty uy

open Classical in
theorem changed_ok {K : World → Prop} (h : Tw w t) (ok : Ok d cur lev) (sim : Sim d cur lev t φ) (hel : t.E.length < 2 ^ 20) (hC : ∀ x ∈ t.C, x.1.2.args.length < 2 ^ 40)
    (hK : ∀ w' E', E'.length = t.E.length → (∀ i (hi : i < t.E.length) (hi' : i < E'.length), E'[i] = if nodeIdx cur lev d t φ i then chL cw t.E[i] else t.E[i]) → Tw w' { t with E := E', C := t.C.map (chC cw) } → Upd t.F w w' → K w') : C_law22_changed t.a cw w K := by
  apply C_law22_changed.of
  unfold F_law22_changed F_law22_changed_L1
  have hE : ∀ i (hi : i < t.E.length), nodeIdx cur lev d t φ i → t.E[i].2.args.length < 2 ^ 40 := fun i hi ⟨n1, n2⟩ => by
    have q := (sim.node _ n1).2
    rw [n2, er_eq hi] at q
    rw [q]
    show (rowOf d.W _).length < _
    have := ok.Wl; have := ok.wl
    unfold rowOf; simp; omega
  refine New_rule fun rc w1 hr u1 hrc => ?_
  have T1 := h.keep u1
  have hrcF : rc ∉ t.F := fun hx => by have := h.inn _ hx; omega
  obtain ⟨S, hS⟩ : ∃ S : Nat → List Nat, S = selL cur lev d t φ := ⟨_, rfl⟩
  refine ⟨fun s v => ∃ (i : Nat) (G : List Nat), s.i = i ∧ i ≤ t.E.length ∧ SlAt v 1 s.lP s.lN s.lC ((S i).map fun (n : Nat) => Value.int .i64 (n : Int)) G ∧ Upd [] w1 v ∧ Since G w1, fun s _ => (t.E.length - s.i).toNat, ⟨0, [], rfl, by omega, by rw [hS]; simpa [selL] using SlAt.nil w1 1, Upd.refl _ _, by intro k hk; cases hk⟩, ?_⟩
  rintro ⟨lP, lN, lC, si⟩ v ⟨i, G, hi0, hi, hs, uv, sG⟩
  dsimp only at hi0 hs
  subst hi0
  unfold B_law22_changed_L1 F_law22_changed_k1
  dsimp only
  have Tv := T1.keep uv
  have hSl := sel_len (cur := cur) (lev := lev) (d := d) (t := t) (φ := φ) i
  rw [← hS] at hSl
  have hlN : lN = (S i).length := by have := hs.1; simp at this; omega
  simp only [TwD.a, NN_some, addN, drw_cell, drw_heap, exS, exI, exB, exP, exM, exStr, exV, a0, a1, a2, a3, a4, a5, a6, a7, a8, a9, a10, a11, a12, a13, maxI_eq, Nat.zero_add, Nat.add_zero, Nat.mul_one, Option.isNone_some, Option.isNone_none, Tv.blk.cell]
  refine ifC (fun g => ?_) (fun g => ?_)
  · simp at g
    obtain ⟨b, off, hp, _, x0, _⟩ := Tv.e5 g
    simp only [hp, NN_some, addN, drw_cell, drw_heap, exS, exI, exB, exP, exM, exStr, exV, a0, a1, a2, a3, a4, a5, a6, a7, a8, a9, a10, a11, a12, a13, maxI_eq, Nat.zero_add, Nat.add_zero, Nat.mul_one, Option.isNone_some, Option.isNone_none, Int.toNat_natCast, x0]
    refine ⟨by omega, by omega, RAt_ok Tv ok sim fun v2 u2 => ?_⟩
    have e1 : IntKind.i64.wrap ((i : Int) + 1) = (i : Int) + 1 := i64id (by omega) (by omega)
    rw [e1]
    have her : er t i = t.E[i] := er_eq g
    have hiff : ((if Node ((cur, d.env, d.top) :: lev) t.E[i].2.env then ((φ t.E[i].2.env : Nat) : Int) else -1) == (i : Int)) = decide (nodeIdx cur lev d t φ i) := by
      unfold nodeIdx
      rw [her]
      by_cases hnd : Node ((cur, d.env, d.top) :: lev) t.E[i].2.env
      · rw [if_pos hnd]
        by_cases hph : φ t.E[i].2.env = i
        · simp [hnd, hph]
        · have : ¬ ((φ t.E[i].2.env : Nat) : Int) = (i : Int) := by omega
          simp [hnd, hph, this]
      · rw [if_neg hnd]
        have : ¬ (-1 : Int) = (i : Int) := by omega
        simp [hnd, this]
    obtain ⟨s1, s2⟩ := sel_succ (cur := cur) (lev := lev) (d := d) (t := t) (φ := φ) i
    rw [← hS] at s1 s2
    refine ifC (fun g2 => ?_) (fun g2 => ?_)
    · rw [hiff] at g2
      have hnI := of_decide_eq_true g2
      refine BSlL_rule eS_44 [.int .i64 (i : Int)] (by rfl) (by simp [Value.cells]) (by rfl) (by omega) fun v3 hs3 u3 => ?_
      refine App_rule (hE := eS_44) ((hs.upd u2 (by intro k _ h; cases h)).upd u3 (by intro k _ h; cases h)) hs3 (by simp [Value.cells, Value.oneCell']) (by omega) fun p4 c4 G4 v4 hs4 u4 s4 => ?_
      refine ⟨⟨i + 1, G4, by simp, by omega, ?_, ((uv.after u2).after u3).fresh u4 sG, sG.step s4 ((uv.after u2).after u3).size⟩, by omega⟩
      rw [s1 hnI, List.map_append]
      simpa [Value.cells] using hs4
    · rw [hiff] at g2
      have hnI := of_decide_eq_false g2
      refine ⟨⟨i + 1, G, by simp, by omega, ?_, uv.after u2, sG⟩, by omega⟩
      rw [s2 hnI]
      exact hs.upd u2 (by intro k _ h; cases h)
  · simp at g
    obtain rfl : i = t.E.length := by omega
    have hGF : Dis G t.F := fun k hk hx => by have h5 := sG k hk; have := h.inn k hx; have := u1.size; omega
    have hrcv := hrc.upd uv (by simp)
    unfold F_law22_changed_L2
    refine ⟨fun s y => ∃ (m : Nat) (E1 : List (Sl × Ch)), s.i_1 = m ∧ m ≤ (S t.E.length).length ∧ E1.length = t.E.length ∧ (∀ j (hj : j < t.E.length) (hj' : j < E1.length), E1[j] = if j ∈ (S t.E.length).take m then chL cw t.E[j] else t.E[j]) ∧ Tw y (t.wE E1) ∧ Upd t.F v y, fun s _ => ((S t.E.length).length - s.i_1).toNat, ⟨0, t.E, rfl, by omega, rfl, fun j hj hj' => by simp, Tv, Upd.refl _ _⟩, ?_⟩
    rintro ⟨tm⟩ y ⟨m, E1, hm0, hm, hE1, hat, Ty, uy⟩
    dsimp only at hm0
    subst hm0
    unfold B_law22_changed_L2
    dsimp only
    have hrcy := hrcv.upd uy hrcF
    refine ifC (fun g2 => ?_) (fun g2 => ?_)
    · simp at g2
      have hml : m < (S t.E.length).length := by omega
      obtain ⟨i1, hi1⟩ : ∃ i1, i1 = (S t.E.length)[m] := ⟨_, rfl⟩
      have hmem : i1 ∈ S t.E.length := by rw [hi1]; exact List.getElem_mem hml
      have hmem' := hmem
      rw [hS, sel_mem] at hmem'
      have hiE : i1 < E1.length := by omega
      have hnd : (S t.E.length).Nodup := by rw [hS]; exact sel_nodup _
      have hnot : i1 ∉ (S t.E.length).take m := by
        intro hx
        obtain ⟨q, hq, hqe⟩ := List.getElem_of_mem hx
        rw [List.length_take] at hq
        rw [List.getElem_take, hi1] at hqe
        exact List.pairwise_iff_getElem.1 hnd q m (by omega) hml (by omega) hqe
      have he1 : E1[i1] = t.E[i1]'hmem'.1 := by rw [hat i1 hmem'.1 hiE, if_neg hnot]
      refine slots_change Ty hrcy hrcF (hs.upd uy hGF) hGF hml hi1.symm hiE (by rw [he1]; exact hE i1 hmem'.1 hmem'.2) fun y2 T2 uy2 => ?_
      rw [i64id (by omega) (by omega)]
      refine ⟨⟨m + 1, _, by simp, by omega, by rw [List.length_set]; exact hE1, fun j hj hj' => ?_, T2, uy.both uy2⟩, by omega⟩
      rw [List.take_succ_eq_append_getElem hml, ← hi1]
      by_cases hji : j = i1
      · subst hji
        rw [List.getElem_set_self, if_pos (by simp), he1]
      · rw [List.getElem_set_ne (Ne.symm hji), hat j hj (by omega)]
        by_cases hjm : j ∈ (S t.E.length).take m
        · rw [if_pos hjm, if_pos (by simp [hjm])]
        · rw [if_neg hjm, if_neg (by simp [hjm, hji])]
    · simp at g2
      have hmm : m = (S t.E.length).length := by omega
      have hat' : ∀ i (hi : i < t.E.length) (hi' : i < E1.length), E1[i] = if nodeIdx cur lev d t φ i then chL cw t.E[i] else t.E[i] := by
        intro j hj hj'
        rw [hat j hj hj', hmm, List.take_length]
        by_cases hn : nodeIdx cur lev d t φ j
        · rw [if_pos hn, if_pos (by rw [hS, sel_mem]; exact ⟨hj, hn⟩)]
        · rw [if_neg hn, if_neg (by rw [hS, sel_mem]; exact fun hx => hn hx.2)]
      unfold F_law22_changed_L4
      have hcl := sim.clen
      have h40 := ok.len40
      refine ⟨fun s z => ∃ (i : Nat) (C1 : List ((Sl × Ch) × Int)), s.i_3 = i ∧ i ≤ t.C.length ∧ C1.length = t.C.length ∧ (∀ j (hj : j < t.C.length) (hj' : j < C1.length), C1[j] = if j < i then chC cw t.C[j] else t.C[j]) ∧ Tw z ((t.wE E1).wC C1) ∧ Upd t.F y z, fun s _ => (t.C.length - s.i_3).toNat, ⟨0, t.C, rfl, by omega, rfl, fun j hj hj' => by rw [if_neg (by omega)], Ty, Upd.refl _ _⟩, ?_⟩
      rintro ⟨ti⟩ z ⟨i, C1, hi0, hi, hC1, hatc, Tz, uz⟩
      dsimp only at hi0
      subst hi0
      unfold B_law22_changed_L4
      dsimp only
      have b2 : z.cell? ⟨t.b, 2, none⟩ = some (.slice t.cp C1.length t.cc) := by rw [show t.b = ((t.wE E1).wC C1).b from rfl, Tz.blk.cell]; rfl
      simp only [TwD.a, NN_some, addN, drw_cell, drw_heap, exS, exI, exB, exP, exM, exStr, exV, a0, a1, a2, a3, a4, a5, a6, a7, a8, a9, a10, a11, a12, a13, maxI_eq, Nat.zero_add, Nat.add_zero, Nat.mul_one, Option.isNone_some, Option.isNone_none, b2]
      refine ifC (fun g3 => ?_) (fun g3 => ?_)
      · simp at g3
        have hit : i < t.C.length := by omega
        have hic : i < C1.length := by omega
        have he1 : C1[i] = t.C[i] := by rw [hatc i hit hic, if_neg (by omega)]
        refine args_change (t := t.wE E1) Tz (hrcy.upd uz hrcF) hrcF hic (by rw [he1]; exact hC _ (List.getElem_mem _)) fun z2 T2 uz2 => ?_
        rw [i64id (by omega) (by omega)]
        refine ⟨⟨i + 1, _, by simp, by omega, by rw [List.length_set]; exact hC1, fun j hj hj' => ?_, T2, uz.both uz2⟩, by omega⟩
        by_cases hji : j = i
        · subst hji
          rw [List.getElem_set_self, if_pos (by omega), he1]
        · rw [List.getElem_set_ne (Ne.symm hji), hatc j hj (by omega)]
          by_cases h1 : j < i
          · rw [if_pos h1, if_pos (by omega)]
          · rw [if_neg h1, if_neg (by omega)]
      · simp at g3
        have hii : i = t.C.length := by omega
        have : C1 = t.C.map (chC cw) := by
          apply List.ext_getElem (by simp [hC1])
          intro j h1 h2
          rw [hatc j (by omega) h1, if_pos (by omega), List.getElem_map]
        subst this
        exact hK z E1 hE1 hat' Tz ((u1.after uv).after (uy.both uz))
end

end Go.Proofs.Ytdmjbkpibgfeiaa
