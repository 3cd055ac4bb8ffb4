/- Every call of a table, in every order: one call; the law. -/
import Derived.Test.YtpkfckfdehaamaaRef
namespace Go.Proofs.Ytpkfckfdehaamaa
open Go Go.D Go.Proofs
set_option linter.unusedSimpArgs false
set_option linter.unusedVariables false
set_option maxRecDepth 8000

def fR (x : Re) : Int × Key := (x.1, nk x.2)
def gE (e : En) : Int × Key := (e.id, e.key)

/-- The same entries. -/
def Rel (E : List En) (R : List Re) : Prop := R.map fR = E.map gE

theorem Rel.len {E : List En} {R : List Re} (h : Rel E R) : R.length = E.length := by have := congrArg List.length h; simpa using this

theorem Rel.drop {E : List En} {R : List Re} (h : Rel E R) (i : Nat) : Rel (E.drop i) (R.drop i) := by unfold Rel at *; rw [List.map_drop, List.map_drop, h]

theorem Rel.ids {E : List En} {R : List Re} (h : Rel E R) : R.map (·.1) = E.map (·.id) := by
  have := congrArg (List.map Prod.fst) h
  rw [List.map_map, List.map_map] at this
  exact this

theorem meets_nk (k' k : Key) : meets (nk k') k = meets k' k := by
  unfold nk
  split
  · rename_i h; simp [meets, h, zk]
  · rfl

theorem Rel.find {E : List En} {R : List Re} (h : Rel E R) (k : Key) : (R.find? fun x => meets x.2 k).map fR = (E.find? fun e => meets e.key k).map gE := by
  have h1 : (R.map fR).find? (fun y => meets y.2 k) = (R.find? fun x => meets x.2 k).map fR := by
    rw [List.find?_map]
    congr 1
    apply findCongr
    intro x _
    exact meets_nk x.2 k
  have h2 : (E.map gE).find? (fun y => meets y.2 k) = (E.find? fun e => meets e.key k).map gE := by
    rw [List.find?_map]; rfl
  rw [← h1, ← h2, h]

theorem Rel.find1 {E : List En} {R : List Re} (h : Rel E R) (k : Key) : ((R.find? fun x => meets x.2 k).map (·.1)).getD 0 = ((E.find? fun e => meets e.key k).map (·.id)).getD 0 ∧ (R.find? fun x => meets x.2 k).isSome = (E.find? fun e => meets e.key k).isSome := by
  have := h.find k
  rcases ha : R.find? (fun x => meets x.2 k) with _ | x
  · rcases hb : E.find? (fun e => meets e.key k) with _ | e
    · rw [ha, hb]; exact ⟨rfl, rfl⟩
    · rw [ha, hb] at this; simp at this
  · rcases hb : E.find? (fun e => meets e.key k) with _ | e
    · rw [ha, hb] at this; simp at this
    · rw [ha, hb] at this
      rw [ha, hb]
      simp [fR, gE] at this
      exact ⟨this.1, rfl⟩

theorem Rel.met {E : List En} {R : List Re} (h : Rel E R) (k : Key) : (R.filter fun x => meets x.2 k).map (·.1) = (metE E k).map (·.id) := by
  have h1 : (R.map fR).filter (fun y => meets y.2 k) = (R.filter fun x => meets x.2 k).map fR := by
    rw [List.filter_map]
    congr 1
    apply List.filter_congr
    intro x _
    exact meets_nk x.2 k
  have h2 : (E.map gE).filter (fun y => meets y.2 k) = (E.filter fun e => meets e.key k).map gE := by
    rw [List.filter_map]; rfl
  have h3 : (R.filter fun x => meets x.2 k).map fR = (E.filter fun e => meets e.key k).map gE := by rw [← h1, ← h2, h]
  have := congrArg (List.map Prod.fst) h3
  rw [List.map_map, List.map_map] at this
  exact this

theorem Rel.at_ {E : List En} {R : List Re} (h : Rel E R) (id : Int) : atR R id = E.findIdx? fun e => decide (e.id = id) := by
  unfold atR
  have h1 : (R.map (·.1)).findIdx? (fun y => decide (y = id)) = R.findIdx? fun x => decide (x.1 = id) := by rw [List.findIdx?_map]; rfl
  have h2 : (E.map (·.id)).findIdx? (fun y => decide (y = id)) = E.findIdx? fun e => decide (e.id = id) := by rw [List.findIdx?_map]; rfl
  rw [← h1, ← h2, h.ids]

theorem Rel.none {E : List En} {R : List Re} (h : Rel E R) {id : Int} : atR R id = none ↔ id ∉ E.map (·.id) := by
  rw [h.at_, List.findIdx?_eq_none_iff]
  simp

theorem Rel.some {E : List En} {R : List Re} (h : Rel E R) {id : Int} {i : Nat} (hi : atR R id = some i) : ∃ hl : i < E.length, E[i].id = id := by
  rw [h.at_, List.findIdx?_eq_some_iff_getElem] at hi
  exact ⟨hi.1, by have := hi.2.1; simpa using this⟩

theorem nextE_drop {E : List En} {k : Key} (h : E.Pairwise fun a b => a.rank < b.rank) {i : Nat} (hi : i < E.length) : nextE E E[i].rank k = (E.drop (i + 1)).find? fun e => meets e.key k := by
  have hlt := List.pairwise_iff_getElem.1 h
  have e : E = E.take (i + 1) ++ E.drop (i + 1) := (List.take_append_drop _ _).symm
  unfold nextE
  have e2 : E.find? (fun e => decide (E[i].rank < e.rank) && meets e.key k) = (E.take (i + 1) ++ E.drop (i + 1)).find? (fun e => decide (E[i].rank < e.rank) && meets e.key k) := by rw [List.take_append_drop]
  rw [e2, List.find?_append]
  have h1 : (E.take (i + 1)).find? (fun e => decide (E[i].rank < e.rank) && meets e.key k) = Option.none := by
    rw [List.find?_eq_none]
    intro x hx
    obtain ⟨j, hj, rfl⟩ := List.getElem_of_mem hx
    rw [List.length_take] at hj
    rw [List.getElem_take]
    by_cases hji : j = i
    · subst hji; simp
    · have := hlt j i (by omega) hi (by omega)
      have h2 : ¬ E[i].rank < E[j].rank := by omega
      simp [h2]
  rw [h1, Option.none_or]
  apply findCongr
  intro x hx
  obtain ⟨j, hj, rfl⟩ := List.getElem_of_mem hx
  rw [List.length_drop] at hj
  rw [List.getElem_drop]
  have := hlt i (i + 1 + j) hi (by omega) (by omega)
  simp [this]

/-- Both tables. -/
structure Two (w : World) (d : TbD) (B : Int) (q : Nat) (p : Option Addr) (n c : Nat) (R : List Re) (G : List Nat) : Prop where
  t : Tb w d
  ok : TbOk d B
  x : RtAt w q p n c R G
  rel : Rel d.E R
  dis : Dis d.FT (q :: G)

theorem Two.keep {w w' : World} {d : TbD} {B : Int} {q : Nat} {p : Option Addr} {n c : Nat} {R : List Re} {G : List Nat} (h : Two w d B q p n c R G) (u : Upd [] w w') : Two w' d B q p n c R G := ⟨h.t.keep u, h.ok, h.x.keep u, h.rel, h.dis⟩

theorem TbOk.more {d : TbD} {B : Int} (ok : TbOk d B) : TbOk d (B + 1) := ⟨ok.rising, ok.ids, ok.norm, ok.lo, ok.hi, by have := ok.b0; omega, ok.b1, by have := ok.b2; omega, ok.len⟩

section
variable {w : World} {d : TbD} {B : Int} {q : Nat} {p : Option Addr} {n c : Nat} {R : List Re} {G : List Nat}

theorem do_ok {o : OpV} {K : Bool → World → Prop} (h : Two w d B q p n c R G) (hB : B < 2 ^ 59)
    (hK : ∀ w' d' p' n' c' R' G', Two w' d' (B + 1) q p' n' c' R' G' → d'.a = d.a → Upd (d.FT ++ (q :: G)) w w' → Sub d'.FT d.FT w → Sub (q :: G') (q :: G) w → K true w') :
    C_law18_do d.a (some ⟨q, 0, none⟩) o.kind o.id o.k.1 o.k.2.1 o.k.2.2 o.front w K := by
  apply C_law18_do.of
  unfold F_law18_do
  have hlen := h.ok.len
  have hRl := h.rel.len
  refine New_rule fun r w1 hr u1 hb1 => ?_
  have h1 := h.keep u1
  have hrF : r ∉ d.FT := fun hx => by have := h.t.inn r hx; omega
  have hrG : r ∉ q :: G := fun hx => by have := h.x.inn r hx; omega
  simp only [NN_some, addN, drw_cell, drw_heap, exS, exI, exB, exP, exM, exStr, exV, a0, a1, a2, a3, a4, a5, a6, a7, a8, a9, a10, a11, a12, a13, maxI_eq, Nat.zero_add, Nat.add_zero, Nat.mul_one, Option.isNone_some, Option.isNone_none, Nat.reduceAdd, hb1.cell]
  have stay : ∀ w', Upd [] w1 w' → K true w' := fun w' u => hK w' d p n c R G ⟨(h1.keep u).t, h.ok.more, (h1.keep u).x, h.rel, h.dis⟩ rfl ((u1.after u).mono (by simp)) (Sub.refl _ _) (Sub.refl _ _)
  refine ifC (fun _ => ?_) (fun _ => ifC (fun _ => ?_) (fun _ => ifC (fun _ => ?_) (fun _ => ifC (fun _ => ?_) (fun _ => stay w1 (Upd.refl _ _)))))
  · -- Add
    have hd1 := h1.keep (drw_upd w1)
    refine Add_ask (k := o.k) (front := o.front) hd1.t hd1.ok (by omega) (fun hid w2 t2 u2 => ?_) (fun hid hfull w2 t2 u2 => ?_) (fun hid hroom w2 d2 t2 ok2 ha2 hE2 u2 s2 => ?_)
    · have hb2 := hb1.drw.upd u2 (by simp)
      have x2 := (hd1.keep u2).x
      simp only [NN_some, addN, drw_cell, drw_heap, exS, exI, exB, exP, exM, exStr, exV, a0, a1, a2, a3, a4, a5, a6, a7, a8, a9, a10, a11, a12, a13, maxI_eq, Nat.zero_add, Nat.add_zero, Nat.mul_one, Option.isNone_some, Option.isNone_none, Nat.reduceAdd, hb2.cell, hb1.cell]
      refine ⟨trivial, fun i hi => by simp [hb2.cell], trivial, RAdd_ok (k := o.k) x2 (by omega) (fun _ w3 u3 => ?_) (fun hn => absurd hid (h.rel.none.1 hn)) (fun hn => absurd hid (h.rel.none.1 hn))⟩
      exact stay w3 (((drw_upd w1).after u2).after u3)
    · have hb2 := hb1.drw.upd u2 (by simp)
      have x2 := (hd1.keep u2).x
      simp only [NN_some, addN, drw_cell, drw_heap, exS, exI, exB, exP, exM, exStr, exV, a0, a1, a2, a3, a4, a5, a6, a7, a8, a9, a10, a11, a12, a13, maxI_eq, Nat.zero_add, Nat.add_zero, Nat.mul_one, Option.isNone_some, Option.isNone_none, Nat.reduceAdd, hb2.cell, hb1.cell]
      refine ⟨trivial, fun i hi => by simp [hb2.cell], trivial, RAdd_ok (k := o.k) x2 (by omega) (fun hs => ?_) (fun _ _ w3 u3 => ?_) (fun _ hl => by omega)⟩
      · rw [h.rel.none.2 hid] at hs; cases hs
      · exact stay w3 (((drw_upd w1).after u2).after u3)
    · have hb2 := hb1.drw.upd u2 hrF
      have x2 := (hd1.x).upd u2 h.dis.symm
      simp only [NN_some, addN, drw_cell, drw_heap, exS, exI, exB, exP, exM, exStr, exV, a0, a1, a2, a3, a4, a5, a6, a7, a8, a9, a10, a11, a12, a13, maxI_eq, Nat.zero_add, Nat.add_zero, Nat.mul_one, Option.isNone_some, Option.isNone_none, Nat.reduceAdd, hb2.cell, hb1.cell]
      refine ⟨trivial, fun i hi => by simp [hb2.cell], trivial, RAdd_ok (k := o.k) x2 (by omega) (fun hs => ?_) (fun _ hl => by omega) (fun _ _ w3 p3 n3 c3 G3 x3 u3 s3 => ?_)⟩
      · rw [h.rel.none.2 hid] at hs; cases hs
      · have hd2 : Dis d2.FT (q :: G) := h.dis.step (s2.old u1.size) h.x.inn
        have hd3 : Dis d2.FT (q :: G3) := (hd2.symm.step s3 t2.inn).symm
        refine hK w3 d2 p3 n3 c3 _ G3 ⟨t2.upd u3 hd2, ok2, x3, ?_, hd3⟩ ha2 ?_ (s2.old u1.size) (s3.old (Nat.le_trans u1.size u2.size))
        · unfold Rel
          rw [hE2]
          have := h.rel
          unfold Rel at this
          cases hf : o.front with
          | true => simp [insE, this, fR, gE]
          | false => simp [insE, this, fR, gE]
        · exact (u1.after (drw_upd w1)).after (u2.trans u3 (by intro x hx; simp [hx]) (by intro x hx; left; simp only [List.mem_append]; exact .inr hx))
  · -- Drop
    have hd1 := h1.keep (drw_upd w1)
    by_cases hid : o.id ∈ d.E.map (·.id)
    · have hsome : ∃ i, atR R o.id = some i := by
        rcases ha : atR R o.id with _ | i
        · exact absurd hid (h.rel.none.1 ha)
        · exact ⟨i, rfl⟩
      obtain ⟨i, hi⟩ := hsome
      obtain ⟨hil, hie⟩ := h.rel.some hi
      have hdr := @Drop_ok (drw w1) d B d.E[i]
      rw [hie] at hdr
      refine hdr hd1.t hd1.ok (List.getElem_mem hil) fun w2 d2 t2 ok2 ha2 hE2 u2 s2 => ?_
      have hb2 := hb1.drw.upd u2 hrF
      have x2 := (hd1.x).upd u2 h.dis.symm
      simp only [NN_some, addN, drw_cell, drw_heap, exS, exI, exB, exP, exM, exStr, exV, a0, a1, a2, a3, a4, a5, a6, a7, a8, a9, a10, a11, a12, a13, maxI_eq, Nat.zero_add, Nat.add_zero, Nat.mul_one, Option.isNone_some, Option.isNone_none, Nat.reduceAdd, hb2.cell, hb1.cell]
      refine ⟨trivial, RDrop_ok x2 (by omega) (fun hn => by rw [hn] at hi; cases hi) (fun j hj w3 p3 n3 c3 G3 x3 u3 s3 => ?_)⟩
      obtain rfl : j = i := by rw [hi] at hj; exact (Option.some.inj hj).symm
      have hd2 : Dis d2.FT (q :: G) := h.dis.step (s2.old u1.size) h.x.inn
      have hd3 : Dis d2.FT (q :: G3) := (hd2.symm.step s3 t2.inn).symm
      refine hK w3 d2 p3 n3 c3 _ G3 ⟨t2.upd u3 hd2, ok2.more, x3, ?_, hd3⟩ ha2 ?_ (s2.old u1.size) (s3.old (Nat.le_trans u1.size u2.size))
      · unfold Rel
        rw [hE2]
        have e1 := erase_eq h.ok.ids hil
        rw [hie] at e1
        have := h.rel
        unfold Rel at this
        rw [← e1, List.map_append, List.map_append, List.map_take, List.map_drop, List.map_take, List.map_drop, this]
      · exact (u1.after (drw_upd w1)).after (u2.trans u3 (by intro x hx; simp [hx]) (by intro x hx; left; simp only [List.mem_append]; exact .inr hx))
    · refine Drop_no hd1.t hid fun w2 t2 u2 => ?_
      have hb2 := hb1.drw.upd u2 (by simp)
      have x2 := (hd1.keep u2).x
      simp only [NN_some, addN, drw_cell, drw_heap, exS, exI, exB, exP, exM, exStr, exV, a0, a1, a2, a3, a4, a5, a6, a7, a8, a9, a10, a11, a12, a13, maxI_eq, Nat.zero_add, Nat.add_zero, Nat.mul_one, Option.isNone_some, Option.isNone_none, Nat.reduceAdd, hb2.cell, hb1.cell]
      refine ⟨trivial, RDrop_ok x2 (by omega) (fun _ => stay w2 ((drw_upd w1).after u2)) (fun j hj => ?_)⟩
      rw [h.rel.none.2 hid] at hj; cases hj
  · -- Next
    refine Next_ok (k := o.k) h1.t h1.ok (by omega) fun w2 u2 => ?_
    have hb2 := hb1.upd u2 (by simp)
    simp only [NN_some, addN, drw_cell, drw_heap, exS, exI, exB, exP, exM, exStr, exV, a0, a1, a2, a3, a4, a5, a6, a7, a8, a9, a10, a11, a12, a13, maxI_eq, Nat.zero_add, Nat.add_zero, Nat.mul_one, Option.isNone_some, Option.isNone_none, Nat.reduceAdd, hb2.cell]
    refine RNext_ok (k := o.k) (h1.keep u2).x (by omega) fun w3 u3 => ?_
    have e : (((d.E.find? fun e => decide (e.id = o.id)).bind fun e => nextE d.E e.rank o.k).map (·.id)).getD 0 = (((atR R o.id).bind fun i => (R.drop (i + 1)).find? fun x => meets x.2 o.k).map (·.1)).getD 0 ∧ ((d.E.find? fun e => decide (e.id = o.id)).bind fun e => nextE d.E e.rank o.k).isSome = ((atR R o.id).bind fun i => (R.drop (i + 1)).find? fun x => meets x.2 o.k).isSome := by
      rcases ha : atR R o.id with _ | i
      · have := h.rel.none.1 ha
        rw [find_none.2 this]
        exact ⟨rfl, rfl⟩
      · obtain ⟨hil, hie⟩ := h.rel.some ha
        have := find_id h.ok.ids (List.getElem_mem hil)
        rw [hie] at this
        rw [this]
        simp only [Option.bind_some]
        rw [nextE_drop h.ok.rising hil]
        have := (h.rel.drop (i + 1)).find1 o.k
        exact ⟨this.1.symm, this.2.symm⟩
    rw [e.1, e.2]
    exact ifT (by simp) (by have := stay w3 (u2.after u3); simpa using this)
  · -- Head
    refine Head_ok (k := o.k) h1.t h1.ok (by omega) fun w2 u2 => ?_
    have hb2 := hb1.upd u2 (by simp)
    simp only [NN_some, addN, drw_cell, drw_heap, exS, exI, exB, exP, exM, exStr, exV, a0, a1, a2, a3, a4, a5, a6, a7, a8, a9, a10, a11, a12, a13, maxI_eq, Nat.zero_add, Nat.add_zero, Nat.mul_one, Option.isNone_some, Option.isNone_none, Nat.reduceAdd, hb2.cell]
    refine RHead_ok (k := o.k) (h1.keep u2).x (by omega) fun w3 u3 => ?_
    have e := h.rel.find1 o.k
    rw [e.1, e.2]
    exact ifT (by simp) (by have := stay w3 (u2.after u3); simpa using this)

end

theorem IndexDoes_law {w : World} {p : Option Addr} {n c : Nat} {ls : List Value} (hl : Rd w 6 p n ls) (ho : Ops ls n) : C_law18_IndexDoes p n c w fun r w' => r = true ∧ Upd [] w w' := by
  apply C_law18_IndexDoes.of
  unfold F_law18_IndexDoes F_law18_IndexDoes_L1
  refine New_ok fun w1 d h1 ok1 hE1 u1 n1 => New_rule fun q w2 hq u2 hb2 => lives_ok fun w3 u3 => ifF rfl (ifF rfl ?_)
  have hq3 := hb2.upd u3 (by simp)
  have U3 := (u1.after u2).after u3
  have hsz1 := u1.size
  have hTwo : Two w3 d 0 q none 0 0 [] [] := ⟨(h1.keep u2).keep u3, ok1, ⟨hq3, SlAt.nil _ _, by simp⟩, by unfold Rel; rw [hE1]; rfl, fun k hk hk2 => by
    simp at hk2; subst hk2; have := h1.inn k hk; omega⟩
  refine ⟨fun s v => 0 ≤ s.i ∧ s.i ≤ 60 ∧ ∃ d' p' n' c' R' G', d'.a = d.a ∧ Two v d' s.i q p' n' c' R' G' ∧ Upd [] w v ∧ Since d'.FT w ∧ Since (q :: G') w, fun s _ => (60 - s.i).toNat, ⟨by simp, by simp, d, none, 0, 0, [], [], rfl, hTwo, U3, n1, fun x hx => by simp at hx; omega⟩, ?_⟩
  rintro ⟨i⟩ v ⟨hi0, hi1, d', p', n', c', R', G', ha, ht, U, N1, N2⟩
  dsimp only at hi0 hi1
  replace ht : Two v d' i q p' n' c' R' G' := ht
  unfold B_law18_IndexDoes_L1 F_law18_IndexDoes_k1
  dsimp only
  rw [← ha]
  refine ifC (fun hc => ifC (fun hc2 => ?_) (fun _ => ⟨rfl, U⟩)) (fun _ => ⟨rfl, U⟩)
  simp at hc hc2
  obtain ⟨x, o, hx, _, hcell⟩ := Ops.get (hl.keep U) ho (i := i.toNat) (by omega)
  subst hx
  have c0 := hcell 0 (by omega)
  have c1 := hcell 1 (by omega)
  have c2 := hcell 2 (by omega)
  have c3 := hcell 3 (by omega)
  have c4 := hcell 4 (by omega)
  have c5 := hcell 5 (by omega)
  simp only [OpV.cells, List.getElem?_cons_zero, List.getElem?_cons_succ] at c0 c1 c2 c3 c4 c5
  simp only [NN_some, drw_cell, addA, Nat.add_assoc, Nat.reduceAdd, c0, c1, c2, c3, c4, c5, exI, exStr, exB]
  refine ⟨hi0, hc, do_ok (o := o) (ht.keep (drw_upd v)) (by omega) fun w4 d4 p4 n4 c4' R4 G4 t4 ha4 u4 s4 s4' => ifF rfl ?_⟩
  have U4 : Upd [] w w4 := (U.after (drw_upd v)).fresh u4 fun x hx => by
    rcases List.mem_append.1 hx with h | h
    · exact N1 x h
    · exact N2 x h
  have N4 := N1.step s4 U.size
  have N4' := N2.step s4' U.size
  have hl4 := t4.rel.len
  have hle4 := t4.ok.len
  rw [← ha4]
  simp only [NN_some, addN, drw_cell, drw_heap, exS, exI, exB, exP, exM, exStr, exV, a0, a1, a2, a3, a4, a5, a6, a7, a8, a9, a10, a11, a12, a13, maxI_eq, Nat.zero_add, Nat.add_zero, Nat.mul_one, Option.isNone_some, Option.isNone_none, t4.x.blk.cell]
  refine Len_ok t4.t ?_
  simp only [NN_some, addN, drw_cell, drw_heap, exS, exI, exB, exP, exM, exStr, exV, a0, a1, a2, a3, a4, a5, a6, a7, a8, a9, a10, a11, a12, a13, maxI_eq, Nat.zero_add, Nat.add_zero, Nat.mul_one, Option.isNone_some, Option.isNone_none, t4.x.blk.cell]
  refine ⟨trivial, ifF ?_ ?_⟩
  · have := t4.x.len; simp; omega
  obtain ⟨x', o', hx', hoe, hcell'⟩ := Ops.get (hl.keep U4) ho (i := i.toNat) (by omega)
  obtain rfl := Option.some.inj hx'
  have hoo : o' = o := by
    obtain ⟨_, o2, _, h2, _⟩ := Ops.get (hl.keep U) ho (i := i.toNat) (by omega)
    have h3 : (o'.cells : List Value) = o.cells := by
      apply List.ext_getElem?
      intro j
      by_cases hj : j < 6
      · have a := hcell' j hj
        have b := U4
        have a2 := hcell j hj
        have hj' : j < o.cells.length := by simp [OpV.cells]; exact hj
        rw [List.getElem?_eq_getElem hj'] at a2
        have a3 : v.cell? (x.add (i.toNat * 6 + j)) = some o.cells[j] := a2
        have u5 : Upd (d'.FT ++ q :: G') v w4 := (drw_upd v).after u4
        have hsub : (x.add (i.toNat * 6 + j)).block ∉ d'.FT ++ q :: G' := by
          intro hm
          obtain ⟨y, hy, hyc⟩ := hl.elem (i := i.toNat) (by omega)
          have hyx : x = y := Option.some.inj hy
          subst hyx
          have hlt : (x.add (i.toNat * 6 + j)).block < w.heap.size := by
            have h7 := hyc j hj
            have h8 : i.toNat * 6 + j < ls.length := by rw [hl.1]; omega
            rw [List.getElem?_eq_getElem h8] at h7
            exact cell_block h7
          rcases List.mem_append.1 hm with h | h
          · have := N1 _ h; omega
          · have := N2 _ h; omega
        have a4 := u5.cell a3 hsub
        rw [a4] at a
        rw [← a, List.getElem?_eq_getElem hj']
      · rw [List.getElem?_eq_none (by simp [OpV.cells]; omega), List.getElem?_eq_none (by simp [OpV.cells]; omega)]
    rcases o with ⟨k1, k2, ⟨k3, k4, k5⟩, k6⟩
    rcases o' with ⟨l1, l2, ⟨l3, l4, l5⟩, l6⟩
    simp [OpV.cells] at h3
    simp [h3]
  subst hoo
  have e2 := hcell' 2 (by omega)
  have e3 := hcell' 3 (by omega)
  have e4 := hcell' 4 (by omega)
  simp only [OpV.cells, List.getElem?_cons_zero, List.getElem?_cons_succ] at e2 e3 e4
  simp only [NN_some, drw_cell, addA, Nat.add_assoc, Nat.reduceAdd, e2, e3, e4, exI, exStr, exB]
  refine ⟨hi0, hc, hi0, hc, All_ok t4.t t4.ok (by omega) fun p5 n5 c5 F5 w5 hs5 u5 nF5 => ?_⟩
  have t5 := t4.keep u5
  refine ⟨fun j hj => ?_, RAll_ok t5.x (by omega) fun p6 n6 c6 F6 w6 hs6 u6 nF6 => ?_⟩
  · have hj3 : j = 0 ∨ j = 1 ∨ j = 2 := by omega
    rcases hj3 with rfl | rfl | rfl
    · simp only [Nat.add_zero, Nat.reduceAdd]; rw [e2]; exact u5.cell e2 (by simp)
    · simp only [Nat.reduceAdd]; rw [e3]; exact u5.cell e3 (by simp)
    · simp only [Nat.reduceAdd]; rw [e4]; exact u5.cell e4 (by simp)
  rw [t4.rel.met] at hs6
  have hml : (metE d4.E o'.k).length ≤ d4.E.length := List.length_filter_le _ _
  refine SameInts_ok ((hs5.upd u6 (by intro k _ h; cases h)).rd) hs6.rd (by rw [List.length_map]; omega) fun w7 u7 => ifF rfl ?_
  have t7 := (t5.keep u6).keep u7
  refine All_ok (k := zk) t7.t t7.ok (by omega) fun p8 n8 c8 F8 w8 hs8 u8 nF8 => ?_
  have t8 := t7.keep u8
  refine RAll_ok (k := zk) t8.x (by omega) fun p9 n9 c9 F9 w9 hs9 u9 nF9 => ?_
  rw [t4.rel.met] at hs9
  have hml2 : (metE d4.E zk).length ≤ d4.E.length := List.length_filter_le _ _
  refine SameInts_ok ((hs8.upd u9 (by intro k _ h; cases h)).rd) hs9.rd (by rw [List.length_map]; omega) fun wa ua => ifF rfl ?_
  have ta := (t8.keep u9).keep ua
  rw [i64id (by omega) (by omega)]
  exact ⟨⟨by omega, by omega, d4, p4, n4, c4', R4, G4, rfl, ta, (((((U4.after u5).after u6).after u7).after u8).after u9).after ua, N4, N4'⟩, by omega⟩

end Go.Proofs.Ytpkfckfdehaamaa
