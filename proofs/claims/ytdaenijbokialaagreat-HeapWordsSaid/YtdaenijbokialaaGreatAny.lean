/- Behind Back a term that is made again has the same word. -/
import Derived.Test.YtdaenijbokialaaGreatLives3
import Derived.Test.YtdaenijbokialaaGreatKeyT
namespace Go.Proofs.YtdaenijbokialaaGreat
open Go Go.D Go.Proofs
set_option linter.unusedSimpArgs false
set_option linter.unusedVariables false
set_option maxRecDepth 8000

theorem need_le (t : Tm) (ks : List Int) : need t ks ≤ 3 * t.size := by
  unfold need
  have := cost_le t
  have := vars_len t ks
  omega

section
variable {w : World}

end

end Go.Proofs.YtdaenijbokialaaGreat

/- Without room nothing is made, and behind Back there is room again. -/
namespace Go.Proofs.YtdaenijbokialaaGreat
open Go Go.D Go.Proofs
set_option linter.unusedSimpArgs false
set_option linter.unusedVariables false
set_option maxRecDepth 8000

section

theorem WF.nil (L : List Slot) (FL : List Fn.Slot) : WF [] L FL := by
  refine ⟨(by intro x hx; cases hx), fun x hx => ?_, (by intro i j h; simp at h)⟩
  cases x with
  | ref i => obtain ⟨y, hy, _⟩ := rightW_ref.1 hx; simp at hy
  | str i => exact ⟨_, 0, .stop (by simp [Wd.tag])⟩
  | atom i => exact ⟨_, 0, .stop (by simp [Wd.tag])⟩
  | int i => exact ⟨_, 0, .stop (by simp [Wd.tag])⟩
  | fn i => exact ⟨_, 0, .stop (by simp [Wd.tag])⟩

theorem Snap.nil (C : List Wd) : Snap [] [] C [] := ⟨by simp, [], by simp, by simp, by simp, by simp⟩

end

section
variable {w : World}

end

end Go.Proofs.YtdaenijbokialaaGreat

/- Rows of terms that came in: too large, all right, encoded together. -/
namespace Go.Proofs.YtdaenijbokialaaGreat
open Go Go.D Go.Proofs
set_option linter.unusedSimpArgs false
set_option linter.unusedVariables false
set_option maxRecDepth 8000

section

end

section
variable {w : World} {E : List Nat} {r : Nat}

end

end Go.Proofs.YtdaenijbokialaaGreat

/- A variable is bound just to what it does not reach. -/
namespace Go.Proofs.YtdaenijbokialaaGreat
open Go Go.D Go.Proofs
set_option linter.unusedSimpArgs false
set_option linter.unusedVariables false
set_option maxRecDepth 8000

theorem Der.set {C : List Wd} {j : Nat} {x : Wd} (hj : C[j]? = some (.ref j)) (hxx : Der C x x) (hne : x ≠ .ref j) : Der (C.set j x) x x ∧ Der (C.set j x) (.ref j) x := by
  have hjl := (List.getElem?_eq_some_iff.1 hj).1
  have h1 : Der (C.set j x) x x := by
    rcases hxx.last with g | ⟨i, rfl, g⟩
    · exact ⟨0, .stop g⟩
    · refine ⟨0, .root ?_⟩
      rw [set_at hjl, if_neg]
      · exact g
      · rintro rfl; exact hne rfl
  refine ⟨h1, ?_⟩
  obtain ⟨n, hn⟩ := h1
  exact ⟨n + 1, .step (by rw [set_at hjl, if_pos rfl]) hne hn⟩

section
variable {w : World}

end

end Go.Proofs.YtdaenijbokialaaGreat

/- What any word is answered; an argument that is put. -/
namespace Go.Proofs.YtdaenijbokialaaGreat
open Go Go.D Go.Proofs
set_option linter.unusedSimpArgs false
set_option linter.unusedVariables false
set_option maxRecDepth 8000

theorem Far.sub {d : HpD} {E : List Nat} {v v' : World} (f : Far (d.F ++ E) v v') : Far E v v' := f.less fun k hk => by simp [hk]

/-- A word's key. -/
def keyW (C : List Wd) (L : List Slot) (FL : List Fn.Slot) : Wd → Key
  | .int n => (1, ⟨#[]⟩, n)
  | .atom id => (2, (L[id]?.map (·.name)).getD ⟨#[]⟩, 0)
  | .str i => match C[i]? with
    | some (.fn id) => (3, fnm L FL id, far L FL id)
    | _ => zk
  | .ref _ => zk
  | .fn _ => zk

section
variable {w : World} {d : HpD} {E : List Nat} {C : List Wd} {k0 : Nat}

/-- Any word, gone on from. -/
theorem Deref_any {v : World} {z : Int} {K : Int → World → Prop} (h : Hp w v d E) (hi : HI d C k0) (hz : 0 ≤ z ∧ z < 2 ^ 64) (hno : rightI C d.L z = false → ∀ v', Hp w v' d E → Far E v v' → K 0 v')
    (hK : ∀ x y, z = x.enc → x.fits → rightW C d.L x = true → Der C x y → y.fits → rightW C d.L y = true → ∀ v', Hp w v' d E → Far E v v' → K y.enc v') : C_heap_Heap_Deref d.a z v K := by
  by_cases e : rightI C d.L z = true
  · obtain ⟨x, rfl, hf, hr⟩ := rightI_word hz.1 hz.2 e
    obtain ⟨y, hd⟩ := hi.wf.der x hr
    exact Deref_ok h hi hf hr hd fun v1 h1 f1 => hK x y rfl hf hr hd (hd.choose_spec.fits hi.ok.fits hf) (hi.wf.last hr hd) v1 h1 f1.sub
  · have e : rightI C d.L z = false := by simpa using e
    apply C_heap_Heap_Deref.of
    unfold F_heap_Heap_Deref
    exact rightI_ok h hi.ok hz.1 hz.2 fun v1 h1 f1 => ifT (by rw [e]; rfl) (hno e v1 h1 f1.sub)

/-- A compound that is right is in the cells. -/
theorem HI.str (hi : HI d C k0) {i : Nat} (hr : rightW C d.L (.str i) = true) : ∃ id s m, C[i]? = some (.fn id) ∧ At d.L d.FL id s ((m : Nat) : Int) ∧ 1 ≤ m ∧ m ≤ 16 ∧ i + m < C.length ∧ ∀ k, 1 ≤ k → k ≤ m → ∀ y, C[i + k]? = some y → y.tag ≠ 5 := by
  obtain ⟨id, hc⟩ := rightW_str.1 hr
  obtain ⟨s, m, a, b, c, e, f⟩ := hi.wf.fn i id hc
  exact ⟨id, s, m, hc, a, b, c, e, f⟩

/-- Whether a word is a compound that has such an argument. -/
def CompAt (C : List Wd) (L : List Slot) (FL : List Fn.Slot) (z q : Int) (i : Nat) : Prop := ∃ x id s, ∃ m : Nat, z = Wd.enc x ∧ x.fits ∧ rightW C L x = true ∧ Der C x (.str i) ∧ C[i]? = some (.fn id) ∧ At L FL id s (m : Int) ∧ m ≤ 16 ∧ i + m < C.length ∧ 1 ≤ q ∧ q ≤ m

theorem compound_any {v : World} {z q : Int} {K : Int → Bool → World → Prop} (h : Hp w v d E) (hi : HI d C k0) (hz : 0 ≤ z ∧ z < 2 ^ 64) (hno : (∀ i, ¬ CompAt C d.L d.FL z q i) → ∀ z' v', Hp w v' d E → Far E v v' → K z' false v')
    (hK : ∀ i, CompAt C d.L d.FL z q i → ∀ v', Hp w v' d E → Far E v v' → K (Wd.str i).enc true v') : C_heap_Heap_compound d.a z q v K := by
  apply C_heap_Heap_compound.of
  unfold F_heap_Heap_compound
  refine Deref_any h hi hz (fun e v1 h1 f1 => Is_ok (by omega) (by omega) (ifT (by simp) (hno (fun i => ?_) _ v1 h1 f1))) fun x y e hf hr hd hyf hyr v1 h1 f1 => isT_ok ?_
  · rintro ⟨x, _, _, _, rfl, hf, hr, _⟩
    rw [rightI_enc hf, hr] at e; cases e
  subst e
  have same : ∀ {i : Nat}, CompAt C d.L d.FL x.enc q i → y = .str i := by
    rintro i ⟨x', _, _, _, e, hf', _, hd', _⟩
    obtain rfl := Wd.enc_inj hf hf' e
    exact hd.uniq hd'
  by_cases t2 : y.tag = 2
  · obtain ⟨i, rfl⟩ : ∃ i, y = .str i := by cases y <;> simp [Wd.tag] at t2 ⊢
    obtain ⟨id, s, m, hc, hat, m1, m16, hlen, _⟩ := hi.str hyr
    refine ifF rfl (fun_ok h1 hi.ok hc hat fun v2 h2 f2 => ?_)
    have f2' := f1.then f2.sub
    have bad : ¬ (1 ≤ q ∧ q ≤ (m : Int)) → ∀ i, ¬ CompAt C d.L d.FL x.enc q i := fun g i hg => by
      have := same hg
      cases this
      obtain ⟨_, _, _, m', _, _, _, _, hc', hat', _, _, g1, g2⟩ := hg
      rw [hc] at hc'; cases hc'
      obtain rfl := (hat.uniq hat').2
      exact g ⟨g1, g2⟩
    refine ifC (fun g => ?_) (fun g => hno (bad fun hh => ?_) _ v2 h2 f2')
    · have g := of_decide_eq_true g
      by_cases gm : q ≤ (m : Int)
      · rw [decide_eq_true gm]
        exact hK i ⟨x, id, s, m, rfl, hf, hr, hd, hc, hat, m16, hlen, by omega, gm⟩ v2 h2 f2'
      · rw [decide_eq_false gm]
        exact hno (bad fun hh => gm hh.2) _ v2 h2 f2'
    · have g := of_decide_eq_false g
      omega
  · exact ifT (by simp [t2]) (hno (fun i hg => t2 (by rw [same hg]; rfl)) _ v1 h1 f1)

theorem Arg_any {v : World} {z q : Int} {K : Int → Int → World → Prop} (h : Hp w v d E) (hi : HI d C k0) (hz : 0 ≤ z ∧ z < 2 ^ 64) (hno : ∀ v', Hp w v' d E → Far E v v' → K 0 1 v') (hK : rightI C d.L z = true → ∀ z' v', Hp w v' d E → Far E v v' → K z' 0 v') : C_heap_Heap_Arg d.a z q v K := by
  apply C_heap_Heap_Arg.of
  unfold F_heap_Heap_Arg
  have hbd := hi.ok.bound h
  refine hmade_ok h (ifF rfl (compound_any h hi hz (fun _ z' v1 h1 f1 => ifT rfl (hno v1 h1 f1)) fun i hg v1 h1 f1 => ifF rfl ?_))
  obtain ⟨x, id, s, m, rfl, hf, hr, hd, hc, hat, m16, hlen, q1, qm⟩ := hg
  refine arg_ok (x := .str i) ⟨by show -2 ^ 60 ≤ (i : Int); omega, by show (i : Int) < 2 ^ 60; omega⟩ (by omega) ?_
  have e2 : (Wd.str i).num + q = ((i + q.toNat : Nat) : Int) := by show (i : Int) + q = _; omega
  rw [e2]
  exact ref_ok (by omega) (hK (by rw [rightI_enc hf]; exact hr) _ v1 h1 f1)

/-- A cell that is set beside the trail. -/
theorem HI.put (hi : HI d C k0) {j : Nat} {y : Wd} (hj : C[j]? = some (.ref j)) (hy : y.fits) (hyr : rightW C d.L y = true) (hyd : Der C y y) : HI { d with cells := d.cells.set j y.enc } (C.set j y) k0 := by
  obtain ⟨wf', rw'⟩ := hi.wf.set hj hyr hyd
  refine ⟨⟨?_, fun z hz => ?_, hi.ok.nf, ?_, hi.ok.starts, hi.ok.ml⟩, wf', hi.nL, hi.nF, hi.nm, hi.al, hi.fl, hi.n64⟩
  · show d.cells.set j y.enc = (C.set j y).map Wd.enc
    rw [hi.ok.cells, List.map_set]
  · rcases List.mem_or_eq_of_mem_set hz with g | g
    · exact hi.ok.fits z g
    · rw [g]; exact hy
  · show (((C.set j y).length : Nat) : Int) = d.pd.top
    rw [List.length_set]; exact hi.ok.len

/-- An argument that may be put. -/
def PutAt (C : List Wd) (L : List Slot) (FL : List Fn.Slot) (z u q : Int) (s0 i : Nat) (y : Wd) : Prop := CompAt C L FL z q i ∧ (∃ x, u = Wd.enc x ∧ x.fits ∧ rightW C L x = true ∧ Der C x y) ∧ C[i + q.toNat]? = some (.ref (i + q.toNat)) ∧ s0 ≤ i + q.toNat

theorem CompAt.uniq {L : List Slot} {FL : List Fn.Slot} {z q : Int} {i j : Nat} (h : CompAt C L FL z q i) (g : CompAt C L FL z q j) : i = j := by
  obtain ⟨x, _, _, _, rfl, hf, _, hd, _⟩ := h
  obtain ⟨x', _, _, _, e, hf', _, hd', _⟩ := g
  obtain rfl := Wd.enc_inj hf hf' e
  have := hd.uniq hd'
  cases this; rfl

theorem Put_any {v : World} {z u q : Int} {s0 : Nat} {K : Int → World → Prop} (h : Hp w v d E) (hi : HI d C k0) (hz : 0 ≤ z ∧ z < 2 ^ 64) (hu : 0 ≤ u ∧ u < 2 ^ 64) (hs : d.starts[d.starts.length - 1]? = some (s0 : Int))
    (hno : (∀ i y, ¬ PutAt C d.L d.FL z u q s0 i y) → ∀ v', Hp w v' d E → Far E v v' → K 1 v')
    (hK : ∀ i y, PutAt C d.L d.FL z u q s0 i y → y.fits → rightW C d.L y = true → ∀ v' d', Hp w v' d' E → HI d' (C.set (i + q.toNat) y) k0 → KinS d d' → KinH d d' → Far E v v' → K 0 v') : C_heap_Heap_Put d.a z q u v K := by
  apply C_heap_Heap_Put.of
  unfold F_heap_Heap_Put
  have hbd := hi.ok.bound h
  refine hmade_ok h (ifF rfl (compound_any h hi hz (fun hn z' v1 h1 f1 => ifT rfl (hno (fun i y hg => hn i hg.1) v1 h1 f1)) fun i hg v1 h1 f1 => ifF rfl ?_))
  refine rightI_ok h1 hi.ok hu.1 hu.2 fun v2 h2 f2 => ?_
  have f2' := f1.then f2.sub
  by_cases e : rightI C d.L u = true
  case neg =>
    have e : rightI C d.L u = false := by simpa using e
    refine ifT (by rw [e]; rfl) (hno (fun j y hp => ?_) v2 h2 f2')
    obtain ⟨_, ⟨x, rfl, hf, hr, _⟩, _⟩ := hp
    rw [rightI_enc hf, hr] at e; cases e
  rw [e]
  obtain ⟨x', rfl, xf, xr⟩ := rightI_word hu.1 hu.2 e
  obtain ⟨y, hd⟩ := hi.wf.der x' xr
  have yf := hd.choose_spec.fits hi.ok.fits xf
  have yr := hi.wf.last xr hd
  refine ifF rfl ?_
  have hg0 := hg
  obtain ⟨x, id, s, m, _, hf, _, _, hc, hat, m16, hlen, q1, qm⟩ := hg0
  refine arg_ok (x := .str i) ⟨by show -2 ^ 60 ≤ (i : Int); omega, by show (i : Int) < 2 ^ 60; omega⟩ (by omega) ?_
  obtain ⟨j, ej⟩ : ∃ j, j = i + q.toNat := ⟨_, rfl⟩
  have e2 : (Wd.str i).num + q = ((j : Nat) : Int) := by show (i : Int) + q = _; omega
  rw [e2]
  have ud := drw_upd v2
  have h3 := h2.keep ud
  have hjl : j < C.length := by omega
  obtain ⟨b, off, hcp, _, hcell⟩ := h2.word hi.ok hjl
  have hcl := hi.ok.cl
  have hblk := h2.blk.cell
  simp only [HpD.a, NN_some, addN, drw_cell, drw_heap, exS, exI, exB, exP, exM, exStr, exV, a0, a1, a2, a3, a4, a5, a6, a7, a8, a9, a10, a11, a12, a13, maxI_eq, Nat.zero_add, Nat.add_zero, Nat.mul_one, Option.isNone_some, Option.isNone_none, hblk, hcp, Int.toNat_natCast, Nat.mul_one, hcell]
  refine ⟨by omega, by omega, ref_ok (by omega) ⟨by simp only [NN_some, addN, drw_cell, drw_heap, exS, exI, exB, exP, exM, exStr, exV, a0, a1, a2, a3, a4, a5, a6, a7, a8, a9, a10, a11, a12, a13, maxI_eq, Nat.zero_add, Nat.add_zero, Nat.mul_one, Option.isNone_some, Option.isNone_none, hcell], by simp only [NN_some, addN, drw_cell, drw_heap, exS, exI, exB, exP, exM, exStr, exV, a0, a1, a2, a3, a4, a5, a6, a7, a8, a9, a10, a11, a12, a13, maxI_eq, Nat.zero_add, Nat.add_zero, Nat.mul_one, Option.isNone_some, Option.isNone_none, hblk, hcp], ?_⟩⟩
  have jf : (Wd.ref j).fits := ref_fits (by omega)
  refine ifC (fun g => ?_) (fun g => ?_)
  · refine hno (fun i' y' hp => ?_) _ h3 (f2'.after ud)
    obtain rfl := hg.uniq hp.1
    have := hp.2.2.1
    rw [← ej, List.getElem?_eq_getElem hjl] at this
    simp at g this
    exact g (by rw [this])
  have g : C[j].enc = (Wd.ref j).enc := by simpa using g
  have hroot : C[j]? = some (.ref j) := by rw [List.getElem?_eq_getElem hjl, Wd.enc_inj (hi.ok.fits _ (List.getElem_mem hjl)) jf g]
  obtain ⟨hs0, sb, so, hsp, hsc⟩ := h2.lastStart hs (by have := hi.slen h3; omega)
  have hsl := hi.slen h3
  have e1 : IntKind.i64.wrap ((d.starts.length : Int) - 1) = ((d.starts.length - 1 : Nat) : Int) := by rw [i64id (by omega) (by omega)]; omega
  simp only [hblk, NN_some, addN, drw_cell, drw_heap, exS, exI, exB, exP, exM, exStr, exV, a0, a1, a2, a3, a4, a5, a6, a7, a8, a9, a10, a11, a12, a13, maxI_eq, Nat.zero_add, Nat.add_zero, Nat.mul_one, Option.isNone_some, Option.isNone_none, e1, hsp, Int.toNat_natCast, hsc]
  refine ⟨by omega, by omega, ifC (fun g2 => ?_) (fun g2 => ?_)⟩
  · have g2 := of_decide_eq_true g2
    refine hno (fun i' y' hp => ?_) _ h3 (f2'.after ud)
    obtain rfl := hg.uniq hp.1
    have := hp.2.2.2
    omega
  have g2 := of_decide_eq_false g2
  have ud2 := drw_upd (drw v2)
  have h4 := h3.keep ud2
  refine deref_ok h4 hi.ok xf hd fun v5 h5 u5 => ⟨by simp only [NN_some, addN, drw_cell, drw_heap, exS, exI, exB, exP, exM, exStr, exV, a0, a1, a2, a3, a4, a5, a6, a7, a8, a9, a10, a11, a12, a13, maxI_eq, Nat.zero_add, Nat.add_zero, Nat.mul_one, Option.isNone_some, Option.isNone_none, h5.blk.cell, hblk, hcp], by omega, by omega, ?_⟩
  simp only [hcp, NN_some, addN, drw_cell, drw_heap, exS, exI, exB, exP, exM, exStr, exV, a0, a1, a2, a3, a4, a5, a6, a7, a8, a9, a10, a11, a12, a13, maxI_eq, Nat.zero_add, Nat.add_zero, Nat.mul_one, Option.isNone_some, Option.isNone_none, Nat.add_zero]
  have hjc : j < d.cells.length := by rw [hcl]; exact hjl
  refine h5.setCell hjc (fun v6 h6 u6 => ?_) hcp
  rw [ej] at hroot h6
  refine hK i y ⟨hg, ⟨x', rfl, xf, xr, hd⟩, hroot, by omega⟩ yf yr v6 _ h6 (hi.put hroot yf yr hd.self) ⟨rfl, rfl, rfl, rfl, rfl, rfl, rfl, rfl⟩ ⟨rfl, rfl, rfl, rfl, rfl, rfl⟩ ((((f2'.after ud).after ud2).after u5).then ⟨_, u6, fun k hk hx => ?_⟩)
  exact h5.six.2.2.2.1.2.2 k hx hk

/-- Whether a word reaches another one: any words. -/
theorem Reaches_any {v : World} {z u : Int} {K : Bool → World → Prop} (h : Hp w v d E) (hi : HI d C k0) (hz : 0 ≤ z ∧ z < 2 ^ 64) (hu : 0 ≤ u ∧ u < 2 ^ 64) (hK : ∀ b v', Hp w v' d E → Far E v v' → K b v') : C_heap_Heap_Reaches d.a z u v K := by
  by_cases e1 : rightI C d.L z = true
  · by_cases e2 : rightI C d.L u = true
    · obtain ⟨x, rfl, xf, xr⟩ := rightI_word hz.1 hz.2 e1
      obtain ⟨y, rfl, yf, yr⟩ := rightI_word hu.1 hu.2 e2
      exact Reaches_ok h hi xf yf xr yr fun b v1 _ h1 f1 => hK b v1 h1 f1
    · apply C_heap_Heap_Reaches.of
      unfold F_heap_Heap_Reaches
      refine Deref_any h hi hz (fun e => by rw [e1] at e; cases e) fun x y _ _ _ _ _ _ v1 h1 f1 => rightI_ok h1 hi.ok hu.1 hu.2 fun v2 h2 f2 => ifT (by simpa using e2) (hK _ v2 h2 (f1.then f2.sub))
  · have e1 : rightI C d.L z = false := by simpa using e1
    apply C_heap_Heap_Reaches.of
    unfold F_heap_Heap_Reaches
    refine Deref_any h hi hz (fun _ v1 h1 f1 => ?_) fun x y e hf hr _ _ _ => by rw [e, rightI_enc hf, hr] at e1; cases e1
    refine rightI_ok h1 hi.ok hu.1 hu.2 fun v2 h2 f2 => ifC (fun _ => hK _ v2 h2 (f1.then f2.sub)) fun _ => ?_
    refine Is_ok (by omega) (by omega) (ifT (by simp) (Is_ok (by omega) (by omega) (ifT (by simp) (hK _ v2 h2 (f1.then f2.sub)))))

/-- A word's key. -/
theorem Key_ok {v : World} {x y : Wd} {K : Int → ByteArray → Int → World → Prop} (h : Hp w v d E) (hi : HI d C k0) (hx : x.fits) (hr : rightW C d.L x = true) (hd : Der C x y)
    (hK : ∀ v', Hp w v' d E → Far E v v' → K (keyW C d.L d.FL y).1 (keyW C d.L d.FL y).2.1 (keyW C d.L d.FL y).2.2 v') : C_heap_Heap_Key d.a x.enc v K := by
  apply C_heap_Heap_Key.of
  unfold F_heap_Heap_Key
  refine New_rule fun r v1 hr1 u1 b1 => ?_
  have hrl : r < v1.heap.size := b1.lt
  have hrE : r ∉ E := fun hx => by have := h.inn r (by simp [hx]); omega
  have h1 := h.watch u1 (Y := [r]) (by intro k hk; simp at hk; omega) (by intro k hk; simp at hk; subst hk; exact hrl)
  have hyf : y.fits := hd.choose_spec.fits hi.ok.fits hx
  have hyr := hi.wf.last hr hd
  have fin : ∀ {v2 : World} {a c : Int} {s : ByteArray}, Hp w v2 d ([r] ++ E) → Far ([r] ++ E) v1 v2 → keyW C d.L d.FL y = (a, s, c) → St v2 ((⟨r, 0, none⟩ : Addr).add 0) (.int .i64 a) fun w0 => St w0 ((⟨r, 0, none⟩ : Addr).add 1) (.string s) fun w1 => St w1 ((⟨r, 0, none⟩ : Addr).add 2) (.int .i64 c) fun w2 =>
      ∃ r_1 : Int, w2.cell? ((⟨r, 0, none⟩ : Addr).add 0) = some (.int .i64 r_1) ∧ ∃ r_2 : ByteArray, w2.cell? ((⟨r, 0, none⟩ : Addr).add 1) = some (.string r_2) ∧ ∃ r_3 : Int, w2.cell? ((⟨r, 0, none⟩ : Addr).add 2) = some (.int .i64 r_3) ∧ K r_1 r_2 r_3 w2 := by
    intro v2 a c s h2 f2 e
    have b2 := f2.blk b1 (by simp)
    refine St3 b2 rfl (by simp [Value.oneCell']) fun v3 u3 b3 => ?_
    simp only [NN_some, addN, drw_cell, drw_heap, exS, exI, exB, exP, exM, exStr, exV, a0, a1, a2, a3, a4, a5, a6, a7, a8, a9, a10, a11, a12, a13, maxI_eq, Nat.zero_add, Nat.add_zero, Nat.mul_one, Option.isNone_some, Option.isNone_none, b3.cell]
    have := hK v3
    rw [e] at this
    refine this ((h2.upd u3 (fun k hk hx => h2.apart k hk (by simp at hx; simp [hx])) (fun x hx => by simp at hx; simp [hx]) (fun k hk => by simp at hk; have := h.U.size; omega) (fun k hk => .inl hk) (fun k hk => by have := h2.inn k (by simp at hk ⊢; rcases hk with g | g <;> simp [g]); have := u3.size; omega)).less fun k hk => by simp [hk]) ?_
    exact ((Far.keep u1).then (f2.less fun k hk => by simp [hk])).then ⟨[r], u3, fun k hk hx => by simp at hx; subst hx; exact hrE hk⟩
  refine Deref_ok h1 hi hx hr hd fun v2 h2 f2 => tag_ok ?_
  have f2 := f2.sub
  cases y with
  | int n =>
    refine ifT rfl (num_ok hyf ?_)
    exact fin h2 f2 rfl
  | atom id =>
    refine ifF rfl (ifT rfl ?_)
    have ud := drw_upd v2
    have h3 := h2.keep ud
    simp only [HpD.a, NN_some, addN, drw_cell, drw_heap, exS, exI, exB, exP, exM, exStr, exV, a0, a1, a2, a3, a4, a5, a6, a7, a8, a9, a10, a11, a12, a13, maxI_eq, Nat.zero_add, Nat.add_zero, Nat.mul_one, Option.isNone_some, Option.isNone_none, h2.blk.cell]
    refine num_ok hyf ⟨by simp only [NN_some, addN, drw_cell, drw_heap, exS, exI, exB, exP, exM, exStr, exV, a0, a1, a2, a3, a4, a5, a6, a7, a8, a9, a10, a11, a12, a13, maxI_eq, Nat.zero_add, Nat.add_zero, Nat.mul_one, Option.isNone_some, Option.isNone_none, h2.blk.cell], ?_⟩
    have hn : isN d.L ((Wd.atom id).num) = true := by
      have := hyr
      unfold rightW at this
      exact this
    refine name_ok h3 (fun hno => by rw [hn] at hno; cases hno) (fun _ hil v4 h4 f4 => ?_)
    refine fin h4 ((f2.after ud).then f4.sub) ?_
    have hil' : id < d.L.length := by simpa [Wd.num] using hil
    show ((2 : Int), (d.L[id]?.map (·.name)).getD ⟨#[]⟩, (0 : Int)) = _
    rw [List.getElem?_eq_getElem hil']; rfl
  | str i =>
    obtain ⟨id, s, m, hc, hat, _⟩ := hi.str hyr
    refine ifF rfl (ifF rfl (ifT rfl (fun_ok h2 hi.ok hc hat fun v3 h3 f3 => ?_)))
    refine fin h3 (f2.then f3.sub) ?_
    unfold keyW fnm far
    simp only [hc, hat.get]
  | ref i => exact ifF rfl (ifF rfl (ifF rfl (fin h2 f2 rfl)))
  | fn i => exact ifF rfl (ifF rfl (ifF rfl (fin h2 f2 rfl)))

theorem Key_any {v : World} {z : Int} {K : Int → ByteArray → Int → World → Prop} (h : Hp w v d E) (hi : HI d C k0) (hz : 0 ≤ z ∧ z < 2 ^ 64) (hK : ∀ a b c v', Hp w v' d E → Far E v v' → K a b c v') : C_heap_Heap_Key d.a z v K := by
  by_cases e1 : rightI C d.L z = true
  · obtain ⟨x, rfl, xf, xr⟩ := rightI_word hz.1 hz.2 e1
    obtain ⟨y, hd⟩ := hi.wf.der x xr
    exact Key_ok h hi xf xr hd fun v' h' f' => hK _ _ _ v' h' f'
  have e1 : rightI C d.L z = false := by simpa using e1
  apply C_heap_Heap_Key.of
  unfold F_heap_Heap_Key
  refine New_rule fun r v1 hr1 u1 b1 => ?_
  have hrl : r < v1.heap.size := b1.lt
  have hrE : r ∉ E := fun hx => by have := h.inn r (by simp [hx]); omega
  have h1 := h.watch u1 (Y := [r]) (by intro k hk; simp at hk; omega) (by intro k hk; simp at hk; subst hk; exact hrl)
  refine Deref_any h1 hi hz (fun _ v2 h2 f2 => Tag_ok (by omega) (by omega) (ifF rfl (ifF rfl (ifF rfl ?_)))) fun x y e hf hr _ _ _ => by rw [e, rightI_enc hf, hr] at e1; cases e1
  have b2 := f2.blk b1 (by simp)
  refine St3 b2 rfl (by simp [Value.oneCell']) fun v3 u3 b3 => ?_
  simp only [NN_some, addN, drw_cell, drw_heap, exS, exI, exB, exP, exM, exStr, exV, a0, a1, a2, a3, a4, a5, a6, a7, a8, a9, a10, a11, a12, a13, maxI_eq, Nat.zero_add, Nat.add_zero, Nat.mul_one, Option.isNone_some, Option.isNone_none, b3.cell]
  refine hK _ _ _ v3 ((h2.upd u3 (fun k hk hx => h2.apart k hk (by simp at hx; simp [hx])) (fun x hx => by simp at hx; simp [hx]) (fun k hk => by simp at hk; have := h.U.size; omega) (fun k hk => .inl hk) (fun k hk => by have := h2.inn k (by simp at hk ⊢; rcases hk with g | g <;> simp [g]); have := u3.size; omega)).less fun k hk => by simp [hk]) ?_
  exact ((Far.keep u1).then (f2.less fun k hk => by simp [hk])).then ⟨[r], u3, fun k hk hx => by simp at hx; subst hx; exact hrE hk⟩

/-- Whether a word is such an atom or compound: any words. -/
theorem hIs_any {v : World} {z q : Int} {s : ByteArray} {K : Bool → World → Prop} (h : Hp w v d E) (hi : HI d C k0) (hz : 0 ≤ z ∧ z < 2 ^ 64) (hK : ∀ b v', Hp w v' d E → Far E v v' → K b v') : C_heap_Heap_Is d.a z s q v K := by
  apply C_heap_Heap_Is.of
  unfold F_heap_Heap_Is
  refine Deref_any h hi hz (fun _ v1 h1 f1 => Tag_ok (by omega) (by omega) (ifF rfl (ifF rfl (hK _ v1 h1 f1)))) fun x y e xf xr hd yf yr v1 h1 f1 => tag_ok ?_
  have ud := drw_upd v1
  have h2 := h1.keep ud
  cases y with
  | atom id =>
    refine ifT rfl ?_
    simp only [HpD.a, NN_some, addN, drw_cell, drw_heap, exS, exI, exB, exP, exM, exStr, exV, a0, a1, a2, a3, a4, a5, a6, a7, a8, a9, a10, a11, a12, a13, maxI_eq, Nat.zero_add, Nat.add_zero, Nat.mul_one, Option.isNone_some, Option.isNone_none, h1.blk.cell]
    refine num_ok yf ⟨by simp only [NN_some, addN, drw_cell, drw_heap, exS, exI, exB, exP, exM, exStr, exV, a0, a1, a2, a3, a4, a5, a6, a7, a8, a9, a10, a11, a12, a13, maxI_eq, Nat.zero_add, Nat.add_zero, Nat.mul_one, Option.isNone_some, Option.isNone_none, h1.blk.cell], ?_⟩
    refine name_ok h2 (fun _ v3 h3 f3 => ?_) (fun _ _ v3 h3 f3 => ?_) <;>
    exact ifC (fun _ => hK _ v3 h3 ((f1.after ud).then f3.sub)) (fun _ => hK _ v3 h3 ((f1.after ud).then f3.sub))
  | str i =>
    obtain ⟨id, s', m, hc, hat, _⟩ := hi.str yr
    refine ifF rfl (ifT rfl (fun_ok h1 hi.ok hc hat fun v2 h2 f2 => ?_))
    exact ifC (fun _ => hK _ v2 h2 (f1.then f2.sub)) (fun _ => hK _ v2 h2 (f1.then f2.sub))
  | int n => exact ifF rfl (ifF rfl (hK _ v1 h1 f1))
  | ref i => exact ifF rfl (ifF rfl (hK _ v1 h1 f1))
  | fn i => exact ifF rfl (ifF rfl (hK _ v1 h1 f1))

/-- Two words are told apart, or made one: any words. -/
theorem right_both {z u : Int} : (rightI C d.L z = false ∨ rightI C d.L u = false) ∨ (rightI C d.L z = true ∧ rightI C d.L u = true) := by
  cases rightI C d.L z <;> cases rightI C d.L u <;> simp
end

end Go.Proofs.YtdaenijbokialaaGreat
