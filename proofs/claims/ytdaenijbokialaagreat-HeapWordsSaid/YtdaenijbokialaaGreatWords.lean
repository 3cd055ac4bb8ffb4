/- No call panics, whatever words are handed in. -/
import Derived.Test.YtdaenijbokialaaGreatAny
namespace Go.Proofs.YtdaenijbokialaaGreat
open Go Go.D Go.Proofs
set_option linter.unusedSimpArgs false
set_option linter.unusedVariables false
set_option maxRecDepth 8000

theorem rightI_same {C C' : List Wd} {L L' : List Slot} (h : ∀ x, rightW C' L' x = rightW C L x) (z : Int) : rightI C' L' z = rightI C L z := by
  unfold rightI
  rcases wordOf z with _ | x
  · rfl
  · exact h x

section
variable {w : World} {d : HpD} {E : List Nat} {C : List Wd} {k0 : Nat}

theorem Unify_any {v : World} {z u : Int} {K : Bool → Int → World → Prop} (h : Hp w v d E) (hi : HI d C k0) (hz : 0 ≤ z ∧ z < 2 ^ 64) (hu : 0 ≤ u ∧ u < 2 ^ 64) (hs : d.starts[d.starts.length - 1]? = some ((0 : Nat) : Int))
    (hK : ∀ ok e v' d' C', Hp w v' d' E → HI d' C' k0 → Bd d C d' C' 0 → (rightI C d.L z = false → e = 1) → Far E v v' → K ok e v') : C_heap_Heap_Unify d.a z u v K := by
  rcases right_both (C := C) (d := d) (z := z) (u := u) with e | ⟨e1, e2⟩
  · exact Unify_no h hi hz hu e fun v1 h1 f1 => hK _ _ v1 d C h1 hi (Bd.refl d C 0) (fun _ => rfl) f1
  · obtain ⟨x, rfl, xf, xr⟩ := rightI_word hz.1 hz.2 e1
    obtain ⟨y, rfl, yf, yr⟩ := rightI_word hu.1 hu.2 e2
    exact Unify_ok h hi xf yf xr yr hs (.inl rfl) fun ok v1 d1 C1 h1 hi1 bd _ _ f1 => hK ok 0 v1 d1 C1 h1 hi1 bd (fun e => by rw [e1] at e; cases e) f1

theorem Bind_any {v : World} {z u : Int} {K : Bool → Int → World → Prop} (h : Hp w v d E) (hi : HI d C k0) (hz : 0 ≤ z ∧ z < 2 ^ 64) (hu : 0 ≤ u ∧ u < 2 ^ 64) (hs : d.starts[d.starts.length - 1]? = some ((0 : Nat) : Int))
    (hK : ∀ ok e v' d' C', Hp w v' d' E → HI d' C' k0 → Bd d C d' C' 0 → (rightI C d.L z = false → e = 1) → Far E v v' → K ok e v') : C_heap_Heap_Bind d.a z u v K := by
  have no : (rightI C d.L z = false ∨ rightI C d.L u = false ∨ ∃ x p : Wd, z = x.enc ∧ x.fits ∧ rightW C d.L x = true ∧ Der C x p ∧ p.tag ≠ 1) → C_heap_Heap_Bind d.a z u v K := fun e =>
    Bind_no h hi hz hu e fun v1 h1 f1 => hK _ _ v1 d C h1 hi (Bd.refl d C 0) (fun _ => rfl) f1
  rcases right_both (C := C) (d := d) (z := z) (u := u) with e | ⟨e1, e2⟩
  · exact no (e.imp_right .inl)
  · obtain ⟨x, rfl, xf, xr⟩ := rightI_word hz.1 hz.2 e1
    obtain ⟨y, rfl, yf, yr⟩ := rightI_word hu.1 hu.2 e2
    obtain ⟨p, hp⟩ := hi.wf.der x xr
    obtain ⟨q, hq⟩ := hi.wf.der y yr
    have nn : rightI C d.L x.enc = false → (0 : Int) = 1 := fun e => by rw [e1] at e; cases e
    by_cases t1 : p.tag = 1
    · obtain ⟨j, rfl⟩ : ∃ j, p = .ref j := by cases p <;> simp [Wd.tag] at t1 ⊢
      exact Bind_ok h hi xf yf xr yr hp hq hs (.inl rfl) (fun _ v1 h1 f1 => hK _ _ v1 d C h1 hi (Bd.refl d C 0) nn f1) (fun _ _ v1 h1 f1 => hK _ _ v1 d C h1 hi (Bd.refl d C 0) nn f1)
        fun _ _ v1 d1 h1 hi1 bd f1 => hK _ _ v1 d1 _ h1 hi1 bd nn f1
    · exact no (.inr (.inr ⟨x, p, rfl, xf, xr, hp, t1⟩))

/-- Two words in a row of their own. -/
theorem two_words {v : World} {x y : Int} {K : Option Addr → Nat → Nat → World → Prop} (h : Hp w v d E) (hK : ∀ v' p b, Hp w v' d (b :: E) → WRow v' (b :: E) p [x, y] → Upd [] v v' → K p 2 2 v') : BSl Tryz.prog 36 2 [(0, .int .u64 x), (1, .int .u64 y)] v K := by
  refine BSlL_rule eS_36 [.int .u64 x, .int .u64 y] (by rfl) (by simp [Value.cells]) (by rfl) (by omega) fun v1 hs u => ?_
  have hlt := hs.inn v.heap.size (by simp)
  refine hK v1 _ v.heap.size (h.watch u (Y := [v.heap.size]) (by intro k hk; simp at hk; omega) (by intro k hk; simp at hk; omega)) ⟨?_, fun y hy _ => ?_⟩ u
  · have := hs.rd
    simpa [Value.cells] using this
  · cases hy; simp

/-- Words are told, where all right ones come to terms. -/
theorem Decode_two {v : World} {a b : Int} {p : Option Addr} {c : Nat} {K : Option Addr → Nat → Nat → Option Addr → Nat → Nat → Int → World → Prop} (h : Hp w v d E) (hi : HI d C k0) (ac : Acy C d.L d.FL) (hz : WRow v E p [a, b]) (ha : 0 ≤ a ∧ a < 2 ^ 64) (hb : 0 ≤ b ∧ b < 2 ^ 64)
    (hK : ∀ v' p' n' c' vp vn vc e, Hp w v' d E → (rightI C d.L a = false → e = 1) → Far E v v' → K p' n' c' vp vn vc e v') : C_heap_Heap_Decode d.a p 2 c v K := by
  rcases right_both (C := C) (d := d) (z := a) (u := b) with e | ⟨e1, e2⟩
  · refine Decode_no (zs := [a, b]) h hi.ok hz (by show 2 < 2 ^ 30; omega) (fun z hz => by simp at hz; rcases hz with rfl | rfl <;> assumption) ?_ fun v1 h1 f1 => hK _ _ _ _ _ _ _ _ h1 (fun _ => rfl) f1
    rcases e with e | e
    · exact ⟨a, by simp, e⟩
    · exact ⟨b, by simp, e⟩
  · obtain ⟨x, rfl, xf, xr⟩ := rightI_word ha.1 ha.2 e1
    obtain ⟨y, rfl, yf, yr⟩ := rightI_word hb.1 hb.2 e2
    obtain ⟨t, ht⟩ := ac x xr
    obtain ⟨u, hu⟩ := ac y yr
    have nn : ∀ {e : Int}, rightI C d.L x.enc = false → e = 1 := fun e => by rw [e1] at e; cases e
    refine Decode_ok (xs := [x, y]) (ts := [t, u]) h hi hz (by show 2 < 2 ^ 16; omega) (by simpa using ⟨xf, yf⟩) (by simpa using ⟨xr, yr⟩) rfl (fun i h1 h2 => ?_) (fun _ v1 h1 f1 => hK _ _ _ _ _ _ _ _ h1 nn f1) fun _ v1 p1 c1 vp vc Y RL h1 _ _ _ _ _ _ f1 => hK _ _ _ _ _ _ _ _ (h1.less fun k hk => by simp [hk]) nn f1
    match i, h1 with
    | 0, _ => exact ht
    | 1, _ => exact hu

/-- A term is made, or refused. -/
theorem Encode_some {F : List Nat} (t : Tm) {v : World} {p : Option Addr} {c : Nat} {K : Int → Int → World → Prop} (hp : RdA v F t.l p 0) (hFE : ∀ k ∈ F, k ∈ E) (hz : t.size < 2 ^ 60) (h : Hp w v d E) (fr : Fresh d 16384 100)
    (hK : ∀ x e v' d' C' k', Hp w v' d' E → HI d' C' k' → Acy C' d'.L d'.FL → KinH d d' → Far E v v' → K x e v') : C_heap_Heap_Encode d.a t.kind t.n t.s p t.l.length c none v K := by
  have ac0 : Acy [] d.L d.FL := Acy.nil d.FL fr.hi.n64
  by_cases ck : checkT t = 0
  · obtain ⟨_, _, hsz⟩ := checkT_0 ck
    have hn3 := need_le t []
    refine Encode_nil t hp hFE ck h fr.hi (by omega) (fun hl => by rw [fr.lim] at hl; simp at hl; omega) fun hl3 v3 d3 C3 V3 x3 h3 hi3 _ _ _ _ _ _ kin3 _ _ ac3 _ f3 => hK _ _ v3 d3 C3 _ h3 hi3 (ac3 ac0) kin3 f3
  · exact Encode_no t hp hFE hz h ck fun v1 h1 u1 => hK _ _ v1 d [] 0 h1 fr.hi ac0 (KinH.refl d) (Far.keep u1)

theorem HeapWords_law {a b i : Int} {t : Tm} {p : Option Addr} {c : Nat} (ht : tmIn w t p) (ha : 0 ≤ a ∧ a < 2 ^ 64) (hb : 0 ≤ b ∧ b < 2 ^ 64) : C_law20_HeapWords t.kind t.n t.s p t.l.length c a b i w fun r w' => r = true ∧ Upd [] w w' := by
  apply C_law20_HeapWords.of
  unfold F_law20_HeapWords
  obtain ⟨ra, sa, _, _⟩ := ht
  have iF : In (List.range w.heap.size) w := fun k hk => List.mem_range.1 hk
  refine New_rule fun r w1 hr U1 b1 => ?_
  simp only [NN_some, addN, drw_cell, drw_heap, exS, exI, exB, exP, exM, exStr, exV, a0, a1, a2, a3, a4, a5, a6, a7, a8, a9, a10, a11, a12, a13, maxI_eq, Nat.zero_add, Nat.add_zero, Nat.mul_one, Option.isNone_some, Option.isNone_none, b1.cell]
  refine Large_ok t (RdA.keep U1 ra) (iF.upd U1) sa fun w2 u2 => ?_
  have U2 := U1.after u2
  by_cases la : (t.large 0 0).1 = true
  · rw [la]; exact ifT rfl (lives_ok fun z' u => ⟨rfl, U2.after u⟩)
  have la : (t.large 0 0).1 = false := by simpa using la
  rw [la]
  have hz := not_large la
  have b2 := b1.upd u2 (by simp)
  refine ifF rfl (HNew_ok (Upd.refl [] w2) (by omega) (by omega) (by omega) (by omega) fun v1 d1 h1 fr u3 _ => ?_)
  refine lives_ok fun v2 u4 => ifF rfl (ifF rfl (ifF rfl ?_))
  have h2 := (h1.keep u4).base
  rw [List.nil_append] at h2
  have V2 := u3.after u4
  have b3 := b2.upd V2 (by simp)
  have sub : ∀ k ∈ List.range w.heap.size, k ∈ List.range w2.heap.size := fun k hk => by
    have := U2.size
    simp only [List.mem_range] at hk ⊢; omega
  simp only [NN_some, addN, drw_cell, drw_heap, exS, exI, exB, exP, exM, exStr, exV, a0, a1, a2, a3, a4, a5, a6, a7, a8, a9, a10, a11, a12, a13, maxI_eq, Nat.zero_add, Nat.add_zero, Nat.mul_one, Option.isNone_some, Option.isNone_none, b3.cell]
  refine Encode_some t (RdA.keep (U2.after V2) ra) sub (by omega) h2 fr fun x0 e0 v3 d3 C3 k3 h3 hi3 ac3 kin3 f3 => ?_
  have st3 : d3.starts[d3.starts.length - 1]? = some ((0 : Nat) : Int) := by rw [kin3.starts, fr.starts]; rfl
  rw [← kin3.a]
  refine Unify_any h3 hi3 ha hb st3 fun ok4 e4 v4 d4 C4 h4 hi4 bd4 he4 f4 => ?_
  have st4 : d4.starts[d4.starts.length - 1]? = some ((0 : Nat) : Int) := by rw [bd4.starts]; exact st3
  have r4 : rightI C4 d4.L a = rightI C3 d3.L a := rightI_same (fun x => by rw [bd4.L]; exact bd4.rw_ x) a
  rw [← bd4.a]
  refine Bind_any h4 hi4 ha hb st4 fun ok5 e5 v5 d5 C5 h5 hi5 bd5 he5 f5 => ?_
  have st5 : d5.starts[d5.starts.length - 1]? = some ((0 : Nat) : Int) := by rw [bd5.starts]; exact st4
  have r5 : rightI C5 d5.L a = rightI C3 d3.L a := (rightI_same (fun x => by rw [bd5.L]; exact bd5.rw_ x) a).trans r4
  have ac5 : Acy C5 d5.L d5.FL := by rw [bd5.L, bd5.FL]; exact bd5.acy (by rw [bd4.L, bd4.FL]; exact bd4.acy ac3)
  rw [← bd5.a]
  -- the end
  have fin : ∀ {z : World} {x6 e6 e8 : Int} {d9 : HpD} {C9 : List Wd}, (rightI C3 d3.L a = false → e6 = 1) → (rightI C3 d3.L a = false → e8 = 1) → Hp w2 z d9 (List.range w2.heap.size) → HI d9 C9 k3 → d9.a = d5.a → rightI C9 d9.L a = rightI C3 d3.L a →
      C_heap_Heap_Reaches d5.a a b z fun t79 w1_13 => C_heap_Heap_Is d5.a a ⟨#[102]⟩ i w1_13 fun t83 w1_14 => C_heap_Heap_Key d5.a a w1_14 fun t860 t861 t862 w1_15 => C_heap_Heap_Cell d5.a i w1_15 fun t89 w1_16 => C_heap_Heap_Deref d5.a a w1_16 fun t92 w1_17 =>
        If (t92 != (0 : Int)) (True ∧ Upd [] w w1_17) (If (e4 == (1 : Int)) (If (e5 == (1 : Int)) (If (e6 == (1 : Int)) ((e8 == (1 : Int)) = true ∧ Upd [] w w1_17) (F_law20_HeapWords_k2 (fun r w' => r = true ∧ Upd [] w w') w1_17)) (F_law20_HeapWords_k2 (fun r w' => r = true ∧ Upd [] w w') w1_17)) (F_law20_HeapWords_k2 (fun r w' => r = true ∧ Upd [] w w') w1_17)) := by
    intro z x6 e6 e8 d9 C9 he6 he8 hz hiz ea r9
    rw [← ea]
    refine Reaches_any hz hiz ha hb fun _ z1 hz1 _ => hIs_any hz1 hiz ha fun _ z2 hz2 _ => Key_any hz2 hiz ha fun _ _ _ z3 hz3 _ => ?_
    have cell : ∀ {z4 : World} {y : Int}, Hp w2 z4 d9 (List.range w2.heap.size) → C_heap_Heap_Deref d9.a a z4 fun t92 w1_17 =>
        If (t92 != (0 : Int)) (True ∧ Upd [] w w1_17) (If (e4 == (1 : Int)) (If (e5 == (1 : Int)) (If (e6 == (1 : Int)) ((e8 == (1 : Int)) = true ∧ Upd [] w w1_17) (F_law20_HeapWords_k2 (fun r w' => r = true ∧ Upd [] w w') w1_17)) (F_law20_HeapWords_k2 (fun r w' => r = true ∧ Upd [] w w') w1_17)) (F_law20_HeapWords_k2 (fun r w' => r = true ∧ Upd [] w w') w1_17)) := fun {z4 y} hz4 => by
      refine Deref_any hz4 hiz ha (fun e z5 hz5 _ => ?_) fun x y _ _ _ _ _ _ z5 hz5 _ => ifT (by simpa using enc_ne0 y) ⟨trivial, U2.after hz5.U⟩
      rw [r9] at e
      refine ifF rfl (ifT (by rw [he4 e]; rfl) (ifT (by rw [he5 (by rw [r4]; exact e)]; rfl) (ifT (by rw [he6 e]; rfl) ⟨by rw [he8 e]; rfl, U2.after hz5.U⟩)))
    exact Cell_ok hz3 hiz (fun _ z4 hz4 _ => cell (y := 0) hz4) fun x _ z4 hz4 _ => cell (y := 0) hz4
  have mid : ∀ {z : World} {x6 e6 : Int}, (rightI C3 d3.L a = false → e6 = 1) → Hp w2 z d5 (List.range w2.heap.size) → BSl Tryz.prog 36 2 [(0, .int .u64 a), (1, .int .u64 b)] z fun t66P t66N t66C w1_10 =>
      C_heap_Heap_Decode d5.a t66P t66N t66C w1_10 fun t670P t670N t670C t671P t671N t671C t672 w1_11 =>
      C_heap_Heap_Put d5.a a i b w1_11 fun t75 w1_12 => C_heap_Heap_Reaches d5.a a b w1_12 fun t79 w1_13 => C_heap_Heap_Is d5.a a ⟨#[102]⟩ i w1_13 fun t83 w1_14 => C_heap_Heap_Key d5.a a w1_14 fun t860 t861 t862 w1_15 => C_heap_Heap_Cell d5.a i w1_15 fun t89 w1_16 => C_heap_Heap_Deref d5.a a w1_16 fun t92 w1_17 =>
        If (t92 != (0 : Int)) (True ∧ Upd [] w w1_17) (If (e4 == (1 : Int)) (If (e5 == (1 : Int)) (If (e6 == (1 : Int)) ((t672 == (1 : Int)) = true ∧ Upd [] w w1_17) (F_law20_HeapWords_k2 (fun r w' => r = true ∧ Upd [] w w') w1_17)) (F_law20_HeapWords_k2 (fun r w' => r = true ∧ Upd [] w w') w1_17)) (F_law20_HeapWords_k2 (fun r w' => r = true ∧ Upd [] w w') w1_17)) := by
    intro z x6 e6 he6 hz
    refine two_words hz fun z1 p1 q1 hz1 wr1 u1 => Decode_two hz1 hi5 ac5 wr1 ha hb fun z2 p2 n2 c2 vp vn vc e8 hz2 he8 _ => ?_
    have hz2' := hz2.less (E' := List.range w2.heap.size) fun k hk => by simp at hk; simp [hk]
    have he8' : rightI C3 d3.L a = false → e8 = 1 := fun e => he8 (by rw [r5]; exact e)
    refine Put_any hz2' hi5 ha hb st5 (fun _ z3 hz3 _ => fin (x6 := 0) he6 he8' hz3 hi5 rfl r5) fun j y hg yf yr z3 d6 hz3 hi6 ks6 _ _ => fin (x6 := 0) he6 he8' hz3 hi6 ks6.a ?_
    have hyd : Der C5 y y := by
      obtain ⟨_, ⟨_, _, _, _, hd⟩, _⟩ := hg
      exact hd.self
    rw [rightI_same (C := C5) (L := d5.L) (fun x => by rw [ks6.L]; exact (hi5.wf.set hg.2.2.1 yr hyd).2 x) a]
    exact r5
  exact Arg_any h5 hi5 ha (fun z hz _ => mid (x6 := 0) (e6 := 1) (fun _ => rfl) hz) fun e _ z hz _ => mid (x6 := 0) (fun e' => by rw [r5] at e; rw [e] at e'; cases e') hz
end

end Go.Proofs.YtdaenijbokialaaGreat
