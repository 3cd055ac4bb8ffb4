/- Every call of a table of names, in every order: the law. -/
import Derived.Test.YtifgjlkmmbpbkaaTells
namespace Go.Proofs.Ytifgjlkmmbpbkaa
open Go Go.D Go.Proofs
set_option linter.unusedSimpArgs false
set_option linter.unusedVariables false
set_option maxRecDepth 8000

/-- Both tables. -/
structure Bo (w v : World) (a xa : Option Addr) (x : RtD) (L : List Slot) (made lim : Int) : Prop where
  tl : Tl w v x.FT a L made lim
  rt : Rt v x
  xa : x.a = xa
  eL : x.L = L
  em : x.made = made
  el : x.lim = lim
  sx : Since x.FT w
  mb : 0 ≤ made ∧ made ≤ 1000
  lb : lim ≤ 16384

section
variable {w v v' : World} {X Y : List Nat} {a xa : Option Addr} {x x' : RtD} {L : List Slot} {made lim : Int}

theorem Tl.less (t : Tl w v X a L made lim) (h : ∀ k ∈ Y, k ∈ X) : Tl w v Y a L made lim := by
  obtain ⟨FT, hh, s, u, d, i⟩ := t
  exact ⟨FT, hh, s, u, fun k hk => d k (h k hk), fun k hk => i k (h k hk)⟩

theorem Far.rt (f : Far X v v') (h : Rt v x) (hX : ∀ k ∈ x.FT, k ∈ X) : Rt v' x := by
  obtain ⟨F, u, d⟩ := f
  exact h.upd u fun k hk => d k (hX k hk)

theorem Far.blk {b : Nat} {arr : Array Value} (f : Far X v v') (h : Blk v b arr) (hX : b ∈ X) : Blk v' b arr := by
  obtain ⟨F, u, d⟩ := f
  exact h.upd u (d b hX)

/-- The document's is turned. -/
theorem Tl.ref (t : Tl w v x.FT a L made lim) (sx : Since x.FT w) (h' : Rt v' x') (u : Upd x.FT v v') (s : Sub x'.FT x.FT v) : Tl w v' x'.FT a L made lim :=
  t.own u (fun _ h => h) sx s h'.inn

theorem Bo.keep (b : Bo w v a xa x L made lim) (u : Upd [] v v') : Bo w v' a xa x L made lim := ⟨b.tl.keep u, b.rt.keep u, b.xa, b.eL, b.em, b.el, b.sx, b.mb, b.lb⟩

theorem do_ok {o : OpV} {K : Bool → World → Prop} (b : Bo w v a xa x L made lim) (hm : made < 1000) (hK : ∀ v' x' L' made', Bo w v' a xa x' L' made' lim → made' ≤ made + 1 → K true v') : C_law04_do a xa o.kind o.name o.id v K := by
  apply C_law04_do.of
  unfold F_law04_do
  refine New_rule fun r w1 hr u1 hb1 => ?_
  have t1 := b.tl.watch u1 (Y := [r]) (fun k hk => by simp at hk; omega) (fun k hk => by simp at hk; subst hk; exact hb1.lt)
  have r1 := b.rt.keep u1
  have hxa := b.xa
  subst hxa
  have hrx : r ∉ x.FT := fun hx => by have := b.rt.inn r hx; omega
  have c0 : ∀ {z}, Blk z r #[.int .i64 o.kind, .string o.name, .int .i64 o.id] → z.cell? ⟨r, 0, none⟩ = some (.int .i64 o.kind) := fun h => by rw [h.cell]; rfl
  have c1 : ∀ {z}, Blk z r #[.int .i64 o.kind, .string o.name, .int .i64 o.id] → z.cell? ⟨r, 1, none⟩ = some (.string o.name) := fun h => by rw [h.cell]; rfl
  have c2 : ∀ {z}, Blk z r #[.int .i64 o.kind, .string o.name, .int .i64 o.id] → z.cell? ⟨r, 2, none⟩ = some (.int .i64 o.id) := fun h => by rw [h.cell]; rfl
  have inX : ∀ k ∈ x.FT, k ∈ [r] ++ x.FT := fun k hk => by simp [hk]
  have mb := b.mb
  have lb := b.lb
  have eL := b.eL
  have em := b.em
  have el := b.el
  -- the document's, as it was
  have bo : ∀ {z : World} {L' : List Slot} {m' : Int}, Tl w z ([r] ++ x.FT) a L' m' lim → Rt z x → x.L = L' → x.made = m' → 0 ≤ m' ∧ m' ≤ 1000 → Bo w z a x.a x L' m' lim := fun t hr h1 h2 h3 => ⟨t.less inX, hr, rfl, h1, h2, el, b.sx, h3, lb⟩
  -- the document's, turned
  have bt : ∀ {z z' : World} {x' : RtD} {L' : List Slot} {m' : Int}, Tl w z ([r] ++ x.FT) a L' m' lim → Rt z' x' → x'.a = x.a → x'.L = L' → x'.made = m' → x'.lim = lim → Upd x.FT z z' → Sub x'.FT x.FT z → 0 ≤ m' ∧ m' ≤ 1000 → Bo w z' a x.a x' L' m' lim := fun t hr h0 h1 h2 h3 u s h4 => by
    have tl := (t.less inX).ref b.sx hr u s
    exact ⟨tl, hr, h0, h1, h2, h3, b.sx.step s t.U.size, h4, lb⟩
  simp only [addN, Nat.zero_add, c0 hb1, c1 hb1, c2 hb1, exI, exStr]
  refine ifC (fun _ => ?_) (fun _ => ifC (fun _ => ?_) (fun _ => ifC (fun _ => ?_) (fun _ => ifC (fun _ => ?_) (fun _ => ifC (fun _ => ?_) (fun _ => hK w1 x L made (bo t1 r1 eL em mb) (by omega))))))
  · -- Intern
    have hmx : 0 ≤ x.made ∧ x.made < 2 ^ 40 := by rw [em]; omega
    have hlx : x.lim ≤ 16384 := by rw [el]; exact lb
    refine t1.intern (by omega) (fun hlong w2 t2 f2 => ?_) (fun hsz i hi w2 t2 f2 => ?_) (fun hsz hn i hi w2 t2 f2 => ?_) (fun hsz hn hfr hl w2 t2 f2 => ?_) (fun hsz hn hfr hl w2 t2 f2 => ?_)
    all_goals have r2 := f2.rt r1 inX
    all_goals have hb2 := f2.blk hb1 (by simp)
    all_goals simp only [c1 hb2, exStr]
    · refine RtIntern_ok r2 hmx hlx (fun _ => ?_) (fun h => by omega) (fun h => by omega) (fun h => by omega) (fun h => by omega)
      exact ifT rfl (hK w2 x L made (bo t2 r2 eL em mb) (by omega))
    · refine RtIntern_ok r2 hmx hlx (fun h => by omega) (fun _ j hj w3 u3 => ?_) (fun _ h => by rw [eL, hi] at h; cases h) (fun _ h => by rw [eL, hi] at h; cases h) (fun _ h => by rw [eL, hi] at h; cases h)
      rw [eL, hi] at hj
      obtain rfl := Option.some.inj hj
      exact ifT (by simp) (hK w3 x L made ((bo t2 r2 eL em mb).keep u3) (by omega))
    · refine RtIntern_ok r2 hmx hlx (fun h => by omega) (fun _ j hj => by rw [eL, hn] at hj; cases hj) (fun _ _ j hj w3 r3 u3 => ?_) (fun _ _ h => by rw [eL, hi] at h; cases h) (fun _ _ h => by rw [eL, hi] at h; cases h)
      rw [eL, hi] at hj
      obtain rfl := Option.some.inj hj
      refine ifT (by simp) (hK w3 _ _ _ (bt t2 r3 rfl (by show x.L.set i _ = _; rw [eL]) (by show x.made + 1 = _; rw [em]) el u3 (Sub.refl _ _) (by omega)) (by omega))
    · refine RtIntern_ok r2 hmx hlx (fun h => by omega) (fun _ j hj => by rw [eL, hn] at hj; cases hj) (fun _ _ j hj => by rw [eL, hfr] at hj; cases hj) (fun _ _ _ _ w3 u3 => ?_) (fun _ _ _ h => by rw [eL, el] at h; omega)
      exact ifT rfl (hK w3 x L made ((bo t2 r2 eL em mb).keep u3) (by omega))
    · refine RtIntern_ok r2 hmx hlx (fun h => by omega) (fun _ j hj => by rw [eL, hn] at hj; cases hj) (fun _ _ j hj => by rw [eL, hfr] at hj; cases hj) (fun _ _ _ h => by rw [eL, el] at h; omega) (fun _ _ _ _ w3 x3 r3 e1 e2 e3 e4 u3 s3 => ?_)
      refine ifT (by rw [eL]; simp) (hK w3 x3 _ _ (bt t2 r3 e1 (by rw [e2, eL]) (by rw [e3, em]) (by rw [e4, el]) u3 s3 (by omega)) (by omega))
  · -- Find
    unfold F_law04_do_k1 F_law04_do_k2 F_law04_do_k3
    refine t1.find fun w2 t2 f2 => ?_
    have r2 := f2.rt r1 inX
    have hb2 := f2.blk hb1 (by simp)
    simp only [c1 hb2, exStr]
    refine RtFind_ok r2 fun w3 u3 => ?_
    have fin := hK w3 x L made ((bo t2 r2 eL em mb).keep u3) (by omega)
    rw [eL]
    rcases hf : findN L o.name with _ | i
    · exact ifT rfl (ifT rfl (ifF rfl fin))
    · refine ifT (by simp) (ifF rfl (ifT (by simp) (ifT rfl fin)))
  · -- Name
    refine t1.name (fun hno w2 t2 f2 => ?_) (fun hyes hi w2 t2 f2 => ?_)
    all_goals have r2 := f2.rt r1 inX
    all_goals have hb2 := f2.blk hb1 (by simp)
    all_goals simp only [c2 hb2, exI]
    · refine RtIs_ok r2 ?_
      rw [eL, hno]
      exact ifT rfl (ifT (by simp) (hK w2 x L made (bo t2 r2 eL em mb) (by omega)))
    · refine RtIs_ok r2 ?_
      rw [eL, hyes]
      refine ifF rfl ?_
      have rd := r2.keep (drw_upd w2)
      have hbd := hb2.drw
      have eN : NN x.a = NN (some ⟨x.b, 0, none⟩) := rfl
      rw [eN]
      obtain ⟨h0, _, _⟩ := isN_get hyes
      subst eL
      obtain ⟨bb, oo, hp, q0, q1, q2⟩ := rd.slot hi
      simp only [NN_some, addN, Nat.zero_add, Nat.add_zero, rd.c0, exS, c2 hbd, exI, hp, q0, exStr, strEq]
      have := rd.len
      exact ⟨h0, by omega, ifT (by simp) (hK _ x x.L made ((bo t2 r2 rfl em mb).keep (drw_upd w2)) (by omega))⟩
  · -- Mark
    refine t1.mark (fun hno w2 t2 f2 => ?_) (fun hyes hi w2 t2 f2 => ?_)
    all_goals have r2 := f2.rt r1 inX
    all_goals have hb2 := f2.blk hb1 (by simp)
    all_goals simp only [c2 hb2, exI]
    · refine RtIs_ok r2 ?_
      rw [eL, hno]
      exact ifT rfl (hK w2 x L made (bo t2 r2 eL em mb) (by omega))
    · refine RtIs_ok r2 ?_
      rw [eL, hyes]
      refine ifF rfl ?_
      have rd := r2.keep (drw_upd w2)
      have hbd := hb2.drw
      have eN : NN x.a = NN (some ⟨x.b, 0, none⟩) := rfl
      rw [eN]
      obtain ⟨h0, _, _⟩ := isN_get hyes
      subst eL
      obtain ⟨bb, oo, hp, q0, q1, q2⟩ := rd.slot hi
      have ep : ∀ Q, NN x.lp Q = NN (some ⟨bb, oo, none⟩) Q := fun Q => by rw [hp]
      simp only [NN_some, addN, Nat.zero_add, Nat.add_zero, rd.c0, exS, c2 hbd, exI, ep]
      have := rd.len
      refine ⟨h0, by omega, setSlot (j := 2) (y := ⟨x.L[o.id.toNat].name, x.L[o.id.toNat].is, true⟩) rd.l hi hp (by omega) rfl (by simp [slC]) fun w3 hl3 u3 => ?_⟩
      have r3 : Rt w3 { x with L := x.L.set o.id.toNat ⟨x.L[o.id.toNat].name, x.L[o.id.toNat].is, true⟩ } := ⟨rd.blk.upd u3 rd.bG, hl3, rd.bG, by simpa using rd.ll⟩
      refine hK w3 _ _ made (bt (t2.keep (drw_upd w2)) r3 rfl rfl em el (u3.mono fun k hk => .inl (by simp [RtD.FT, hk])) (Sub.refl _ _) mb) (by omega)
  · -- Sweep
    refine t1.sweep fun w2 t2 f2 => ?_
    have r2 := f2.rt r1 inX
    refine RtSweep_ok r2 fun w3 r3 u3 => ?_
    rw [eL]
    have := hK w3 _ _ made (bt t2 r3 rfl (by show swL x.L x.L.length = _; rw [eL]) em el u3 (Sub.refl _ _) mb) (by omega)
    simpa using this

end

theorem AtomDoes_law {w : World} {limit : Int} {p : Option Addr} {n c : Nat} {ls : List Value} (hl : Rd w 3 p n ls) (ho : Ops ls n) : C_law04_AtomDoes limit p n c w fun r w' => r = true ∧ Upd [] w w' := by
  apply C_law04_AtomDoes.of
  unfold F_law04_AtomDoes F_law04_AtomDoes_k1 F_law04_AtomDoes_k6 F_law04_AtomDoes_L1
  by_cases hb : limit < 15 ∨ 16384 < limit
  · refine New_bad hb fun w1 u1 => RtNew_bad hb fun w2 u2 => lives_ok fun w3 u3 => ifF rfl (ifF rfl (ifF rfl (ifT rfl (ifF rfl ?_))))
    refine ⟨fun s v => s.i = 0 ∧ Upd [] w v, fun _ _ => 0, ⟨rfl, (u1.after u2).after u3⟩, ?_⟩
    rintro ⟨i⟩ v ⟨rfl, u⟩
    unfold B_law04_AtomDoes_L1 F_law04_AtomDoes_k2
    exact ifC (fun _ => ifC (fun _ => ifF rfl ⟨rfl, u⟩) (fun _ => ⟨rfl, u⟩)) (fun _ => ⟨rfl, u⟩)
  · refine Tl.new (w := w) (Upd.refl _ _) (by omega) (by omega) fun w1 b t1 => RtNew_ok (by omega) (by omega) fun w2 x r2 xl xm xL u2 n2 => lives_ok fun w3 u3 => ifF rfl (ifF rfl (ifF rfl (ifF rfl ?_)))
    obtain ⟨a, ha⟩ : ∃ a, a = (some ⟨b, 0, none⟩ : Option Addr) := ⟨_, rfl⟩
    obtain ⟨xa, hxa⟩ : ∃ xa, xa = x.a := ⟨_, rfl⟩
    have hxs : xa.isNone = false := by rw [hxa]; rfl
    have t2 := (t1.watch u2 n2 r2.inn).keep u3
    have b3 : Bo w w3 (some ⟨b, 0, none⟩) x.a x initL 0 limit := ⟨t2.less fun k hk => by simp [hk], r2.keep u3, rfl, xL, xm, xl, fun k hk => by have := n2 k hk; have := t1.U.size; omega, by omega, by omega⟩
    rw [← ha, ← hxa] at b3 ⊢
    refine ⟨fun s v => 0 ≤ s.i ∧ s.i ≤ 60 ∧ ∃ x L made, Bo w v a xa x L made limit ∧ made ≤ s.i, fun s _ => (60 - s.i).toNat, ⟨by simp, by simp, x, _, _, b3, by simp⟩, ?_⟩
    clear b3 hxa ha t2 r2 n2 t1
    rintro ⟨i⟩ v ⟨hi0, hi1, x', L, made, b, hmade⟩
    dsimp only at hi0 hi1 hmade
    unfold B_law04_AtomDoes_L1 F_law04_AtomDoes_k2 F_law04_AtomDoes_k3 F_law04_AtomDoes_k4 F_law04_AtomDoes_k5
    dsimp only
    refine ifC (fun hc => ifC (fun hc2 => ifT (by rw [hxs]; rfl) ?_) (fun _ => ⟨rfl, b.tl.U⟩)) (fun _ => ⟨rfl, b.tl.U⟩)
    simp at hc hc2
    obtain ⟨y, o, hx, hcell⟩ := Ops.get hl ho (i := i.toNat) (by omega)
    subst hx
    have fin : ∀ {v' : World} {x' : RtD} {L' : List Slot} {m' : Int}, Bo w v' a xa x' L' m' limit → m' ≤ i + 1 → (0 ≤ IntKind.i64.wrap (i + 1) ∧ IntKind.i64.wrap (i + 1) ≤ 60 ∧ ∃ x L made, Bo w v' a xa x L made limit ∧ made ≤ IntKind.i64.wrap (i + 1)) ∧ (60 - IntKind.i64.wrap (i + 1)).toNat < (60 - i).toNat := by
      intro v' x' L' m' b' hm'
      rw [i64id (by omega) (by omega)]
      exact ⟨⟨by omega, by omega, x', L', m', b', hm'⟩, by omega⟩
    obtain ⟨c0, c1, c2⟩ := hcell v (hl.keep b.tl.U)
    simp only [NN_some, addA, Nat.add_zero, drw_cell, c0, c1, c2, exI, exStr]
    refine ⟨hi0, hc, ifC (fun _ => fin b (by omega)) (fun _ => ⟨hi0, hc, do_ok (o := o) (b.keep (drw_upd v)) (by omega) fun v4 x4 L4 m4 b4 hm4 => ifF rfl ?_⟩)⟩
    refine b4.tl.len fun v5 t5 f5 => ?_
    have r5 := f5.rt b4.rt (fun _ h => h)
    have hx4 := b4.xa
    have eN : ∀ Q, NN xa Q = NN (some ⟨x4.b, 0, none⟩) Q := fun Q => by rw [← hx4]; rfl
    rw [show C_ref04_Table_Len xa = C_ref04_Table_Len x4.a by rw [hx4]]
    refine RtLen_ok r5 fun v6 u6 => ?_
    rw [b4.eL]
    refine ifF (by simp) ?_
    have t6 := t5.keep u6
    have r6 := r5.keep u6
    simp only [eN, NN_some, addN, Nat.zero_add, Nat.add_zero, r6.c0, exS]
    refine t6.slots fun v7 t7 f7 => ?_
    have r7 := f7.rt r6 (fun _ h => h)
    refine ⟨r7.c0, ifF (by rw [r6.len, b4.eL]; simp) ?_⟩
    simp only [r7.c2, exI]
    refine t7.count fun v8 t8 f8 => ?_
    have r8 := f8.rt r7 (fun _ h => h)
    refine ⟨r8.c2, ifF (by rw [b4.em]; simp) ?_⟩
    obtain ⟨c0, c1, c2⟩ := hcell v8 (hl.keep t8.U)
    simp only [addA, c2, exI]
    refine ⟨hi0, hc, hi0, hc, t8.marked fun v9 t9 f9 => ?_⟩
    have r9 := f9.rt r8 (fun _ h => h)
    have b9 : Bo w v9 a xa x4 L4 m4 limit := ⟨t9, r9, b4.xa, b4.eL, b4.em, b4.el, b4.sx, b4.mb, b4.lb⟩
    obtain ⟨d0, d1, d2⟩ := hcell v9 (hl.keep t9.U)
    refine ⟨d2, ?_⟩
    rw [show C_ref04_Table_Is xa = C_ref04_Table_Is x4.a by rw [hx4]]
    refine RtIs_ok r9 ?_
    rw [b4.eL]
    have last := fin b9 (by omega)
    cases hn : isN L4 o.id with
    | false => exact ifF rfl (ifF (by simp) last)
    | true =>
      refine ifT rfl ?_
      obtain ⟨h0, hi, _⟩ := isN_get hn
      have hLL := b4.eL
      subst hLL
      obtain ⟨bb, oo, hp, q0, q1, q2⟩ := r9.slot hi
      rw [Nat.add_assoc] at q2
      simp only [r9.c0, exS, addA, d2, exI, hp, NN_some, addN, q2, exB]
      have := r9.len
      refine ⟨hi0, hc, h0, by omega, ifF ?_ last⟩
      rw [List.getElem?_eq_getElem hi]; simp

end Go.Proofs.Ytifgjlkmmbpbkaa
