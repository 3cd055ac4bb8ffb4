/- Every call of a table of functors, in every order: the law. -/
import Derived.Test.YtlngmelfjiemlaaLives
import Derived.Test.YtlngmelfjiemlaaRefF2
namespace Go.Proofs.Ytlngmelfjiemlaa
open Go Go.D Go.Proofs
set_option linter.unusedSimpArgs false
set_option linter.unusedVariables false
set_option maxRecDepth 8000

/-- A call. -/
structure OpV where
  kind : Int
  name : ByteArray
  id : Int

def OpV.cells (o : OpV) : List Value := [.int .i64 o.kind, .string o.name, .int .i64 o.id]

/-- The calls of a row. -/
def Ops (cs : List Value) (n : Nat) : Prop := ∀ i, i < n → ∃ o : OpV, (cs.drop (i * 3)).take 3 = o.cells

theorem Ops.get {w : World} {p : Option Addr} {n : Nat} {cs : List Value} (hr : Rd w 3 p n cs) (ho : Ops cs n) {i : Nat} (hi : i < n) : ∃ (x : Addr) (o : OpV), p = some x ∧ ∀ w', Rd w' 3 p n cs → w'.cell? (x.add (i * 3)) = some (.int .i64 o.kind) ∧ w'.cell? (x.add (i * 3 + 1)) = some (.string o.name) ∧ w'.cell? (x.add (i * 3 + 2)) = some (.int .i64 o.id) := by
  obtain ⟨x, hx, hc⟩ := hr.elem hi
  obtain ⟨o, h⟩ := ho i hi
  refine ⟨x, o, hx, fun w' hr' => ?_⟩
  obtain ⟨y, hy, hc⟩ := hr'.elem hi
  obtain rfl := Option.some.inj (hx.symm.trans hy)
  have key : ∀ j, j < 3 → w'.cell? (x.add (i * 3 + j)) = o.cells[j]? := fun j hj => by
    rw [hc j hj, ← h, List.getElem?_take, if_pos hj, List.getElem?_drop]
  exact ⟨key 0 (by omega), key 1 (by omega), key 2 (by omega)⟩

/-- All four tables. -/
structure Bo (w v : World) (a fa xa ya : Option Addr) (L : List Slot) (made alim : Int) (FL : List Fn.Slot) (flim : Int) (d : Fn.FtD) (x : RtD) (y : Fn.RfD) : Prop where
  bf : Bf w v (x.FT ++ y.FT) a fa L made alim FL flim d
  bx : Bx v x y
  xa : x.a = xa
  ya : y.a = ya
  eL : x.L = L
  em : x.made = made
  el : x.lim = alim
  fL : y.L = FL
  fl : y.lim = flim
  sx : Since (x.FT ++ y.FT) w
  mb : 0 ≤ made ∧ made ≤ 1000
  lb : flim ≤ 16384

section
variable {w v v' : World} {a fa xa ya : Option Addr} {L L' : List Slot} {made made' alim flim : Int} {FL FL' : List Fn.Slot} {d d' : Fn.FtD} {x x' : RtD} {y y' : Fn.RfD}

theorem Bo.keep (b : Bo w v a fa xa ya L made alim FL flim d x y) (u : Upd [] v v') : Bo w v' a fa xa ya L made alim FL flim d x y :=
  ⟨b.bf.keep u, b.bx.keep u, b.xa, b.ya, b.eL, b.em, b.el, b.fL, b.fl, b.sx, b.mb, b.lb⟩

/-- The program's first, then the document's. -/
theorem Bo.step {Z : List Nat} {v1 : World} (b : Bo w v a fa xa ya L made alim FL flim d x y) (bf : Bf w v1 (Z ++ (x.FT ++ y.FT)) a fa L' made' alim FL' flim d') (n : Ny v1 v' x x' y y') (h1 : x'.L = L') (h2 : x'.made = made') (h3 : y'.L = FL') (hm : 0 ≤ made' ∧ made' ≤ 1000) : Bo w v' a fa xa ya L' made' alim FL' flim d' x' y' := by
  have bf' : Bf w v1 (x.FT ++ y.FT) a fa L' made' alim FL' flim d' := bf.less fun k hk => by simp at hk ⊢; rcases hk with h | h <;> simp [h]
  exact ⟨bf'.own n.U (fun k hk => hk) b.sx n.S n.bx.inn, n.bx, n.a.trans b.xa, n.ya.trans b.ya, h1, h2, n.xl.trans b.el, h3, n.yl.trans b.fl, b.sx.step n.S bf.U.size, hm, b.lb⟩

theorem do_ok {o : OpV} {K : Bool → World → Prop} (b : Bo w v a fa xa ya L made alim FL flim d x y) (hm : made < 1000)
    (hK : ∀ v' L' made' FL' d' x' y', Bo w v' a fa xa ya L' made' alim FL' flim d' x' y' → made' ≤ made + 1 → K true v') : C_law05_do fa a ya o.kind o.name o.id v K := by
  apply C_law05_do.of
  unfold F_law05_do F_law05_do_k1 F_law05_do_k2 F_law05_do_k3 F_law05_do_k4
  refine New_rule fun r w1 hr u1 hb1 => ?_
  have t1 := b.bf.watch u1 (Y := [r]) (fun k hk => by simp at hk; omega) (fun k hk => by simp at hk; subst hk; exact hb1.lt)
  have x1 := b.bx.keep u1
  have eya := b.ya
  subst eya
  have hrX : r ∉ x.FT ++ y.FT := fun hx => by have := b.bx.inn r hx; omega
  have c0 : ∀ {z}, Blk z r #[.int .i64 o.kind, .string o.name, .int .i64 o.id] → z.cell? ⟨r, 0, none⟩ = some (.int .i64 o.kind) := fun h => by rw [h.cell]; rfl
  have c1 : ∀ {z}, Blk z r #[.int .i64 o.kind, .string o.name, .int .i64 o.id] → z.cell? ⟨r, 1, none⟩ = some (.string o.name) := fun h => by rw [h.cell]; rfl
  have c2 : ∀ {z}, Blk z r #[.int .i64 o.kind, .string o.name, .int .i64 o.id] → z.cell? ⟨r, 2, none⟩ = some (.int .i64 o.id) := fun h => by rw [h.cell]; rfl
  have mb := b.mb
  have lb := b.lb
  have eL := b.eL
  have em := b.em
  have el := b.el
  have fL := b.fL
  have fl := b.fl
  have farX : ∀ {z z' : World}, Bx z x y → Far ([r] ++ (x.FT ++ y.FT)) z z' → Bx z' x y := fun h f => by
    obtain ⟨F, u, dd⟩ := f
    exact h.upd u fun k hk => dd k (by simp at hk ⊢; rcases hk with h | h <;> simp [h])
  have ea : ∀ Q, NN y.a Q = NN (some ⟨y.b, 0, none⟩) Q := fun Q => rfl
  simp only [addN, Nat.zero_add, c0 hb1, c1 hb1, c2 hb1, exI, exStr]
  refine ifC (fun _ => ?_) (fun _ => ifC (fun _ => ?_) (fun _ => ifC (fun _ => ?_) (fun _ => ifC (fun _ => ?_) (fun _ => ifC (fun _ => ?_) (fun _ => ifC (fun _ => ?_) (fun _ => ifC (fun _ => ?_) (fun _ => ifC (fun _ => ?_) (fun _ => ?_))))))))
  · -- Put
    have hpm := put_made alim made L flim FL o.name o.id
    refine t1.put (by omega) fun w2 d2 t2 f2 => ?_
    have x2 := farX x1 f2
    have hb2 := f2.blk hb1 (by simp)
    simp only [c1 hb2, c2 hb2, exStr, exI]
    refine RfPut_ok x2 (by rw [em]; omega) (by rw [fl]; exact lb) fun w3 x3 y3 n3 e1 e2 e3 => ?_
    rw [el, em, eL, fl, fL] at e1 e2 e3 ⊢
    exact ifT (by simp) (by
      have := hK w3 _ _ _ _ _ _ (b.step (Z := [r]) t2 n3 e1 e2 e3 (by omega)) (by omega)
      simpa using this)
  · -- Find
    refine t1.find fun w2 t2 f2 => ?_
    have x2 := farX x1 f2
    have hb2 := f2.blk hb1 (by simp)
    simp only [c1 hb2, c2 hb2, exStr, exI]
    refine RfFind_ok x2 fun w3 u3 => ?_
    rw [eL, fL]
    have fin := hK w3 _ _ _ _ _ _ (b.step (Z := [r]) t2 (x2.same u3) eL em fL mb) (by omega)
    rcases hf : findA L FL o.name o.id with _ | i
    · exact ifT rfl (ifT rfl (ifF rfl fin))
    · exact ifT (by simp) (ifF rfl (ifT (by simp) (ifT rfl fin)))
  · -- Get
    refine t1.get fun w2 t2 f2 => ?_
    have x2 := farX x1 f2
    have hb2 := f2.blk hb1 (by simp)
    simp only [c2 hb2, exI]
    refine RfGet_ok x2 fun w3 u3 => ?_
    rw [eL, fL]
    have fin := hK w3 _ _ _ _ _ _ (b.step (Z := [r]) t2 (x2.same u3) eL em fL mb) (by omega)
    exact ifT (by simp) (ifT (by simp) (by simpa using fin))
  · -- Mark
    refine t1.mark fun w2 d2 t2 f2 => ?_
    have x2 := farX x1 f2
    have hb2 := f2.blk hb1 (by simp)
    simp only [c2 hb2, exI]
    refine Fn.RfIs_ok x2.rf ?_
    rw [fL]
    unfold markF at t2
    cases hn : Fn.isN FL o.id with
    | false =>
      rw [hn] at t2
      exact ifT rfl (by
        have := hK w2 _ _ _ _ _ _ (b.step (Z := [r]) t2 (x2.same (Upd.refl _ _)) eL em fL mb) (by omega)
        simpa using this)
    | true =>
      refine ifF rfl ?_
      obtain ⟨h0, hi, _⟩ := Fn.isN_get hn
      subst fL
      rw [hn, List.getElem?_eq_getElem hi] at t2
      simp only at t2
      have xd := x2.keep (drw_upd w2)
      have hbd := hb2.drw
      obtain ⟨bb, oo, hp, _⟩ := xd.rf.slot hi
      have ep : ∀ Q, NN y.lp Q = NN (some ⟨bb, oo, none⟩) Q := fun Q => by rw [hp]
      simp only [ea, NN_some, addN, Nat.zero_add, Nat.add_zero, xd.rf.c0, exS, c2 hbd, exI, ep]
      have := xd.rf.len
      refine ⟨h0, by omega, Fn.setSlot (j := 3) (y := ⟨y.L[o.id.toNat].key, y.L[o.id.toNat].is, true⟩) xd.rf.l hi hp (by omega) rfl (by simp [Fn.slC]) fun w3 hl3 u3 => ?_⟩
      have r3 : Fn.Rf w3 { y with L := y.L.set o.id.toNat ⟨y.L[o.id.toNat].key, y.L[o.id.toNat].is, true⟩ } := ⟨xd.rf.blk.upd u3 xd.rf.bG, hl3, xd.rf.bG, by simpa using xd.rf.ll⟩
      have n3 := (x2.same (drw_upd w2)).then (xd.funs r3 rfl rfl rfl (u3.mono fun k hk => .inl (by simp [Fn.RfD.FT, hk])) (Sub.refl _ _))
      have := hK w3 _ _ _ _ _ _ (b.step (Z := [r]) t2 n3 eL em rfl mb) (by omega)
      simpa using this
  · -- Sweep
    refine t1.sweep fun w2 d2 t2 f2 => ?_
    have x2 := farX x1 f2
    refine Fn.RfSweep_ok x2.rf fun w3 r3 u3 => ?_
    rw [fL] at r3 ⊢
    have n3 := x2.funs r3 rfl rfl rfl u3 (Sub.refl _ _)
    have := hK w3 _ _ _ _ _ _ (b.step (Z := [r]) t2 n3 eL em rfl mb) (by omega)
    simpa using this
  · -- Atoms
    refine t1.atomsAll fun w2 t2 f2 => ?_
    have x2 := farX x1 f2
    refine RfAtoms_ok x2 fun w3 x3 n3 e1 e2 => ?_
    rw [eL, fL] at e1
    rw [fL]
    have := hK w3 _ _ _ _ _ _ (b.step (Z := [r]) t2 n3 e1 (e2.trans em) fL mb) (by omega)
    simpa using this
  · -- the names' Sweep
    have x1d := x1.keep (drw_upd w1)
    have td := t1.keep (drw_upd w1)
    simp only [ea, NN_some, addN, Nat.zero_add, x1d.rf.c2, exP]
    refine td.tl.sweep fun w2 s2 g2 => ?_
    obtain ⟨t2, f2⟩ := td.name s2 g2
    have x2 := farX x1d f2
    rw [x1.xa]
    refine ⟨by rw [x2.rf.c2, x1d.xa], RtSweep_ok x2.rt fun w3 r3 u3 => ?_⟩
    rw [eL] at r3 ⊢
    have n3 := x2.names r3 rfl rfl u3 (Sub.refl _ _) x2.mb
    have := hK w3 _ _ _ _ _ _ (b.step (Z := [r]) t2 n3 rfl em fL mb) (by omega)
    simpa using this
  · -- the names' Intern
    have hpm := intern_made alim made L o.name
    refine t1.tl.intern' (by omega) fun w2 s2 g2 => ?_
    obtain ⟨t2, f2⟩ := t1.name s2 g2
    have x2 := farX x1 f2
    have x2d := x2.keep (drw_upd w2)
    have hb2 := f2.blk hb1 (by simp)
    simp only [ea, NN_some, addN, Nat.zero_add, x2d.rf.c2, exP, x2d.xa, c1 hb2.drw, exStr]
    refine RtIntern' x2d (by rw [em]; omega) fun w3 x3 n3 e1 e2 => ?_
    rw [el, em, eL] at e1 e2 ⊢
    exact ifT (by simp) (by
      have := hK w3 _ _ _ _ _ _ (b.step (Z := [r]) t2 ((x2.same (drw_upd w2)).then n3) e1 e2 fL (by omega)) (by omega)
      simpa using this)
  · exact hK w1 _ _ _ _ _ _ (b.step (Z := [r]) t1 (x1.same (Upd.refl _ _)) eL em fL mb) (by omega)

end

theorem FunctorDoes_law {w : World} {limit names : Int} {p : Option Addr} {n c : Nat} {ls : List Value} (hl : Rd w 3 p n ls) (ho : Ops ls n) : C_law05_FunctorDoes limit names p n c w fun r w' => r = true ∧ Upd [] w w' := by
  apply C_law05_FunctorDoes.of
  unfold F_law05_FunctorDoes F_law05_FunctorDoes_k1 F_law05_FunctorDoes_k5 F_law05_FunctorDoes_L1
  by_cases hb : names < 15 ∨ 16384 < names
  · exact New_bad hb fun w1 u1 => RtNew_bad hb fun w2 u2 => lives_ok fun w3 u3 => ifF rfl (ifF rfl (ifT rfl ⟨rfl, (u1.after u2).after u3⟩))
  · refine Tl.new (w := w) (Upd.refl _ _) (by omega) (by omega) fun w1 ab t1 => RtNew_ok (by omega) (by omega) fun w2 x r2 xl xm xL u2 n2 => lives_ok fun w3 u3 => ifF rfl (ifF rfl (ifF rfl ?_))
    have t3 := (t1.watch u2 n2 r2.inn).keep u3
    have r3 := r2.keep u3
    have sx : Since x.FT w := fun k hk => by have := n2 k hk; have := t1.U.size; omega
    by_cases hf : limit < 1 ∨ 16384 < limit
    · refine Fn.New_bad (hf.elim .inl (fun h => .inr (.inl h))) (Fn.RfNew_bad (hf.elim .inl (fun h => .inr (.inl h))) ?_)
      refine ifF rfl (ifF rfl (ifT rfl (ifF rfl ?_)))
      refine ⟨fun s v => s.i = 0 ∧ Upd [] w v, fun _ _ => 0, ⟨rfl, t3.U⟩, ?_⟩
      rintro ⟨i⟩ v ⟨rfl, u⟩
      unfold B_law05_FunctorDoes_L1 F_law05_FunctorDoes_k2
      exact ifC (fun _ => ifC (fun _ => ifF rfl ⟨rfl, u⟩) (fun _ => ⟨rfl, u⟩)) (fun _ => ⟨rfl, u⟩)
    · refine Bf.new t3 (by omega) (by omega) fun w4 d b4 u4 => ?_
      refine Fn.RfNew_ok (ab := ⟨x.b, 0, none⟩) (by omega) (by omega) fun w5 y r5 yl ya yL u5 n5 => ?_
      refine ifF rfl (ifF rfl (ifF rfl ?_))
      obtain ⟨a, ha⟩ : ∃ a, a = (some ⟨ab, 0, none⟩ : Option Addr) := ⟨_, rfl⟩
      obtain ⟨fa, hfa⟩ : ∃ fa, fa = d.a := ⟨_, rfl⟩
      obtain ⟨xa, hxa⟩ : ∃ xa, xa = x.a := ⟨_, rfl⟩
      obtain ⟨yA, hya⟩ : ∃ yA, yA = y.a := ⟨_, rfl⟩
      have hys : yA.isNone = false := by rw [hya]; rfl
      have r4 := r3.keep u4
      have bo : Bo w w5 (some ⟨ab, 0, none⟩) d.a x.a y.a initL 0 names [] limit d x y := by
        refine ⟨((b4.less (Y := x.FT) fun k hk => by simp [hk]).watch u5 n5 r5.inn).less fun k hk => by simp at hk ⊢; rcases hk with h | h <;> simp [h], ⟨r4.keep u5, r5, ya, fun k hk hx => by have := n5 k hx; have := r4.inn k hk; omega, by rw [xm]; omega, by rw [xl]; omega⟩, rfl, rfl, xL, xm, xl, yL, yl, fun k hk => ?_, by omega, by omega⟩
        rcases List.mem_append.1 hk with e | e
        · exact sx k e
        · have := n5 k e; have := b4.U.size; omega
      rw [← ha, ← hfa, ← hxa, ← hya] at bo ⊢
      refine ⟨fun s v => 0 ≤ s.i ∧ s.i ≤ 60 ∧ ∃ L made FL d x y, Bo w v a fa xa yA L made names FL limit d x y ∧ made ≤ s.i, fun s _ => (60 - s.i).toNat, ⟨by simp, by simp, _, _, _, _, _, _, bo, by simp⟩, ?_⟩
      clear bo hya hxa hfa ha b4 t3 r4 r3 r2 r5 t1 ya yl yL xl xm xL n5 n2 sx
      rintro ⟨i⟩ v ⟨hi0, hi1, L, made, FL, d, x, y, b, hmade⟩
      dsimp only at hi0 hi1 hmade
      unfold B_law05_FunctorDoes_L1 F_law05_FunctorDoes_k2 F_law05_FunctorDoes_k3 F_law05_FunctorDoes_k4
      dsimp only
      refine ifC (fun hc => ifC (fun hc2 => ifT (by rw [hys]; rfl) ?_) (fun _ => ⟨rfl, b.bf.U⟩)) (fun _ => ⟨rfl, b.bf.U⟩)
      simp at hc hc2
      obtain ⟨z, o, hx, hcell⟩ := Ops.get hl ho (i := i.toNat) (by omega)
      subst hx
      have fin : ∀ {v' : World} {L' : List Slot} {m' : Int} {FL' : List Fn.Slot} {d' : Fn.FtD} {x' : RtD} {y' : Fn.RfD}, Bo w v' a fa xa yA L' m' names FL' limit d' x' y' → m' ≤ i + 1 → (0 ≤ IntKind.i64.wrap (i + 1) ∧ IntKind.i64.wrap (i + 1) ≤ 60 ∧ ∃ L made FL d x y, Bo w v' a fa xa yA L made names FL limit d x y ∧ made ≤ IntKind.i64.wrap (i + 1)) ∧ (60 - IntKind.i64.wrap (i + 1)).toNat < (60 - i).toNat := by
        intro v' L' m' FL' d' x' y' b' hm'
        rw [i64id (by omega) (by omega)]
        exact ⟨⟨by omega, by omega, L', m', FL', d', x', y', b', hm'⟩, by omega⟩
      obtain ⟨c0, c1, c2⟩ := hcell v (hl.keep b.bf.U)
      simp only [NN_some, addA, Nat.add_zero, drw_cell, c0, c1, c2, exI, exStr]
      refine ⟨hi0, hc, ifC (fun _ => fin b (by omega)) (fun _ => ⟨hi0, hc, do_ok (o := o) (b.keep (drw_upd v)) (by omega) fun v4 L4 m4 FL4 d4 x4 y4 b4 hm4 => ifF rfl ?_⟩)⟩
      refine b4.bf.len ?_
      have hx4 := b4.xa
      have hy4 := b4.ya
      have eN : ∀ Q, NN yA Q = NN (some ⟨y4.b, 0, none⟩) Q := fun Q => by rw [← hy4]; rfl
      rw [show C_ref05_Table_Len yA = C_ref05_Table_Len y4.a by rw [hy4]]
      refine Fn.RfLen_ok b4.bx.rf fun v5 u5 => ?_
      rw [b4.fL]
      refine ifF (by simp) ?_
      have b5 := b4.keep u5
      simp only [eN, NN_some, addN, Nat.zero_add, Nat.add_zero, b5.bx.rf.c0, exS, true_and]
      refine b5.bf.slots ⟨b5.bx.rf.c0, ifF (by rw [b5.bx.rf.len, b4.fL]; simp) ?_⟩
      refine b5.bf.tl.len fun v6 s6 g6 => ?_
      obtain ⟨t6, f6⟩ := b5.bf.name s6 g6
      have x6 : Bx v6 x4 y4 := by
        obtain ⟨F, u, dd⟩ := f6
        exact b5.bx.upd u fun k hk => dd k hk
      rw [show C_ref04_Table_Len xa = C_ref04_Table_Len x4.a by rw [hx4]]
      refine RtLen_ok x6.rt fun v7 u7 => ?_
      rw [b4.eL]
      have b7 : Bo w v7 a fa xa yA L4 m4 names FL4 limit d4 x4 y4 := ⟨t6.keep u7, x6.keep u7, b4.xa, b4.ya, b4.eL, b4.em, b4.el, b4.fL, b4.fl, b4.sx, b4.mb, b4.lb⟩
      exact ifF (by simp) (fin b7 (by omega))

end Go.Proofs.Ytlngmelfjiemlaa
