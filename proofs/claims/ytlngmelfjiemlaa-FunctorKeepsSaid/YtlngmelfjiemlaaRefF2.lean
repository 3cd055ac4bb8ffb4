/- The document's tables of names and of functors, together. -/
import Derived.Test.YtlngmelfjiemlaaRefF
namespace Go.Proofs.Ytlngmelfjiemlaa
open Go Go.D Go.Proofs
set_option linter.unusedSimpArgs false
set_option linter.unusedVariables false
set_option maxRecDepth 8000

/-- Both. -/
structure Bx (v : World) (x : RtD) (y : Fn.RfD) : Prop where
  rt : Rt v x
  rf : Fn.Rf v y
  xa : y.at' = x.a
  dis : Dis x.FT y.FT
  mb : 0 ≤ x.made ∧ x.made ≤ 2 ^ 30
  lb : x.lim ≤ 16384

/-- What they have become. -/
structure Ny (v v' : World) (x x' : RtD) (y y' : Fn.RfD) : Prop where
  bx : Bx v' x' y'
  a : x'.a = x.a
  ya : y'.a = y.a
  xl : x'.lim = x.lim
  yl : y'.lim = y.lim
  U : Upd (x.FT ++ y.FT) v v'
  S : Sub (x'.FT ++ y'.FT) (x.FT ++ y.FT) v

section
variable {w v v' : World} {x x' : RtD} {y y' : Fn.RfD}

theorem Bx.upd {F : List Nat} (b : Bx v x y) (u : Upd F v v') (h : Dis (x.FT ++ y.FT) F) : Bx v' x y :=
  ⟨b.rt.upd u fun k hk => h k (by simp [hk]), b.rf.upd u fun k hk => h k (by simp [hk]), b.xa, b.dis, b.mb, b.lb⟩

theorem Bx.keep (b : Bx v x y) (u : Upd [] v v') : Bx v' x y := b.upd u (by intro k _ h; cases h)

theorem Bx.inn (b : Bx v x y) : In (x.FT ++ y.FT) v := fun k hk => by
  rcases List.mem_append.1 hk with e | e
  · exact b.rt.inn k e
  · exact b.rf.inn k e

theorem Bx.same (b : Bx v x y) (u : Upd [] v v') : Ny v v' x x y y := ⟨b.keep u, rfl, rfl, rfl, rfl, u.mono (by simp), Sub.refl _ _⟩

/-- Names are turned. -/
theorem Bx.names (b : Bx v x y) (r : Rt v' x') (ha : x'.a = x.a) (hl : x'.lim = x.lim) (u : Upd x.FT v v') (s : Sub x'.FT x.FT v) (hm : 0 ≤ x'.made ∧ x'.made ≤ 2 ^ 30) : Ny v v' x x' y y :=
  ⟨⟨r, b.rf.upd u b.dis.symm, b.xa.trans ha.symm, b.dis.step s b.rf.inn, hm, by rw [hl]; exact b.lb⟩, ha, rfl, hl, rfl, u.mono fun k hk => .inl (by simp [hk]), fun k hk => by
    rcases List.mem_append.1 hk with e | e
    · rcases s k e with h | h
      · left; simp [h]
      · exact .inr h
    · left; simp [e]⟩

/-- Functors are turned. -/
theorem Bx.funs (b : Bx v x y) (r : Fn.Rf v' y') (ha : y'.a = y.a) (hx : y'.at' = y.at') (hl : y'.lim = y.lim) (u : Upd y.FT v v') (s : Sub y'.FT y.FT v) : Ny v v' x x y y' :=
  ⟨⟨b.rt.upd u b.dis, r, hx.trans b.xa, (b.dis.symm.step s b.rt.inn).symm, b.mb, b.lb⟩, rfl, ha, rfl, hl, u.mono fun k hk => .inl (by simp [hk]), fun k hk => by
    rcases List.mem_append.1 hk with e | e
    · left; simp [e]
    · rcases s k e with h | h
      · left; simp [h]
      · exact .inr h⟩

theorem Ny.then {v'' : World} {x'' : RtD} {y'' : Fn.RfD} (n : Ny v v' x x' y y') (m : Ny v' v'' x' x'' y' y'') : Ny v v'' x x'' y y'' :=
  ⟨m.bx, m.a.trans n.a, m.ya.trans n.ya, m.xl.trans n.xl, m.yl.trans n.yl, n.U.trans m.U (fun k hk => .inl hk) (fun k hk => n.S k hk), n.S.trans m.S n.U.size⟩

theorem RtIntern' {name : ByteArray} {K : Int → Int → World → Prop} (b : Bx v x y) (hmade : x.made < 2 ^ 30)
    (hK : ∀ v' x', Ny v v' x x' y y → x'.L = (internS x.lim x.made x.L name).L → x'.made = (internS x.lim x.made x.L name).m → K (internS x.lim x.made x.L name).i (internS x.lim x.made x.L name).e v') : C_ref04_Table_Intern x.a name v K := by
  have mb := b.mb
  unfold internS at hK
  refine RtIntern_ok b.rt (by omega) b.lb (fun h1 => ?_) (fun h1 i h2 v' u => ?_) (fun h1 h2 i h3 v' r u => ?_) (fun h1 h2 h3 h4 v' u => ?_) (fun h1 h2 h3 h4 v' x' r e1 e2 e3 e4 u s => ?_)
  · rw [if_pos h1] at hK
    exact hK v x (b.same (Upd.refl _ _)) rfl rfl
  · rw [if_neg (by omega), h2] at hK
    exact hK v' x (b.same u) rfl rfl
  · rw [if_neg (by omega), h2, h3] at hK
    exact hK v' _ (b.names r rfl rfl u (Sub.refl _ _) (by show 0 ≤ x.made + 1 ∧ x.made + 1 ≤ _; omega)) rfl rfl
  · rw [if_neg (by omega), h2, h3] at hK
    simp only [if_pos h4] at hK
    exact hK v' x (b.same u) rfl rfl
  · rw [if_neg (by omega), h2, h3] at hK
    simp only [if_neg (show ¬ x.lim ≤ (x.L.length : Int) by omega)] at hK
    exact hK v' x' (b.names r e1 e4 u s (by rw [e3]; omega)) e2 e3

theorem RfFind_ok {name : ByteArray} {ar : Int} {K : Int → World → Prop} (b : Bx v x y) (hK : ∀ v', Upd [] v v' → K (((findA x.L y.L name ar).map fun i => ((i : Nat) : Int)).getD (-1)) v') : C_ref05_Table_Find y.a name ar v K := by
  apply C_ref05_Table_Find.of
  unfold F_ref05_Table_Find
  simp only [Fn.RfD.a, NN_some, addN, Nat.zero_add, b.rf.c2, exP, b.xa]
  refine RtFind_ok b.rt fun v1 u1 => ?_
  unfold findA at hK
  rcases hf : findN x.L name with _ | i
  · rw [hf] at hK
    exact ifT rfl (hK v1 u1)
  · rw [hf] at hK
    refine ifF (by simp) ?_
    refine Fn.RfAt_ok (k := ((i : Nat), ar)) (b.keep u1).rf fun v2 u2 => ?_
    exact hK v2 (u1.after u2)

theorem RfPut_ok {name : ByteArray} {ar : Int} {K : Int → Int → World → Prop} (b : Bx v x y) (hmade : x.made < 2 ^ 30) (hyl : y.lim ≤ 16384)
    (hK : ∀ v' x' y', Ny v v' x x' y y' → x'.L = (putA x.lim x.made x.L y.lim y.L name ar).L → x'.made = (putA x.lim x.made x.L y.lim y.L name ar).m → y'.L = (putA x.lim x.made x.L y.lim y.L name ar).F → K (putA x.lim x.made x.L y.lim y.L name ar).i (putA x.lim x.made x.L y.lim y.L name ar).e v') : C_ref05_Table_Put y.a name ar v K := by
  apply C_ref05_Table_Put.of
  unfold F_ref05_Table_Put F_ref05_Table_Put_L1
  unfold putA at hK
  refine ifC (fun hc => ?_) (fun hc => ifC (fun hc2 => ?_) (fun hc2 => ?_))
  · simp at hc
    rw [if_pos (by omega)] at hK
    exact hK v x y (b.same (Upd.refl _ _)) rfl rfl rfl
  · simp at hc2
    rw [if_pos (by omega)] at hK
    exact hK v x y (b.same (Upd.refl _ _)) rfl rfl rfl
  · simp at hc hc2
    rw [if_neg (by omega)] at hK
    have ea : ∀ Q, NN y.a Q = NN (some ⟨y.b, 0, none⟩) Q := fun Q => rfl
    simp only [ea, NN_some, addN, Nat.zero_add, b.rf.c2, exP, b.xa]
    refine RtIntern' b hmade fun v1 x1 n1 e1 e2 => ?_
    refine ifC (fun he => ?_) (fun he => ?_)
    · simp at he
      rw [if_pos he] at hK
      exact hK v1 x1 y n1 e1 e2 rfl
    · simp at he
      rw [if_neg (by simp [he])] at hK
      obtain ⟨a, hai⟩ : ∃ a, a = (internS x.lim x.made x.L name).i := ⟨_, rfl⟩
      rw [← hai] at hK ⊢
      have b1 := n1.bx
      refine Fn.RfAt_ok (k := (a, ar)) b1.rf fun v2 u2 => ?_
      have n2 := n1.then (b1.same u2)
      have b2 := n2.bx
      unfold Fn.putS at hK
      rcases hf : Fn.findN y.L (a, ar) with _ | i
      · rw [hf] at hK
        refine ifF rfl (New_rule fun q v3 hq u3 hb3 => ?_)
        refine St_rule hb3 (by simp) rfl fun v4 u4 hb4 => St_rule hb4 (by simp) rfl fun v5 u5 hb5 => St_rule hb5 (by simp) rfl fun v6 u6 hb6 => St_rule hb6 (by simp) rfl fun v7 u7 hb7 => ?_
        simp at hb7
        have uq : Upd [q] v3 v7 := ((u4.both u5).both u6).both u7
        have U27 : Upd [] v2 v7 := u3.fresh uq (by intro k hk; simp at hk; omega)
        have hqF : q ∉ x1.FT ++ y.FT := fun hx => by have := b2.inn q hx; omega
        have n7 := n2.then (b2.same U27)
        have r0 : ∀ {z}, Blk z q #[.int .i64 a, .int .i64 ar, .bool true, .bool false] → z.cell? ⟨q, 0, none⟩ = some (.int .i64 a) := fun h => by rw [h.cell]; rfl
        have r1 : ∀ {z}, Blk z q #[.int .i64 a, .int .i64 ar, .bool true, .bool false] → z.cell? ⟨q, 1, none⟩ = some (.int .i64 ar) := fun h => by rw [h.cell]; rfl
        have r2 : ∀ {z}, Blk z q #[.int .i64 a, .int .i64 ar, .bool true, .bool false] → z.cell? ⟨q, 2, none⟩ = some (.bool true) := fun h => by rw [h.cell]; rfl
        have r3 : ∀ {z}, Blk z q #[.int .i64 a, .int .i64 ar, .bool true, .bool false] → z.cell? ⟨q, 3, none⟩ = some (.bool false) := fun h => by rw [h.cell]; rfl
        have hln := b2.rf.len
        have hll := b2.rf.ll
        have hqy : q ∉ y.FT := fun h => hqF (by simp [h])
        refine ⟨fun s z => 0 ≤ s.i ∧ s.i ≤ y.L.length ∧ (∀ j (hj : j < y.L.length), (j : Int) < s.i → y.L[j].is = true) ∧ Ny v z x x1 y y ∧ Blk z q #[.int .i64 a, .int .i64 ar, .bool true, .bool false], fun s _ => (y.L.length - s.i).toNat, ⟨by simp, by simp, fun j hj h => by simp at h; omega, n7, hb7⟩, ?_⟩
        rintro ⟨i⟩ z ⟨hi0, hi1, hno, nz, hbz⟩
        dsimp only at hi0 hi1 hno
        unfold B_ref05_Table_Put_L1
        dsimp only
        have hz := nz.bx.rf
        simp only [ea, NN_some, addN, Nat.zero_add, Nat.add_zero, hz.c0, exS]
        refine ifC (fun hc => ?_) (fun hc => ?_)
        · simp at hc
          have hil : i.toNat < y.L.length := by omega
          obtain ⟨bb, off, hp, q0, q1, q2, q3⟩ := hz.slot hil
          have ep : ∀ Q, NN y.lp Q = NN (some ⟨bb, off, none⟩) Q := fun Q => by rw [hp]
          simp only [ep, NN_some, addN, Nat.add_zero, q2, exB]
          refine ⟨hi0, hc, ifC (fun his => ?_) (fun his => ?_)⟩
          · have his : y.L[i.toNat].is = false := by simpa using his
            have hfr : Fn.freeN y.L = some i.toNat := by
              unfold Fn.freeN
              rw [List.findIdx?_eq_some_iff_getElem]
              exact ⟨hil, by simp [his], fun j hj => by have := hno j (by omega) (by omega); simp [this]⟩
            have zd := nz.bx.keep (drw_upd z)
            have hbd := hbz.drw
            simp only [zd.rf.c0, exS, ep, NN_some, addN, Nat.add_zero, r0 hbd, r1 hbd, r2 hbd, r3 hbd, exI, exB]
            refine ⟨hi0, hc, Fn.setSlot4 (y := ⟨(a, ar), true, false⟩) zd.rf.l hil hp fun z1 hl1 u1 => ?_⟩
            have rf1 : Fn.Rf z1 { y with L := y.L.set i.toNat ⟨(a, ar), true, false⟩ } := ⟨zd.rf.blk.upd u1 zd.rf.bG, hl1, zd.rf.bG, by simpa using zd.rf.ll⟩
            have m := nz.then (((nz.bx.same (drw_upd z))).then (zd.funs rf1 rfl rfl rfl (u1.mono fun k hk => .inl (by simp [Fn.RfD.FT, hk])) (Sub.refl _ _)))
            have ea2 : Fn.addS y.lim y.L (a, ar) = ⟨(i.toNat : Nat), 0, y.L.set i.toNat ⟨(a, ar), true, false⟩⟩ := by unfold Fn.addS; rw [hfr]
            simp only [ea2] at hK
            rw [show ((i.toNat : Nat) : Int) = i by omega] at hK
            exact hK z1 x1 _ m e1 e2 rfl
          · have his : y.L[i.toNat].is = true := by simpa using his
            rw [i64id (x := i + 1) (by omega) (by omega)]
            refine ⟨⟨by omega, by omega, fun j hj hji => ?_, nz, hbz⟩, by omega⟩
            by_cases hj2 : j = i.toNat
            · subst hj2; exact his
            · exact hno j hj (by omega)
        · simp at hc
          have hfr : Fn.freeN y.L = none := by
            unfold Fn.freeN
            rw [List.findIdx?_eq_none_iff]
            intro s hs
            obtain ⟨j, hj, rfl⟩ := List.getElem_of_mem hs
            simp [hno j hj (by omega)]
          have zd := nz.bx.keep (drw_upd z)
          have zdd := zd.keep (drw_upd _)
          simp only [ea, NN_some, addN, Nat.zero_add, Nat.add_zero, zd.rf.c0, zd.rf.c1, exS, exI]
          refine ifC (fun hfull => ?_) (fun hfull => ?_)
          · simp at hfull
            have ea2 : Fn.addS y.lim y.L (a, ar) = ⟨0, 2, y.L⟩ := by unfold Fn.addS; rw [hfr]; simp; omega
            simp only [ea2] at hK
            exact hK _ x1 y (nz.then (nz.bx.same (drw_upd z))) e1 e2 rfl
          · simp at hfull
            have hbd := hbz.drw.drw
            simp only [ea, NN_some, addN, Nat.zero_add, Nat.add_zero, zdd.rf.c0, exS, r0 hbd, r1 hbd, r2 hbd, r3 hbd, exI, exB]
            refine BSlL_rule eS_50 [.agg #[.int .i64 a, .int .i64 ar, .bool true, .bool false]] (by rfl) (by simp [Value.cells]) (by rfl) (by omega) fun z1 hs1 u1 => ?_
            have z1b := zdd.keep u1
            simp only [z1b.rf.c0, true_and]
            refine App_rule (hE := eS_50) z1b.rf.l hs1 (by simp [Value.cells, Value.oneCell']) (by omega) fun p' c' G' z2 hs2 u2 s2 => ?_
            have V2 : Upd y.G z z2 := (((drw_upd z).after (drw_upd _)).after u1).after u2
            have hsz : z.heap.size ≤ z1.heap.size := u1.size
            have hG' : ∀ k ∈ G', k ∈ y.G ∨ z.heap.size ≤ k := fun k hk => by
              rcases s2 k hk with e | e
              · exact .inl e
              · right; omega
            have hbG' : y.b ∉ G' := fun h => by
              rcases hG' _ h with e | e
              · exact hz.bG e
              · have := hz.blk.lt; omega
            refine St_rule (hz.blk.upd V2 hz.bG) (by simp) rfl fun z3 u3 hb3 => ?_
            simp at hb3
            have c0' : z3.cell? ⟨y.b, 0, none⟩ = some (.slice p' (y.ln + 1) c') := by rw [hb3.cell]; rfl
            simp only [c0', exS]
            have rf3 : Fn.Rf z3 { y with L := y.L ++ [⟨(a, ar), true, false⟩], lp := p', ln := y.ln + 1, lc := c', G := G' } := by
              refine ⟨hb3, ?_, hbG', by simp; omega⟩
              have := hs2.upd u3 (fun k hk hx => by simp at hx; subst hx; exact hbG' hk)
              rw [List.flatMap_append]
              simpa [Value.cells, Fn.slC] using this
            have U3 : Upd y.FT z z3 := (V2.mono fun k hk => .inl (by simp [Fn.RfD.FT, hk])).both (u3.mono fun k hk => .inl (by simp at hk; simp [Fn.RfD.FT, hk]))
            have S3 : Sub (y.b :: G') y.FT z := fun k hk => by
              rcases List.mem_cons.1 hk with rfl | hk
              · left; simp [Fn.RfD.FT]
              · exact (hG' k hk).imp (fun e => by simp [Fn.RfD.FT, e]) id
            have m := nz.then (nz.bx.funs rf3 rfl rfl rfl U3 S3)
            have ea2 : Fn.addS y.lim y.L (a, ar) = ⟨(y.L.length : Nat), 0, y.L ++ [⟨(a, ar), true, false⟩]⟩ := by
              unfold Fn.addS
              rw [hfr]
              simp only
              rw [if_neg (by omega)]
            simp only [ea2] at hK
            rw [i64id (by omega) (by omega), show (((y.ln + 1 : Nat) : Int) - 1) = (y.L.length : Nat) by omega]
            exact hK z3 x1 _ m e1 e2 rfl
      · rw [hf] at hK
        exact ifT (by simp) (hK v2 x1 y n2 e1 e2 rfl)

theorem RfGet_ok {id : Int} {K : ByteArray → Int → Int → World → Prop} (b : Bx v x y) (hK : ∀ v', Upd [] v v' → K (getA x.L y.L id).1 (getA x.L y.L id).2.1 (getA x.L y.L id).2.2 v') : C_ref05_Table_Get y.a id v K := by
  apply C_ref05_Table_Get.of
  unfold F_ref05_Table_Get
  unfold getA at hK
  have b1 := b.keep (drw_upd v)
  refine Fn.RfIs_ok b1.rf ?_
  cases hb : Fn.isN y.L id with
  | false =>
    rw [hb] at hK
    exact ifT rfl (hK _ (drw_upd v))
  | true =>
    refine ifF rfl ?_
    obtain ⟨h0, hi, his⟩ := Fn.isN_get hb
    rw [hb, List.getElem?_eq_getElem hi] at hK
    simp only at hK
    have hln := b1.rf.len
    obtain ⟨bb, off, hp, q0, q1, q2, q3⟩ := b1.rf.slot hi
    have ep : ∀ Q, NN y.lp Q = NN (some ⟨bb, off, none⟩) Q := fun Q => by rw [hp]
    have ea : ∀ Q, NN y.a Q = NN (some ⟨y.b, 0, none⟩) Q := fun Q => rfl
    have ex : ∀ Q, NN x.a Q = NN (some ⟨x.b, 0, none⟩) Q := fun Q => rfl
    simp only [ea, NN_some, addN, Nat.zero_add, b1.rf.c2, b1.rf.c0, exP, b.xa, exS, ep, Nat.add_zero, q0, exI]
    refine ⟨h0, by omega, RtIs_ok b1.rt ?_⟩
    cases hb2 : isN x.L (y.L[id.toNat]).key.1 with
    | false =>
      rw [hb2] at hK
      exact ifT rfl (hK _ (drw_upd v))
    | true =>
      refine ifF rfl ?_
      obtain ⟨g0, gi, gis⟩ := isN_get hb2
      rw [hb2, List.getElem?_eq_getElem gi] at hK
      simp only at hK
      have b2 := b1.keep (drw_upd _)
      have hxl := b2.rt.len
      obtain ⟨bx, ox, hpx, p0, p1, p2⟩ := b2.rt.slot gi
      have epx : ∀ Q, NN x.lp Q = NN (some ⟨bx, ox, none⟩) Q := fun Q => by rw [hpx]
      simp only [drw_cell] at q0 q1 p0
      have c2 := b.rf.c2
      have c0 := b.rf.c0
      have d0 := b.rt.c0
      simp only [ea, ex, NN_some, addN, Nat.zero_add, drw_cell, c2, c0, d0, exP, b.xa, exS, ep, epx, Nat.add_zero, q0, q1, p0, exI, exStr, true_and]
      exact ⟨h0, by omega, g0, by omega, h0, by omega, hK _ ((drw_upd v).after (drw_upd _))⟩

theorem cntF_take {L : List Fn.Slot} {i : Nat} (hi : i < L.length) : Fn.cntIs (L.take (i + 1)) = Fn.cntIs (L.take i) + if L[i].is then 1 else 0 := by
  rw [List.take_succ_eq_append_getElem hi, Fn.cntIs_append]

theorem namesF_take {L : List Fn.Slot} {i : Nat} (hi : i < L.length) : namesF (L.take (i + 1)) = namesF (L.take i) ++ if L[i].is then [L[i].key.1] else [] := by
  unfold namesF
  rw [List.take_succ_eq_append_getElem hi, List.filter_append, List.map_append]
  congr 1
  cases h : L[i].is <;> simp [h]

theorem RfAtoms_ok {K : Int → World → Prop} (b : Bx v x y) (hK : ∀ v' x', Ny v v' x x' y y → x'.L = mkA x.L (namesF y.L) → x'.made = x.made → K (Fn.cntIs y.L) v') : C_ref05_Table_Atoms y.a v K := by
  apply C_ref05_Table_Atoms.of
  unfold F_ref05_Table_Atoms F_ref05_Table_Atoms_L1
  have hln := b.rf.len
  have hll := b.rf.ll
  have ea : ∀ Q, NN y.a Q = NN (some ⟨y.b, 0, none⟩) Q := fun Q => rfl
  refine ⟨fun s z => 0 ≤ s.i ∧ s.i ≤ y.L.length ∧ s.n = Fn.cntIs (y.L.take s.i.toNat) ∧ ∃ x', Ny v z x x' y y ∧ x'.L = mkA x.L (namesF (y.L.take s.i.toNat)) ∧ x'.made = x.made, fun s _ => (y.L.length - s.i).toNat,
    ⟨by simp, by simp, by simp [Fn.cntIs], x, b.same (Upd.refl _ _), by simp [namesF, mkA_nil], rfl⟩, ?_⟩
  rintro ⟨m, i⟩ z ⟨hi0, hi1, hm, x1, nz, e1, e2⟩
  dsimp only at hi0 hi1 hm e1
  unfold B_ref05_Table_Atoms_L1 F_ref05_Table_Atoms_k1 F_ref05_Table_Atoms_k2
  dsimp only
  have bz := nz.bx
  have hcb := Fn.cntIs_bnd (y.L.take i.toNat)
  rw [List.length_take] at hcb
  simp only [ea, NN_some, addN, Nat.zero_add, Nat.add_zero, bz.rf.c0, exS]
  refine ifC (fun hc => ?_) (fun hc => ?_)
  · simp at hc
    have hil : i.toNat < y.L.length := by omega
    have en : (i + 1).toNat = i.toNat + 1 := by omega
    have hcnt := cntF_take hil
    have hnm := namesF_take hil
    obtain ⟨bb, off, hp, q0, q1, q2, q3⟩ := bz.rf.slot hil
    have ep : ∀ Q, NN y.lp Q = NN (some ⟨bb, off, none⟩) Q := fun Q => by rw [hp]
    simp only [ep, NN_some, addN, Nat.add_zero, q2, exB]
    rw [i64id (x := i + 1) (by omega) (by omega)]
    refine ⟨hi0, hc, ifC (fun his => ?_) (fun his => ?_)⟩
    · rw [his] at hcnt hnm
      simp only [if_true] at hcnt hnm
      rw [i64id (x := m + 1) (by omega) (by omega)]
      have bd := bz.keep (drw_upd z)
      have q0d : (drw z).cell? ⟨bb, off + i.toNat * 4, none⟩ = some (.int .i64 y.L[i.toNat].key.1) := q0
      simp only [bd.rf.c2, bd.rf.c0, exP, exS, ep, NN_some, addN, Nat.add_zero, q0d, exI, bz.xa]
      refine ⟨hi0, hc, RtIs_ok bd.rt ?_⟩
      have fin : ∀ {z' : World} {x2 : RtD}, Ny v z' x x2 y y → x2.L = mkA x.L (namesF (y.L.take i.toNat) ++ [y.L[i.toNat].key.1]) → x2.made = x.made → (0 ≤ i + 1 ∧ i + 1 ≤ y.L.length ∧ m + 1 = Fn.cntIs (y.L.take (i + 1).toNat) ∧ ∃ x', Ny v z' x x' y y ∧ x'.L = mkA x.L (namesF (y.L.take (i + 1).toNat)) ∧ x'.made = x.made) ∧ (y.L.length - (i + 1)).toNat < (y.L.length - i).toNat := by
        intro z' x2 h1 h2 h3
        refine ⟨⟨by omega, by omega, by rw [en, hcnt, hm], x2, h1, by rw [en, hnm]; exact h2, h3⟩, by omega⟩
      rw [e1, isN_mkA]
      cases hb2 : isN x.L y.L[i.toNat].key.1 with
      | false =>
        exact ifF rfl (fin (nz.then (bz.same (drw_upd z))) (by rw [mkA_no hb2]; exact e1) e2)
      | true =>
        have hb3 : isN x1.L y.L[i.toNat].key.1 = true := by rw [e1, isN_mkA]; exact hb2
        obtain ⟨g0, gi, gis⟩ := isN_get hb3
        have bdd := bd.keep (drw_upd _)
        have hxl := bdd.rt.len
        obtain ⟨bx, ox, hpx, p0, p1, p2⟩ := bdd.rt.slot gi
        have epx : ∀ Q, NN x1.lp Q = NN (some ⟨bx, ox, none⟩) Q := fun Q => by rw [hpx]
        have ex : ∀ Q, NN x1.a Q = NN (some ⟨x1.b, 0, none⟩) Q := fun Q => rfl
        refine ifT rfl ?_
        simp only [bdd.rf.c2, bdd.rf.c0, bdd.rt.c0, exP, exS, bz.xa, ex, ep, epx, NN_some, addN, Nat.zero_add, Nat.add_zero, drw_cell, q0, exI]
        have c2 := bz.rf.c2
        have c0 := bz.rf.c0
        have d0 := bz.rt.c0
        simp only [c2, c0, d0, exP, exS, bz.xa, ex, ep, epx, NN_some, addN, Nat.zero_add, Nat.add_zero, q0, exI]
        refine ⟨hi0, hc, g0, by omega, setSlot (j := 2) (y := ⟨x1.L[(y.L[i.toNat].key.1).toNat].name, x1.L[(y.L[i.toNat].key.1).toNat].is, true⟩) bdd.rt.l gi hpx (by omega) rfl (by simp [slC]) fun z2 hl2 u2 => ?_⟩
        have rt2 : Rt z2 { x1 with L := x1.L.set (y.L[i.toNat].key.1).toNat ⟨x1.L[(y.L[i.toNat].key.1).toNat].name, x1.L[(y.L[i.toNat].key.1).toNat].is, true⟩ } := ⟨bdd.rt.blk.upd u2 bdd.rt.bG, hl2, bdd.rt.bG, by simpa using bdd.rt.ll⟩
        have m2 := nz.then ((bz.same (drw_upd z)).then ((bd.same (drw_upd _)).then (bdd.names rt2 rfl rfl (u2.mono fun k hk => .inl (by simp [RtD.FT, hk])) (Sub.refl _ _) bdd.mb)))
        refine fin m2 ?_ e2
        have gi' : (y.L[i.toNat].key.1).toNat < (mkA x.L (namesF (y.L.take i.toNat))).length := by rw [← e1]; exact gi
        rw [mkA_yes hb2 gi']
        simp only [e1]
    · rw [his] at hcnt hnm
      simp only [if_false, Bool.false_eq_true, List.append_nil, Int.add_zero] at hcnt hnm
      exact ⟨⟨by omega, by omega, by rw [en, hcnt, hm], x1, nz, by rw [en, hnm]; exact e1, e2⟩, by omega⟩
  · simp at hc
    rw [List.take_of_length_le (by omega)] at hm e1
    rw [hm]; exact hK z x1 nz e1 e2

end

end Go.Proofs.Ytlngmelfjiemlaa
