/- Two scripts have one code just if they are the same: the law. -/
import Derived.Test.YtggbmakfifllnaaDoorLaw2
namespace Go.Proofs.YtggbmakfifllnaaDoor
open Go Go.D Go.Proofs
set_option linter.unusedSimpArgs false
set_option linter.unusedVariables false
set_option maxRecDepth 8000

theorem encS_inj {a b : Scr} (ha : a.ok) (hb : b.ok) : decide (encS a = encS b) = decide (a = b) := by
  rw [decide_eq_decide]
  refine ⟨fun h => ?_, fun h => by rw [h]⟩
  have h1 := dscr_enc ha
  rw [h, dscr_enc hb] at h1
  exact (Option.some.inj h1).symm

theorem ok_of {s0 s1 : ByteArray} {c1 c2 c3 c4 c5 c6 : Int} {col : List Int} (hf : Fits ([c1, c2, c3, c4, c5, c6] ++ col)) (h : Scr.fits s0 s1 col) : (scrOf s0 s1 [c1, c2, c3, c4, c5, c6] col).ok := by
  obtain ⟨a, b, e⟩ := h
  exact ⟨by simpa [scrOf] using a, by simpa [scrOf] using b, rfl, e, fun x hx => hf x (List.mem_append_left _ hx), fun x hx => hf x (List.mem_append_right _ hx)⟩

theorem beqL (a b : List UInt8) : ((⟨a.toArray⟩ : ByteArray).toList == (⟨b.toArray⟩ : ByteArray).toList) = decide (a = b) := by
  have h : ∀ a : List UInt8, (⟨a.toArray⟩ : ByteArray).toList = a := fun a => by simp
  rw [h, h]
  by_cases h : a = b <;> simp [h]

section
variable {w : World} {p q : Option Addr} {n c m d : Nat} {ga gb ha hb : ByteArray} {x1 x2 x3 x4 x5 x6 y1 y2 y3 y4 y5 y6 : Int} {xs ys : List Int}

theorem ScriptApart_law (h : Tab w) (hp : Rd w 1 p n (xs.map (.int .i64))) (hq : Rd w 1 q m (ys.map (.int .i64))) (sa0 : ga.size ≤ 2 ^ 50) (sa1 : gb.size ≤ 2 ^ 50) (sb0 : ha.size ≤ 2 ^ 50) (sb1 : hb.size ≤ 2 ^ 50)
    (hfx : Fits ([x1, x2, x3, x4, x5, x6] ++ xs)) (hfy : Fits ([y1, y2, y3, y4, y5, y6] ++ ys)) :
    C_law27_ScriptApart ga gb x1 x2 x3 x4 x5 x6 p n c ha hb y1 y2 y3 y4 y5 y6 q m d w fun r w' => r = true ∧ Upd [] w w' := by
  have hn : n = xs.length := by have := hp.1; simp at this; omega
  have hm : m = ys.length := by have := hq.1; simp at this; omega
  apply C_law27_ScriptApart.of
  unfold F_law27_ScriptApart F_law27_ScriptApart_k1 F_law27_ScriptApart_k2
  refine New_rule fun r w1 hr u1 e1 => New_rule fun r' w2 hr' u2 e2 => ?_
  have e1' := e1.upd u2 (by simp)
  have U2 := u1.after u2
  simp only [NN_some, addN, drw_cell, drw_heap, exS, exI, exB, exP, exM, exStr, exV, a0, a1, a2, a3, a4, a5, a6, a7, a8, a9, a10, a11, a12, a13, maxI_eq, Nat.zero_add, Nat.add_zero, Nat.mul_one, Option.isNone_some, Option.isNone_none, e1'.cell, e2.cell]
  have lv : ∀ {v : World}, Upd [] w2 v → C_law27_lives v fun t w' => t = true ∧ Upd [] w w' := fun {v} uv => lives_ok ((h.keep U2).keep uv) fun w' u' => ⟨rfl, (U2.after uv).after u'⟩
  refine ifC (fun _ => lv (Upd.refl _ _)) fun g1 => ifC (fun _ => lv (Upd.refl _ _)) fun g2 => ifC (fun _ => lv (Upd.refl _ _)) fun g3 => ifC (fun _ => lv (Upd.refl _ _)) fun g4 => ?_
  have g1 := of_decide_eq_false g1
  have g2 := of_decide_eq_false g2
  have g3 := of_decide_eq_false g3
  have g4 := of_decide_eq_false g4
  rw [i64id (by omega) (by omega)] at g3 g4
  refine Encode_both (hp.keep U2) (by omega) (by omega) (by omega) hfx fun q1 m1 d1 z1 w3 u3 hy1 hno1 => ?_
  have e1c := e1'.upd u3 (by simp)
  have e2c := e2.upd u3 (by simp)
  simp only [NN_some, addN, drw_cell, drw_heap, exS, exI, exB, exP, exM, exStr, exV, a0, a1, a2, a3, a4, a5, a6, a7, a8, a9, a10, a11, a12, a13, maxI_eq, Nat.zero_add, Nat.add_zero, Nat.mul_one, Option.isNone_some, Option.isNone_none, e1c.cell, e2c.cell]
  refine Encode_both ((hq.keep U2).keep u3) (by omega) (by omega) (by omega) hfy fun q2 m2 d2 z2 w4 u4 hy2 hno2 => ?_
  refine lives_ok (((h.keep U2).keep u3).keep u4) fun w5 u5 => ?_
  refine ifF rfl ?_
  have U5 : Upd [] w2 w5 := (u3.after u4).after u5
  refine ifC (fun _ => lv U5) fun k1 => ifC (fun _ => lv U5) fun k2 => ?_
  have fx : Scr.fits ga gb xs := Classical.byContradiction fun hh => by
    have := (hno1 hh).1; rw [this] at k1; cases k1
  have fy : Scr.fits ha hb ys := Classical.byContradiction fun hh => by
    have := (hno2 hh).1; rw [this] at k2; cases k2
  obtain ⟨_, B1⟩ := hy1 fx
  obtain ⟨_, B2⟩ := hy2 fy
  have ud := drw_upd w5
  have s1 := ((B1.rd.keep u4).keep u5).keep ud
  have s2 := (B2.rd.keep u5).keep ud
  have t1 := e1'.upd U5 (by simp)
  have t2 := e2.upd U5 (by simp)
  have hpv := ((hp.keep U2).keep U5).keep ud
  have hqv := ((hq.keep U2).keep U5).keep ud
  simp only [NN_some, addN, drw_cell, drw_heap, exS, exI, exB, exP, exM, exStr, exV, a0, a1, a2, a3, a4, a5, a6, a7, a8, a9, a10, a11, a12, a13, maxI_eq, Nat.zero_add, Nat.add_zero, Nat.mul_one, Option.isNone_some, Option.isNone_none, t1.cell, t2.cell]
  have hx40 : xs.length < 2 ^ 40 := by omega
  have fin : ∀ {v : World}, Upd [] (drw w5) v → F_law27_ScriptApart_k3 (fun r w' => r = true ∧ Upd [] w w') (((⟨(encS (scrOf ga gb [x1, x2, x3, x4, x5, x6] xs)).toArray⟩ : ByteArray).toList == (⟨(encS (scrOf ha hb [y1, y2, y3, y4, y5, y6] ys)).toArray⟩ : ByteArray).toList) == decide (scrOf ga gb [x1, x2, x3, x4, x5, x6] xs = scrOf ha hb [y1, y2, y3, y4, y5, y6] ys)) v := fun {v} uv => by
    unfold F_law27_ScriptApart_k3
    refine ⟨?_, (U2.after U5).after (ud.after uv)⟩
    rw [beqL, encS_inj (ok_of hfx fx) (ok_of hfy fy)]
    simp
  have S1 : ∀ {v : World} {K : Value → World → Prop}, Upd [] (drw w5) v → K (.string ⟨(encS (scrOf ga gb [x1, x2, x3, x4, x5, x6] xs)).toArray⟩) v → Run Tryd.prog (convert 28 9 (.slice q1 m1 d1)) v K := fun {v} {K} uv hk => Str_rule (e := 5) rfl rfl rfl (s1.keep uv) hk
  have S2 : ∀ {v : World} {K : Value → World → Prop}, Upd [] (drw w5) v → K (.string ⟨(encS (scrOf ha hb [y1, y2, y3, y4, y5, y6] ys)).toArray⟩) v → Run Tryd.prog (convert 28 9 (.slice q2 m2 d2)) v K := fun {v} {K} uv hk => Str_rule (e := 5) rfl rfl rfl (s2.keep uv) hk
  have SS : ∀ {v : World} {K : Bool → World → Prop}, Upd [] (drw w5) v → (∀ v', Upd [] (drw w5) v' → K (decide (scrOf ga gb [x1, x2, x3, x4, x5, x6] xs = scrOf ha hb [y1, y2, y3, y4, y5, y6] ys)) v') → C_ref27_Same ga gb x1 x2 x3 x4 x5 x6 p n c ha hb y1 y2 y3 y4 y5 y6 q m d v K := fun {v} {K} uv hk => Same_ok (hpv.keep uv) (hqv.keep uv) hx40 fun v' u' => hk v' (uv.after u')
  have R := Upd.refl [] (drw w5)
  have same : ∀ (r : Nat) (i : Nat), (drw w5).cell? (Addr.add ⟨r, 0, none⟩ i) = (drw w5).cell? (Addr.add ⟨r, 0, none⟩ i) := fun _ _ => rfl
  refine ⟨?_, ?_, ?_⟩
  · refine S1 R ⟨_, rfl, fun i hi => ?_, fun i hi => ?_, ?_, ?_⟩
    · simp [t2.cell, addN]
    · simp [t1.cell, addN]
    · refine S2 R ⟨_, rfl, fun i hi => ?_, fun i hi => ?_, SS R fun v' u' => fin u'⟩
      · simp [t2.cell, addN]
      · simp [t1.cell, addN]
    · exact SS R fun v' u' => S2 u' ⟨_, rfl, fin u'⟩
  · refine S2 R ⟨_, rfl, fun i hi => ?_, fun i hi => ?_, ?_, ?_⟩
    · simp [t2.cell, addN]
    · simp [t1.cell, addN]
    · refine S1 R ⟨_, rfl, fun i hi => ?_, fun i hi => ?_, SS R fun v' u' => fin u'⟩
      · simp [t2.cell, addN]
      · simp [t1.cell, addN]
    · exact SS R fun v' u' => S1 u' ⟨_, rfl, fin u'⟩
  · exact SS R fun v' u' => ⟨S1 u' ⟨_, rfl, S2 u' ⟨_, rfl, fin u'⟩⟩, S2 u' ⟨_, rfl, S1 u' ⟨_, rfl, fin u'⟩⟩⟩
end

end Go.Proofs.YtggbmakfifllnaaDoor
