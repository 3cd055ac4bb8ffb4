/- Two scripts have one code just if they are the same: elenchuslaw27.ScriptApart returns true whatever the input, and changes none of its arguments; what the card lists of package variables holds at the start. -/
import Derived.Test.YtggbmakfifllnaaDoorRows
import Derived.Test.YtggbmakfifllnaaDoorVars
import Derived.Test.YtggbmakfifllnaaDoorGenS
import Derived.Test.YtggbmakfifllnaaDoorCards
import Derived.Test.YtggbmakfifllnaaDoorTie
import Derived.SevenTiedAt
import Derived.LaidMore
import Derived.Stop.Joined
import Derived.WalkKit
import Derived.ProofKit
import Derived.OpenShut
import Derived.ShutString
import Derived.ChangeOld
import Derived.Below
namespace Go.Proofs.YtggbmakfifllnaaDoor.scriptApart
open Go.ChangeShapes Go.WideShapes Go.ChangeAt Go.RowKit
set_option linter.unusedVariables false
set_option maxRecDepth 100000

theorem own : ownKnob Tryd.prog.godebug = none := by kernel_rfl
theorem laidOut : laidOutB Tryd.prog = true := by kernel_rfl

/-- What the law does: it answers true, and turns nothing that was there. -/
theorem walk (W : World) (L : laidMetH Tryd.prog laidL W) (cs0 : Array Value) (cs1 : Array Value) (s0 : ∃ f, Go.D.Sees Tryd.prog W f 26 cs0.toList) (s1 : ∃ f, Go.D.Sees Tryd.prog W f 26 cs1.toList) (z0 : ∃ f, Go.D.SeesB reachBytes Tryd.prog W f 26 cs0.toList) (z1 : ∃ f, Go.D.SeesB reachBytes Tryd.prog W f 26 cs1.toList) : Calls Tryd.prog 7 #[.agg cs0, .agg cs1] W fun e w1 => e = .returned (.bool true) ∧ Below W.heap.size W w1 := by
  obtain ⟨f0, s0⟩ := s0
  obtain ⟨g0, uA, uB, u1, u2, u3, u4, u5, u6, uP, uN, uC, e0, _, _, uw1, uw2, uw3, uw4, uw5, uw6, g0', us⟩ := see_26 s0
  obtain ⟨p0, n0, c0, ul, ee0, _, _, urd, uwf⟩ := Go.D.see_ints (k := .i64) (by rfl) (by rfl) (by kernel_rfl) us
  simp only [List.cons.injEq, Value.slice.injEq, and_true] at ee0
  obtain ⟨rfl, rfl, rfl⟩ := ee0
  obtain ⟨f0', z0⟩ := z0
  rw [e0] at z0
  obtain ⟨_, uzA⟩ := Go.D.seeB_field (fs := _) (by rfl) z0 0 rfl (sz := 1) (by kernel_rfl)
  obtain ⟨_, uzB⟩ := Go.D.seeB_field (fs := _) (by rfl) z0 1 rfl (sz := 1) (by kernel_rfl)
  have uyA := Go.D.seeB_string (by rfl) (show Go.D.SeesB _ _ _ _ _ [.string uA] from uzA)
  have uyB := Go.D.seeB_string (by rfl) (show Go.D.SeesB _ _ _ _ _ [.string uB] from uzB)
  have ufit : Fits ([u1, u2, u3, u4, u5, u6] ++ ul) := fits_c uw1 (fits_c uw2 (fits_c uw3 (fits_c uw4 (fits_c uw5 (fits_c uw6 (fun x hx => fit_wf (uwf x hx)))))))
  have e0' : cs0 = #[.string uA, .string uB, .int .i64 u1, .int .i64 u2, .int .i64 u3, .int .i64 u4, .int .i64 u5, .int .i64 u6, .slice uP uN uC] := by
    apply Array.toList_inj.1; exact e0
  subst e0'
  obtain ⟨f1, s1⟩ := s1
  obtain ⟨g1, vA, vB, v1, v2, v3, v4, v5, v6, vP, vN, vC, e1, _, _, vw1, vw2, vw3, vw4, vw5, vw6, g1', vs⟩ := see_26 s1
  obtain ⟨p1, n1, c1, vl, ee1, _, _, vrd, vwf⟩ := Go.D.see_ints (k := .i64) (by rfl) (by rfl) (by kernel_rfl) vs
  simp only [List.cons.injEq, Value.slice.injEq, and_true] at ee1
  obtain ⟨rfl, rfl, rfl⟩ := ee1
  obtain ⟨f1', z1⟩ := z1
  rw [e1] at z1
  obtain ⟨_, vzA⟩ := Go.D.seeB_field (fs := _) (by rfl) z1 0 rfl (sz := 1) (by kernel_rfl)
  obtain ⟨_, vzB⟩ := Go.D.seeB_field (fs := _) (by rfl) z1 1 rfl (sz := 1) (by kernel_rfl)
  have vyA := Go.D.seeB_string (by rfl) (show Go.D.SeesB _ _ _ _ _ [.string vA] from vzA)
  have vyB := Go.D.seeB_string (by rfl) (show Go.D.SeesB _ _ _ _ _ [.string vB] from vzB)
  have vfit : Fits ([v1, v2, v3, v4, v5, v6] ++ vl) := fits_c vw1 (fits_c vw2 (fits_c vw3 (fits_c vw4 (fits_c vw5 (fits_c vw6 (fun x hx => fit_wf (vwf x hx)))))))
  have e1' : cs1 = #[.string vA, .string vB, .int .i64 v1, .int .i64 v2, .int .i64 v3, .int .i64 v4, .int .i64 v5, .int .i64 v6, .slice vP vN vC] := by
    apply Array.toList_inj.1; exact e1
  subst e1'
  have hz : reachBytes ≤ 2 ^ 50 := by decide
  exact Calls.mono (ScriptApart_law (tab_of_laid L) urd vrd (by omega) (by omega) (by omega) (by omega) ufit vfit) fun e w' ⟨r, he, hr, hu⟩ => ⟨by rw [he, hr], hu.below⟩

/-- The row, lifted: by the kit. -/
theorem lifted (os : Os) (started : os.Started) (H : Type) (enc : TypeId × Value → H) :
    ReturnsInHanded {} Tryd.checked os 7 .any (fun w args => (Rows.scriptApartSpec.pre enc Tryd.prog Tryd.f7 Rows.scriptApartRow.domain false w args ∧ laidMetH Tryd.prog Rows.scriptApartRow.laid w) ∧ sizedMet enc Tryd.prog Tryd.f7 (OpenSpec.ofChange Rows.scriptApartSpec) false w args) (Rows.scriptApartSpec.post enc Tryd.prog Tryd.f7 false true false false) := by
  refine returnsInHanded_of_change_and (C := Tryd.checked) (X := fun w _ => laidMetH Tryd.prog laidL w) (fun _ _ _ hh h => h.of_heap hh) own started (by kernel_rfl) Tryd.func7
    (ChangeSpec.witness_shaped (enc := enc) (C := Tryd.checked) (os := os) (X := fun w _ => laidMetH Tryd.prog laidL w) false (World.doorLaid Tryd.prog 400 os) #[.agg #[.string ⟨#[]⟩, .string ⟨#[]⟩, .int .i64 0, .int .i64 0, .int .i64 0, .int .i64 0, .int .i64 0, .int .i64 0, .slice none 0 0], .agg #[.string ⟨#[]⟩, .string ⟨#[]⟩, .int .i64 0, .int .i64 0, .int .i64 0, .int .i64 0, .int .i64 0, .int .i64 0, .slice none 0 0]] 8 rfl (World.shaped_of_RefB (by kernel_rfl) (by kernel_rfl)) (by kernel_rfl) (by kernel_rfl) (by kernel_rfl) (door_met os _)) ?_
  intro W base args ds gs before hval0 hW hcnd hz hL _
  have hval : ∀ (j : Nat) t v, Tryd.f7.params[j]? = some t → args[j]? = some v → Value.okWide Tryd.prog W .any base t v := hval0
  have hW' := hW
  obtain ⟨p, q, hA0, hV, rfl, hfz, hnd⟩ := hW
  have hA : DataW.TrodAll enc Tryd.prog W 0 (fun _ => true) true Tryd.f7.params.toList args.toList ds p := hA0
  rw [Tryd.params7] at hA hval
  obtain ⟨v0, vs0, d0, ds0, q0a, q0b, hargs, rfl, rfl, h0, r0⟩ := trodAll_cons hA
  obtain ⟨v1, vs1, d1, ds1, q1a, q1b, rfl, rfl, rfl, h1, r1⟩ := trodAll_cons r0
  obtain ⟨rfl, rfl, rfl⟩ := trodAll_nil r1
  obtain rfl : args = #[v0, v1] := by cases args; simp_all
  obtain ⟨rfl, rfl⟩ := trodVars_none hV
  obtain ⟨cs0, rfl, _⟩ := okWide_struct (t := 26) (by rfl) (hval 0 26 v0 rfl rfl)
  obtain ⟨cs1, rfl, _⟩ := okWide_struct (t := 26) (by rfl) (hval 1 26 v1 rfl rfl)
  have lt0 : ∀ x ∈ q0a, x.block < W.heap.size := by obtain ⟨m, hm⟩ := h0; exact DataW.trod_lt m _ _ _ hm
  have lt1 : ∀ x ∈ q1a, x.block < W.heap.size := by obtain ⟨m, hm⟩ := h1; exact DataW.trod_lt m _ _ _ hm
  clear hA0 hval0
  refine (walk W hL cs0 cs1 (Go.D.sees_of_Trod h0) (Go.D.sees_of_Trod h1) (Go.D.seesB_of_Trod (Go.D.bnd_weights _ _) h0 (Go.D.wq_of_each hz (i := 0) (by kernel_rfl) rfl)) (Go.D.seesB_of_Trod (Go.D.bnd_weights _ _) h1 (Go.D.wq_of_each hz (i := 1) (by kernel_rfl) rfl))).mono fun e W' ⟨he, bel⟩ => ?_
  subst he
  exact ⟨_, rfl, _, _, _, [], _, [], hW', trodAll_mk1 (shut_bool (t := 4) (by rfl) _), (trodAll_cons_mk (Below.trod laidOut (by kernel_rfl) (of_decide_eq_true (by kernel_rfl)) h0 bel lt0) (trodAll_cons_mk (Below.trod laidOut (by kernel_rfl) (of_decide_eq_true (by kernel_rfl)) h1 bel lt1) trodAll_mk0)), rfl, bel.frame _, fun h => by cases h⟩

theorem over : Rows.scriptApartRow.holds Tryd.pinned (OpenSpec.ofChange Rows.scriptApartSpec) :=
  OpenClaim.holds_of_wide 7 Tryd.f7 rfl rfl rfl rfl rfl rfl rfl ⟨rfl, rfl, rfl, rfl, rfl⟩ rfl rfl rfl rfl rfl (by kernel_rfl) Tryd.func7 (by kernel_rfl)
    (of_decide_eq_true (by kernel_rfl)) (by unfold Func.isWrapper; first | (rw [if_pos (by decide +kernel)]; kernel_rfl) | (rw [if_neg (by decide +kernel)]; exact ⟨rfl, rfl⟩))
    (fun os started H enc _ => lifted os started H enc)

/-- The statement. -/
theorem proved : Rows.ScriptApartCardSaid :=
  Claim7.holds_tied_plain_at .later [] _ _ _ _
    over (fun _ h => by cases h) (by kernel_rfl) (fun _ h => by cases h) scriptApart_row_tie rfl ⟨rfl, rfl⟩ (by kernel_rfl) rfl
    (fun f fn hf hfn => by
      obtain rfl : f = 7 := Option.some.inj ((show Tryd.prog.funcNamed "elenchus/elenchuslaw27.ScriptApart" = some 7 by kernel_rfl).symm.trans hf) |>.symm
      obtain rfl : fn = Tryd.f7 := (Option.some.inj (Tryd.func7.symm.trans hfn)).symm
      exact ⟨by kernel_rfl, fun j t ht => by
        rw [Tryd.params7] at ht
        have hm : t ∈ [26, 26] := by simpa using Array.mem_of_getElem? ht
        have hall : ([26, 26].all fun u => !Tryd.prog.wantsStandIn u) = true := by kernel_rfl
        exact (show Tryd.prog.wantsStandIn t = false by simpa using List.all_eq_true.1 hall t hm)⟩)
    (by kernel_rfl)
#print axioms proved
end Go.Proofs.YtggbmakfifllnaaDoor.scriptApart
