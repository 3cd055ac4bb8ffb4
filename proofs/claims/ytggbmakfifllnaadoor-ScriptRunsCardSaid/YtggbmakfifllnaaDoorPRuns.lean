/- The code and the listing of any run: elenchuslaw27.ScriptRuns returns true whatever the input, and changes none of its arguments; what the card lists of package variables holds at the start. -/
import Derived.Test.YtggbmakfifllnaaDoorRows
import Derived.Test.YtggbmakfifllnaaDoorVars
import Derived.Test.YtggbmakfifllnaaDoorGenS
import Derived.Test.YtggbmakfifllnaaDoorCards
import Derived.Test.YtggbmakfifllnaaDoorTie
import Derived.SevenTiedAt
import Derived.LaidMore
import Derived.Stop.Joined
import Derived.WalkKit
import Derived.ProofKit
import Derived.OpenShut
import Derived.ShutString
import Derived.ChangeOld
import Derived.Below
namespace Go.Proofs.YtggbmakfifllnaaDoor.scriptRuns
open Go.ChangeShapes Go.WideShapes Go.ChangeAt Go.RowKit
set_option linter.unusedVariables false
set_option maxRecDepth 100000

theorem own : ownKnob Tryd.prog.godebug = none := by kernel_rfl
theorem laidOut : laidOutB Tryd.prog = true := by kernel_rfl

/-- What the law does: it answers true, and turns nothing that was there. -/
theorem walk (W : World) (L : laidMetH Tryd.prog laidL W) (cs0 : Array Value) (s0 : ∃ f, Go.D.Sees Tryd.prog W f 43 cs0.toList) (z0 : ∃ f, Go.D.SeesB reachBytes Tryd.prog W f 43 cs0.toList) : Calls Tryd.prog 5 #[.agg cs0] W fun e w1 => e = .returned (.bool true) ∧ Below W.heap.size W w1 := by
  obtain ⟨f0, s0⟩ := s0
  obtain ⟨g0, u0, uP, uN, uC, u2, u3, u4, u5, e0, w0, ⟨g0', us⟩, w2, w3, w4, w5⟩ := see_43 s0
  obtain ⟨p, n, c, ds, g, _, ee, _, _, hrd, hrow⟩ := Go.D.see_slice (t := 41) (e := 45) (sz := 2) (by rfl) (by kernel_rfl) us
  simp only [List.cons.injEq, Value.slice.injEq, and_true] at ee
  obtain ⟨rfl, rfl, rfl⟩ := ee
  obtain ⟨f0', z0⟩ := z0
  rw [e0] at z0
  obtain ⟨_, z1⟩ := Go.D.seeB_field (fs := _) (by rfl) z0 1 rfl (sz := 1) (by kernel_rfl)
  have z2 := Go.D.seeB_elem (t := 41) (e := 45) (sz := 2) (by rfl) (by kernel_rfl) (show Go.D.SeesB _ _ _ _ _ [.slice uP uN uC] from z1) hrd
  have hz : reachBytes ≤ 2 ^ 50 := by decide
  haveI : Inhabited Evn := ⟨⟨0, []⟩⟩
  obtain ⟨evs, hlen, hev⟩ := Go.D.pick (p := fun i (a : Evn) => (ds.drop (i * 2)).take 2 = evCells a ∧ Fits [a.kind] ∧ a.text.length ≤ 2 ^ 50) (n := uN) (fun i hi => by
    obtain ⟨_, k, t, ek, wk, _⟩ := see_45 (hrow i hi)
    obtain ⟨_, z3⟩ := z2 i hi
    rw [ek] at z3
    obtain ⟨_, z4⟩ := Go.D.seeB_field (fs := _) (by rfl) z3 1 rfl (sz := 1) (by kernel_rfl)
    have z5 := Go.D.seeB_string (by rfl) (show Go.D.SeesB _ _ _ _ _ [.string t] from z4)
    refine ⟨⟨k, t.data.toList⟩, ek, fun x hx => ?_, ?_⟩
    · simp at hx; subst hx; exact fit_wf wk
    · have : t.data.toList.length = t.size := by simp
      dsimp only
      omega)
  have hds : ds = evs.flatMap evCells := by
    have h1 := hrd.1
    apply List.ext_getElem?
    intro j
    by_cases hj : j < uN * 2
    · have hi : j / 2 < evs.length := by omega
      have h2 := (hev (j / 2) hi).1
      have h3 : ((ds.drop (j / 2 * 2)).take 2)[j % 2]? = (evCells evs[j / 2])[j % 2]? := by rw [h2]
      rw [List.getElem?_take, if_pos (by omega), List.getElem?_drop, show j / 2 * 2 + j % 2 = j by omega] at h3
      rw [h3]
      have h4 := Go.D.flat_at evCells_len hi (show j % 2 < 2 by omega)
      rw [show j / 2 * 2 + j % 2 = j by omega] at h4
      exact h4.symm
    · rw [List.getElem?_eq_none (by omega), List.getElem?_eq_none (by rw [Go.D.flat_len evCells_len]; omega)]
  subst hds
  have e0' : cs0 = #[.int .i64 u0, .slice uP uN uC, .int .i64 u2, .int .i64 u3, .int .i64 u4, .int .i64 u5] := by
    apply Array.toList_inj.1; exact e0
  subst e0'
  have hfit : Fits [u0, u2, u3, u4, u5] := fits_c w0 (fits_c w2 (fits_c w3 (fits_c w4 (fits_c w5 (fun x hx => by cases hx)))))
  have hk : ∀ e ∈ evs, Fits [e.kind] := fun e he => by
    obtain ⟨i, hi, rfl⟩ := List.getElem_of_mem he
    exact (hev i hi).2.1
  have ht : ∀ e ∈ evs, e.text.length ≤ 2 ^ 50 := fun e he => by
    obtain ⟨i, hi, rfl⟩ := List.getElem_of_mem he
    exact (hev i hi).2.2
  exact Calls.mono (ScriptRuns_law (tab_of_laid L) hrd ht hfit hk) fun e w' ⟨r, he, hr, hu⟩ => ⟨by rw [he, hr], hu.below⟩

/-- The row, lifted: by the kit. -/
theorem lifted (os : Os) (started : os.Started) (H : Type) (enc : TypeId × Value → H) :
    ReturnsInHanded {} Tryd.checked os 5 .any (fun w args => (Rows.scriptRunsSpec.pre enc Tryd.prog Tryd.f5 Rows.scriptRunsRow.domain false w args ∧ laidMetH Tryd.prog Rows.scriptRunsRow.laid w) ∧ sizedMet enc Tryd.prog Tryd.f5 (OpenSpec.ofChange Rows.scriptRunsSpec) false w args) (Rows.scriptRunsSpec.post enc Tryd.prog Tryd.f5 false true false false) := by
  refine returnsInHanded_of_change_and (C := Tryd.checked) (X := fun w _ => laidMetH Tryd.prog laidL w) (fun _ _ _ hh h => h.of_heap hh) own started (by kernel_rfl) Tryd.func5
    (ChangeSpec.witness_shaped (enc := enc) (C := Tryd.checked) (os := os) (X := fun w _ => laidMetH Tryd.prog laidL w) false (World.doorLaid Tryd.prog 400 os) #[.agg #[.int .i64 0, .slice none 0 0, .int .i64 0, .int .i64 0, .int .i64 0, .int .i64 0]] 8 rfl (World.shaped_of_RefB (by kernel_rfl) (by kernel_rfl)) (by kernel_rfl) (by kernel_rfl) (by kernel_rfl) (door_met os _)) ?_
  intro W base args ds gs before hval0 hW hcnd hz hL _
  have hval : ∀ (j : Nat) t v, Tryd.f5.params[j]? = some t → args[j]? = some v → Value.okWide Tryd.prog W .any base t v := hval0
  have hW' := hW
  obtain ⟨p, q, hA0, hV, rfl, hfz, hnd⟩ := hW
  have hA : DataW.TrodAll enc Tryd.prog W 0 (fun _ => true) true Tryd.f5.params.toList args.toList ds p := hA0
  rw [Tryd.params5] at hA hval
  obtain ⟨v0, vs0, d0, ds0, q0a, q0b, hargs, rfl, rfl, h0, r0⟩ := trodAll_cons hA
  obtain ⟨rfl, rfl, rfl⟩ := trodAll_nil r0
  obtain rfl : args = #[v0] := by cases args; simp_all
  obtain ⟨rfl, rfl⟩ := trodVars_none hV
  obtain ⟨cs0, rfl, _⟩ := okWide_struct (t := 43) (by rfl) (hval 0 43 v0 rfl rfl)
  have lt0 : ∀ x ∈ q0a, x.block < W.heap.size := by obtain ⟨m, hm⟩ := h0; exact DataW.trod_lt m _ _ _ hm
  clear hA0 hval0
  refine (walk W hL cs0 (Go.D.sees_of_Trod h0) (Go.D.seesB_of_Trod (Go.D.bnd_weights _ _) h0 (Go.D.wq_of_each hz (i := 0) (by kernel_rfl) rfl))).mono fun e W' ⟨he, bel⟩ => ?_
  subst he
  exact ⟨_, rfl, _, _, _, [], _, [], hW', trodAll_mk1 (shut_bool (t := 4) (by rfl) _), (trodAll_cons_mk (Below.trod laidOut (by kernel_rfl) (of_decide_eq_true (by kernel_rfl)) h0 bel lt0) trodAll_mk0), rfl, bel.frame _, fun h => by cases h⟩

theorem over : Rows.scriptRunsRow.holds Tryd.pinned (OpenSpec.ofChange Rows.scriptRunsSpec) :=
  OpenClaim.holds_of_wide 5 Tryd.f5 rfl rfl rfl rfl rfl rfl rfl ⟨rfl, rfl, rfl, rfl, rfl⟩ rfl rfl rfl rfl rfl (by kernel_rfl) Tryd.func5 (by kernel_rfl)
    (of_decide_eq_true (by kernel_rfl)) (by unfold Func.isWrapper; first | (rw [if_pos (by decide +kernel)]; kernel_rfl) | (rw [if_neg (by decide +kernel)]; exact ⟨rfl, rfl⟩))
    (fun os started H enc _ => lifted os started H enc)

/-- The statement. -/
theorem proved : Rows.ScriptRunsCardSaid :=
  Claim7.holds_tied_plain_at .later [] _ _ _ _
    over (fun _ h => by cases h) (by kernel_rfl) (fun _ h => by cases h) scriptRuns_row_tie rfl ⟨rfl, rfl⟩ (by kernel_rfl) rfl
    (fun f fn hf hfn => by
      obtain rfl : f = 5 := Option.some.inj ((show Tryd.prog.funcNamed "elenchus/elenchuslaw27.ScriptRuns" = some 5 by kernel_rfl).symm.trans hf) |>.symm
      obtain rfl : fn = Tryd.f5 := (Option.some.inj (Tryd.func5.symm.trans hfn)).symm
      exact ⟨by kernel_rfl, fun j t ht => by
        rw [Tryd.params5] at ht
        have hm : t ∈ [43] := by simpa using Array.mem_of_getElem? ht
        have hall : ([43].all fun u => !Tryd.prog.wantsStandIn u) = true := by kernel_rfl
        exact (show Tryd.prog.wantsStandIn t = false by simpa using List.all_eq_true.1 hall t hm)⟩)
    (by kernel_rfl)
#print axioms proved
end Go.Proofs.YtggbmakfifllnaaDoor.scriptRuns
