/- Any text of a word is parsed as it: elenchuslaw01.CellTexts returns true whatever the input, and changes none of its arguments; what the card lists of package variables holds at the start. -/
import Derived.Test.YtchbhocpmhlhjaaDoorRows
import Derived.Test.YtchbhocpmhlhjaaDoorVars
import Derived.Test.YtchbhocpmhlhjaaDoorGenS
import Derived.Test.YtchbhocpmhlhjaaDoorCards
import Derived.Test.YtchbhocpmhlhjaaDoorTie
import Derived.SevenTiedAt
import Derived.LaidMore
import Derived.Stop.Joined
import Derived.WalkKit
import Derived.ProofKit
import Derived.OpenShut
import Derived.ShutString
import Derived.ChangeOld
import Derived.Below
namespace Go.Proofs.YtchbhocpmhlhjaaDoor.cellTexts
open Go.ChangeShapes Go.WideShapes Go.ChangeAt Go.RowKit
set_option linter.unusedVariables false
set_option maxRecDepth 100000

theorem own : ownKnob Tryd.prog.godebug = none := by kernel_rfl
theorem laidOut : laidOutB Tryd.prog = true := by kernel_rfl

/-- What the law does: it answers true, and turns nothing that was there. -/
theorem walk (W : World) (L : laidMetH Tryd.prog laidL W) (a0 : Int) (a1 : ByteArray) (s0 : ∃ f, Go.D.Sees Tryd.prog W f 22 [.int .u64 a0]) (s1 : ∃ f, Go.D.Sees Tryd.prog W f 9 [.string a1]) : Calls Tryd.prog 5 #[.int .u64 a0, .string a1] W fun e w1 => e = .returned (.bool true) ∧ Below W.heap.size W w1 := by
  obtain ⟨f, s0⟩ := s0
  obtain ⟨n, e, wf⟩ := Go.D.see_int (by rfl) s0
  simp only [List.cons.injEq, Value.int.injEq, true_and, and_true] at e
  subst e
  simp only [Lit.wf, Bool.and_eq_true, decide_eq_true_eq] at wf
  have w0 : 0 ≤ a0 := wf.1
  have w1 : a0 ≤ 2 ^ 64 - 1 := wf.2
  exact Calls.mono (CellTexts_law (vars_of_laid L) w0 (by omega)) fun e w' ⟨r, he, hr, hu⟩ => ⟨by rw [he, hr], hu.below⟩

/-- The row, lifted: by the kit. -/
theorem lifted (os : Os) (started : os.Started) (H : Type) (enc : TypeId × Value → H) :
    ReturnsInHanded {} Tryd.checked os 5 .any (fun w args => (Rows.cellTextsSpec.pre enc Tryd.prog Tryd.f5 Rows.cellTextsRow.domain false w args ∧ laidMetH Tryd.prog Rows.cellTextsRow.laid w) ∧ sizedMet enc Tryd.prog Tryd.f5 (OpenSpec.ofChange Rows.cellTextsSpec) false w args) (Rows.cellTextsSpec.post enc Tryd.prog Tryd.f5 false true false false) := by
  refine returnsInHanded_of_change_and (C := Tryd.checked) (X := fun w _ => laidMetH Tryd.prog laidL w) (fun _ _ _ hh h => h.of_heap hh) own started (by kernel_rfl) Tryd.func5
    (ChangeSpec.witness_shaped (enc := enc) (C := Tryd.checked) (os := os) (X := fun w _ => laidMetH Tryd.prog laidL w) false (World.doorLaid Tryd.prog 400 os) #[.int .u64 0, .string ByteArray.empty] 8 rfl (World.shaped_of_RefB (by kernel_rfl) (by kernel_rfl)) (by kernel_rfl) (by kernel_rfl) (by kernel_rfl) (door_met os _)) ?_
  intro W base args ds gs before hval0 hW hcnd _ hL _
  have hval : ∀ (j : Nat) t v, Tryd.f5.params[j]? = some t → args[j]? = some v → Value.okWide Tryd.prog W .any base t v := hval0
  have hW' := hW
  obtain ⟨p, q, hA0, hV, rfl, hfz, hnd⟩ := hW
  have hA : DataW.TrodAll enc Tryd.prog W 0 (fun _ => true) true Tryd.f5.params.toList args.toList ds p := hA0
  rw [Tryd.params5] at hA hval
  obtain ⟨v0, vs0, d0, ds0, q0a, q0b, hargs, rfl, rfl, h0, r0⟩ := trodAll_cons hA
  obtain ⟨v1, vs1, d1, ds1, q1a, q1b, rfl, rfl, rfl, h1, r1⟩ := trodAll_cons r0
  obtain ⟨rfl, rfl, rfl⟩ := trodAll_nil r1
  obtain rfl : args = #[v0, v1] := by cases args; simp_all
  obtain ⟨rfl, rfl⟩ := trodVars_none hV
  obtain ⟨a0, rfl⟩ := okWide_int (k := .u64) (t := 22) (by rfl) (hval 0 22 v0 rfl rfl)
  obtain ⟨a1, rfl⟩ := okWide_string (t := 9) (by rfl) (hval 1 9 v1 rfl rfl)
  have lt0 : ∀ x ∈ q0a, x.block < W.heap.size := by obtain ⟨m, hm⟩ := h0; exact DataW.trod_lt m _ _ _ hm
  have lt1 : ∀ x ∈ q1a, x.block < W.heap.size := by obtain ⟨m, hm⟩ := h1; exact DataW.trod_lt m _ _ _ hm
  clear hA0 hval0
  refine (walk W hL a0 a1 (Go.D.sees_of_Trod h0) (Go.D.sees_of_Trod h1)).mono fun e W' ⟨he, bel⟩ => ?_
  subst he
  exact ⟨_, rfl, _, _, _, [], _, [], hW', trodAll_mk1 (shut_bool (t := 4) (by rfl) _), (trodAll_cons_mk (Below.trod laidOut (by kernel_rfl) (of_decide_eq_true (by kernel_rfl)) h0 bel lt0) (trodAll_cons_mk (Below.trod laidOut (by kernel_rfl) (of_decide_eq_true (by kernel_rfl)) h1 bel lt1) trodAll_mk0)), rfl, bel.frame _, fun h => by cases h⟩

theorem over : Rows.cellTextsRow.holds Tryd.pinned (OpenSpec.ofChange Rows.cellTextsSpec) :=
  OpenClaim.holds_of_wide 5 Tryd.f5 rfl rfl rfl rfl rfl rfl rfl ⟨rfl, rfl, rfl, rfl, rfl⟩ rfl rfl rfl rfl rfl (by kernel_rfl) Tryd.func5 (by kernel_rfl)
    (of_decide_eq_true (by kernel_rfl)) (by unfold Func.isWrapper; first | (rw [if_pos (by decide +kernel)]; kernel_rfl) | (rw [if_neg (by decide +kernel)]; exact ⟨rfl, rfl⟩))
    (fun os started H enc _ => lifted os started H enc)

/-- The statement. -/
theorem proved : Rows.CellTextsCardSaid :=
  Claim7.holds_tied_plain_at .later [] Rows.cellTextsCard.laidKinds true Rows.cellTextsCard.stood.harness true
    over (fun _ h => by cases h) (by kernel_rfl) (fun _ h => by cases h) cellTexts_row_tie rfl ⟨rfl, rfl⟩ (by kernel_rfl) rfl
    (fun f fn hf hfn => by
      obtain rfl : f = 5 := Option.some.inj ((show Tryd.prog.funcNamed "elenchus/elenchuslaw01.CellTexts" = some 5 by kernel_rfl).symm.trans hf) |>.symm
      obtain rfl : fn = Tryd.f5 := (Option.some.inj (Tryd.func5.symm.trans hfn)).symm
      exact ⟨by kernel_rfl, fun j t ht => by
        rw [Tryd.params5] at ht
        have hm : t ∈ [22, 9] := by simpa using Array.mem_of_getElem? ht
        have hall : ([22, 9].all fun u => !Tryd.prog.wantsStandIn u) = true := by kernel_rfl
        exact (show Tryd.prog.wantsStandIn t = false by simpa using List.all_eq_true.1 hall t hm)⟩)
    (by kernel_rfl)
#print axioms proved
end Go.Proofs.YtchbhocpmhlhjaaDoor.cellTexts
