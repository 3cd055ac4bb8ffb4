/- Unlike names, or unlike arities, have unlike numbers: elenchuslaw05.FunctorApart returns true whatever the input, and changes none of its arguments. -/
import Derived.Test.YtlngmelfjiemlaaRows
import Derived.Test.YtlngmelfjiemlaaLives
import Derived.Test.YtlngmelfjiemlaaGenS
import Derived.WalkKit
import Derived.ProofKit
import Derived.OpenShut
import Derived.ShutString
import Derived.ChangeOld
import Derived.Below
namespace Go.Proofs.Ytlngmelfjiemlaa.functorApart
open Go.ChangeShapes Go.WideShapes Go.ChangeAt Go.RowKit
set_option linter.unusedVariables false
set_option maxRecDepth 100000

theorem own : ownKnob Try.prog.godebug = none := by kernel_rfl
theorem laidOut : laidOutB Try.prog = true := by kernel_rfl

/-- What the law does: it answers true, and turns nothing that was there. -/
theorem walk (W : World) (a0 : ByteArray) (a1 : Int) (a2 : ByteArray) (a3 : Int) (s0 : ∃ f, Go.D.Sees Try.prog W f 9 [.string a0]) (s1 : ∃ f, Go.D.Sees Try.prog W f 3 [.int .i64 a1]) (s2 : ∃ f, Go.D.Sees Try.prog W f 9 [.string a2]) (s3 : ∃ f, Go.D.Sees Try.prog W f 3 [.int .i64 a3]) : Calls Try.prog 4 #[.string a0, .int .i64 a1, .string a2, .int .i64 a3] W fun e w1 => e = .returned (.bool true) ∧ Below W.heap.size W w1 := by
  exact Calls.mono FunctorApart_law fun e w' ⟨r, he, hr, hu⟩ => ⟨by rw [he, hr], hu.below⟩

/-- The row, lifted: by the kit. -/
theorem lifted (os : Os) (started : os.Started) (H : Type) (enc : TypeId × Value → H) :
    ReturnsInHanded {} Try.checked os 4 .any (Rows.functorApartSpec.pre6 enc Try.prog Try.f4 Rows.functorApartRow.domain false) (Rows.functorApartSpec.post enc Try.prog Try.f4 false true false false) := by
  refine returnsInHanded_of_change (C := Try.checked) own started (by kernel_rfl) Try.func4
    (ChangeSpec.witness6 (enc := enc) (C := Try.checked) false ⟨#[], #[.string ByteArray.empty, .int .i64 0, .string ByteArray.empty, .int .i64 0], []⟩ 8 (by kernel_rfl) (by kernel_rfl) (by kernel_rfl) (by kernel_rfl)) ?_
  intro W base args ds gs before hval0 hW hcnd _
  have hval : ∀ (j : Nat) t v, Try.f4.params[j]? = some t → args[j]? = some v → Value.okWide Try.prog W .any base t v := hval0
  have hW' := hW
  obtain ⟨p, q, hA0, hV, rfl, hfz, hnd⟩ := hW
  have hA : DataW.TrodAll enc Try.prog W 0 (fun _ => true) true Try.f4.params.toList args.toList ds p := hA0
  rw [Try.params4] at hA hval
  obtain ⟨v0, vs0, d0, ds0, q0a, q0b, hargs, rfl, rfl, h0, r0⟩ := trodAll_cons hA
  obtain ⟨v1, vs1, d1, ds1, q1a, q1b, rfl, rfl, rfl, h1, r1⟩ := trodAll_cons r0
  obtain ⟨v2, vs2, d2, ds2, q2a, q2b, rfl, rfl, rfl, h2, r2⟩ := trodAll_cons r1
  obtain ⟨v3, vs3, d3, ds3, q3a, q3b, rfl, rfl, rfl, h3, r3⟩ := trodAll_cons r2
  obtain ⟨rfl, rfl, rfl⟩ := trodAll_nil r3
  obtain rfl : args = #[v0, v1, v2, v3] := by cases args; simp_all
  obtain ⟨rfl, rfl⟩ := trodVars_none hV
  obtain ⟨a0, rfl⟩ := okWide_string (t := 9) (by rfl) (hval 0 9 v0 rfl rfl)
  obtain ⟨a1, rfl⟩ := okWide_int (k := .i64) (t := 3) (by rfl) (hval 1 3 v1 rfl rfl)
  obtain ⟨a2, rfl⟩ := okWide_string (t := 9) (by rfl) (hval 2 9 v2 rfl rfl)
  obtain ⟨a3, rfl⟩ := okWide_int (k := .i64) (t := 3) (by rfl) (hval 3 3 v3 rfl rfl)
  have lt0 : ∀ x ∈ q0a, x.block < W.heap.size := by obtain ⟨m, hm⟩ := h0; exact DataW.trod_lt m _ _ _ hm
  have lt1 : ∀ x ∈ q1a, x.block < W.heap.size := by obtain ⟨m, hm⟩ := h1; exact DataW.trod_lt m _ _ _ hm
  have lt2 : ∀ x ∈ q2a, x.block < W.heap.size := by obtain ⟨m, hm⟩ := h2; exact DataW.trod_lt m _ _ _ hm
  have lt3 : ∀ x ∈ q3a, x.block < W.heap.size := by obtain ⟨m, hm⟩ := h3; exact DataW.trod_lt m _ _ _ hm
  clear hA0 hval0
  refine (walk W a0 a1 a2 a3 (Go.D.sees_of_Trod h0) (Go.D.sees_of_Trod h1) (Go.D.sees_of_Trod h2) (Go.D.sees_of_Trod h3)).mono fun e W' ⟨he, bel⟩ => ?_
  subst he
  exact ⟨_, rfl, _, _, _, [], _, [], hW', trodAll_mk1 (shut_bool (t := 4) (by rfl) _), (trodAll_cons_mk (Below.trod laidOut (by kernel_rfl) (of_decide_eq_true (by kernel_rfl)) h0 bel lt0) (trodAll_cons_mk (Below.trod laidOut (by kernel_rfl) (of_decide_eq_true (by kernel_rfl)) h1 bel lt1) (trodAll_cons_mk (Below.trod laidOut (by kernel_rfl) (of_decide_eq_true (by kernel_rfl)) h2 bel lt2) (trodAll_cons_mk (Below.trod laidOut (by kernel_rfl) (of_decide_eq_true (by kernel_rfl)) h3 bel lt3) trodAll_mk0)))), rfl, bel.frame _, fun h => by cases h⟩

theorem over : Rows.functorApartRow.holds Try.pinned (OpenSpec.ofChange Rows.functorApartSpec) :=
  OpenClaim.holds_of_wide 4 Try.f4 rfl rfl rfl rfl rfl rfl rfl ⟨rfl, rfl, rfl, rfl, rfl⟩ rfl rfl rfl rfl rfl (by kernel_rfl) Try.func4 (by kernel_rfl)
    (of_decide_eq_true (by kernel_rfl)) (by unfold Func.isWrapper; first | (rw [if_pos (by decide +kernel)]; kernel_rfl) | (rw [if_neg (by decide +kernel)]; exact ⟨rfl, rfl⟩))
    (fun os started H enc _ => lifted os started H enc)

/-- The statement. -/
theorem proved : Rows.FunctorApartSaid := over
#print axioms proved
end Go.Proofs.Ytlngmelfjiemlaa.functorApart
