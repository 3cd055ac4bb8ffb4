import Derived.Test.YtdaenijbokialaaGreatRows
import Derived.Test.YtdaenijbokialaaGreatCodes
import Derived.Test.YtdaenijbokialaaGreatGenS
import Derived.WalkKit
import Derived.ProofKit
import Derived.OpenShut
import Derived.ShutString
import Derived.ChangeOld
import Derived.Below
namespace Go.Proofs.YtdaenijbokialaaGreat.heapForgets
open Go.ChangeShapes Go.WideShapes Go.ChangeAt Go.RowKit
set_option linter.unusedVariables false
set_option maxRecDepth 100000
theorem own : ownKnob Tryz.prog.godebug = none := by kernel_rfl
theorem laidOut : laidOutB Tryz.prog = true := by kernel_rfl
theorem walk (W : World) (p0 : Option Addr) (n0 c0 : Nat) (a1 : Int) (a2 : Int) (s0 : ∃ f, Go.D.Sees Tryz.prog W f 73 [.slice p0 n0 c0]) (s1 : ∃ f, Go.D.Sees Tryz.prog W f 3 [.int .i64 a1]) (s2 : ∃ f, Go.D.Sees Tryz.prog W f 3 [.int .i64 a2]) : Calls Tryz.prog 11 #[.slice p0 n0 c0, .int .i64 a1, .int .i64 a2] W fun e w1 => e = .returned (.bool true) ∧ Below W.heap.size W w1 := by
 obtain ⟨f, s0⟩ := s0
 obtain ⟨l, p, c, e, ho, hl⟩ := see_ops s0
 simp only [List.cons.injEq, Value.slice.injEq, and_true] at e
 obtain ⟨rfl, rfl, rfl⟩ := e
 obtain ⟨g2, s2⟩ := s2
 obtain ⟨n2, e2, wf2⟩ := Go.D.see_int (by rfl) s2
 simp only [List.cons.injEq, Value.int.injEq, true_and, and_true] at e2
 subst e2
 exact Calls.mono (HeapForgets_law ho hl (i64B.of wf2)) fun e w' ⟨r, he, hr, hu⟩ => ⟨by rw [he, hr], hu.below⟩
theorem lifted (os : Os) (started : os.Started) (H : Type) (enc : TypeId × Value → H) :
  ReturnsInHanded {} Tryz.checked os 11 .any (Rows.heapForgetsSpec.pre6 enc Tryz.prog Tryz.f11 Rows.heapForgetsRow.domain false) (Rows.heapForgetsSpec.post enc Tryz.prog Tryz.f11 false true false false) := by
 refine returnsInHanded_of_change (C := Tryz.checked) own started (by kernel_rfl) Tryz.func11
  (ChangeSpec.witness6 (enc := enc) (C := Tryz.checked) false ⟨#[], #[.slice none 0 0, .int .i64 0, .int .i64 0], []⟩ 8 (by kernel_rfl) (by kernel_rfl) (by kernel_rfl) (by kernel_rfl)) ?_
 intro W base args ds gs before hval0 hW hcnd _
 have hval : ∀ (j : Nat) t v, Tryz.f11.params[j]? = some t → args[j]? = some v → Value.okWide Tryz.prog W .any base t v := hval0
 have hW' := hW
 obtain ⟨p, q, hA0, hV, rfl, hfz, hnd⟩ := hW
 have hA : DataW.TrodAll enc Tryz.prog W 0 (fun _ => true) true Tryz.f11.params.toList args.toList ds p := hA0
 rw [Tryz.params11] at hA hval
 obtain ⟨v0, vs0, d0, ds0, q0a, q0b, hargs, rfl, rfl, h0, r0⟩ := trodAll_cons hA
 obtain ⟨v1, vs1, d1, ds1, q1a, q1b, rfl, rfl, rfl, h1, r1⟩ := trodAll_cons r0
 obtain ⟨v2, vs2, d2, ds2, q2a, q2b, rfl, rfl, rfl, h2, r2⟩ := trodAll_cons r1
 obtain ⟨rfl, rfl, rfl⟩ := trodAll_nil r2
 obtain rfl : args = #[v0, v1, v2] := by cases args; simp_all
 obtain ⟨rfl, rfl⟩ := trodVars_none hV
 obtain ⟨p0, n0, c0, rfl⟩ := okWide_slice (t := 73) (by rfl) (hval 0 73 v0 rfl rfl)
 obtain ⟨a1, rfl⟩ := okWide_int (k := .i64) (t := 3) (by rfl) (hval 1 3 v1 rfl rfl)
 obtain ⟨a2, rfl⟩ := okWide_int (k := .i64) (t := 3) (by rfl) (hval 2 3 v2 rfl rfl)
 have lt0 : ∀ x ∈ q0a, x.block < W.heap.size := by obtain ⟨m, hm⟩ := h0; exact DataW.trod_lt m _ _ _ hm
 have lt1 : ∀ x ∈ q1a, x.block < W.heap.size := by obtain ⟨m, hm⟩ := h1; exact DataW.trod_lt m _ _ _ hm
 have lt2 : ∀ x ∈ q2a, x.block < W.heap.size := by obtain ⟨m, hm⟩ := h2; exact DataW.trod_lt m _ _ _ hm
 clear hA0 hval0
 refine (walk W p0 n0 c0 a1 a2 (Go.D.sees_of_Trod h0) (Go.D.sees_of_Trod h1) (Go.D.sees_of_Trod h2)).mono fun e W' ⟨he, bel⟩ => ?_
 subst he
 exact ⟨_, rfl, _, _, _, [], _, [], hW', trodAll_mk1 (shut_bool (t := 4) (by rfl) _), (trodAll_cons_mk (Below.trod laidOut (by kernel_rfl) (of_decide_eq_true (by kernel_rfl)) h0 bel lt0) (trodAll_cons_mk (Below.trod laidOut (by kernel_rfl) (of_decide_eq_true (by kernel_rfl)) h1 bel lt1) (trodAll_cons_mk (Below.trod laidOut (by kernel_rfl) (of_decide_eq_true (by kernel_rfl)) h2 bel lt2) trodAll_mk0))), rfl, bel.frame _, fun h => by cases h⟩
theorem over : Rows.heapForgetsRow.holds Tryz.pinned (OpenSpec.ofChange Rows.heapForgetsSpec) :=
 OpenClaim.holds_of_wide 11 Tryz.f11 rfl rfl rfl rfl rfl rfl rfl ⟨rfl, rfl, rfl, rfl, rfl⟩ rfl rfl rfl rfl rfl (by kernel_rfl) Tryz.func11 (by kernel_rfl)
  (of_decide_eq_true (by kernel_rfl)) (by unfold Func.isWrapper; first | (rw [if_pos (by decide +kernel)]; kernel_rfl) | (rw [if_neg (by decide +kernel)]; exact ⟨rfl, rfl⟩))
  (fun os started H enc _ => lifted os started H enc)
theorem proved : Rows.HeapForgetsSaid := over
#print axioms proved
end Go.Proofs.YtdaenijbokialaaGreat.heapForgets
