/- Both stacks do alike: elenchuslaw22.FrameDoes returns true whatever the input, and changes none of its arguments. -/
import Derived.Test.YtdmjbkpibgfeiaaRows
import Derived.Test.YtdmjbkpibgfeiaaDoes
import Derived.Test.YtdmjbkpibgfeiaaGenS
import Derived.WalkKit
import Derived.ProofKit
import Derived.OpenShut
import Derived.ShutString
import Derived.ChangeOld
import Derived.Below
namespace Go.Proofs.Ytdmjbkpibgfeiaa.frameDoes
open Go.ChangeShapes Go.WideShapes Go.ChangeAt Go.RowKit
set_option linter.unusedVariables false
set_option maxRecDepth 100000

theorem own : ownKnob Try.prog.godebug = none := by kernel_rfl
theorem laidOut : laidOutB Try.prog = true := by kernel_rfl

/-- What the law does: it answers true, and turns nothing that was there. -/
theorem walk (W : World) (a0 : Int) (a1 : Int) (p2 : Option Addr) (n2 c2 : Nat) (s0 : ∃ f, Go.D.Sees Try.prog W f 3 [.int .i64 a0]) (s1 : ∃ f, Go.D.Sees Try.prog W f 3 [.int .i64 a1]) (s2 : ∃ f, Go.D.Sees Try.prog W f 22 [.slice p2 n2 c2]) : Calls Try.prog 5 #[.int .i64 a0, .int .i64 a1, .slice p2 n2 c2] W fun e w1 => e = .returned (.bool true) ∧ Below W.heap.size W w1 := by
  obtain ⟨f2, s2⟩ := s2
  obtain ⟨p, n, c, cs, g, _, e, _, _, hrd, hrow⟩ := Go.D.see_slice (t := 22) (e := 36) (sz := 14) (by rfl) (by kernel_rfl) s2
  simp only [List.cons.injEq, Value.slice.injEq, and_true] at e
  obtain ⟨rfl, rfl, rfl⟩ := e
  refine Calls.mono (FrameDoes_law hrd (fun i hi => ?_)) fun e w' ⟨r, he, hr, hu⟩ => ⟨by rw [he, hr], hu.below⟩
  obtain ⟨g2, o0, o1, o2, o3, o4, o5, ap, an, ac, o7, o8, o9, o10, o11, o12, o13, e, k0, k1, k2, k3, k4, k5, ⟨gs, hs⟩, _⟩ := see_36 (hrow i hi)
  obtain ⟨q, m, c', L, e', _, _, hrdL, _⟩ := Go.D.see_ints (t := 32) (e := 29) (k := .u64) (by rfl) (by rfl) (by kernel_rfl) hs
  simp only [List.cons.injEq, Value.slice.injEq, and_true] at e'
  obtain ⟨rfl, rfl, rfl⟩ := e'
  simp only [Lit.wf, Bool.and_eq_true, decide_eq_true_eq] at k1 k3 k4
  have h1 : IntKind.i64.min = -2 ^ 63 := by rfl
  have h2 : IntKind.i64.max = 2 ^ 63 - 1 := by rfl
  rw [h1, h2] at k1 k3 k4
  exact ⟨⟨o0, o1, o2, o3, o4, o5, ap, an, ac, o7, o8, o9, o10, o11, o12, o13⟩, e, ⟨by show -2 ^ 63 ≤ o1; omega, by show o1 < 2 ^ 63; omega⟩, ⟨by show -2 ^ 63 ≤ o3; omega, by show o3 < 2 ^ 63; omega⟩, ⟨by show -2 ^ 63 ≤ o4; omega, by show o4 < 2 ^ 63; omega⟩, L, hrdL⟩

/-- The row, lifted: by the kit. -/
theorem lifted (os : Os) (started : os.Started) (H : Type) (enc : TypeId × Value → H) :
    ReturnsInHanded {} Try.checked os 5 .any (Rows.frameDoesSpec.pre6 enc Try.prog Try.f5 Rows.frameDoesRow.domain false) (Rows.frameDoesSpec.post enc Try.prog Try.f5 false true false false) := by
  refine returnsInHanded_of_change (C := Try.checked) own started (by kernel_rfl) Try.func5
    (ChangeSpec.witness6 (enc := enc) (C := Try.checked) false ⟨#[], #[.int .i64 0, .int .i64 0, .slice none 0 0], []⟩ 8 (by kernel_rfl) (by kernel_rfl) (by kernel_rfl) (by kernel_rfl)) ?_
  intro W base args ds gs before hval0 hW hcnd _
  have hval : ∀ (j : Nat) t v, Try.f5.params[j]? = some t → args[j]? = some v → Value.okWide Try.prog W .any base t v := hval0
  have hW' := hW
  obtain ⟨p, q, hA0, hV, rfl, hfz, hnd⟩ := hW
  have hA : DataW.TrodAll enc Try.prog W 0 (fun _ => true) true Try.f5.params.toList args.toList ds p := hA0
  rw [Try.params5] at hA hval
  obtain ⟨v0, vs0, d0, ds0, q0a, q0b, hargs, rfl, rfl, h0, r0⟩ := trodAll_cons hA
  obtain ⟨v1, vs1, d1, ds1, q1a, q1b, rfl, rfl, rfl, h1, r1⟩ := trodAll_cons r0
  obtain ⟨v2, vs2, d2, ds2, q2a, q2b, rfl, rfl, rfl, h2, r2⟩ := trodAll_cons r1
  obtain ⟨rfl, rfl, rfl⟩ := trodAll_nil r2
  obtain rfl : args = #[v0, v1, v2] := by cases args; simp_all
  obtain ⟨rfl, rfl⟩ := trodVars_none hV
  obtain ⟨a0, rfl⟩ := okWide_int (k := .i64) (t := 3) (by rfl) (hval 0 3 v0 rfl rfl)
  obtain ⟨a1, rfl⟩ := okWide_int (k := .i64) (t := 3) (by rfl) (hval 1 3 v1 rfl rfl)
  obtain ⟨p2, n2, c2, rfl⟩ := okWide_slice (t := 22) (by rfl) (hval 2 22 v2 rfl rfl)
  have lt0 : ∀ x ∈ q0a, x.block < W.heap.size := by obtain ⟨m, hm⟩ := h0; exact DataW.trod_lt m _ _ _ hm
  have lt1 : ∀ x ∈ q1a, x.block < W.heap.size := by obtain ⟨m, hm⟩ := h1; exact DataW.trod_lt m _ _ _ hm
  have lt2 : ∀ x ∈ q2a, x.block < W.heap.size := by obtain ⟨m, hm⟩ := h2; exact DataW.trod_lt m _ _ _ hm
  clear hA0 hval0
  refine (walk W a0 a1 p2 n2 c2 (Go.D.sees_of_Trod h0) (Go.D.sees_of_Trod h1) (Go.D.sees_of_Trod h2)).mono fun e W' ⟨he, bel⟩ => ?_
  subst he
  exact ⟨_, rfl, _, _, _, [], _, [], hW', trodAll_mk1 (shut_bool (t := 4) (by rfl) _), (trodAll_cons_mk (Below.trod laidOut (by kernel_rfl) (of_decide_eq_true (by kernel_rfl)) h0 bel lt0) (trodAll_cons_mk (Below.trod laidOut (by kernel_rfl) (of_decide_eq_true (by kernel_rfl)) h1 bel lt1) (trodAll_cons_mk (Below.trod laidOut (by kernel_rfl) (of_decide_eq_true (by kernel_rfl)) h2 bel lt2) trodAll_mk0))), rfl, bel.frame _, fun h => by cases h⟩

theorem over : Rows.frameDoesRow.holds Try.pinned (OpenSpec.ofChange Rows.frameDoesSpec) :=
  OpenClaim.holds_of_wide 5 Try.f5 rfl rfl rfl rfl rfl rfl rfl ⟨rfl, rfl, rfl, rfl, rfl⟩ rfl rfl rfl rfl rfl (by kernel_rfl) Try.func5 (by kernel_rfl)
    (of_decide_eq_true (by kernel_rfl)) (by unfold Func.isWrapper; first | (rw [if_pos (by decide +kernel)]; kernel_rfl) | (rw [if_neg (by decide +kernel)]; exact ⟨rfl, rfl⟩))
    (fun os started H enc _ => lifted os started H enc)

/-- The statement. -/
theorem proved : Rows.FrameDoesSaid := over
#print axioms proved
end Go.Proofs.Ytdmjbkpibgfeiaa.frameDoes
