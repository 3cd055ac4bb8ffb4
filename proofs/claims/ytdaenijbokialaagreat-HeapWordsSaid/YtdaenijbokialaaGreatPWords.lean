/- No call panics, whatever words are handed in: elenchuslaw20.HeapWords returns true whatever the input, and changes none of its arguments. -/
import Derived.Test.YtdaenijbokialaaGreatRows
import Derived.Test.YtdaenijbokialaaGreatWords
import Derived.Test.YtdaenijbokialaaGreatGenS
import Derived.WalkKit
import Derived.ProofKit
import Derived.OpenShut
import Derived.ShutString
import Derived.ChangeOld
import Derived.Below
namespace Go.Proofs.YtdaenijbokialaaGreat.heapWords
open Go.ChangeShapes Go.WideShapes Go.ChangeAt Go.RowKit
set_option linter.unusedVariables false
set_option maxRecDepth 100000

theorem own : ownKnob Tryz.prog.godebug = none := by kernel_rfl
theorem laidOut : laidOutB Tryz.prog = true := by kernel_rfl

/-- What the law does: it answers true, and turns nothing that was there. -/
theorem walk (W : World) (cs0 : Array Value) (a1 : Int) (a2 : Int) (a3 : Int) (s0 : ∃ f, Go.D.Sees Tryz.prog W f 31 cs0.toList) (s1 : ∃ f, Go.D.Sees Tryz.prog W f 32 [.int .u64 a1]) (s2 : ∃ f, Go.D.Sees Tryz.prog W f 32 [.int .u64 a2]) (s3 : ∃ f, Go.D.Sees Tryz.prog W f 3 [.int .i64 a3]) : Calls Tryz.prog 6 #[.agg cs0, .int .u64 a1, .int .u64 a2, .int .i64 a3] W fun e w1 => e = .returned (.bool true) ∧ Below W.heap.size W w1 := by
  obtain ⟨f, s0⟩ := s0
  obtain ⟨t, p, c, e, hin⟩ := see_tm f s0
  obtain rfl : cs0 = #[.int .i64 t.kind, .int .i64 t.n, .string t.s, .slice p t.l.length c] := by cases cs0; simp at e; simp [e]
  obtain ⟨g1, s1⟩ := s1
  obtain ⟨n1, e1, wf1⟩ := Go.D.see_int (by rfl) s1
  simp only [List.cons.injEq, Value.int.injEq, true_and, and_true] at e1
  subst e1
  simp only [Lit.wf, Bool.and_eq_true, decide_eq_true_eq] at wf1
  have l1 : 0 ≤ a1 := wf1.1
  have u1 : a1 ≤ 2 ^ 64 - 1 := wf1.2
  obtain ⟨g2, s2⟩ := s2
  obtain ⟨n2, e2, wf2⟩ := Go.D.see_int (by rfl) s2
  simp only [List.cons.injEq, Value.int.injEq, true_and, and_true] at e2
  subst e2
  simp only [Lit.wf, Bool.and_eq_true, decide_eq_true_eq] at wf2
  have l2 : 0 ≤ a2 := wf2.1
  have u2 : a2 ≤ 2 ^ 64 - 1 := wf2.2
  exact Calls.mono (HeapWords_law hin ⟨l1, by omega⟩ ⟨l2, by omega⟩) fun e w' ⟨r, he, hr, hu⟩ => ⟨by rw [he, hr], hu.below⟩

/-- The row, lifted: by the kit. -/
theorem lifted (os : Os) (started : os.Started) (H : Type) (enc : TypeId × Value → H) :
    ReturnsInHanded {} Tryz.checked os 6 .any (Rows.heapWordsSpec.pre6 enc Tryz.prog Tryz.f6 Rows.heapWordsRow.domain false) (Rows.heapWordsSpec.post enc Tryz.prog Tryz.f6 false true false false) := by
  refine returnsInHanded_of_change (C := Tryz.checked) own started (by kernel_rfl) Tryz.func6
    (ChangeSpec.witness6 (enc := enc) (C := Tryz.checked) false ⟨#[], #[.agg #[.int .i64 0, .int .i64 0, .string ⟨#[]⟩, .slice none 0 0], .int .u64 0, .int .u64 0, .int .i64 0], []⟩ 8 (by kernel_rfl) (by kernel_rfl) (by kernel_rfl) (by kernel_rfl)) ?_
  intro W base args ds gs before hval0 hW hcnd _
  have hval : ∀ (j : Nat) t v, Tryz.f6.params[j]? = some t → args[j]? = some v → Value.okWide Tryz.prog W .any base t v := hval0
  have hW' := hW
  obtain ⟨p, q, hA0, hV, rfl, hfz, hnd⟩ := hW
  have hA : DataW.TrodAll enc Tryz.prog W 0 (fun _ => true) true Tryz.f6.params.toList args.toList ds p := hA0
  rw [Tryz.params6] at hA hval
  obtain ⟨v0, vs0, d0, ds0, q0a, q0b, hargs, rfl, rfl, h0, r0⟩ := trodAll_cons hA
  obtain ⟨v1, vs1, d1, ds1, q1a, q1b, rfl, rfl, rfl, h1, r1⟩ := trodAll_cons r0
  obtain ⟨v2, vs2, d2, ds2, q2a, q2b, rfl, rfl, rfl, h2, r2⟩ := trodAll_cons r1
  obtain ⟨v3, vs3, d3, ds3, q3a, q3b, rfl, rfl, rfl, h3, r3⟩ := trodAll_cons r2
  obtain ⟨rfl, rfl, rfl⟩ := trodAll_nil r3
  obtain rfl : args = #[v0, v1, v2, v3] := by cases args; simp_all
  obtain ⟨rfl, rfl⟩ := trodVars_none hV
  obtain ⟨cs0, rfl, _⟩ := okWide_struct (t := 31) (by rfl) (hval 0 31 v0 rfl rfl)
  obtain ⟨a1, rfl⟩ := okWide_int (k := .u64) (t := 32) (by rfl) (hval 1 32 v1 rfl rfl)
  obtain ⟨a2, rfl⟩ := okWide_int (k := .u64) (t := 32) (by rfl) (hval 2 32 v2 rfl rfl)
  obtain ⟨a3, rfl⟩ := okWide_int (k := .i64) (t := 3) (by rfl) (hval 3 3 v3 rfl rfl)
  have lt0 : ∀ x ∈ q0a, x.block < W.heap.size := by obtain ⟨m, hm⟩ := h0; exact DataW.trod_lt m _ _ _ hm
  have lt1 : ∀ x ∈ q1a, x.block < W.heap.size := by obtain ⟨m, hm⟩ := h1; exact DataW.trod_lt m _ _ _ hm
  have lt2 : ∀ x ∈ q2a, x.block < W.heap.size := by obtain ⟨m, hm⟩ := h2; exact DataW.trod_lt m _ _ _ hm
  have lt3 : ∀ x ∈ q3a, x.block < W.heap.size := by obtain ⟨m, hm⟩ := h3; exact DataW.trod_lt m _ _ _ hm
  clear hA0 hval0
  refine (walk W cs0 a1 a2 a3 (Go.D.sees_of_Trod h0) (Go.D.sees_of_Trod h1) (Go.D.sees_of_Trod h2) (Go.D.sees_of_Trod h3)).mono fun e W' ⟨he, bel⟩ => ?_
  subst he
  exact ⟨_, rfl, _, _, _, [], _, [], hW', trodAll_mk1 (shut_bool (t := 4) (by rfl) _), (trodAll_cons_mk (Below.trod laidOut (by kernel_rfl) (of_decide_eq_true (by kernel_rfl)) h0 bel lt0) (trodAll_cons_mk (Below.trod laidOut (by kernel_rfl) (of_decide_eq_true (by kernel_rfl)) h1 bel lt1) (trodAll_cons_mk (Below.trod laidOut (by kernel_rfl) (of_decide_eq_true (by kernel_rfl)) h2 bel lt2) (trodAll_cons_mk (Below.trod laidOut (by kernel_rfl) (of_decide_eq_true (by kernel_rfl)) h3 bel lt3) trodAll_mk0)))), rfl, bel.frame _, fun h => by cases h⟩

theorem over : Rows.heapWordsRow.holds Tryz.pinned (OpenSpec.ofChange Rows.heapWordsSpec) :=
  OpenClaim.holds_of_wide 6 Tryz.f6 rfl rfl rfl rfl rfl rfl rfl ⟨rfl, rfl, rfl, rfl, rfl⟩ rfl rfl rfl rfl rfl (by kernel_rfl) Tryz.func6 (by kernel_rfl)
    (of_decide_eq_true (by kernel_rfl)) (by unfold Func.isWrapper; first | (rw [if_pos (by decide +kernel)]; kernel_rfl) | (rw [if_neg (by decide +kernel)]; exact ⟨rfl, rfl⟩))
    (fun os started H enc _ => lifted os started H enc)

/-- The statement. -/
theorem proved : Rows.HeapWordsSaid := over
#print axioms proved
end Go.Proofs.YtdaenijbokialaaGreat.heapWords
