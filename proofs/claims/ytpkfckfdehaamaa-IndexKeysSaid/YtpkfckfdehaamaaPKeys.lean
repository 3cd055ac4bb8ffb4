/- The key of any term, and which keys meet: elenchuslaw18.IndexKeys returns true whatever the input, and changes none of its arguments. -/
import Derived.Test.YtpkfckfdehaamaaRows
import Derived.Test.YtpkfckfdehaamaaNobody
import Derived.Test.YtpkfckfdehaamaaGenS
import Derived.WalkKit
import Derived.ProofKit
import Derived.OpenShut
import Derived.ShutString
import Derived.ChangeOld
import Derived.Below
namespace Go.Proofs.Ytpkfckfdehaamaa.indexKeys
open Go.ChangeShapes Go.WideShapes Go.ChangeAt Go.RowKit
set_option linter.unusedVariables false
set_option maxRecDepth 100000

theorem own : ownKnob Try.prog.godebug = none := by kernel_rfl
theorem laidOut : laidOutB Try.prog = true := by kernel_rfl

/-- What the law does: it answers true, and turns nothing that was there. -/
theorem walk (W : World) (cs0 : Array Value) (cs1 : Array Value) (cs2 : Array Value) (s0 : ∃ f, Go.D.Sees Try.prog W f 24 cs0.toList) (s1 : ∃ f, Go.D.Sees Try.prog W f 26 cs1.toList) (s2 : ∃ f, Go.D.Sees Try.prog W f 26 cs2.toList) : Calls Try.prog 3 #[.agg cs0, .agg cs1, .agg cs2] W fun e w1 => e = .returned (.bool true) ∧ Below W.heap.size W w1 := by
  obtain ⟨f, s0⟩ := s0
  obtain ⟨f1, s1⟩ := s1
  obtain ⟨f2, s2⟩ := s2
  obtain ⟨g, t0, t1, t2, p, n, c, e, _, _, _, g1, sl⟩ := see_24 s0
  obtain rfl : cs0 = #[.int .i64 t0, .int .i64 t1, .string t2, .slice p n c] := by cases cs0; simp at e; simp [e]
  obtain ⟨g2, x0, x1, x2, e, _⟩ := see_26 s1
  obtain rfl : cs1 = #[.int .i64 x0, .string x1, .int .i64 x2] := by cases cs1; simp at e; simp [e]
  obtain ⟨g3, y0, y1, y2, e, _⟩ := see_26 s2
  obtain rfl : cs2 = #[.int .i64 y0, .string y1, .int .i64 y2] := by cases cs2; simp at e; simp [e]
  obtain ⟨p', n', c', cs, g4, _, e, _, _, hrd, hrow⟩ := Go.D.see_slice (t := 22) (e := 24) (sz := 4) (by rfl) (by kernel_rfl) sl
  simp only [List.cons.injEq, Value.slice.injEq, and_true] at e
  obtain ⟨rfl, rfl, rfl⟩ := e
  have hh : ∃ k, HeadT W p n k := by
    by_cases hn : n = 0
    · exact ⟨zk, fun h => absurd hn h⟩
    · obtain ⟨g5, z0, z1, z2, q, m, c2, e, _⟩ := see_24 (hrow 0 (by omega))
      obtain ⟨x, hx, hc⟩ := hrd.elem (i := 0) (by omega)
      have hj : ∀ j, j < 4 → W.cell? (x.add j) = ([.int .i64 z0, .int .i64 z1, .string z2, .slice q m c2] : List Value)[j]? := fun j hj => by
        have := hc j hj
        rw [Nat.zero_mul, Nat.zero_add] at this
        rw [this, ← e, List.getElem?_take, if_pos hj, List.getElem?_drop]; simp
      exact ⟨keyOfT z0 z1 z2 m, fun _ => ⟨x, z0, z1, z2, q, m, c2, hx, hj 0 (by omega), hj 1 (by omega), hj 2 (by omega), hj 3 (by omega), rfl⟩⟩
  obtain ⟨k, hh⟩ := hh
  exact Calls.mono (IndexKeys_law hh) fun e w' ⟨r, he, hr, hu⟩ => ⟨by rw [he, hr], hu.below⟩

/-- The row, lifted: by the kit. -/
theorem lifted (os : Os) (started : os.Started) (H : Type) (enc : TypeId × Value → H) :
    ReturnsInHanded {} Try.checked os 3 .any (Rows.indexKeysSpec.pre6 enc Try.prog Try.f3 Rows.indexKeysRow.domain false) (Rows.indexKeysSpec.post enc Try.prog Try.f3 false true false false) := by
  refine returnsInHanded_of_change (C := Try.checked) own started (by kernel_rfl) Try.func3
    (ChangeSpec.witness6 (enc := enc) (C := Try.checked) false ⟨#[], #[.agg #[.int .i64 0, .int .i64 0, .string ⟨#[]⟩, .slice none 0 0], .agg #[.int .i64 0, .string ⟨#[]⟩, .int .i64 0], .agg #[.int .i64 0, .string ⟨#[]⟩, .int .i64 0]], []⟩ 8 (by kernel_rfl) (by kernel_rfl) (by kernel_rfl) (by kernel_rfl)) ?_
  intro W base args ds gs before hval0 hW hcnd _
  have hval : ∀ (j : Nat) t v, Try.f3.params[j]? = some t → args[j]? = some v → Value.okWide Try.prog W .any base t v := hval0
  have hW' := hW
  obtain ⟨p, q, hA0, hV, rfl, hfz, hnd⟩ := hW
  have hA : DataW.TrodAll enc Try.prog W 0 (fun _ => true) true Try.f3.params.toList args.toList ds p := hA0
  rw [Try.params3] at hA hval
  obtain ⟨v0, vs0, d0, ds0, q0a, q0b, hargs, rfl, rfl, h0, r0⟩ := trodAll_cons hA
  obtain ⟨v1, vs1, d1, ds1, q1a, q1b, rfl, rfl, rfl, h1, r1⟩ := trodAll_cons r0
  obtain ⟨v2, vs2, d2, ds2, q2a, q2b, rfl, rfl, rfl, h2, r2⟩ := trodAll_cons r1
  obtain ⟨rfl, rfl, rfl⟩ := trodAll_nil r2
  obtain rfl : args = #[v0, v1, v2] := by cases args; simp_all
  obtain ⟨rfl, rfl⟩ := trodVars_none hV
  obtain ⟨cs0, rfl, _⟩ := okWide_struct (t := 24) (by rfl) (hval 0 24 v0 rfl rfl)
  obtain ⟨cs1, rfl, _⟩ := okWide_struct (t := 26) (by rfl) (hval 1 26 v1 rfl rfl)
  obtain ⟨cs2, rfl, _⟩ := okWide_struct (t := 26) (by rfl) (hval 2 26 v2 rfl rfl)
  have lt0 : ∀ x ∈ q0a, x.block < W.heap.size := by obtain ⟨m, hm⟩ := h0; exact DataW.trod_lt m _ _ _ hm
  have lt1 : ∀ x ∈ q1a, x.block < W.heap.size := by obtain ⟨m, hm⟩ := h1; exact DataW.trod_lt m _ _ _ hm
  have lt2 : ∀ x ∈ q2a, x.block < W.heap.size := by obtain ⟨m, hm⟩ := h2; exact DataW.trod_lt m _ _ _ hm
  clear hA0 hval0
  refine (walk W cs0 cs1 cs2 (Go.D.sees_of_Trod h0) (Go.D.sees_of_Trod h1) (Go.D.sees_of_Trod h2)).mono fun e W' ⟨he, bel⟩ => ?_
  subst he
  exact ⟨_, rfl, _, _, _, [], _, [], hW', trodAll_mk1 (shut_bool (t := 4) (by rfl) _), (trodAll_cons_mk (Below.trod laidOut (by kernel_rfl) (of_decide_eq_true (by kernel_rfl)) h0 bel lt0) (trodAll_cons_mk (Below.trod laidOut (by kernel_rfl) (of_decide_eq_true (by kernel_rfl)) h1 bel lt1) (trodAll_cons_mk (Below.trod laidOut (by kernel_rfl) (of_decide_eq_true (by kernel_rfl)) h2 bel lt2) trodAll_mk0))), rfl, bel.frame _, fun h => by cases h⟩

theorem over : Rows.indexKeysRow.holds Try.pinned (OpenSpec.ofChange Rows.indexKeysSpec) :=
  OpenClaim.holds_of_wide 3 Try.f3 rfl rfl rfl rfl rfl rfl rfl ⟨rfl, rfl, rfl, rfl, rfl⟩ rfl rfl rfl rfl rfl (by kernel_rfl) Try.func3 (by kernel_rfl)
    (of_decide_eq_true (by kernel_rfl)) (by unfold Func.isWrapper; first | (rw [if_pos (by decide +kernel)]; kernel_rfl) | (rw [if_neg (by decide +kernel)]; exact ⟨rfl, rfl⟩))
    (fun os started H enc _ => lifted os started H enc)

/-- The statement. -/
theorem proved : Rows.IndexKeysSaid := over
#print axioms proved
end Go.Proofs.Ytpkfckfdehaamaa.indexKeys
