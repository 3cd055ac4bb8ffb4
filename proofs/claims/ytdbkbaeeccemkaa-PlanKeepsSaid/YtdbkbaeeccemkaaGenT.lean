/- What this seat's slice types are made of, held by the kernel. Printed by a program. -/
import Derived.Test.YtdbkbaeeccemkaaOwn6
import Derived.Test.YtdbkbaeeccemkaaProg
set_option maxRecDepth 100000
namespace Go.Proofs.Ytdbkbaeeccemkaa
open Go Go.D Go.Proofs

/-- []api.Term -/
theorem eS_22 : ElemOf Try.prog 22 24 4 56 #[.int .i64 0, .int .i64 0, .string ⟨#[]⟩, .slice none 0 0] := by
  have hz : ∃ i z, Try.prog.info? 24 = some i ∧ i.zero = some z ∧ z.cells = ([.int .i64 0, .int .i64 0, .string ⟨#[]⟩, .slice none 0 0] : List Value).toArray := ⟨_, _, rfl, rfl, rfl⟩
  obtain ⟨i, z, h1, h2, h3⟩ := hz
  exact elemOf_mk (by decide +kernel) h1 h2 h3

/-- []api.Goal -/
theorem eS_25 : ElemOf Try.prog 25 38 5 64 #[.int .i64 0, .int .i64 0, .int .i64 0, .string ⟨#[]⟩, .slice none 0 0] := by
  have hz : ∃ i z, Try.prog.info? 38 = some i ∧ i.zero = some z ∧ z.cells = ([.int .i64 0, .int .i64 0, .int .i64 0, .string ⟨#[]⟩, .slice none 0 0] : List Value).toArray := ⟨_, _, rfl, rfl, rfl⟩
  obtain ⟨i, z, h1, h2, h3⟩ := hz
  exact elemOf_mk (by decide +kernel) h1 h2 h3

/-- []int -/
theorem eS_30 : ElemOf Try.prog 30 3 1 8 #[.int .i64 0] := by
  have hz : ∃ i z, Try.prog.info? 3 = some i ∧ i.zero = some z ∧ z.cells = ([.int .i64 0] : List Value).toArray := ⟨_, _, rfl, rfl, rfl⟩
  obtain ⟨i, z, h1, h2, h3⟩ := hz
  exact elemOf_mk (by decide +kernel) h1 h2 h3

/-- []plan.span -/
theorem eS_55 : ElemOf Try.prog 55 58 3 24 #[.int .i64 0, .int .i64 0, .int .i64 0] := by
  have hz : ∃ i z, Try.prog.info? 58 = some i ∧ i.zero = some z ∧ z.cells = ([.int .i64 0, .int .i64 0, .int .i64 0] : List Value).toArray := ⟨_, _, rfl, rfl, rfl⟩
  obtain ⟨i, z, h1, h2, h3⟩ := hz
  exact elemOf_mk (by decide +kernel) h1 h2 h3

end Go.Proofs.Ytdbkbaeeccemkaa
