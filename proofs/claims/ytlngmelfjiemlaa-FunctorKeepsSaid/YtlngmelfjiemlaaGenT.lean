/- What this seat's slice types are made of, held by the kernel. Printed by a program. -/
import Derived.Test.YtlngmelfjiemlaaOwn2
import Derived.Test.YtlngmelfjiemlaaProg
set_option maxRecDepth 100000
namespace Go.Proofs.Ytlngmelfjiemlaa
open Go Go.D Go.Proofs

/-- []elenchuslaw05.Op -/
theorem eS_42 : ElemOf Try.prog 42 23 3 32 #[.int .i64 0, .string ⟨#[]⟩, .int .i64 0] := by
  have hz : ∃ i z, Try.prog.info? 23 = some i ∧ i.zero = some z ∧ z.cells = ([.int .i64 0, .string ⟨#[]⟩, .int .i64 0] : List Value).toArray := ⟨_, _, rfl, rfl, rfl⟩
  obtain ⟨i, z, h1, h2, h3⟩ := hz
  exact elemOf_mk (by decide +kernel) h1 h2 h3

/-- []int -/
theorem eS_43 : ElemOf Try.prog 43 3 1 8 #[.int .i64 0] := by
  have hz : ∃ i z, Try.prog.info? 3 = some i ∧ i.zero = some z ∧ z.cells = ([.int .i64 0] : List Value).toArray := ⟨_, _, rfl, rfl, rfl⟩
  obtain ⟨i, z, h1, h2, h3⟩ := hz
  exact elemOf_mk (by decide +kernel) h1 h2 h3

/-- []elenchusref05.Slot -/
theorem eS_50 : ElemOf Try.prog 50 101 4 24 #[.int .i64 0, .int .i64 0, .bool false, .bool false] := by
  have hz : ∃ i z, Try.prog.info? 101 = some i ∧ i.zero = some z ∧ z.cells = ([.int .i64 0, .int .i64 0, .bool false, .bool false] : List Value).toArray := ⟨_, _, rfl, rfl, rfl⟩
  obtain ⟨i, z, h1, h2, h3⟩ := hz
  exact elemOf_mk (by decide +kernel) h1 h2 h3

/-- []functor.slot -/
theorem eS_54 : ElemOf Try.prog 54 64 4 24 #[.int .i64 0, .int .i64 0, .bool false, .bool false] := by
  have hz : ∃ i z, Try.prog.info? 64 = some i ∧ i.zero = some z ∧ z.cells = ([.int .i64 0, .int .i64 0, .bool false, .bool false] : List Value).toArray := ⟨_, _, rfl, rfl, rfl⟩
  obtain ⟨i, z, h1, h2, h3⟩ := hz
  exact elemOf_mk (by decide +kernel) h1 h2 h3

/-- []string -/
theorem eS_69 : ElemOf Try.prog 69 9 1 16 #[.string ⟨#[]⟩] := by
  have hz : ∃ i z, Try.prog.info? 9 = some i ∧ i.zero = some z ∧ z.cells = ([.string ⟨#[]⟩] : List Value).toArray := ⟨_, _, rfl, rfl, rfl⟩
  obtain ⟨i, z, h1, h2, h3⟩ := hz
  exact elemOf_mk (by decide +kernel) h1 h2 h3

/-- []atom.slot -/
theorem eS_86 : ElemOf Try.prog 86 92 3 24 #[.string ⟨#[]⟩, .bool false, .bool false] := by
  have hz : ∃ i z, Try.prog.info? 92 = some i ∧ i.zero = some z ∧ z.cells = ([.string ⟨#[]⟩, .bool false, .bool false] : List Value).toArray := ⟨_, _, rfl, rfl, rfl⟩
  obtain ⟨i, z, h1, h2, h3⟩ := hz
  exact elemOf_mk (by decide +kernel) h1 h2 h3

/-- []elenchusref04.Slot -/
theorem eS_93 : ElemOf Try.prog 93 97 3 24 #[.string ⟨#[]⟩, .bool false, .bool false] := by
  have hz : ∃ i z, Try.prog.info? 97 = some i ∧ i.zero = some z ∧ z.cells = ([.string ⟨#[]⟩, .bool false, .bool false] : List Value).toArray := ⟨_, _, rfl, rfl, rfl⟩
  obtain ⟨i, z, h1, h2, h3⟩ := hz
  exact elemOf_mk (by decide +kernel) h1 h2 h3

end Go.Proofs.Ytlngmelfjiemlaa
