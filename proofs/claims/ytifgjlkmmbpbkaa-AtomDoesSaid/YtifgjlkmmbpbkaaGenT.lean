/- What this seat's slice types are made of, held by the kernel. Printed by a program. -/
import Derived.Test.YtifgjlkmmbpbkaaOwn2
import Derived.Test.YtifgjlkmmbpbkaaProg
set_option maxRecDepth 100000
namespace Go.Proofs.Ytifgjlkmmbpbkaa
open Go Go.D Go.Proofs

/-- []elenchuslaw04.Op -/
theorem eS_22 : ElemOf Try.prog 22 31 3 32 #[.int .i64 0, .string ⟨#[]⟩, .int .i64 0] := by
  have hz : ∃ i z, Try.prog.info? 31 = some i ∧ i.zero = some z ∧ z.cells = ([.int .i64 0, .string ⟨#[]⟩, .int .i64 0] : List Value).toArray := ⟨_, _, rfl, rfl, rfl⟩
  obtain ⟨i, z, h1, h2, h3⟩ := hz
  exact elemOf_mk (by decide +kernel) h1 h2 h3

/-- []elenchusref04.Slot -/
theorem eS_34 : ElemOf Try.prog 34 39 3 24 #[.string ⟨#[]⟩, .bool false, .bool false] := by
  have hz : ∃ i z, Try.prog.info? 39 = some i ∧ i.zero = some z ∧ z.cells = ([.string ⟨#[]⟩, .bool false, .bool false] : List Value).toArray := ⟨_, _, rfl, rfl, rfl⟩
  obtain ⟨i, z, h1, h2, h3⟩ := hz
  exact elemOf_mk (by decide +kernel) h1 h2 h3

/-- []string -/
theorem eS_41 : ElemOf Try.prog 41 9 1 16 #[.string ⟨#[]⟩] := by
  have hz : ∃ i z, Try.prog.info? 9 = some i ∧ i.zero = some z ∧ z.cells = ([.string ⟨#[]⟩] : List Value).toArray := ⟨_, _, rfl, rfl, rfl⟩
  obtain ⟨i, z, h1, h2, h3⟩ := hz
  exact elemOf_mk (by decide +kernel) h1 h2 h3

/-- []int -/
theorem eS_42 : ElemOf Try.prog 42 3 1 8 #[.int .i64 0] := by
  have hz : ∃ i z, Try.prog.info? 3 = some i ∧ i.zero = some z ∧ z.cells = ([.int .i64 0] : List Value).toArray := ⟨_, _, rfl, rfl, rfl⟩
  obtain ⟨i, z, h1, h2, h3⟩ := hz
  exact elemOf_mk (by decide +kernel) h1 h2 h3

/-- []atom.slot -/
theorem eS_70 : ElemOf Try.prog 70 77 3 24 #[.string ⟨#[]⟩, .bool false, .bool false] := by
  have hz : ∃ i z, Try.prog.info? 77 = some i ∧ i.zero = some z ∧ z.cells = ([.string ⟨#[]⟩, .bool false, .bool false] : List Value).toArray := ⟨_, _, rfl, rfl, rfl⟩
  obtain ⟨i, z, h1, h2, h3⟩ := hz
  exact elemOf_mk (by decide +kernel) h1 h2 h3

end Go.Proofs.Ytifgjlkmmbpbkaa
