/- What this seat's slice types are made of, held by the kernel. Printed by a program. -/
import Derived.Test.YtpkfckfdehaamaaOwn2
import Derived.Test.YtpkfckfdehaamaaProg
set_option maxRecDepth 100000
namespace Go.Proofs.Ytpkfckfdehaamaa
open Go Go.D Go.Proofs

/-- []api.Term -/
theorem eS_22 : ElemOf Try.prog 22 24 4 56 #[.int .i64 0, .int .i64 0, .string ⟨#[]⟩, .slice none 0 0] := by
  have hz : ∃ i z, Try.prog.info? 24 = some i ∧ i.zero = some z ∧ z.cells = ([.int .i64 0, .int .i64 0, .string ⟨#[]⟩, .slice none 0 0] : List Value).toArray := ⟨_, _, rfl, rfl, rfl⟩
  obtain ⟨i, z, h1, h2, h3⟩ := hz
  exact elemOf_mk (by decide +kernel) h1 h2 h3

/-- []elenchuslaw18.Op -/
theorem eS_31 : ElemOf Try.prog 31 40 6 56 #[.int .i64 0, .int .i64 0, .int .i64 0, .string ⟨#[]⟩, .int .i64 0, .bool false] := by
  have hz : ∃ i z, Try.prog.info? 40 = some i ∧ i.zero = some z ∧ z.cells = ([.int .i64 0, .int .i64 0, .int .i64 0, .string ⟨#[]⟩, .int .i64 0, .bool false] : List Value).toArray := ⟨_, _, rfl, rfl, rfl⟩
  obtain ⟨i, z, h1, h2, h3⟩ := hz
  exact elemOf_mk (by decide +kernel) h1 h2 h3

/-- []elenchusref18.Entry -/
theorem eS_35 : ElemOf Try.prog 35 62 4 40 #[.int .i64 0, .int .i64 0, .string ⟨#[]⟩, .int .i64 0] := by
  have hz : ∃ i z, Try.prog.info? 62 = some i ∧ i.zero = some z ∧ z.cells = ([.int .i64 0, .int .i64 0, .string ⟨#[]⟩, .int .i64 0] : List Value).toArray := ⟨_, _, rfl, rfl, rfl⟩
  obtain ⟨i, z, h1, h2, h3⟩ := hz
  exact elemOf_mk (by decide +kernel) h1 h2 h3

/-- []int -/
theorem eS_43 : ElemOf Try.prog 43 3 1 8 #[.int .i64 0] := by
  have hz : ∃ i z, Try.prog.info? 3 = some i ∧ i.zero = some z ∧ z.cells = ([.int .i64 0] : List Value).toArray := ⟨_, _, rfl, rfl, rfl⟩
  obtain ⟨i, z, h1, h2, h3⟩ := hz
  exact elemOf_mk (by decide +kernel) h1 h2 h3

/-- []index.entry -/
theorem eS_57 : ElemOf Try.prog 57 69 2 16 #[.int .i64 0, .int .i64 0] := by
  have hz : ∃ i z, Try.prog.info? 69 = some i ∧ i.zero = some z ∧ z.cells = ([.int .i64 0, .int .i64 0] : List Value).toArray := ⟨_, _, rfl, rfl, rfl⟩
  obtain ⟨i, z, h1, h2, h3⟩ := hz
  exact elemOf_mk (by decide +kernel) h1 h2 h3

/-- index.row -/
theorem eS_58 : ElemOf Try.prog 58 69 2 16 #[.int .i64 0, .int .i64 0] := by
  have hz : ∃ i z, Try.prog.info? 69 = some i ∧ i.zero = some z ∧ z.cells = ([.int .i64 0, .int .i64 0] : List Value).toArray := ⟨_, _, rfl, rfl, rfl⟩
  obtain ⟨i, z, h1, h2, h3⟩ := hz
  exact elemOf_mk (by decide +kernel) h1 h2 h3

end Go.Proofs.Ytpkfckfdehaamaa
