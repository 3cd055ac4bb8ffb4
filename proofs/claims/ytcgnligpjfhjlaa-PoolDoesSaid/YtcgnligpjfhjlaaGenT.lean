/- What this seat's slice types are made of, held by the kernel. Printed by a program. -/
import Derived.Test.YtcgnligpjfhjlaaOwn2
import Derived.Test.YtcgnligpjfhjlaaProg
set_option maxRecDepth 100000
namespace Go.Proofs.Ytcgnligpjfhjlaa
open Go Go.D Go.Proofs

/-- []elenchuslaw03.Op -/
theorem eS_22 : ElemOf Try.prog 22 30 3 24 #[.int .i64 0, .int .i64 0, .int .i64 0] := by
  have hz : ∃ i z, Try.prog.info? 30 = some i ∧ i.zero = some z ∧ z.cells = ([.int .i64 0, .int .i64 0, .int .i64 0] : List Value).toArray := ⟨_, _, rfl, rfl, rfl⟩
  obtain ⟨i, z, h1, h2, h3⟩ := hz
  exact elemOf_mk (by decide +kernel) h1 h2 h3

/-- []int -/
theorem eS_33 : ElemOf Try.prog 33 3 1 8 #[.int .i64 0] := by
  have hz : ∃ i z, Try.prog.info? 3 = some i ∧ i.zero = some z ∧ z.cells = ([.int .i64 0] : List Value).toArray := ⟨_, _, rfl, rfl, rfl⟩
  obtain ⟨i, z, h1, h2, h3⟩ := hz
  exact elemOf_mk (by decide +kernel) h1 h2 h3

/-- []api.Row -/
theorem eS_40 : ElemOf Try.prog 40 58 2 16 #[.int .i64 0, .int .i64 0] := by
  have hz : ∃ i z, Try.prog.info? 58 = some i ∧ i.zero = some z ∧ z.cells = ([.int .i64 0, .int .i64 0] : List Value).toArray := ⟨_, _, rfl, rfl, rfl⟩
  obtain ⟨i, z, h1, h2, h3⟩ := hz
  exact elemOf_mk (by decide +kernel) h1 h2 h3

/-- []pool.segment -/
theorem eS_54 : ElemOf Try.prog 54 53 2 32 #[.int .i64 0, .slice none 0 0] := by
  have hz : ∃ i z, Try.prog.info? 53 = some i ∧ i.zero = some z ∧ z.cells = ([.int .i64 0, .slice none 0 0] : List Value).toArray := ⟨_, _, rfl, rfl, rfl⟩
  obtain ⟨i, z, h1, h2, h3⟩ := hz
  exact elemOf_mk (by decide +kernel) h1 h2 h3

/-- []bool -/
theorem eS_68 : ElemOf Try.prog 68 4 1 1 #[.bool false] := by
  have hz : ∃ i z, Try.prog.info? 4 = some i ∧ i.zero = some z ∧ z.cells = ([.bool false] : List Value).toArray := ⟨_, _, rfl, rfl, rfl⟩
  obtain ⟨i, z, h1, h2, h3⟩ := hz
  exact elemOf_mk (by decide +kernel) h1 h2 h3

end Go.Proofs.Ytcgnligpjfhjlaa
