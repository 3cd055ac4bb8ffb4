/- What this seat's slice types are made of, held by the kernel. Printed by a program. -/
import Derived.Test.YtdmjbkpibgfeiaaOwn6
import Derived.Test.YtdmjbkpibgfeiaaProg
set_option maxRecDepth 100000
namespace Go.Proofs.Ytdmjbkpibgfeiaa
open Go Go.D Go.Proofs

/-- []elenchuslaw22.Op -/
theorem eS_22 : ElemOf Try.prog 22 36 14 128 #[.int .i64 0, .int .i64 0, .int .u64 0, .int .i64 0, .int .i64 0, .int .i64 0, .slice none 0 0, .int .i64 0, .int .i64 0, .int .i64 0, .int .i64 0, .int .i64 0, .int .i64 0, .int .i64 0] := by
  have hz : ∃ i z, Try.prog.info? 36 = some i ∧ i.zero = some z ∧ z.cells = ([.int .i64 0, .int .i64 0, .int .u64 0, .int .i64 0, .int .i64 0, .int .i64 0, .slice none 0 0, .int .i64 0, .int .i64 0, .int .i64 0, .int .i64 0, .int .i64 0, .int .i64 0, .int .i64 0] : List Value).toArray := ⟨_, _, rfl, rfl, rfl⟩
  obtain ⟨i, z, h1, h2, h3⟩ := hz
  exact elemOf_mk (by decide +kernel) h1 h2 h3

/-- []uint64 -/
theorem eS_32 : ElemOf Try.prog 32 29 1 8 #[.int .u64 0] := by
  have hz : ∃ i z, Try.prog.info? 29 = some i ∧ i.zero = some z ∧ z.cells = ([.int .u64 0] : List Value).toArray := ⟨_, _, rfl, rfl, rfl⟩
  obtain ⟨i, z, h1, h2, h3⟩ := hz
  exact elemOf_mk (by decide +kernel) h1 h2 h3

/-- []api.Frame -/
theorem eS_38 : ElemOf Try.prog 38 77 4 48 #[.int .i64 0, .slice none 0 0, .int .i64 0, .int .i64 0] := by
  have hz : ∃ i z, Try.prog.info? 77 = some i ∧ i.zero = some z ∧ z.cells = ([.int .i64 0, .slice none 0 0, .int .i64 0, .int .i64 0] : List Value).toArray := ⟨_, _, rfl, rfl, rfl⟩
  obtain ⟨i, z, h1, h2, h3⟩ := hz
  exact elemOf_mk (by decide +kernel) h1 h2 h3

/-- []int -/
theorem eS_44 : ElemOf Try.prog 44 3 1 8 #[.int .i64 0] := by
  have hz : ∃ i z, Try.prog.info? 3 = some i ∧ i.zero = some z ∧ z.cells = ([.int .i64 0] : List Value).toArray := ⟨_, _, rfl, rfl, rfl⟩
  obtain ⟨i, z, h1, h2, h3⟩ := hz
  exact elemOf_mk (by decide +kernel) h1 h2 h3

/-- []api.Choice -/
theorem eS_68 : ElemOf Try.prog 68 34 9 88 #[.int .i64 0, .slice none 0 0, .int .i64 0, .int .i64 0, .int .i64 0, .int .i64 0, .int .i64 0, .int .i64 0, .int .i64 0] := by
  have hz : ∃ i z, Try.prog.info? 34 = some i ∧ i.zero = some z ∧ z.cells = ([.int .i64 0, .slice none 0 0, .int .i64 0, .int .i64 0, .int .i64 0, .int .i64 0, .int .i64 0, .int .i64 0, .int .i64 0] : List Value).toArray := ⟨_, _, rfl, rfl, rfl⟩
  obtain ⟨i, z, h1, h2, h3⟩ := hz
  exact elemOf_mk (by decide +kernel) h1 h2 h3

/-- []elenchusref22.Env -/
theorem eS_85 : ElemOf Try.prog 85 94 5 56 #[.int .i64 0, .int .i64 0, .slice none 0 0, .int .i64 0, .int .i64 0] := by
  have hz : ∃ i z, Try.prog.info? 94 = some i ∧ i.zero = some z ∧ z.cells = ([.int .i64 0, .int .i64 0, .slice none 0 0, .int .i64 0, .int .i64 0] : List Value).toArray := ⟨_, _, rfl, rfl, rfl⟩
  obtain ⟨i, z, h1, h2, h3⟩ := hz
  exact elemOf_mk (by decide +kernel) h1 h2 h3

/-- []elenchusref22.Choice -/
theorem eS_86 : ElemOf Try.prog 86 97 10 96 #[.int .i64 0, .slice none 0 0, .int .i64 0, .int .i64 0, .int .i64 0, .int .i64 0, .int .i64 0, .int .i64 0, .int .i64 0, .int .i64 0] := by
  have hz : ∃ i z, Try.prog.info? 97 = some i ∧ i.zero = some z ∧ z.cells = ([.int .i64 0, .slice none 0 0, .int .i64 0, .int .i64 0, .int .i64 0, .int .i64 0, .int .i64 0, .int .i64 0, .int .i64 0, .int .i64 0] : List Value).toArray := ⟨_, _, rfl, rfl, rfl⟩
  obtain ⟨i, z, h1, h2, h3⟩ := hz
  exact elemOf_mk (by decide +kernel) h1 h2 h3

end Go.Proofs.Ytdmjbkpibgfeiaa
