/- What this seat's slice types are made of, held by the kernel. Printed by a program. -/
import Derived.Test.YtlndgaijekihiaaGreatOwn6
import Derived.Test.YtlndgaijekihiaaGreatProg
set_option maxRecDepth 100000
namespace Go.Proofs.YtlndgaijekihiaaGreat
open Go Go.D Go.Proofs

/-- []api.Term -/
theorem eS_22 : ElemOf Tryz.prog 22 24 4 56 #[.int .i64 0, .int .i64 0, .string ⟨#[]⟩, .slice none 0 0] := by
  have hz : ∃ i z, Tryz.prog.info? 24 = some i ∧ i.zero = some z ∧ z.cells = ([.int .i64 0, .int .i64 0, .string ⟨#[]⟩, .slice none 0 0] : List Value).toArray := ⟨_, _, rfl, rfl, rfl⟩
  obtain ⟨i, z, h1, h2, h3⟩ := hz
  exact elemOf_mk (by decide +kernel) h1 h2 h3

/-- []api.Goal -/
theorem eS_25 : ElemOf Tryz.prog 25 109 5 64 #[.int .i64 0, .int .i64 0, .int .i64 0, .string ⟨#[]⟩, .slice none 0 0] := by
  have hz : ∃ i z, Tryz.prog.info? 109 = some i ∧ i.zero = some z ∧ z.cells = ([.int .i64 0, .int .i64 0, .int .i64 0, .string ⟨#[]⟩, .slice none 0 0] : List Value).toArray := ⟨_, _, rfl, rfl, rfl⟩
  obtain ⟨i, z, h1, h2, h3⟩ := hz
  exact elemOf_mk (by decide +kernel) h1 h2 h3

/-- []api.Instr -/
theorem eS_28 : ElemOf Tryz.prog 28 45 5 48 #[.int .i64 0, .string ⟨#[]⟩, .int .i64 0, .int .i64 0, .int .i64 0] := by
  have hz : ∃ i z, Tryz.prog.info? 45 = some i ∧ i.zero = some z ∧ z.cells = ([.int .i64 0, .string ⟨#[]⟩, .int .i64 0, .int .i64 0, .int .i64 0] : List Value).toArray := ⟨_, _, rfl, rfl, rfl⟩
  obtain ⟨i, z, h1, h2, h3⟩ := hz
  exact elemOf_mk (by decide +kernel) h1 h2 h3

/-- []api.Pred -/
theorem eS_54 : ElemOf Tryz.prog 54 86 3 32 #[.string ⟨#[]⟩, .int .i64 0, .int .i64 0] := by
  have hz : ∃ i z, Tryz.prog.info? 86 = some i ∧ i.zero = some z ∧ z.cells = ([.string ⟨#[]⟩, .int .i64 0, .int .i64 0] : List Value).toArray := ⟨_, _, rfl, rfl, rfl⟩
  obtain ⟨i, z, h1, h2, h3⟩ := hz
  exact elemOf_mk (by decide +kernel) h1 h2 h3

/-- []base.slot -/
theorem eS_64 : ElemOf Tryz.prog 64 76 10 136 #[.int .i64 0, .int .i64 0, .string ⟨#[]⟩, .slice none 0 0, .slice none 0 0, .int .i64 0, .slice none 0 0, .int .i64 0, .int .i64 0, .bool false] := by
  have hz : ∃ i z, Tryz.prog.info? 76 = some i ∧ i.zero = some z ∧ z.cells = ([.int .i64 0, .int .i64 0, .string ⟨#[]⟩, .slice none 0 0, .slice none 0 0, .int .i64 0, .slice none 0 0, .int .i64 0, .int .i64 0, .bool false] : List Value).toArray := ⟨_, _, rfl, rfl, rfl⟩
  obtain ⟨i, z, h1, h2, h3⟩ := hz
  exact elemOf_mk (by decide +kernel) h1 h2 h3

/-- []int -/
theorem eS_65 : ElemOf Tryz.prog 65 3 1 8 #[.int .i64 0] := by
  have hz : ∃ i z, Tryz.prog.info? 3 = some i ∧ i.zero = some z ∧ z.cells = ([.int .i64 0] : List Value).toArray := ⟨_, _, rfl, rfl, rfl⟩
  obtain ⟨i, z, h1, h2, h3⟩ := hz
  exact elemOf_mk (by decide +kernel) h1 h2 h3

/-- []index.entry -/
theorem eS_95 : ElemOf Tryz.prog 95 105 2 16 #[.int .i64 0, .int .i64 0] := by
  have hz : ∃ i z, Tryz.prog.info? 105 = some i ∧ i.zero = some z ∧ z.cells = ([.int .i64 0, .int .i64 0] : List Value).toArray := ⟨_, _, rfl, rfl, rfl⟩
  obtain ⟨i, z, h1, h2, h3⟩ := hz
  exact elemOf_mk (by decide +kernel) h1 h2 h3

/-- index.row -/
theorem eS_96 : ElemOf Tryz.prog 96 105 2 16 #[.int .i64 0, .int .i64 0] := by
  have hz : ∃ i z, Tryz.prog.info? 105 = some i ∧ i.zero = some z ∧ z.cells = ([.int .i64 0, .int .i64 0] : List Value).toArray := ⟨_, _, rfl, rfl, rfl⟩
  obtain ⟨i, z, h1, h2, h3⟩ := hz
  exact elemOf_mk (by decide +kernel) h1 h2 h3

end Go.Proofs.YtlndgaijekihiaaGreat
