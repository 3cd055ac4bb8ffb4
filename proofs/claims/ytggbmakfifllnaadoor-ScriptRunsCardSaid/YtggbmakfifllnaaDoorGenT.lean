/- What this seat's slice types are made of, held by the kernel. Printed by a program. -/
import Derived.Test.YtggbmakfifllnaaDoorOwn6
import Derived.Test.YtggbmakfifllnaaDoorProg
set_option maxRecDepth 100000
namespace Go.Proofs.YtggbmakfifllnaaDoor
open Go Go.D Go.Proofs

/-- []int -/
theorem eS_24 : ElemOf Tryd.prog 24 3 1 8 #[.int .i64 0] := by
  have hz : ∃ i z, Tryd.prog.info? 3 = some i ∧ i.zero = some z ∧ z.cells = ([.int .i64 0] : List Value).toArray := ⟨_, _, rfl, rfl, rfl⟩
  obtain ⟨i, z, h1, h2, h3⟩ := hz
  exact elemOf_mk (by decide +kernel) h1 h2 h3

/-- []uint8 -/
theorem eS_28 : ElemOf Tryd.prog 28 5 1 1 #[.int .u8 0] := by
  have hz : ∃ i z, Tryd.prog.info? 5 = some i ∧ i.zero = some z ∧ z.cells = ([.int .u8 0] : List Value).toArray := ⟨_, _, rfl, rfl, rfl⟩
  obtain ⟨i, z, h1, h2, h3⟩ := hz
  exact elemOf_mk (by decide +kernel) h1 h2 h3

/-- []api.Event -/
theorem eS_41 : ElemOf Tryd.prog 41 45 2 24 #[.int .i64 0, .string ⟨#[]⟩] := by
  have hz : ∃ i z, Tryd.prog.info? 45 = some i ∧ i.zero = some z ∧ z.cells = ([.int .i64 0, .string ⟨#[]⟩] : List Value).toArray := ⟨_, _, rfl, rfl, rfl⟩
  obtain ⟨i, z, h1, h2, h3⟩ := hz
  exact elemOf_mk (by decide +kernel) h1 h2 h3

/-- []int -/
theorem eS_67 : ElemOf Tryd.prog 67 66 1 8 #[.pointer none] := by
  have hz : ∃ i z, Tryd.prog.info? 66 = some i ∧ i.zero = some z ∧ z.cells = ([.pointer none] : List Value).toArray := ⟨_, _, rfl, rfl, rfl⟩
  obtain ⟨i, z, h1, h2, h3⟩ := hz
  exact elemOf_mk (by decide +kernel) h1 h2 h3

/-- []string -/
theorem eS_84 : ElemOf Tryd.prog 84 9 1 16 #[.string ⟨#[]⟩] := by
  have hz : ∃ i z, Tryd.prog.info? 9 = some i ∧ i.zero = some z ∧ z.cells = ([.string ⟨#[]⟩] : List Value).toArray := ⟨_, _, rfl, rfl, rfl⟩
  obtain ⟨i, z, h1, h2, h3⟩ := hz
  exact elemOf_mk (by decide +kernel) h1 h2 h3

end Go.Proofs.YtggbmakfifllnaaDoor
