/- What this seat's slice types are made of, held by the kernel. Printed by a program. -/
import Derived.Test.YtdkkkomcolklbaaOwn2
import Derived.Test.YtdkkkomcolklbaaProg
set_option maxRecDepth 100000
namespace Go.Proofs.Ytdkkkomcolklbaa
open Go Go.D Go.Proofs

/-- []uint64 -/
theorem eS_22 : ElemOf Try.prog 22 29 1 8 #[.int .u64 0] := by
  have hz : ∃ i z, Try.prog.info? 29 = some i ∧ i.zero = some z ∧ z.cells = ([.int .u64 0] : List Value).toArray := ⟨_, _, rfl, rfl, rfl⟩
  obtain ⟨i, z, h1, h2, h3⟩ := hz
  exact elemOf_mk (by decide +kernel) h1 h2 h3

/-- []elenchuslaw02.Op -/
theorem eS_35 : ElemOf Try.prog 35 40 3 24 #[.int .i64 0, .int .i64 0, .int .u64 0] := by
  have hz : ∃ i z, Try.prog.info? 40 = some i ∧ i.zero = some z ∧ z.cells = ([.int .i64 0, .int .i64 0, .int .u64 0] : List Value).toArray := ⟨_, _, rfl, rfl, rfl⟩
  obtain ⟨i, z, h1, h2, h3⟩ := hz
  exact elemOf_mk (by decide +kernel) h1 h2 h3

end Go.Proofs.Ytdkkkomcolklbaa
