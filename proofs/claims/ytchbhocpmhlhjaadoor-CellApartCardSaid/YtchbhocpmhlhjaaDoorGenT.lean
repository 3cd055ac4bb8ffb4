/- What this seat's slice types are made of, held by the kernel. Printed by a program. -/
import Derived.Test.YtchbhocpmhlhjaaDoorOwn2
import Derived.Test.YtchbhocpmhlhjaaDoorProg
set_option maxRecDepth 100000
namespace Go.Proofs.YtchbhocpmhlhjaaDoor
open Go Go.D Go.Proofs

/-- []uint8 -/
theorem eS_61 : ElemOf Tryd.prog 61 5 1 1 #[.int .u8 0] := by
  have hz : ∃ i z, Tryd.prog.info? 5 = some i ∧ i.zero = some z ∧ z.cells = ([.int .u8 0] : List Value).toArray := ⟨_, _, rfl, rfl, rfl⟩
  obtain ⟨i, z, h1, h2, h3⟩ := hz
  exact elemOf_mk (by decide +kernel) h1 h2 h3

end Go.Proofs.YtchbhocpmhlhjaaDoor
