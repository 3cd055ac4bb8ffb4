/-
  No cell of these rows narrows 'for every input' (looked for: loops, veiled, ifaces, maps, wideKeys, modest, calm, conditions, laid).
  DERIVED. THE GIVEN ROWS OF THIS SEAT. 5 by the template 'for every input the law returns true; each argument reads behind the call as it read before'; 0 by the template 'total and deterministic' (their statements: YtdkkkomcolklbaaTotals.lean).
  GIVEN WITH THE SEED: the statements are not yours to turn. If you find one false, say at which input.
  Laid BY PROGRAM, IN A SANDBOX (cutbox-rows.mjs): the forced cells as the released guide's own fill.sh prints them over the translation 82fcc452b2f26086… (all of the seat's roots in one cut). By AI agents, Wed Nov 11 2026. No macro, syntax, notation, axiom, sorry.
-/
import Derived.Test.YtdkkkomcolklbaaChecked
import GoSem.Claim
import GoSem.ClaimJoined
import GoSem.ClaimMapViews
import Derived.JoinedTies
import Derived.KernelRfl
namespace Go.Proofs.Ytdkkkomcolklbaa
/- THE CELL 'sum', in the pinned program and in every row, IS THE sha256 OF THE DUMP (.gsa) THAT YtdkkkomcolklbaaProg.lean LOADS. Nothing in Lean hashes anything: it is a label: what it is worth is what the hold of that sum in a sandbox is worth. -/
noncomputable def Try.pinned : Pinned := { name := "ytdkkkomcolklbaa", sum := "82fcc452b2f260863b531b050f33cf1c2a8d5ce2d1f1929a2e22e99afbc2880d", checked := Try.checked }
namespace Rows
def none {H : Type} : Left H := { results := [], args := [] }

/-- 'elenchuslaw02.RoomStacks': WHATEVER THE INPUT: true; the input reads as it did. -/
def roomStacksSpec : ChangeSpec := { name := "roomStacks", fn := fun _ => fun
  | [d] => { results := [.lit (.bool true)], args := [d] }
  | _ => none }
def roomStacksRow : OpenClaim := { program := "ytdkkkomcolklbaa", sum := "82fcc452b2f260863b531b050f33cf1c2a8d5ce2d1f1929a2e22e99afbc2880d", func := "elenchus/elenchuslaw02.RoomStacks", spec := "roomStacks", apart := false }
def RoomStacksSaid : Prop := roomStacksRow.holds Try.pinned (OpenSpec.ofChange roomStacksSpec)

/-- ITS FALSE NEIGHBOUR: 'it returns false'. Refute it at one input. -/
def roomStacksWrong : ChangeSpec := { name := "roomStacks", fn := fun _ => fun
  | [d] => { results := [.lit (.bool false)], args := [d] }
  | _ => none }
def RoomStacksWrongFalsely : Prop := roomStacksRow.holds Try.pinned (OpenSpec.ofChange roomStacksWrong)

/-- 'elenchuslaw02.RoomFills': WHATEVER THE INPUT: true; the input reads as it did. -/
def roomFillsSpec : ChangeSpec := { name := "roomFills", fn := fun _ => fun
  | [d1, d2] => { results := [.lit (.bool true)], args := [d1, d2] }
  | _ => none }
def roomFillsRow : OpenClaim := { program := "ytdkkkomcolklbaa", sum := "82fcc452b2f260863b531b050f33cf1c2a8d5ce2d1f1929a2e22e99afbc2880d", func := "elenchus/elenchuslaw02.RoomFills", spec := "roomFills", apart := false }
def RoomFillsSaid : Prop := roomFillsRow.holds Try.pinned (OpenSpec.ofChange roomFillsSpec)

/-- ITS FALSE NEIGHBOUR: 'it returns false'. Refute it at one input. -/
def roomFillsWrong : ChangeSpec := { name := "roomFills", fn := fun _ => fun
  | [d1, d2] => { results := [.lit (.bool false)], args := [d1, d2] }
  | _ => none }
def RoomFillsWrongFalsely : Prop := roomFillsRow.holds Try.pinned (OpenSpec.ofChange roomFillsWrong)

/-- 'elenchuslaw02.RoomDoes': WHATEVER THE INPUT: true; the input reads as it did. -/
def roomDoesSpec : ChangeSpec := { name := "roomDoes", fn := fun _ => fun
  | [d1, d2] => { results := [.lit (.bool true)], args := [d1, d2] }
  | _ => none }
def roomDoesRow : OpenClaim := { program := "ytdkkkomcolklbaa", sum := "82fcc452b2f260863b531b050f33cf1c2a8d5ce2d1f1929a2e22e99afbc2880d", func := "elenchus/elenchuslaw02.RoomDoes", spec := "roomDoes", unfollowed := true, recurses := true, apart := false }
def RoomDoesSaid : Prop := roomDoesRow.holds Try.pinned (OpenSpec.ofChange roomDoesSpec)

/-- ITS FALSE NEIGHBOUR: 'it returns false'. Refute it at one input. -/
def roomDoesWrong : ChangeSpec := { name := "roomDoes", fn := fun _ => fun
  | [d1, d2] => { results := [.lit (.bool false)], args := [d1, d2] }
  | _ => none }
def RoomDoesWrongFalsely : Prop := roomDoesRow.holds Try.pinned (OpenSpec.ofChange roomDoesWrong)

/-- 'elenchuslaw02.RoomNobody': WHATEVER THE INPUT: true; the input reads as it did. -/
def roomNobodySpec : ChangeSpec := { name := "roomNobody", fn := fun _ => fun
  | [d] => { results := [.lit (.bool true)], args := [d] }
  | _ => none }
def roomNobodyRow : OpenClaim := { program := "ytdkkkomcolklbaa", sum := "82fcc452b2f260863b531b050f33cf1c2a8d5ce2d1f1929a2e22e99afbc2880d", func := "elenchus/elenchuslaw02.RoomNobody", spec := "roomNobody", unfollowed := true, recurses := true, apart := false }
def RoomNobodySaid : Prop := roomNobodyRow.holds Try.pinned (OpenSpec.ofChange roomNobodySpec)

/-- ITS FALSE NEIGHBOUR: 'it returns false'. Refute it at one input. -/
def roomNobodyWrong : ChangeSpec := { name := "roomNobody", fn := fun _ => fun
  | [d] => { results := [.lit (.bool false)], args := [d] }
  | _ => none }
def RoomNobodyWrongFalsely : Prop := roomNobodyRow.holds Try.pinned (OpenSpec.ofChange roomNobodyWrong)

/-- 'elenchuslaw02.RoomKeeps': WHATEVER THE INPUT: true; the input reads as it did. -/
def roomKeepsSpec : ChangeSpec := { name := "roomKeeps", fn := fun _ => fun
  | [d] => { results := [.lit (.bool true)], args := [d] }
  | _ => none }
def roomKeepsRow : OpenClaim := { program := "ytdkkkomcolklbaa", sum := "82fcc452b2f260863b531b050f33cf1c2a8d5ce2d1f1929a2e22e99afbc2880d", func := "elenchus/elenchuslaw02.RoomKeeps", spec := "roomKeeps", unfollowed := true, recurses := true, apart := false }
def RoomKeepsSaid : Prop := roomKeepsRow.holds Try.pinned (OpenSpec.ofChange roomKeepsSpec)

/-- ITS FALSE NEIGHBOUR: 'it returns false'. Refute it at one input. -/
def roomKeepsWrong : ChangeSpec := { name := "roomKeeps", fn := fun _ => fun
  | [d] => { results := [.lit (.bool false)], args := [d] }
  | _ => none }
def RoomKeepsWrongFalsely : Prop := roomKeepsRow.holds Try.pinned (OpenSpec.ofChange roomKeepsWrong)

/- THE SECOND FORM. 'bulk': how many values and letters a reading holds, each counted each time it is reached (what is shared counts as often as it is met; a slice's spare places count too). A statement '..UptoSaid' is the law's where the arguments, and the package variables that the reading takes, are together of bulk at most 1048576: NARROWER than '..Said'. Prove '..Said' where nothing that the law and all that it calls make is longer than what came in: it says more and counts as full. Else prove '..UptoSaid'. A law counts once. -/
mutual
def uptoBulk {H : Type} : DataW H → Nat
  | .lit (.string bytes) => bytes.length + 1
  | .lit _ => 1
  | .nil => 1
  | .ptr d => uptoBulk d + 1
  | .slice elems spare => uptoBulkAll elems + uptoBulkAll spare + 1
  | .agg parts => uptoBulkAll parts + 1
  | .iface _ d => uptoBulk d + 1
  | .map entries => uptoBulkEntries entries + 1
  | .held _ => 1
def uptoBulkAll {H : Type} : List (DataW H) → Nat
  | [] => 0
  | d :: r => uptoBulk d + uptoBulkAll r
def uptoBulkEntries {H : Type} : List (Lit × DataW H) → Nat
  | [] => 0
  | x :: r => uptoBulkEntry x + uptoBulkEntries r
def uptoBulkEntry {H : Type} : Lit × DataW H → Nat
  | (.string bytes, d) => bytes.length + uptoBulk d + 1
  | (_, d) => uptoBulk d + 1
 end
def uptoSmall : (H : Type) → List (DataW H) → Bool := fun _ ds => decide (uptoBulkAll ds ≤ 1048576)
def OpenSpec.upto (s : _root_.Go.ChangeSpec) : _root_.Go.OpenSpec := { _root_.Go.OpenSpec.ofChange s with cond := some uptoSmall }

/-- 'elenchuslaw02.RoomStacks', WHERE WHAT IT READS IS OF BULK AT MOST 1048576: true; the input reads as it did. -/
def roomStacksUptoRow : OpenClaim := { program := "ytdkkkomcolklbaa", sum := "82fcc452b2f260863b531b050f33cf1c2a8d5ce2d1f1929a2e22e99afbc2880d", func := "elenchus/elenchuslaw02.RoomStacks", spec := "roomStacks", apart := false, narrowed := true }
def RoomStacksUptoSaid : Prop := roomStacksUptoRow.holds Try.pinned (OpenSpec.upto roomStacksSpec)

/-- 'elenchuslaw02.RoomFills', WHERE WHAT IT READS IS OF BULK AT MOST 1048576: true; the input reads as it did. -/
def roomFillsUptoRow : OpenClaim := { program := "ytdkkkomcolklbaa", sum := "82fcc452b2f260863b531b050f33cf1c2a8d5ce2d1f1929a2e22e99afbc2880d", func := "elenchus/elenchuslaw02.RoomFills", spec := "roomFills", apart := false, narrowed := true }
def RoomFillsUptoSaid : Prop := roomFillsUptoRow.holds Try.pinned (OpenSpec.upto roomFillsSpec)

/-- 'elenchuslaw02.RoomDoes', WHERE WHAT IT READS IS OF BULK AT MOST 1048576: true; the input reads as it did. -/
def roomDoesUptoRow : OpenClaim := { program := "ytdkkkomcolklbaa", sum := "82fcc452b2f260863b531b050f33cf1c2a8d5ce2d1f1929a2e22e99afbc2880d", func := "elenchus/elenchuslaw02.RoomDoes", spec := "roomDoes", unfollowed := true, recurses := true, apart := false, narrowed := true }
def RoomDoesUptoSaid : Prop := roomDoesUptoRow.holds Try.pinned (OpenSpec.upto roomDoesSpec)

/-- 'elenchuslaw02.RoomNobody', WHERE WHAT IT READS IS OF BULK AT MOST 1048576: true; the input reads as it did. -/
def roomNobodyUptoRow : OpenClaim := { program := "ytdkkkomcolklbaa", sum := "82fcc452b2f260863b531b050f33cf1c2a8d5ce2d1f1929a2e22e99afbc2880d", func := "elenchus/elenchuslaw02.RoomNobody", spec := "roomNobody", unfollowed := true, recurses := true, apart := false, narrowed := true }
def RoomNobodyUptoSaid : Prop := roomNobodyUptoRow.holds Try.pinned (OpenSpec.upto roomNobodySpec)

/-- 'elenchuslaw02.RoomKeeps', WHERE WHAT IT READS IS OF BULK AT MOST 1048576: true; the input reads as it did. -/
def roomKeepsUptoRow : OpenClaim := { program := "ytdkkkomcolklbaa", sum := "82fcc452b2f260863b531b050f33cf1c2a8d5ce2d1f1929a2e22e99afbc2880d", func := "elenchus/elenchuslaw02.RoomKeeps", spec := "roomKeeps", unfollowed := true, recurses := true, apart := false, narrowed := true }
def RoomKeepsUptoSaid : Prop := roomKeepsUptoRow.holds Try.pinned (OpenSpec.upto roomKeepsSpec)

end Rows
end Go.Proofs.Ytdkkkomcolklbaa
