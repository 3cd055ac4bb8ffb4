/-
  DERIVED. GIVEN WITH THE SEED: THE CARDS: each row of YtggbmakfifllnaaDoorRows.lean that lists a variable, with what it lists TIED to the program's text (the seventh form; the later family's looks); each row that meets fmt, with fmt's text TOLD by the authors' own Lean function (tested against real Go, not proved from fmt's source: count such statements apart). THE CARD IS WHAT COUNTS. Prove the row's statement (the work); the ties are given (YtggbmakfifllnaaDoorTie.lean); close each card by the builder's one call (the guide's Derived/Test/ToyasCard.lean, 'card_holds'). Laid BY PROGRAM, IN A SANDBOX (cutbox-door.mjs). By AI agents, Wed Nov 11 2026. No macro, syntax, notation, axiom, sorry.
-/
import Derived.Test.YtggbmakfifllnaaDoorRows
import GoSem.ClaimSeven
namespace Go.Proofs.YtggbmakfifllnaaDoor
namespace Rows

/-- THE TIED CARD OF 'elenchuslaw27.ScriptCodes'. -/
def scriptCodesCard : Claim7 := { stood := { row := scriptCodesRow, standIns := [], harness := (true, "60262b2c0e7486eef49b424a69857611b3f02be0d0e0f4a73be89b7c7b6c668e"), looks := false }, kinds := [], alts := [], laidByText := true, laidKinds := [.data, .data, .data], laidTests := true, laidLooks := .later }
def ScriptCodesCardSaid : Prop := Claim7.holds Tryd.pinned (.plain (OpenSpec.ofChange scriptCodesSpec)) scriptCodesCard

/-- THE TIED CARD OF 'elenchuslaw27.ScriptDecodes'. -/
def scriptDecodesCard : Claim7 := { stood := { row := scriptDecodesRow, standIns := [], harness := (true, "60262b2c0e7486eef49b424a69857611b3f02be0d0e0f4a73be89b7c7b6c668e"), looks := false }, kinds := [], alts := [], laidByText := true, laidKinds := [.data, .data, .data], laidTests := true, laidLooks := .later }
def ScriptDecodesCardSaid : Prop := Claim7.holds Tryd.pinned (.plain (OpenSpec.ofChange scriptDecodesSpec)) scriptDecodesCard

/-- THE TIED CARD OF 'elenchuslaw27.ScriptRuns'. -/
def scriptRunsCard : Claim7 := { stood := { row := scriptRunsRow, standIns := [], harness := (true, "60262b2c0e7486eef49b424a69857611b3f02be0d0e0f4a73be89b7c7b6c668e"), looks := false }, kinds := [], alts := [], laidByText := true, laidKinds := [.data, .data, .data], laidTests := true, laidLooks := .later }
def ScriptRunsCardSaid : Prop := Claim7.holds Tryd.pinned (.plain (OpenSpec.ofChange scriptRunsSpec)) scriptRunsCard

/-- THE TIED CARD OF 'elenchuslaw27.ScriptReruns'. -/
def scriptRerunsCard : Claim7 := { stood := { row := scriptRerunsRow, standIns := [], harness := (true, "60262b2c0e7486eef49b424a69857611b3f02be0d0e0f4a73be89b7c7b6c668e"), looks := false }, kinds := [], alts := [], laidByText := true, laidKinds := [.data, .data, .data], laidTests := true, laidLooks := .later }
def ScriptRerunsCardSaid : Prop := Claim7.holds Tryd.pinned (.plain (OpenSpec.ofChange scriptRerunsSpec)) scriptRerunsCard

/-- THE TIED CARD OF 'elenchuslaw27.ScriptApart'. -/
def scriptApartCard : Claim7 := { stood := { row := scriptApartRow, standIns := [], harness := (true, "60262b2c0e7486eef49b424a69857611b3f02be0d0e0f4a73be89b7c7b6c668e"), looks := false }, kinds := [], alts := [], laidByText := true, laidKinds := [.data, .data, .data], laidTests := true, laidLooks := .later }
def ScriptApartCardSaid : Prop := Claim7.holds Tryd.pinned (.plain (OpenSpec.ofChange scriptApartSpec)) scriptApartCard

/-- THE SECOND FORM's CARD OF 'elenchuslaw27.ScriptCodes'. -/
def scriptCodesUptoCard : Claim7 := { stood := { row := scriptCodesUptoRow, standIns := [], harness := (true, "60262b2c0e7486eef49b424a69857611b3f02be0d0e0f4a73be89b7c7b6c668e"), looks := false }, kinds := [], alts := [], laidByText := true, laidKinds := [.data, .data, .data], laidTests := true, laidLooks := .later }
def ScriptCodesUptoCardSaid : Prop := Claim7.holds Tryd.pinned (.plain (OpenSpec.upto scriptCodesSpec)) scriptCodesUptoCard

/-- THE SECOND FORM's CARD OF 'elenchuslaw27.ScriptDecodes'. -/
def scriptDecodesUptoCard : Claim7 := { stood := { row := scriptDecodesUptoRow, standIns := [], harness := (true, "60262b2c0e7486eef49b424a69857611b3f02be0d0e0f4a73be89b7c7b6c668e"), looks := false }, kinds := [], alts := [], laidByText := true, laidKinds := [.data, .data, .data], laidTests := true, laidLooks := .later }
def ScriptDecodesUptoCardSaid : Prop := Claim7.holds Tryd.pinned (.plain (OpenSpec.upto scriptDecodesSpec)) scriptDecodesUptoCard

/-- THE SECOND FORM's CARD OF 'elenchuslaw27.ScriptRuns'. -/
def scriptRunsUptoCard : Claim7 := { stood := { row := scriptRunsUptoRow, standIns := [], harness := (true, "60262b2c0e7486eef49b424a69857611b3f02be0d0e0f4a73be89b7c7b6c668e"), looks := false }, kinds := [], alts := [], laidByText := true, laidKinds := [.data, .data, .data], laidTests := true, laidLooks := .later }
def ScriptRunsUptoCardSaid : Prop := Claim7.holds Tryd.pinned (.plain (OpenSpec.upto scriptRunsSpec)) scriptRunsUptoCard

/-- THE SECOND FORM's CARD OF 'elenchuslaw27.ScriptReruns'. -/
def scriptRerunsUptoCard : Claim7 := { stood := { row := scriptRerunsUptoRow, standIns := [], harness := (true, "60262b2c0e7486eef49b424a69857611b3f02be0d0e0f4a73be89b7c7b6c668e"), looks := false }, kinds := [], alts := [], laidByText := true, laidKinds := [.data, .data, .data], laidTests := true, laidLooks := .later }
def ScriptRerunsUptoCardSaid : Prop := Claim7.holds Tryd.pinned (.plain (OpenSpec.upto scriptRerunsSpec)) scriptRerunsUptoCard

/-- THE SECOND FORM's CARD OF 'elenchuslaw27.ScriptApart'. -/
def scriptApartUptoCard : Claim7 := { stood := { row := scriptApartUptoRow, standIns := [], harness := (true, "60262b2c0e7486eef49b424a69857611b3f02be0d0e0f4a73be89b7c7b6c668e"), looks := false }, kinds := [], alts := [], laidByText := true, laidKinds := [.data, .data, .data], laidTests := true, laidLooks := .later }
def ScriptApartUptoCardSaid : Prop := Claim7.holds Tryd.pinned (.plain (OpenSpec.upto scriptApartSpec)) scriptApartUptoCard
end Rows
end Go.Proofs.YtggbmakfifllnaaDoor
