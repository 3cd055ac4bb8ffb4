/-
  DERIVED. GIVEN WITH THE SEED: THE CARDS: each row of YtchbhocpmhlhjaaDoorRows.lean that lists a variable, with what it lists TIED to the program's text (the seventh form; the later family's looks); each row that meets fmt, with fmt's text TOLD by the authors' own Lean function (tested against real Go, not proved from fmt's source: count such statements apart). THE CARD IS WHAT COUNTS. Prove the row's statement (the work); the ties are given (YtchbhocpmhlhjaaDoorTie.lean); close each card by the builder's one call (the guide's Derived/Test/ToyasCard.lean, 'card_holds'). Laid BY PROGRAM, IN A SANDBOX (cutbox-door.mjs). By AI agents, Wed Nov 11 2026. No macro, syntax, notation, axiom, sorry.
-/
import Derived.Test.YtchbhocpmhlhjaaDoorRows
import GoSem.ClaimSeven
namespace Go.Proofs.YtchbhocpmhlhjaaDoor
namespace Rows

/-- THE TIED CARD OF 'elenchuslaw01.CellMakes'. -/
def cellMakesCard : Claim7 := { stood := { row := cellMakesRow, standIns := [], harness := (true, "105a010c23c0e1714157e879ddaf77eb960d48a2a1bdf8ea47a60a04ede1eb35"), looks := true }, kinds := [], alts := [], laidByText := true, laidKinds := [.data, .data, .data, .sentinel, .sentinel, .data], laidTests := true, laidLooks := .later }
def CellMakesCardSaid : Prop := Claim7.holds Tryd.pinned (.plain (OpenSpec.ofChange cellMakesSpec)) cellMakesCard

/-- THE TIED CARD OF 'elenchuslaw01.CellReads'. -/
def cellReadsCard : Claim7 := { stood := { row := cellReadsRow, standIns := [], harness := (true, "105a010c23c0e1714157e879ddaf77eb960d48a2a1bdf8ea47a60a04ede1eb35"), looks := true }, kinds := [], alts := [], laidByText := true, laidKinds := [.data, .data, .data, .sentinel, .sentinel, .data], laidTests := true, laidLooks := .later }
def CellReadsCardSaid : Prop := Claim7.holds Tryd.pinned (.plain (OpenSpec.ofChange cellReadsSpec)) cellReadsCard

/-- THE TIED CARD OF 'elenchuslaw01.CellTexts'. -/
def cellTextsCard : Claim7 := { stood := { row := cellTextsRow, standIns := [], harness := (true, "105a010c23c0e1714157e879ddaf77eb960d48a2a1bdf8ea47a60a04ede1eb35"), looks := true }, kinds := [], alts := [], laidByText := true, laidKinds := [.data, .data, .data, .sentinel, .sentinel, .data], laidTests := true, laidLooks := .later }
def CellTextsCardSaid : Prop := Claim7.holds Tryd.pinned (.plain (OpenSpec.ofChange cellTextsSpec)) cellTextsCard

/-- THE TIED CARD OF 'elenchuslaw01.CellApart'. -/
def cellApartCard : Claim7 := { stood := { row := cellApartRow, standIns := [], harness := (true, "105a010c23c0e1714157e879ddaf77eb960d48a2a1bdf8ea47a60a04ede1eb35"), looks := true }, kinds := [], alts := [], laidByText := true, laidKinds := [.data, .data, .data, .sentinel, .sentinel, .data], laidTests := true, laidLooks := .later }
def CellApartCardSaid : Prop := Claim7.holds Tryd.pinned (.plain (OpenSpec.ofChange cellApartSpec)) cellApartCard

/-- THE TIED CARD OF 'elenchuslaw01.CellRises'. -/
def cellRisesCard : Claim7 := { stood := { row := cellRisesRow, standIns := [], harness := (true, "105a010c23c0e1714157e879ddaf77eb960d48a2a1bdf8ea47a60a04ede1eb35"), looks := true }, kinds := [], alts := [], laidByText := true, laidKinds := [.data, .data, .data, .sentinel, .sentinel, .data], laidTests := true, laidLooks := .later }
def CellRisesCardSaid : Prop := Claim7.holds Tryd.pinned (.plain (OpenSpec.ofChange cellRisesSpec)) cellRisesCard

/-- THE SECOND FORM's CARD OF 'elenchuslaw01.CellMakes'. -/
def cellMakesUptoCard : Claim7 := { stood := { row := cellMakesUptoRow, standIns := [], harness := (true, "105a010c23c0e1714157e879ddaf77eb960d48a2a1bdf8ea47a60a04ede1eb35"), looks := true }, kinds := [], alts := [], laidByText := true, laidKinds := [.data, .data, .data, .sentinel, .sentinel, .data], laidTests := true, laidLooks := .later }
def CellMakesUptoCardSaid : Prop := Claim7.holds Tryd.pinned (.plain (OpenSpec.upto cellMakesSpec)) cellMakesUptoCard

/-- THE SECOND FORM's CARD OF 'elenchuslaw01.CellReads'. -/
def cellReadsUptoCard : Claim7 := { stood := { row := cellReadsUptoRow, standIns := [], harness := (true, "105a010c23c0e1714157e879ddaf77eb960d48a2a1bdf8ea47a60a04ede1eb35"), looks := true }, kinds := [], alts := [], laidByText := true, laidKinds := [.data, .data, .data, .sentinel, .sentinel, .data], laidTests := true, laidLooks := .later }
def CellReadsUptoCardSaid : Prop := Claim7.holds Tryd.pinned (.plain (OpenSpec.upto cellReadsSpec)) cellReadsUptoCard

/-- THE SECOND FORM's CARD OF 'elenchuslaw01.CellTexts'. -/
def cellTextsUptoCard : Claim7 := { stood := { row := cellTextsUptoRow, standIns := [], harness := (true, "105a010c23c0e1714157e879ddaf77eb960d48a2a1bdf8ea47a60a04ede1eb35"), looks := true }, kinds := [], alts := [], laidByText := true, laidKinds := [.data, .data, .data, .sentinel, .sentinel, .data], laidTests := true, laidLooks := .later }
def CellTextsUptoCardSaid : Prop := Claim7.holds Tryd.pinned (.plain (OpenSpec.upto cellTextsSpec)) cellTextsUptoCard

/-- THE SECOND FORM's CARD OF 'elenchuslaw01.CellApart'. -/
def cellApartUptoCard : Claim7 := { stood := { row := cellApartUptoRow, standIns := [], harness := (true, "105a010c23c0e1714157e879ddaf77eb960d48a2a1bdf8ea47a60a04ede1eb35"), looks := true }, kinds := [], alts := [], laidByText := true, laidKinds := [.data, .data, .data, .sentinel, .sentinel, .data], laidTests := true, laidLooks := .later }
def CellApartUptoCardSaid : Prop := Claim7.holds Tryd.pinned (.plain (OpenSpec.upto cellApartSpec)) cellApartUptoCard

/-- THE SECOND FORM's CARD OF 'elenchuslaw01.CellRises'. -/
def cellRisesUptoCard : Claim7 := { stood := { row := cellRisesUptoRow, standIns := [], harness := (true, "105a010c23c0e1714157e879ddaf77eb960d48a2a1bdf8ea47a60a04ede1eb35"), looks := true }, kinds := [], alts := [], laidByText := true, laidKinds := [.data, .data, .data, .sentinel, .sentinel, .data], laidTests := true, laidLooks := .later }
def CellRisesUptoCardSaid : Prop := Claim7.holds Tryd.pinned (.plain (OpenSpec.upto cellRisesSpec)) cellRisesUptoCard
end Rows
end Go.Proofs.YtchbhocpmhlhjaaDoor
