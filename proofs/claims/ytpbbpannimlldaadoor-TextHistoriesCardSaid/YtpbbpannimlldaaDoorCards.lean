/-
  DERIVED. GIVEN WITH THE SEED: THE CARDS: each row of YtpbbpannimlldaaDoorRows.lean that lists a variable, with what it lists TIED to the program's text (the seventh form; the later family's looks); each row that meets fmt, with fmt's text TOLD by the authors' own Lean function (tested against real Go, not proved from fmt's source: count such statements apart). THE CARD IS WHAT COUNTS. Prove the row's statement (the work); the ties are given (YtpbbpannimlldaaDoorTie.lean); close each card by the builder's one call (the guide's Derived/Test/ToyasCard.lean, 'card_holds'). Laid BY PROGRAM, IN A SANDBOX (cutbox-door.mjs). By AI agents, Wed Nov 11 2026. No macro, syntax, notation, axiom, sorry.
-/
import Derived.Test.YtpbbpannimlldaaDoorRows
import GoSem.ClaimSeven
namespace Go.Proofs.YtpbbpannimlldaaDoor
namespace Rows

/-- THE TIED CARD OF 'deadwoodlaw35.TextReads'. -/
def textReadsCard : Claim7 := { stood := { row := textReadsRow, standIns := [], harness := (true, "72afd5f4dc2c5d3346dc38774f5c1559b75f5345b26f6ff1b929855fff577600"), looks := true }, kinds := [], alts := [], laidByText := true, laidKinds := [.data, .data, .data, .data, .sentinel, .sentinel, .pinned], laidTests := true, laidLooks := .later }
def TextReadsCardSaid : Prop := Claim7.holds Tryd.pinned (.plain (OpenSpec.ofChange textReadsSpec)) textReadsCard

/-- THE TIED CARD OF 'deadwoodlaw35.TextHistories'. -/
def textHistoriesCard : Claim7 := { stood := { row := textHistoriesRow, standIns := [], harness := (true, "72afd5f4dc2c5d3346dc38774f5c1559b75f5345b26f6ff1b929855fff577600"), looks := true }, kinds := [], alts := [], laidByText := true, laidKinds := [.data, .data, .data, .data, .sentinel, .sentinel, .pinned], laidTests := true, laidLooks := .later }
def TextHistoriesCardSaid : Prop := Claim7.holds Tryd.pinned (.plain (OpenSpec.ofChange textHistoriesSpec)) textHistoriesCard

/-- THE TIED CARD OF 'deadwoodlaw35.TextBack'. -/
def textBackCard : Claim7 := { stood := { row := textBackRow, standIns := [], harness := (true, "72afd5f4dc2c5d3346dc38774f5c1559b75f5345b26f6ff1b929855fff577600"), looks := true }, kinds := [], alts := [], laidByText := true, laidKinds := [.data, .data, .data, .data, .sentinel, .sentinel, .pinned], laidTests := true, laidLooks := .later }
def TextBackCardSaid : Prop := Claim7.holds Tryd.pinned (.plain (OpenSpec.ofChange textBackSpec)) textBackCard

/-- THE SECOND FORM's CARD OF 'deadwoodlaw35.TextReads'. -/
def textReadsUptoCard : Claim7 := { stood := { row := textReadsUptoRow, standIns := [], harness := (true, "72afd5f4dc2c5d3346dc38774f5c1559b75f5345b26f6ff1b929855fff577600"), looks := true }, kinds := [], alts := [], laidByText := true, laidKinds := [.data, .data, .data, .data, .sentinel, .sentinel, .pinned], laidTests := true, laidLooks := .later }
def TextReadsUptoCardSaid : Prop := Claim7.holds Tryd.pinned (.plain (OpenSpec.upto textReadsSpec)) textReadsUptoCard

/-- THE SECOND FORM's CARD OF 'deadwoodlaw35.TextHistories'. -/
def textHistoriesUptoCard : Claim7 := { stood := { row := textHistoriesUptoRow, standIns := [], harness := (true, "72afd5f4dc2c5d3346dc38774f5c1559b75f5345b26f6ff1b929855fff577600"), looks := true }, kinds := [], alts := [], laidByText := true, laidKinds := [.data, .data, .data, .data, .sentinel, .sentinel, .pinned], laidTests := true, laidLooks := .later }
def TextHistoriesUptoCardSaid : Prop := Claim7.holds Tryd.pinned (.plain (OpenSpec.upto textHistoriesSpec)) textHistoriesUptoCard

/-- THE SECOND FORM's CARD OF 'deadwoodlaw35.TextBack'. -/
def textBackUptoCard : Claim7 := { stood := { row := textBackUptoRow, standIns := [], harness := (true, "72afd5f4dc2c5d3346dc38774f5c1559b75f5345b26f6ff1b929855fff577600"), looks := true }, kinds := [], alts := [], laidByText := true, laidKinds := [.data, .data, .data, .data, .sentinel, .sentinel, .pinned], laidTests := true, laidLooks := .later }
def TextBackUptoCardSaid : Prop := Claim7.holds Tryd.pinned (.plain (OpenSpec.upto textBackSpec)) textBackUptoCard
end Rows
end Go.Proofs.YtpbbpannimlldaaDoor
