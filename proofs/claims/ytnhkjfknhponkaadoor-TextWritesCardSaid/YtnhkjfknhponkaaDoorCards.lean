/-
  DERIVED. GIVEN WITH THE SEED: THE CARDS: each row of YtnhkjfknhponkaaDoorRows.lean that lists a variable, with what it lists TIED to the program's text (the seventh form; the later family's looks); each row that meets fmt, with fmt's text TOLD by the authors' own Lean function (tested against real Go, not proved from fmt's source: count such statements apart). THE CARD IS WHAT COUNTS. Prove the row's statement (the work); the ties are given (YtnhkjfknhponkaaDoorTie.lean); close each card by the builder's one call (the guide's Derived/Test/ToyasCard.lean, 'card_holds'). Laid BY PROGRAM, IN A SANDBOX (cutbox-door.mjs). By AI agents, Wed Nov 11 2026. No macro, syntax, notation, axiom, sorry.
-/
import Derived.Test.YtnhkjfknhponkaaDoorRows
import GoSem.ClaimSeven
namespace Go.Proofs.YtnhkjfknhponkaaDoor
namespace Rows

/-- THE TIED CARD OF 'deadwoodlaw40.TraceReplays'. -/
def traceReplaysCard : Claim7 := { stood := { row := traceReplaysRow, standIns := [], harness := (true, "cc42d10eb0a30a48abc42e6c7d20d01560fa0cc59834da7e2b81c537fd2c1ba0"), looks := false }, kinds := [], alts := [], laidByText := true, laidKinds := [.data, .data, .data], laidTests := true, laidLooks := .later }
def TraceReplaysCardSaid : Prop := Claim7.holds Tryd.pinned (.plain (OpenSpec.ofChange traceReplaysSpec)) traceReplaysCard

/-- THE TIED CARD OF 'deadwoodlaw40.TraceNames'. -/
def traceNamesCard : Claim7 := { stood := { row := traceNamesRow, standIns := [], harness := (true, "cc42d10eb0a30a48abc42e6c7d20d01560fa0cc59834da7e2b81c537fd2c1ba0"), looks := false }, kinds := [], alts := [], laidByText := true, laidKinds := [.data, .data, .data], laidTests := true, laidLooks := .later }
def TraceNamesCardSaid : Prop := Claim7.holds Tryd.pinned (.plain (OpenSpec.ofChange traceNamesSpec)) traceNamesCard

/-- THE TIED CARD OF 'deadwoodlaw35.TextWrites'. -/
def textWritesCard : Claim7 := { stood := { row := textWritesRow, standIns := [], harness := (true, "cc42d10eb0a30a48abc42e6c7d20d01560fa0cc59834da7e2b81c537fd2c1ba0"), looks := false }, kinds := [], alts := [], laidByText := true, laidKinds := [.data, .data, .data], laidTests := true, laidLooks := .later }
def TextWritesCardSaid : Prop := Claim7.holds Tryd.pinned (.plain (OpenSpec.ofChange textWritesSpec)) textWritesCard

/-- THE SECOND FORM's CARD OF 'deadwoodlaw40.TraceReplays'. -/
def traceReplaysUptoCard : Claim7 := { stood := { row := traceReplaysUptoRow, standIns := [], harness := (true, "cc42d10eb0a30a48abc42e6c7d20d01560fa0cc59834da7e2b81c537fd2c1ba0"), looks := false }, kinds := [], alts := [], laidByText := true, laidKinds := [.data, .data, .data], laidTests := true, laidLooks := .later }
def TraceReplaysUptoCardSaid : Prop := Claim7.holds Tryd.pinned (.plain (OpenSpec.upto traceReplaysSpec)) traceReplaysUptoCard

/-- THE SECOND FORM's CARD OF 'deadwoodlaw40.TraceNames'. -/
def traceNamesUptoCard : Claim7 := { stood := { row := traceNamesUptoRow, standIns := [], harness := (true, "cc42d10eb0a30a48abc42e6c7d20d01560fa0cc59834da7e2b81c537fd2c1ba0"), looks := false }, kinds := [], alts := [], laidByText := true, laidKinds := [.data, .data, .data], laidTests := true, laidLooks := .later }
def TraceNamesUptoCardSaid : Prop := Claim7.holds Tryd.pinned (.plain (OpenSpec.upto traceNamesSpec)) traceNamesUptoCard

/-- THE SECOND FORM's CARD OF 'deadwoodlaw35.TextWrites'. -/
def textWritesUptoCard : Claim7 := { stood := { row := textWritesUptoRow, standIns := [], harness := (true, "cc42d10eb0a30a48abc42e6c7d20d01560fa0cc59834da7e2b81c537fd2c1ba0"), looks := false }, kinds := [], alts := [], laidByText := true, laidKinds := [.data, .data, .data], laidTests := true, laidLooks := .later }
def TextWritesUptoCardSaid : Prop := Claim7.holds Tryd.pinned (.plain (OpenSpec.upto textWritesSpec)) textWritesUptoCard
end Rows
end Go.Proofs.YtnhkjfknhponkaaDoor
