/-
  DERIVED. GIVEN WITH THE SEED: THE CARDS: each row of YtijaopmlldhbbaaDoorRows.lean that lists a variable, with what it lists TIED to the program's text (the seventh form; the later family's looks); each row that meets fmt, with fmt's text TOLD by the authors' own Lean function (tested against real Go, not proved from fmt's source: count such statements apart). THE CARD IS WHAT COUNTS. Prove the row's statement (the work); the ties are given (YtijaopmlldhbbaaDoorTie.lean); close each card by the builder's one call (the guide's Derived/Test/ToyasCard.lean, 'card_holds'). Laid BY PROGRAM, IN A SANDBOX (cutbox-door.mjs). By AI agents, Wed Nov 11 2026. No macro, syntax, notation, axiom, sorry.
-/
import Derived.Test.YtijaopmlldhbbaaDoorRows
import GoSem.ClaimSeven
namespace Go.Proofs.YtijaopmlldhbbaaDoor
namespace Rows

/-- THE TIED CARD OF 'boathouselaw23.ConflictMore'. -/
def conflictMoreCard : Claim7 := { stood := { row := conflictMoreRow, standIns := [], harness := (true, "e9434e47aa4a33de722a910df5af0964b2e379e3c350d3c4edbf3bf7ce0ff90b"), looks := false }, kinds := [], alts := [], laidByText := true, laidKinds := [.data, .pinned], laidTests := true, laidLooks := .later }
def ConflictMoreCardSaid : Prop := Claim7.holds Tryd.pinned (.plain (OpenSpec.ofChange conflictMoreSpec)) conflictMoreCard

/-- THE TIED CARD OF 'boathouselaw23.ConflictFiles'. -/
def conflictFilesCard : Claim7 := { stood := { row := conflictFilesRow, standIns := [], harness := (true, "e9434e47aa4a33de722a910df5af0964b2e379e3c350d3c4edbf3bf7ce0ff90b"), looks := false }, kinds := [], alts := [], laidByText := true, laidKinds := [.data, .pinned], laidTests := true, laidLooks := .later }
def ConflictFilesCardSaid : Prop := Claim7.holds Tryd.pinned (.plain (OpenSpec.ofChange conflictFilesSpec)) conflictFilesCard

/-- THE TIED CARD OF 'boathouselaw23.ConflictAdds'. -/
def conflictAddsCard : Claim7 := { stood := { row := conflictAddsRow, standIns := [], harness := (true, "e9434e47aa4a33de722a910df5af0964b2e379e3c350d3c4edbf3bf7ce0ff90b"), looks := false }, kinds := [], alts := [], laidByText := true, laidKinds := [.data, .pinned], laidTests := true, laidLooks := .later }
def ConflictAddsCardSaid : Prop := Claim7.holds Tryd.pinned (.plain (OpenSpec.ofChange conflictAddsSpec)) conflictAddsCard

/-- THE TIED CARD OF 'boathouselaw23.ConflictSchemas'. -/
def conflictSchemasCard : Claim7 := { stood := { row := conflictSchemasRow, standIns := [], harness := (true, "e9434e47aa4a33de722a910df5af0964b2e379e3c350d3c4edbf3bf7ce0ff90b"), looks := false }, kinds := [], alts := [], laidByText := true, laidKinds := [.data, .pinned], laidTests := true, laidLooks := .later }
def ConflictSchemasCardSaid : Prop := Claim7.holds Tryd.pinned (.plain (OpenSpec.ofChange conflictSchemasSpec)) conflictSchemasCard

/-- THE SECOND FORM's CARD OF 'boathouselaw23.ConflictMore'. -/
def conflictMoreUptoCard : Claim7 := { stood := { row := conflictMoreUptoRow, standIns := [], harness := (true, "e9434e47aa4a33de722a910df5af0964b2e379e3c350d3c4edbf3bf7ce0ff90b"), looks := false }, kinds := [], alts := [], laidByText := true, laidKinds := [.data, .pinned], laidTests := true, laidLooks := .later }
def ConflictMoreUptoCardSaid : Prop := Claim7.holds Tryd.pinned (.plain (OpenSpec.upto conflictMoreSpec)) conflictMoreUptoCard

/-- THE SECOND FORM's CARD OF 'boathouselaw23.ConflictFiles'. -/
def conflictFilesUptoCard : Claim7 := { stood := { row := conflictFilesUptoRow, standIns := [], harness := (true, "e9434e47aa4a33de722a910df5af0964b2e379e3c350d3c4edbf3bf7ce0ff90b"), looks := false }, kinds := [], alts := [], laidByText := true, laidKinds := [.data, .pinned], laidTests := true, laidLooks := .later }
def ConflictFilesUptoCardSaid : Prop := Claim7.holds Tryd.pinned (.plain (OpenSpec.upto conflictFilesSpec)) conflictFilesUptoCard

/-- THE SECOND FORM's CARD OF 'boathouselaw23.ConflictAdds'. -/
def conflictAddsUptoCard : Claim7 := { stood := { row := conflictAddsUptoRow, standIns := [], harness := (true, "e9434e47aa4a33de722a910df5af0964b2e379e3c350d3c4edbf3bf7ce0ff90b"), looks := false }, kinds := [], alts := [], laidByText := true, laidKinds := [.data, .pinned], laidTests := true, laidLooks := .later }
def ConflictAddsUptoCardSaid : Prop := Claim7.holds Tryd.pinned (.plain (OpenSpec.upto conflictAddsSpec)) conflictAddsUptoCard

/-- THE SECOND FORM's CARD OF 'boathouselaw23.ConflictSchemas'. -/
def conflictSchemasUptoCard : Claim7 := { stood := { row := conflictSchemasUptoRow, standIns := [], harness := (true, "e9434e47aa4a33de722a910df5af0964b2e379e3c350d3c4edbf3bf7ce0ff90b"), looks := false }, kinds := [], alts := [], laidByText := true, laidKinds := [.data, .pinned], laidTests := true, laidLooks := .later }
def ConflictSchemasUptoCardSaid : Prop := Claim7.holds Tryd.pinned (.plain (OpenSpec.upto conflictSchemasSpec)) conflictSchemasUptoCard
end Rows
end Go.Proofs.YtijaopmlldhbbaaDoor
