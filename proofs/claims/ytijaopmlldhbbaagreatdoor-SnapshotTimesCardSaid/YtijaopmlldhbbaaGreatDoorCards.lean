/-
  DERIVED. GIVEN WITH THE SEED: THE CARDS: each row of YtijaopmlldhbbaaGreatDoorRows.lean that lists a variable, with what it lists TIED to the program's text (the seventh form; the later family's looks); each row that meets fmt, with fmt's text TOLD by the authors' own Lean function (tested against real Go, not proved from fmt's source: count such statements apart). THE CARD IS WHAT COUNTS. Prove the row's statement (the work); the ties are given (YtijaopmlldhbbaaGreatDoorTie.lean); close each card by the builder's one call (the guide's Derived/Test/ToyasCard.lean, 'card_holds'). Laid BY PROGRAM, IN A SANDBOX (cutbox-door.mjs). By AI agents, Wed Nov 11 2026. No macro, syntax, notation, axiom, sorry.
-/
import Derived.Test.YtijaopmlldhbbaaGreatDoorRows
import GoSem.ClaimSeven
namespace Go.Proofs.YtijaopmlldhbbaaGreatDoor
namespace Rows

/-- THE TIED CARD OF 'boathouselaw23.Conflicts'. -/
def conflictsCard : Claim7 := { stood := { row := conflictsRow, standIns := [], harness := (true, "b3be0761df7d7888d43f0037b400ccc67ddf1d85e4c671468c9bada728a4266c"), looks := false }, kinds := [], alts := [], laidByText := true, laidKinds := [.data, .pinned], laidTests := true, laidLooks := .later }
def ConflictsCardSaid : Prop := Claim7.holds Tryz.pinned (.plain (OpenSpec.ofChange conflictsSpec)) conflictsCard

/-- THE TIED CARD OF 'boathouselaw23.ConflictNone'. -/
def conflictNoneCard : Claim7 := { stood := { row := conflictNoneRow, standIns := [], harness := (true, "b3be0761df7d7888d43f0037b400ccc67ddf1d85e4c671468c9bada728a4266c"), looks := false }, kinds := [], alts := [], laidByText := true, laidKinds := [.data, .pinned], laidTests := true, laidLooks := .later }
def ConflictNoneCardSaid : Prop := Claim7.holds Tryz.pinned (.plain (OpenSpec.ofChange conflictNoneSpec)) conflictNoneCard

/-- THE TIED CARD OF 'boathouselaw20.Snapshots'. -/
def snapshotsCard : Claim7 := { stood := { row := snapshotsRow, standIns := [], harness := (true, "b3be0761df7d7888d43f0037b400ccc67ddf1d85e4c671468c9bada728a4266c"), looks := false }, kinds := [], alts := [], laidByText := true, laidKinds := [.data, .pinned], laidTests := true, laidLooks := .later }
def SnapshotsCardSaid : Prop := Claim7.holds Tryz.pinned (.plain (OpenSpec.ofChange snapshotsSpec)) snapshotsCard

/-- THE TIED CARD OF 'boathouselaw20.SnapshotRuns'. -/
def snapshotRunsCard : Claim7 := { stood := { row := snapshotRunsRow, standIns := [], harness := (true, "b3be0761df7d7888d43f0037b400ccc67ddf1d85e4c671468c9bada728a4266c"), looks := false }, kinds := [], alts := [], laidByText := true, laidKinds := [.data, .pinned], laidTests := true, laidLooks := .later }
def SnapshotRunsCardSaid : Prop := Claim7.holds Tryz.pinned (.plain (OpenSpec.ofChange snapshotRunsSpec)) snapshotRunsCard

/-- THE TIED CARD OF 'boathouselaw20.SnapshotAnew'. -/
def snapshotAnewCard : Claim7 := { stood := { row := snapshotAnewRow, standIns := [], harness := (true, "b3be0761df7d7888d43f0037b400ccc67ddf1d85e4c671468c9bada728a4266c"), looks := false }, kinds := [], alts := [], laidByText := true, laidKinds := [.data, .pinned], laidTests := true, laidLooks := .later }
def SnapshotAnewCardSaid : Prop := Claim7.holds Tryz.pinned (.plain (OpenSpec.ofChange snapshotAnewSpec)) snapshotAnewCard

/-- THE TIED CARD OF 'boathouselaw20.SnapshotMarks'. -/
def snapshotMarksCard : Claim7 := { stood := { row := snapshotMarksRow, standIns := [], harness := (true, "b3be0761df7d7888d43f0037b400ccc67ddf1d85e4c671468c9bada728a4266c"), looks := false }, kinds := [], alts := [], laidByText := true, laidKinds := [.data, .pinned], laidTests := true, laidLooks := .later }
def SnapshotMarksCardSaid : Prop := Claim7.holds Tryz.pinned (.plain (OpenSpec.ofChange snapshotMarksSpec)) snapshotMarksCard

/-- THE TIED CARD OF 'boathouselaw20.SnapshotTimes'. -/
def snapshotTimesCard : Claim7 := { stood := { row := snapshotTimesRow, standIns := [], harness := (true, "b3be0761df7d7888d43f0037b400ccc67ddf1d85e4c671468c9bada728a4266c"), looks := false }, kinds := [], alts := [], laidByText := true, laidKinds := [.data, .pinned], laidTests := true, laidLooks := .later }
def SnapshotTimesCardSaid : Prop := Claim7.holds Tryz.pinned (.plain (OpenSpec.ofChange snapshotTimesSpec)) snapshotTimesCard

/-- THE TIED CARD OF 'boathouselaw20.SnapshotTxns'. -/
def snapshotTxnsCard : Claim7 := { stood := { row := snapshotTxnsRow, standIns := [], harness := (true, "b3be0761df7d7888d43f0037b400ccc67ddf1d85e4c671468c9bada728a4266c"), looks := false }, kinds := [], alts := [], laidByText := true, laidKinds := [.data, .pinned], laidTests := true, laidLooks := .later }
def SnapshotTxnsCardSaid : Prop := Claim7.holds Tryz.pinned (.plain (OpenSpec.ofChange snapshotTxnsSpec)) snapshotTxnsCard

/-- THE TIED CARD OF 'boathouselaw20.SnapshotFiles'. -/
def snapshotFilesCard : Claim7 := { stood := { row := snapshotFilesRow, standIns := [], harness := (true, "b3be0761df7d7888d43f0037b400ccc67ddf1d85e4c671468c9bada728a4266c"), looks := false }, kinds := [], alts := [], laidByText := true, laidKinds := [.data, .pinned], laidTests := true, laidLooks := .later }
def SnapshotFilesCardSaid : Prop := Claim7.holds Tryz.pinned (.plain (OpenSpec.ofChange snapshotFilesSpec)) snapshotFilesCard

/-- THE SECOND FORM's CARD OF 'boathouselaw23.Conflicts'. -/
def conflictsUptoCard : Claim7 := { stood := { row := conflictsUptoRow, standIns := [], harness := (true, "b3be0761df7d7888d43f0037b400ccc67ddf1d85e4c671468c9bada728a4266c"), looks := false }, kinds := [], alts := [], laidByText := true, laidKinds := [.data, .pinned], laidTests := true, laidLooks := .later }
def ConflictsUptoCardSaid : Prop := Claim7.holds Tryz.pinned (.plain (OpenSpec.upto conflictsSpec)) conflictsUptoCard

/-- THE SECOND FORM's CARD OF 'boathouselaw23.ConflictNone'. -/
def conflictNoneUptoCard : Claim7 := { stood := { row := conflictNoneUptoRow, standIns := [], harness := (true, "b3be0761df7d7888d43f0037b400ccc67ddf1d85e4c671468c9bada728a4266c"), looks := false }, kinds := [], alts := [], laidByText := true, laidKinds := [.data, .pinned], laidTests := true, laidLooks := .later }
def ConflictNoneUptoCardSaid : Prop := Claim7.holds Tryz.pinned (.plain (OpenSpec.upto conflictNoneSpec)) conflictNoneUptoCard

/-- THE SECOND FORM's CARD OF 'boathouselaw20.Snapshots'. -/
def snapshotsUptoCard : Claim7 := { stood := { row := snapshotsUptoRow, standIns := [], harness := (true, "b3be0761df7d7888d43f0037b400ccc67ddf1d85e4c671468c9bada728a4266c"), looks := false }, kinds := [], alts := [], laidByText := true, laidKinds := [.data, .pinned], laidTests := true, laidLooks := .later }
def SnapshotsUptoCardSaid : Prop := Claim7.holds Tryz.pinned (.plain (OpenSpec.upto snapshotsSpec)) snapshotsUptoCard

/-- THE SECOND FORM's CARD OF 'boathouselaw20.SnapshotRuns'. -/
def snapshotRunsUptoCard : Claim7 := { stood := { row := snapshotRunsUptoRow, standIns := [], harness := (true, "b3be0761df7d7888d43f0037b400ccc67ddf1d85e4c671468c9bada728a4266c"), looks := false }, kinds := [], alts := [], laidByText := true, laidKinds := [.data, .pinned], laidTests := true, laidLooks := .later }
def SnapshotRunsUptoCardSaid : Prop := Claim7.holds Tryz.pinned (.plain (OpenSpec.upto snapshotRunsSpec)) snapshotRunsUptoCard

/-- THE SECOND FORM's CARD OF 'boathouselaw20.SnapshotAnew'. -/
def snapshotAnewUptoCard : Claim7 := { stood := { row := snapshotAnewUptoRow, standIns := [], harness := (true, "b3be0761df7d7888d43f0037b400ccc67ddf1d85e4c671468c9bada728a4266c"), looks := false }, kinds := [], alts := [], laidByText := true, laidKinds := [.data, .pinned], laidTests := true, laidLooks := .later }
def SnapshotAnewUptoCardSaid : Prop := Claim7.holds Tryz.pinned (.plain (OpenSpec.upto snapshotAnewSpec)) snapshotAnewUptoCard

/-- THE SECOND FORM's CARD OF 'boathouselaw20.SnapshotMarks'. -/
def snapshotMarksUptoCard : Claim7 := { stood := { row := snapshotMarksUptoRow, standIns := [], harness := (true, "b3be0761df7d7888d43f0037b400ccc67ddf1d85e4c671468c9bada728a4266c"), looks := false }, kinds := [], alts := [], laidByText := true, laidKinds := [.data, .pinned], laidTests := true, laidLooks := .later }
def SnapshotMarksUptoCardSaid : Prop := Claim7.holds Tryz.pinned (.plain (OpenSpec.upto snapshotMarksSpec)) snapshotMarksUptoCard

/-- THE SECOND FORM's CARD OF 'boathouselaw20.SnapshotTimes'. -/
def snapshotTimesUptoCard : Claim7 := { stood := { row := snapshotTimesUptoRow, standIns := [], harness := (true, "b3be0761df7d7888d43f0037b400ccc67ddf1d85e4c671468c9bada728a4266c"), looks := false }, kinds := [], alts := [], laidByText := true, laidKinds := [.data, .pinned], laidTests := true, laidLooks := .later }
def SnapshotTimesUptoCardSaid : Prop := Claim7.holds Tryz.pinned (.plain (OpenSpec.upto snapshotTimesSpec)) snapshotTimesUptoCard

/-- THE SECOND FORM's CARD OF 'boathouselaw20.SnapshotTxns'. -/
def snapshotTxnsUptoCard : Claim7 := { stood := { row := snapshotTxnsUptoRow, standIns := [], harness := (true, "b3be0761df7d7888d43f0037b400ccc67ddf1d85e4c671468c9bada728a4266c"), looks := false }, kinds := [], alts := [], laidByText := true, laidKinds := [.data, .pinned], laidTests := true, laidLooks := .later }
def SnapshotTxnsUptoCardSaid : Prop := Claim7.holds Tryz.pinned (.plain (OpenSpec.upto snapshotTxnsSpec)) snapshotTxnsUptoCard

/-- THE SECOND FORM's CARD OF 'boathouselaw20.SnapshotFiles'. -/
def snapshotFilesUptoCard : Claim7 := { stood := { row := snapshotFilesUptoRow, standIns := [], harness := (true, "b3be0761df7d7888d43f0037b400ccc67ddf1d85e4c671468c9bada728a4266c"), looks := false }, kinds := [], alts := [], laidByText := true, laidKinds := [.data, .pinned], laidTests := true, laidLooks := .later }
def SnapshotFilesUptoCardSaid : Prop := Claim7.holds Tryz.pinned (.plain (OpenSpec.upto snapshotFilesSpec)) snapshotFilesUptoCard
end Rows
end Go.Proofs.YtijaopmlldhbbaaGreatDoor
