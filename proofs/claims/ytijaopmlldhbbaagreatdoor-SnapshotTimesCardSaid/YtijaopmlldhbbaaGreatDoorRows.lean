/-
  NARROWER THAN 'FOR EVERY INPUT', by the rows' own cells (each row's printed sentence says how): Conflicts: laid · ConflictNone: laid · Snapshots: laid · SnapshotRuns: laid · SnapshotAnew: laid · SnapshotMarks: laid · SnapshotTimes: laid · SnapshotTxns: laid · SnapshotFiles: laid.
  DERIVED. THE GIVEN ROWS OF THIS SEAT. 9 by the template 'for every input the law returns true; each argument reads behind the call as it read before'; 0 by the template 'total and deterministic' (their statements: YtijaopmlldhbbaaGreatDoorTotals.lean).
  GIVEN WITH THE SEED: the statements are not yours to turn. If you find one false, say at which input.
  Laid BY PROGRAM, IN A SANDBOX (cutbox-rows.mjs): the forced cells as the released guide's own fill.sh prints them over the translation 29cea17e5252a1b0… (all of the seat's roots in one cut). By AI agents, Wed Nov 11 2026. No macro, syntax, notation, axiom, sorry.
-/
import Derived.Test.YtijaopmlldhbbaaGreatDoorChecked
import GoSem.PinnedTables
import GoSem.Claim
import GoSem.ClaimJoined
import GoSem.ClaimMapViews
import Derived.JoinedTies
import Derived.KernelRfl
namespace Go.Proofs.YtijaopmlldhbbaaGreatDoor
/- THE CELL 'sum', in the pinned program and in every row, IS THE sha256 OF THE DUMP (.gsa) THAT YtijaopmlldhbbaaGreatDoorProg.lean LOADS. Nothing in Lean hashes anything: it is a label: what it is worth is what the hold of that sum in a sandbox is worth. -/
noncomputable def Tryz.pinned : Pinned := { name := "ytijaopmlldhbbaagreatdoor", sum := "29cea17e5252a1b0281ced0179f035ac967591f329987c126647d862b09d7758", checked := Tryz.checked }
namespace Rows
def none {H : Type} : Left H := { results := [], args := [] }

/- WHAT THE LISTED PACKAGE-LEVEL VARIABLES READ AS WHEN THE CALL BEGINS. Each datum BY PROGRAM (the guide's laid-datum.mjs) off the statement by which the dump's own 'gosem.cut.vars' lays the variable. In a bare row this is a premise. The card (YtijaopmlldhbbaaGreatDoorCards.lean) ties it to the program's text. -/
def laid_unicode_utf8_acceptRanges {H : Type} : DataW H := .agg [.agg [.lit (.int .u8 128), .lit (.int .u8 191)], .agg [.lit (.int .u8 160), .lit (.int .u8 191)], .agg [.lit (.int .u8 128), .lit (.int .u8 159)], .agg [.lit (.int .u8 144), .lit (.int .u8 191)], .agg [.lit (.int .u8 128), .lit (.int .u8 143)], .agg [.lit (.int .u8 0), .lit (.int .u8 0)], .agg [.lit (.int .u8 0), .lit (.int .u8 0)], .agg [.lit (.int .u8 0), .lit (.int .u8 0)], .agg [.lit (.int .u8 0), .lit (.int .u8 0)], .agg [.lit (.int .u8 0), .lit (.int .u8 0)], .agg [.lit (.int .u8 0), .lit (.int .u8 0)], .agg [.lit (.int .u8 0), .lit (.int .u8 0)], .agg [.lit (.int .u8 0), .lit (.int .u8 0)], .agg [.lit (.int .u8 0), .lit (.int .u8 0)], .agg [.lit (.int .u8 0), .lit (.int .u8 0)], .agg [.lit (.int .u8 0), .lit (.int .u8 0)]]
/-- One of Go's own tables, pinned by name: the form's constant. -/
def laid_unicode_utf8_first : DataW Unit := Go.Pinned.utf8First

/-- 'boathouselaw23.Conflicts': WHATEVER THE INPUT: true; the input reads as it did. -/
def conflictsSpec : ChangeSpec := { name := "conflicts", fn := fun _ => fun
  | [d1, d2, d3] => { results := [.lit (.bool true)], args := [d1, d2, d3] }
  | _ => none }
def conflictsRow : OpenClaim := { program := "ytijaopmlldhbbaagreatdoor", sum := "29cea17e5252a1b0281ced0179f035ac967591f329987c126647d862b09d7758", func := "boathouse/boathouselaw23.Conflicts", spec := "conflicts", inPlace := ["internal/bytealg.IndexByteString", "internal/bytealg.IndexString", "internal/bytealg.abigen_runtime_cmpstring"], unfollowed := true, recurses := true, named := ["unicode/utf8.first", "unicode/utf8.acceptRanges", "internal/bytealg.MaxLen"], apart := false, laid := [("unicode/utf8.acceptRanges", laid_unicode_utf8_acceptRanges), ("unicode/utf8.first", laid_unicode_utf8_first)] }
def ConflictsSaid : Prop := conflictsRow.holds Tryz.pinned (OpenSpec.ofChange conflictsSpec)

/-- ITS FALSE NEIGHBOUR: 'it returns false'. Refute it at one input. -/
def conflictsWrong : ChangeSpec := { name := "conflicts", fn := fun _ => fun
  | [d1, d2, d3] => { results := [.lit (.bool false)], args := [d1, d2, d3] }
  | _ => none }
def ConflictsWrongFalsely : Prop := conflictsRow.holds Tryz.pinned (OpenSpec.ofChange conflictsWrong)

/-- 'boathouselaw23.ConflictNone': WHATEVER THE INPUT: true; the input reads as it did. -/
def conflictNoneSpec : ChangeSpec := { name := "conflictNone", fn := fun _ => fun
  | [d1, d2, d3] => { results := [.lit (.bool true)], args := [d1, d2, d3] }
  | _ => none }
def conflictNoneRow : OpenClaim := { program := "ytijaopmlldhbbaagreatdoor", sum := "29cea17e5252a1b0281ced0179f035ac967591f329987c126647d862b09d7758", func := "boathouse/boathouselaw23.ConflictNone", spec := "conflictNone", inPlace := ["internal/bytealg.IndexByteString", "internal/bytealg.IndexString", "internal/bytealg.abigen_runtime_cmpstring"], unfollowed := true, recurses := true, named := ["unicode/utf8.first", "unicode/utf8.acceptRanges", "internal/bytealg.MaxLen"], apart := false, laid := [("unicode/utf8.acceptRanges", laid_unicode_utf8_acceptRanges), ("unicode/utf8.first", laid_unicode_utf8_first)] }
def ConflictNoneSaid : Prop := conflictNoneRow.holds Tryz.pinned (OpenSpec.ofChange conflictNoneSpec)

/-- ITS FALSE NEIGHBOUR: 'it returns false'. Refute it at one input. -/
def conflictNoneWrong : ChangeSpec := { name := "conflictNone", fn := fun _ => fun
  | [d1, d2, d3] => { results := [.lit (.bool false)], args := [d1, d2, d3] }
  | _ => none }
def ConflictNoneWrongFalsely : Prop := conflictNoneRow.holds Tryz.pinned (OpenSpec.ofChange conflictNoneWrong)

/-- 'boathouselaw20.Snapshots': WHATEVER THE INPUT: true; the input reads as it did. -/
def snapshotsSpec : ChangeSpec := { name := "snapshots", fn := fun _ => fun
  | [d1, d2] => { results := [.lit (.bool true)], args := [d1, d2] }
  | _ => none }
def snapshotsRow : OpenClaim := { program := "ytijaopmlldhbbaagreatdoor", sum := "29cea17e5252a1b0281ced0179f035ac967591f329987c126647d862b09d7758", func := "boathouse/boathouselaw20.Snapshots", spec := "snapshots", inPlace := ["internal/bytealg.IndexByteString", "internal/bytealg.IndexString", "internal/bytealg.abigen_runtime_cmpstring", "slices.overlaps[boathouse/api.File]", "slices.overlaps[boathouse/api.Mark]", "slices.overlaps[boathouse/api.Txn]"], unfollowed := true, recurses := true, named := ["unicode/utf8.first", "unicode/utf8.acceptRanges", "internal/bytealg.MaxLen"], apart := false, laid := [("unicode/utf8.acceptRanges", laid_unicode_utf8_acceptRanges), ("unicode/utf8.first", laid_unicode_utf8_first)] }
def SnapshotsSaid : Prop := snapshotsRow.holds Tryz.pinned (OpenSpec.ofChange snapshotsSpec)

/-- ITS FALSE NEIGHBOUR: 'it returns false'. Refute it at one input. -/
def snapshotsWrong : ChangeSpec := { name := "snapshots", fn := fun _ => fun
  | [d1, d2] => { results := [.lit (.bool false)], args := [d1, d2] }
  | _ => none }
def SnapshotsWrongFalsely : Prop := snapshotsRow.holds Tryz.pinned (OpenSpec.ofChange snapshotsWrong)

/-- 'boathouselaw20.SnapshotRuns': WHATEVER THE INPUT: true; the input reads as it did. -/
def snapshotRunsSpec : ChangeSpec := { name := "snapshotRuns", fn := fun _ => fun
  | [d] => { results := [.lit (.bool true)], args := [d] }
  | _ => none }
def snapshotRunsRow : OpenClaim := { program := "ytijaopmlldhbbaagreatdoor", sum := "29cea17e5252a1b0281ced0179f035ac967591f329987c126647d862b09d7758", func := "boathouse/boathouselaw20.SnapshotRuns", spec := "snapshotRuns", inPlace := ["internal/bytealg.IndexByteString", "internal/bytealg.IndexString", "internal/bytealg.abigen_runtime_cmpstring", "slices.overlaps[boathouse/api.File]", "slices.overlaps[boathouse/api.Mark]", "slices.overlaps[boathouse/api.Txn]"], unfollowed := true, recurses := true, named := ["unicode/utf8.first", "unicode/utf8.acceptRanges", "internal/bytealg.MaxLen"], apart := false, laid := [("unicode/utf8.acceptRanges", laid_unicode_utf8_acceptRanges), ("unicode/utf8.first", laid_unicode_utf8_first)] }
def SnapshotRunsSaid : Prop := snapshotRunsRow.holds Tryz.pinned (OpenSpec.ofChange snapshotRunsSpec)

/-- ITS FALSE NEIGHBOUR: 'it returns false'. Refute it at one input. -/
def snapshotRunsWrong : ChangeSpec := { name := "snapshotRuns", fn := fun _ => fun
  | [d] => { results := [.lit (.bool false)], args := [d] }
  | _ => none }
def SnapshotRunsWrongFalsely : Prop := snapshotRunsRow.holds Tryz.pinned (OpenSpec.ofChange snapshotRunsWrong)

/-- 'boathouselaw20.SnapshotAnew': WHATEVER THE INPUT: true; the input reads as it did. -/
def snapshotAnewSpec : ChangeSpec := { name := "snapshotAnew", fn := fun _ => fun
  | [d] => { results := [.lit (.bool true)], args := [d] }
  | _ => none }
def snapshotAnewRow : OpenClaim := { program := "ytijaopmlldhbbaagreatdoor", sum := "29cea17e5252a1b0281ced0179f035ac967591f329987c126647d862b09d7758", func := "boathouse/boathouselaw20.SnapshotAnew", spec := "snapshotAnew", inPlace := ["internal/bytealg.IndexByteString", "internal/bytealg.IndexString", "internal/bytealg.abigen_runtime_cmpstring", "slices.overlaps[boathouse/api.File]", "slices.overlaps[boathouse/api.Mark]", "slices.overlaps[boathouse/api.Txn]"], unfollowed := true, recurses := true, named := ["unicode/utf8.first", "unicode/utf8.acceptRanges", "internal/bytealg.MaxLen"], apart := false, laid := [("unicode/utf8.acceptRanges", laid_unicode_utf8_acceptRanges), ("unicode/utf8.first", laid_unicode_utf8_first)] }
def SnapshotAnewSaid : Prop := snapshotAnewRow.holds Tryz.pinned (OpenSpec.ofChange snapshotAnewSpec)

/-- ITS FALSE NEIGHBOUR: 'it returns false'. Refute it at one input. -/
def snapshotAnewWrong : ChangeSpec := { name := "snapshotAnew", fn := fun _ => fun
  | [d] => { results := [.lit (.bool false)], args := [d] }
  | _ => none }
def SnapshotAnewWrongFalsely : Prop := snapshotAnewRow.holds Tryz.pinned (OpenSpec.ofChange snapshotAnewWrong)

/-- 'boathouselaw20.SnapshotMarks': WHATEVER THE INPUT: true; the input reads as it did. -/
def snapshotMarksSpec : ChangeSpec := { name := "snapshotMarks", fn := fun _ => fun
  | [d1, d2] => { results := [.lit (.bool true)], args := [d1, d2] }
  | _ => none }
def snapshotMarksRow : OpenClaim := { program := "ytijaopmlldhbbaagreatdoor", sum := "29cea17e5252a1b0281ced0179f035ac967591f329987c126647d862b09d7758", func := "boathouse/boathouselaw20.SnapshotMarks", spec := "snapshotMarks", inPlace := ["internal/bytealg.IndexByteString", "internal/bytealg.IndexString", "internal/bytealg.abigen_runtime_cmpstring", "slices.overlaps[boathouse/api.File]", "slices.overlaps[boathouse/api.Mark]", "slices.overlaps[boathouse/api.Txn]"], unfollowed := true, recurses := true, named := ["unicode/utf8.first", "unicode/utf8.acceptRanges", "internal/bytealg.MaxLen"], apart := false, laid := [("unicode/utf8.acceptRanges", laid_unicode_utf8_acceptRanges), ("unicode/utf8.first", laid_unicode_utf8_first)] }
def SnapshotMarksSaid : Prop := snapshotMarksRow.holds Tryz.pinned (OpenSpec.ofChange snapshotMarksSpec)

/-- ITS FALSE NEIGHBOUR: 'it returns false'. Refute it at one input. -/
def snapshotMarksWrong : ChangeSpec := { name := "snapshotMarks", fn := fun _ => fun
  | [d1, d2] => { results := [.lit (.bool false)], args := [d1, d2] }
  | _ => none }
def SnapshotMarksWrongFalsely : Prop := snapshotMarksRow.holds Tryz.pinned (OpenSpec.ofChange snapshotMarksWrong)

/-- 'boathouselaw20.SnapshotTimes': WHATEVER THE INPUT: true; the input reads as it did. -/
def snapshotTimesSpec : ChangeSpec := { name := "snapshotTimes", fn := fun _ => fun
  | [d] => { results := [.lit (.bool true)], args := [d] }
  | _ => none }
def snapshotTimesRow : OpenClaim := { program := "ytijaopmlldhbbaagreatdoor", sum := "29cea17e5252a1b0281ced0179f035ac967591f329987c126647d862b09d7758", func := "boathouse/boathouselaw20.SnapshotTimes", spec := "snapshotTimes", inPlace := ["internal/bytealg.IndexByteString", "internal/bytealg.IndexString", "internal/bytealg.abigen_runtime_cmpstring", "slices.overlaps[boathouse/api.File]", "slices.overlaps[boathouse/api.Mark]", "slices.overlaps[boathouse/api.Txn]"], unfollowed := true, recurses := true, named := ["unicode/utf8.first", "unicode/utf8.acceptRanges", "internal/bytealg.MaxLen"], apart := false, laid := [("unicode/utf8.acceptRanges", laid_unicode_utf8_acceptRanges), ("unicode/utf8.first", laid_unicode_utf8_first)] }
def SnapshotTimesSaid : Prop := snapshotTimesRow.holds Tryz.pinned (OpenSpec.ofChange snapshotTimesSpec)

/-- ITS FALSE NEIGHBOUR: 'it returns false'. Refute it at one input. -/
def snapshotTimesWrong : ChangeSpec := { name := "snapshotTimes", fn := fun _ => fun
  | [d] => { results := [.lit (.bool false)], args := [d] }
  | _ => none }
def SnapshotTimesWrongFalsely : Prop := snapshotTimesRow.holds Tryz.pinned (OpenSpec.ofChange snapshotTimesWrong)

/-- 'boathouselaw20.SnapshotTxns': WHATEVER THE INPUT: true; the input reads as it did. -/
def snapshotTxnsSpec : ChangeSpec := { name := "snapshotTxns", fn := fun _ => fun
  | [d] => { results := [.lit (.bool true)], args := [d] }
  | _ => none }
def snapshotTxnsRow : OpenClaim := { program := "ytijaopmlldhbbaagreatdoor", sum := "29cea17e5252a1b0281ced0179f035ac967591f329987c126647d862b09d7758", func := "boathouse/boathouselaw20.SnapshotTxns", spec := "snapshotTxns", inPlace := ["internal/bytealg.IndexByteString", "internal/bytealg.IndexString", "internal/bytealg.abigen_runtime_cmpstring", "slices.overlaps[boathouse/api.File]", "slices.overlaps[boathouse/api.Mark]", "slices.overlaps[boathouse/api.Txn]"], unfollowed := true, recurses := true, named := ["unicode/utf8.first", "unicode/utf8.acceptRanges", "internal/bytealg.MaxLen"], apart := false, laid := [("unicode/utf8.acceptRanges", laid_unicode_utf8_acceptRanges), ("unicode/utf8.first", laid_unicode_utf8_first)] }
def SnapshotTxnsSaid : Prop := snapshotTxnsRow.holds Tryz.pinned (OpenSpec.ofChange snapshotTxnsSpec)

/-- ITS FALSE NEIGHBOUR: 'it returns false'. Refute it at one input. -/
def snapshotTxnsWrong : ChangeSpec := { name := "snapshotTxns", fn := fun _ => fun
  | [d] => { results := [.lit (.bool false)], args := [d] }
  | _ => none }
def SnapshotTxnsWrongFalsely : Prop := snapshotTxnsRow.holds Tryz.pinned (OpenSpec.ofChange snapshotTxnsWrong)

/-- 'boathouselaw20.SnapshotFiles': WHATEVER THE INPUT: true; the input reads as it did. -/
def snapshotFilesSpec : ChangeSpec := { name := "snapshotFiles", fn := fun _ => fun
  | [d] => { results := [.lit (.bool true)], args := [d] }
  | _ => none }
def snapshotFilesRow : OpenClaim := { program := "ytijaopmlldhbbaagreatdoor", sum := "29cea17e5252a1b0281ced0179f035ac967591f329987c126647d862b09d7758", func := "boathouse/boathouselaw20.SnapshotFiles", spec := "snapshotFiles", inPlace := ["internal/bytealg.IndexByteString", "internal/bytealg.IndexString", "internal/bytealg.abigen_runtime_cmpstring", "slices.overlaps[boathouse/api.File]", "slices.overlaps[boathouse/api.Mark]", "slices.overlaps[boathouse/api.Txn]"], unfollowed := true, recurses := true, named := ["unicode/utf8.first", "unicode/utf8.acceptRanges", "internal/bytealg.MaxLen"], apart := false, laid := [("unicode/utf8.acceptRanges", laid_unicode_utf8_acceptRanges), ("unicode/utf8.first", laid_unicode_utf8_first)] }
def SnapshotFilesSaid : Prop := snapshotFilesRow.holds Tryz.pinned (OpenSpec.ofChange snapshotFilesSpec)

/-- ITS FALSE NEIGHBOUR: 'it returns false'. Refute it at one input. -/
def snapshotFilesWrong : ChangeSpec := { name := "snapshotFiles", fn := fun _ => fun
  | [d] => { results := [.lit (.bool false)], args := [d] }
  | _ => none }
def SnapshotFilesWrongFalsely : Prop := snapshotFilesRow.holds Tryz.pinned (OpenSpec.ofChange snapshotFilesWrong)

/- THE SECOND FORM. 'bulk': how many values and letters a reading holds, each counted each time it is reached (what is shared counts as often as it is met; a slice's spare places count too). A statement '..UptoSaid' is the law's where the arguments, and the package variables that the reading takes, are together of bulk at most 1048576: NARROWER than '..Said'. Prove '..Said' where nothing that the law and all that it calls make is longer than what came in: it says more and counts as full. Else prove '..UptoSaid'. A law counts once. -/
mutual
def uptoBulk {H : Type} : DataW H → Nat
  | .lit (.string bytes) => bytes.length + 1
  | .lit _ => 1
  | .nil => 1
  | .ptr d => uptoBulk d + 1
  | .slice elems spare => uptoBulkAll elems + uptoBulkAll spare + 1
  | .agg parts => uptoBulkAll parts + 1
  | .iface _ d => uptoBulk d + 1
  | .map entries => uptoBulkEntries entries + 1
  | .held _ => 1
def uptoBulkAll {H : Type} : List (DataW H) → Nat
  | [] => 0
  | d :: r => uptoBulk d + uptoBulkAll r
def uptoBulkEntries {H : Type} : List (Lit × DataW H) → Nat
  | [] => 0
  | x :: r => uptoBulkEntry x + uptoBulkEntries r
def uptoBulkEntry {H : Type} : Lit × DataW H → Nat
  | (.string bytes, d) => bytes.length + uptoBulk d + 1
  | (_, d) => uptoBulk d + 1
 end
def uptoSmall : (H : Type) → List (DataW H) → Bool := fun _ ds => decide (uptoBulkAll ds ≤ 1048576)
def OpenSpec.upto (s : _root_.Go.ChangeSpec) : _root_.Go.OpenSpec := { _root_.Go.OpenSpec.ofChange s with cond := some uptoSmall }

/-- 'boathouselaw23.Conflicts', WHERE WHAT IT READS IS OF BULK AT MOST 1048576: true; the input reads as it did. -/
def conflictsUptoRow : OpenClaim := { program := "ytijaopmlldhbbaagreatdoor", sum := "29cea17e5252a1b0281ced0179f035ac967591f329987c126647d862b09d7758", func := "boathouse/boathouselaw23.Conflicts", spec := "conflicts", inPlace := ["internal/bytealg.IndexByteString", "internal/bytealg.IndexString", "internal/bytealg.abigen_runtime_cmpstring"], unfollowed := true, recurses := true, named := ["unicode/utf8.first", "unicode/utf8.acceptRanges", "internal/bytealg.MaxLen"], apart := false, laid := [("unicode/utf8.acceptRanges", laid_unicode_utf8_acceptRanges), ("unicode/utf8.first", laid_unicode_utf8_first)], narrowed := true }
def ConflictsUptoSaid : Prop := conflictsUptoRow.holds Tryz.pinned (OpenSpec.upto conflictsSpec)

/-- 'boathouselaw23.ConflictNone', WHERE WHAT IT READS IS OF BULK AT MOST 1048576: true; the input reads as it did. -/
def conflictNoneUptoRow : OpenClaim := { program := "ytijaopmlldhbbaagreatdoor", sum := "29cea17e5252a1b0281ced0179f035ac967591f329987c126647d862b09d7758", func := "boathouse/boathouselaw23.ConflictNone", spec := "conflictNone", inPlace := ["internal/bytealg.IndexByteString", "internal/bytealg.IndexString", "internal/bytealg.abigen_runtime_cmpstring"], unfollowed := true, recurses := true, named := ["unicode/utf8.first", "unicode/utf8.acceptRanges", "internal/bytealg.MaxLen"], apart := false, laid := [("unicode/utf8.acceptRanges", laid_unicode_utf8_acceptRanges), ("unicode/utf8.first", laid_unicode_utf8_first)], narrowed := true }
def ConflictNoneUptoSaid : Prop := conflictNoneUptoRow.holds Tryz.pinned (OpenSpec.upto conflictNoneSpec)

/-- 'boathouselaw20.Snapshots', WHERE WHAT IT READS IS OF BULK AT MOST 1048576: true; the input reads as it did. -/
def snapshotsUptoRow : OpenClaim := { program := "ytijaopmlldhbbaagreatdoor", sum := "29cea17e5252a1b0281ced0179f035ac967591f329987c126647d862b09d7758", func := "boathouse/boathouselaw20.Snapshots", spec := "snapshots", inPlace := ["internal/bytealg.IndexByteString", "internal/bytealg.IndexString", "internal/bytealg.abigen_runtime_cmpstring", "slices.overlaps[boathouse/api.File]", "slices.overlaps[boathouse/api.Mark]", "slices.overlaps[boathouse/api.Txn]"], unfollowed := true, recurses := true, named := ["unicode/utf8.first", "unicode/utf8.acceptRanges", "internal/bytealg.MaxLen"], apart := false, laid := [("unicode/utf8.acceptRanges", laid_unicode_utf8_acceptRanges), ("unicode/utf8.first", laid_unicode_utf8_first)], narrowed := true }
def SnapshotsUptoSaid : Prop := snapshotsUptoRow.holds Tryz.pinned (OpenSpec.upto snapshotsSpec)

/-- 'boathouselaw20.SnapshotRuns', WHERE WHAT IT READS IS OF BULK AT MOST 1048576: true; the input reads as it did. -/
def snapshotRunsUptoRow : OpenClaim := { program := "ytijaopmlldhbbaagreatdoor", sum := "29cea17e5252a1b0281ced0179f035ac967591f329987c126647d862b09d7758", func := "boathouse/boathouselaw20.SnapshotRuns", spec := "snapshotRuns", inPlace := ["internal/bytealg.IndexByteString", "internal/bytealg.IndexString", "internal/bytealg.abigen_runtime_cmpstring", "slices.overlaps[boathouse/api.File]", "slices.overlaps[boathouse/api.Mark]", "slices.overlaps[boathouse/api.Txn]"], unfollowed := true, recurses := true, named := ["unicode/utf8.first", "unicode/utf8.acceptRanges", "internal/bytealg.MaxLen"], apart := false, laid := [("unicode/utf8.acceptRanges", laid_unicode_utf8_acceptRanges), ("unicode/utf8.first", laid_unicode_utf8_first)], narrowed := true }
def SnapshotRunsUptoSaid : Prop := snapshotRunsUptoRow.holds Tryz.pinned (OpenSpec.upto snapshotRunsSpec)

/-- 'boathouselaw20.SnapshotAnew', WHERE WHAT IT READS IS OF BULK AT MOST 1048576: true; the input reads as it did. -/
def snapshotAnewUptoRow : OpenClaim := { program := "ytijaopmlldhbbaagreatdoor", sum := "29cea17e5252a1b0281ced0179f035ac967591f329987c126647d862b09d7758", func := "boathouse/boathouselaw20.SnapshotAnew", spec := "snapshotAnew", inPlace := ["internal/bytealg.IndexByteString", "internal/bytealg.IndexString", "internal/bytealg.abigen_runtime_cmpstring", "slices.overlaps[boathouse/api.File]", "slices.overlaps[boathouse/api.Mark]", "slices.overlaps[boathouse/api.Txn]"], unfollowed := true, recurses := true, named := ["unicode/utf8.first", "unicode/utf8.acceptRanges", "internal/bytealg.MaxLen"], apart := false, laid := [("unicode/utf8.acceptRanges", laid_unicode_utf8_acceptRanges), ("unicode/utf8.first", laid_unicode_utf8_first)], narrowed := true }
def SnapshotAnewUptoSaid : Prop := snapshotAnewUptoRow.holds Tryz.pinned (OpenSpec.upto snapshotAnewSpec)

/-- 'boathouselaw20.SnapshotMarks', WHERE WHAT IT READS IS OF BULK AT MOST 1048576: true; the input reads as it did. -/
def snapshotMarksUptoRow : OpenClaim := { program := "ytijaopmlldhbbaagreatdoor", sum := "29cea17e5252a1b0281ced0179f035ac967591f329987c126647d862b09d7758", func := "boathouse/boathouselaw20.SnapshotMarks", spec := "snapshotMarks", inPlace := ["internal/bytealg.IndexByteString", "internal/bytealg.IndexString", "internal/bytealg.abigen_runtime_cmpstring", "slices.overlaps[boathouse/api.File]", "slices.overlaps[boathouse/api.Mark]", "slices.overlaps[boathouse/api.Txn]"], unfollowed := true, recurses := true, named := ["unicode/utf8.first", "unicode/utf8.acceptRanges", "internal/bytealg.MaxLen"], apart := false, laid := [("unicode/utf8.acceptRanges", laid_unicode_utf8_acceptRanges), ("unicode/utf8.first", laid_unicode_utf8_first)], narrowed := true }
def SnapshotMarksUptoSaid : Prop := snapshotMarksUptoRow.holds Tryz.pinned (OpenSpec.upto snapshotMarksSpec)

/-- 'boathouselaw20.SnapshotTimes', WHERE WHAT IT READS IS OF BULK AT MOST 1048576: true; the input reads as it did. -/
def snapshotTimesUptoRow : OpenClaim := { program := "ytijaopmlldhbbaagreatdoor", sum := "29cea17e5252a1b0281ced0179f035ac967591f329987c126647d862b09d7758", func := "boathouse/boathouselaw20.SnapshotTimes", spec := "snapshotTimes", inPlace := ["internal/bytealg.IndexByteString", "internal/bytealg.IndexString", "internal/bytealg.abigen_runtime_cmpstring", "slices.overlaps[boathouse/api.File]", "slices.overlaps[boathouse/api.Mark]", "slices.overlaps[boathouse/api.Txn]"], unfollowed := true, recurses := true, named := ["unicode/utf8.first", "unicode/utf8.acceptRanges", "internal/bytealg.MaxLen"], apart := false, laid := [("unicode/utf8.acceptRanges", laid_unicode_utf8_acceptRanges), ("unicode/utf8.first", laid_unicode_utf8_first)], narrowed := true }
def SnapshotTimesUptoSaid : Prop := snapshotTimesUptoRow.holds Tryz.pinned (OpenSpec.upto snapshotTimesSpec)

/-- 'boathouselaw20.SnapshotTxns', WHERE WHAT IT READS IS OF BULK AT MOST 1048576: true; the input reads as it did. -/
def snapshotTxnsUptoRow : OpenClaim := { program := "ytijaopmlldhbbaagreatdoor", sum := "29cea17e5252a1b0281ced0179f035ac967591f329987c126647d862b09d7758", func := "boathouse/boathouselaw20.SnapshotTxns", spec := "snapshotTxns", inPlace := ["internal/bytealg.IndexByteString", "internal/bytealg.IndexString", "internal/bytealg.abigen_runtime_cmpstring", "slices.overlaps[boathouse/api.File]", "slices.overlaps[boathouse/api.Mark]", "slices.overlaps[boathouse/api.Txn]"], unfollowed := true, recurses := true, named := ["unicode/utf8.first", "unicode/utf8.acceptRanges", "internal/bytealg.MaxLen"], apart := false, laid := [("unicode/utf8.acceptRanges", laid_unicode_utf8_acceptRanges), ("unicode/utf8.first", laid_unicode_utf8_first)], narrowed := true }
def SnapshotTxnsUptoSaid : Prop := snapshotTxnsUptoRow.holds Tryz.pinned (OpenSpec.upto snapshotTxnsSpec)

/-- 'boathouselaw20.SnapshotFiles', WHERE WHAT IT READS IS OF BULK AT MOST 1048576: true; the input reads as it did. -/
def snapshotFilesUptoRow : OpenClaim := { program := "ytijaopmlldhbbaagreatdoor", sum := "29cea17e5252a1b0281ced0179f035ac967591f329987c126647d862b09d7758", func := "boathouse/boathouselaw20.SnapshotFiles", spec := "snapshotFiles", inPlace := ["internal/bytealg.IndexByteString", "internal/bytealg.IndexString", "internal/bytealg.abigen_runtime_cmpstring", "slices.overlaps[boathouse/api.File]", "slices.overlaps[boathouse/api.Mark]", "slices.overlaps[boathouse/api.Txn]"], unfollowed := true, recurses := true, named := ["unicode/utf8.first", "unicode/utf8.acceptRanges", "internal/bytealg.MaxLen"], apart := false, laid := [("unicode/utf8.acceptRanges", laid_unicode_utf8_acceptRanges), ("unicode/utf8.first", laid_unicode_utf8_first)], narrowed := true }
def SnapshotFilesUptoSaid : Prop := snapshotFilesUptoRow.holds Tryz.pinned (OpenSpec.upto snapshotFilesSpec)

end Rows
end Go.Proofs.YtijaopmlldhbbaaGreatDoor
