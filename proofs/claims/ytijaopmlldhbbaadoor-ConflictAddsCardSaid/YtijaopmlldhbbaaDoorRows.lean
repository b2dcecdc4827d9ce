/-
  NARROWER THAN 'FOR EVERY INPUT', by the rows' own cells (each row's printed sentence says how): ConflictMore: laid · ConflictFiles: laid · ConflictAdds: laid · ConflictSchemas: laid.
  DERIVED. THE GIVEN ROWS OF THIS SEAT. 4 by the template 'for every input the law returns true; each argument reads behind the call as it read before'; 0 by the template 'total and deterministic' (their statements: YtijaopmlldhbbaaDoorTotals.lean).
  GIVEN WITH THE SEED: the statements are not yours to turn. If you find one false, say at which input.
  Laid BY PROGRAM, IN A SANDBOX (cutbox-rows.mjs): the forced cells as the released guide's own fill.sh prints them over the translation 6fca0bed2571b706… (all of the seat's roots in one cut). By AI agents, Wed Nov 11 2026. No macro, syntax, notation, axiom, sorry.
-/
import Derived.Test.YtijaopmlldhbbaaDoorChecked
import GoSem.PinnedTables
import GoSem.Claim
import GoSem.ClaimJoined
import GoSem.ClaimMapViews
import Derived.JoinedTies
import Derived.KernelRfl
namespace Go.Proofs.YtijaopmlldhbbaaDoor
/- THE CELL 'sum', in the pinned program and in every row, IS THE sha256 OF THE DUMP (.gsa) THAT YtijaopmlldhbbaaDoorProg.lean LOADS. Nothing in Lean hashes anything: it is a label: what it is worth is what the hold of that sum in a sandbox is worth. -/
noncomputable def Tryd.pinned : Pinned := { name := "ytijaopmlldhbbaadoor", sum := "6fca0bed2571b7069a697ede2c0ca0281ab8c8d7540f777760b08e4ef33504cb", checked := Tryd.checked }
namespace Rows
def none {H : Type} : Left H := { results := [], args := [] }

/- WHAT THE LISTED PACKAGE-LEVEL VARIABLES READ AS WHEN THE CALL BEGINS. Each datum BY PROGRAM (the guide's laid-datum.mjs) off the statement by which the dump's own 'gosem.cut.vars' lays the variable. In a bare row this is a premise. The card (YtijaopmlldhbbaaDoorCards.lean) ties it to the program's text. -/
def laid_unicode_utf8_acceptRanges {H : Type} : DataW H := .agg [.agg [.lit (.int .u8 128), .lit (.int .u8 191)], .agg [.lit (.int .u8 160), .lit (.int .u8 191)], .agg [.lit (.int .u8 128), .lit (.int .u8 159)], .agg [.lit (.int .u8 144), .lit (.int .u8 191)], .agg [.lit (.int .u8 128), .lit (.int .u8 143)], .agg [.lit (.int .u8 0), .lit (.int .u8 0)], .agg [.lit (.int .u8 0), .lit (.int .u8 0)], .agg [.lit (.int .u8 0), .lit (.int .u8 0)], .agg [.lit (.int .u8 0), .lit (.int .u8 0)], .agg [.lit (.int .u8 0), .lit (.int .u8 0)], .agg [.lit (.int .u8 0), .lit (.int .u8 0)], .agg [.lit (.int .u8 0), .lit (.int .u8 0)], .agg [.lit (.int .u8 0), .lit (.int .u8 0)], .agg [.lit (.int .u8 0), .lit (.int .u8 0)], .agg [.lit (.int .u8 0), .lit (.int .u8 0)], .agg [.lit (.int .u8 0), .lit (.int .u8 0)]]
/-- One of Go's own tables, pinned by name: the form's constant. -/
def laid_unicode_utf8_first : DataW Unit := Go.Pinned.utf8First

/-- 'boathouselaw23.ConflictMore': WHATEVER THE INPUT: true; the input reads as it did. -/
def conflictMoreSpec : ChangeSpec := { name := "conflictMore", fn := fun _ => fun
  | [d1, d2, d3, d4] => { results := [.lit (.bool true)], args := [d1, d2, d3, d4] }
  | _ => none }
def conflictMoreRow : OpenClaim := { program := "ytijaopmlldhbbaadoor", sum := "6fca0bed2571b7069a697ede2c0ca0281ab8c8d7540f777760b08e4ef33504cb", func := "boathouse/boathouselaw23.ConflictMore", spec := "conflictMore", inPlace := ["internal/bytealg.IndexByteString", "internal/bytealg.IndexString", "internal/bytealg.abigen_runtime_cmpstring"], unfollowed := true, recurses := true, named := ["unicode/utf8.first", "unicode/utf8.acceptRanges", "internal/bytealg.MaxLen"], apart := false, laid := [("unicode/utf8.acceptRanges", laid_unicode_utf8_acceptRanges), ("unicode/utf8.first", laid_unicode_utf8_first)] }
def ConflictMoreSaid : Prop := conflictMoreRow.holds Tryd.pinned (OpenSpec.ofChange conflictMoreSpec)

/-- ITS FALSE NEIGHBOUR: 'it returns false'. Refute it at one input. -/
def conflictMoreWrong : ChangeSpec := { name := "conflictMore", fn := fun _ => fun
  | [d1, d2, d3, d4] => { results := [.lit (.bool false)], args := [d1, d2, d3, d4] }
  | _ => none }
def ConflictMoreWrongFalsely : Prop := conflictMoreRow.holds Tryd.pinned (OpenSpec.ofChange conflictMoreWrong)

/-- 'boathouselaw23.ConflictFiles': WHATEVER THE INPUT: true; the input reads as it did. -/
def conflictFilesSpec : ChangeSpec := { name := "conflictFiles", fn := fun _ => fun
  | [d1, d2, d3] => { results := [.lit (.bool true)], args := [d1, d2, d3] }
  | _ => none }
def conflictFilesRow : OpenClaim := { program := "ytijaopmlldhbbaadoor", sum := "6fca0bed2571b7069a697ede2c0ca0281ab8c8d7540f777760b08e4ef33504cb", func := "boathouse/boathouselaw23.ConflictFiles", spec := "conflictFiles", inPlace := ["internal/bytealg.IndexByteString", "internal/bytealg.IndexString", "internal/bytealg.abigen_runtime_cmpstring"], unfollowed := true, recurses := true, named := ["unicode/utf8.first", "unicode/utf8.acceptRanges", "internal/bytealg.MaxLen"], apart := false, laid := [("unicode/utf8.acceptRanges", laid_unicode_utf8_acceptRanges), ("unicode/utf8.first", laid_unicode_utf8_first)] }
def ConflictFilesSaid : Prop := conflictFilesRow.holds Tryd.pinned (OpenSpec.ofChange conflictFilesSpec)

/-- ITS FALSE NEIGHBOUR: 'it returns false'. Refute it at one input. -/
def conflictFilesWrong : ChangeSpec := { name := "conflictFiles", fn := fun _ => fun
  | [d1, d2, d3] => { results := [.lit (.bool false)], args := [d1, d2, d3] }
  | _ => none }
def ConflictFilesWrongFalsely : Prop := conflictFilesRow.holds Tryd.pinned (OpenSpec.ofChange conflictFilesWrong)

/-- 'boathouselaw23.ConflictAdds': WHATEVER THE INPUT: true; the input reads as it did. -/
def conflictAddsSpec : ChangeSpec := { name := "conflictAdds", fn := fun _ => fun
  | [d1, d2, d3, d4] => { results := [.lit (.bool true)], args := [d1, d2, d3, d4] }
  | _ => none }
def conflictAddsRow : OpenClaim := { program := "ytijaopmlldhbbaadoor", sum := "6fca0bed2571b7069a697ede2c0ca0281ab8c8d7540f777760b08e4ef33504cb", func := "boathouse/boathouselaw23.ConflictAdds", spec := "conflictAdds", inPlace := ["internal/bytealg.IndexByteString", "internal/bytealg.IndexString", "internal/bytealg.abigen_runtime_cmpstring"], unfollowed := true, recurses := true, named := ["unicode/utf8.first", "unicode/utf8.acceptRanges", "internal/bytealg.MaxLen"], apart := false, laid := [("unicode/utf8.acceptRanges", laid_unicode_utf8_acceptRanges), ("unicode/utf8.first", laid_unicode_utf8_first)] }
def ConflictAddsSaid : Prop := conflictAddsRow.holds Tryd.pinned (OpenSpec.ofChange conflictAddsSpec)

/-- ITS FALSE NEIGHBOUR: 'it returns false'. Refute it at one input. -/
def conflictAddsWrong : ChangeSpec := { name := "conflictAdds", fn := fun _ => fun
  | [d1, d2, d3, d4] => { results := [.lit (.bool false)], args := [d1, d2, d3, d4] }
  | _ => none }
def ConflictAddsWrongFalsely : Prop := conflictAddsRow.holds Tryd.pinned (OpenSpec.ofChange conflictAddsWrong)

/-- 'boathouselaw23.ConflictSchemas': WHATEVER THE INPUT: true; the input reads as it did. -/
def conflictSchemasSpec : ChangeSpec := { name := "conflictSchemas", fn := fun _ => fun
  | [d1, d2] => { results := [.lit (.bool true)], args := [d1, d2] }
  | _ => none }
def conflictSchemasRow : OpenClaim := { program := "ytijaopmlldhbbaadoor", sum := "6fca0bed2571b7069a697ede2c0ca0281ab8c8d7540f777760b08e4ef33504cb", func := "boathouse/boathouselaw23.ConflictSchemas", spec := "conflictSchemas", inPlace := ["internal/bytealg.IndexByteString", "internal/bytealg.IndexString", "internal/bytealg.abigen_runtime_cmpstring"], unfollowed := true, recurses := true, named := ["unicode/utf8.first", "unicode/utf8.acceptRanges", "internal/bytealg.MaxLen"], apart := false, laid := [("unicode/utf8.acceptRanges", laid_unicode_utf8_acceptRanges), ("unicode/utf8.first", laid_unicode_utf8_first)] }
def ConflictSchemasSaid : Prop := conflictSchemasRow.holds Tryd.pinned (OpenSpec.ofChange conflictSchemasSpec)

/-- ITS FALSE NEIGHBOUR: 'it returns false'. Refute it at one input. -/
def conflictSchemasWrong : ChangeSpec := { name := "conflictSchemas", fn := fun _ => fun
  | [d1, d2] => { results := [.lit (.bool false)], args := [d1, d2] }
  | _ => none }
def ConflictSchemasWrongFalsely : Prop := conflictSchemasRow.holds Tryd.pinned (OpenSpec.ofChange conflictSchemasWrong)

/- THE SECOND FORM. 'bulk': how many values and letters a reading holds, each counted each time it is reached (what is shared counts as often as it is met; a slice's spare places count too). A statement '..UptoSaid' is the law's where the arguments, and the package variables that the reading takes, are together of bulk at most 1048576: NARROWER than '..Said'. Prove '..Said' where nothing that the law and all that it calls make is longer than what came in: it says more and counts as full. Else prove '..UptoSaid'. A law counts once. -/
mutual
def uptoBulk {H : Type} : DataW H → Nat
  | .lit (.string bytes) => bytes.length + 1
  | .lit _ => 1
  | .nil => 1
  | .ptr d => uptoBulk d + 1
  | .slice elems spare => uptoBulkAll elems + uptoBulkAll spare + 1
  | .agg parts => uptoBulkAll parts + 1
  | .iface _ d => uptoBulk d + 1
  | .map entries => uptoBulkEntries entries + 1
  | .held _ => 1
def uptoBulkAll {H : Type} : List (DataW H) → Nat
  | [] => 0
  | d :: r => uptoBulk d + uptoBulkAll r
def uptoBulkEntries {H : Type} : List (Lit × DataW H) → Nat
  | [] => 0
  | x :: r => uptoBulkEntry x + uptoBulkEntries r
def uptoBulkEntry {H : Type} : Lit × DataW H → Nat
  | (.string bytes, d) => bytes.length + uptoBulk d + 1
  | (_, d) => uptoBulk d + 1
 end
def uptoSmall : (H : Type) → List (DataW H) → Bool := fun _ ds => decide (uptoBulkAll ds ≤ 1048576)
def OpenSpec.upto (s : _root_.Go.ChangeSpec) : _root_.Go.OpenSpec := { _root_.Go.OpenSpec.ofChange s with cond := some uptoSmall }

/-- 'boathouselaw23.ConflictMore', WHERE WHAT IT READS IS OF BULK AT MOST 1048576: true; the input reads as it did. -/
def conflictMoreUptoRow : OpenClaim := { program := "ytijaopmlldhbbaadoor", sum := "6fca0bed2571b7069a697ede2c0ca0281ab8c8d7540f777760b08e4ef33504cb", func := "boathouse/boathouselaw23.ConflictMore", spec := "conflictMore", inPlace := ["internal/bytealg.IndexByteString", "internal/bytealg.IndexString", "internal/bytealg.abigen_runtime_cmpstring"], unfollowed := true, recurses := true, named := ["unicode/utf8.first", "unicode/utf8.acceptRanges", "internal/bytealg.MaxLen"], apart := false, laid := [("unicode/utf8.acceptRanges", laid_unicode_utf8_acceptRanges), ("unicode/utf8.first", laid_unicode_utf8_first)], narrowed := true }
def ConflictMoreUptoSaid : Prop := conflictMoreUptoRow.holds Tryd.pinned (OpenSpec.upto conflictMoreSpec)

/-- 'boathouselaw23.ConflictFiles', WHERE WHAT IT READS IS OF BULK AT MOST 1048576: true; the input reads as it did. -/
def conflictFilesUptoRow : OpenClaim := { program := "ytijaopmlldhbbaadoor", sum := "6fca0bed2571b7069a697ede2c0ca0281ab8c8d7540f777760b08e4ef33504cb", func := "boathouse/boathouselaw23.ConflictFiles", spec := "conflictFiles", inPlace := ["internal/bytealg.IndexByteString", "internal/bytealg.IndexString", "internal/bytealg.abigen_runtime_cmpstring"], unfollowed := true, recurses := true, named := ["unicode/utf8.first", "unicode/utf8.acceptRanges", "internal/bytealg.MaxLen"], apart := false, laid := [("unicode/utf8.acceptRanges", laid_unicode_utf8_acceptRanges), ("unicode/utf8.first", laid_unicode_utf8_first)], narrowed := true }
def ConflictFilesUptoSaid : Prop := conflictFilesUptoRow.holds Tryd.pinned (OpenSpec.upto conflictFilesSpec)

/-- 'boathouselaw23.ConflictAdds', WHERE WHAT IT READS IS OF BULK AT MOST 1048576: true; the input reads as it did. -/
def conflictAddsUptoRow : OpenClaim := { program := "ytijaopmlldhbbaadoor", sum := "6fca0bed2571b7069a697ede2c0ca0281ab8c8d7540f777760b08e4ef33504cb", func := "boathouse/boathouselaw23.ConflictAdds", spec := "conflictAdds", inPlace := ["internal/bytealg.IndexByteString", "internal/bytealg.IndexString", "internal/bytealg.abigen_runtime_cmpstring"], unfollowed := true, recurses := true, named := ["unicode/utf8.first", "unicode/utf8.acceptRanges", "internal/bytealg.MaxLen"], apart := false, laid := [("unicode/utf8.acceptRanges", laid_unicode_utf8_acceptRanges), ("unicode/utf8.first", laid_unicode_utf8_first)], narrowed := true }
def ConflictAddsUptoSaid : Prop := conflictAddsUptoRow.holds Tryd.pinned (OpenSpec.upto conflictAddsSpec)

/-- 'boathouselaw23.ConflictSchemas', WHERE WHAT IT READS IS OF BULK AT MOST 1048576: true; the input reads as it did. -/
def conflictSchemasUptoRow : OpenClaim := { program := "ytijaopmlldhbbaadoor", sum := "6fca0bed2571b7069a697ede2c0ca0281ab8c8d7540f777760b08e4ef33504cb", func := "boathouse/boathouselaw23.ConflictSchemas", spec := "conflictSchemas", inPlace := ["internal/bytealg.IndexByteString", "internal/bytealg.IndexString", "internal/bytealg.abigen_runtime_cmpstring"], unfollowed := true, recurses := true, named := ["unicode/utf8.first", "unicode/utf8.acceptRanges", "internal/bytealg.MaxLen"], apart := false, laid := [("unicode/utf8.acceptRanges", laid_unicode_utf8_acceptRanges), ("unicode/utf8.first", laid_unicode_utf8_first)], narrowed := true }
def ConflictSchemasUptoSaid : Prop := conflictSchemasUptoRow.holds Tryd.pinned (OpenSpec.upto conflictSchemasSpec)

end Rows
end Go.Proofs.YtijaopmlldhbbaaDoor
