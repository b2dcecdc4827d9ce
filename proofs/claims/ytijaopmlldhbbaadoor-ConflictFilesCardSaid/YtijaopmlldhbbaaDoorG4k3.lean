/- ConflictFiles at kind 3: the evaluator's answers. -/
import Derived.Test.YtijaopmlldhbbaaDoorG4
namespace Go.Proofs.BoatE
open Go Go.Proofs
set_option maxRecDepth 100000
theorem fil30t : file4 3 true false true false true = true := by kernel_rfl
theorem fil30f : file4 3 true false true false false = true := by kernel_rfl
theorem fil31t : file4 3 false false true false true = true := by kernel_rfl
theorem fil31f : file4 3 false false true false false = true := by kernel_rfl
theorem fil32t : file4 3 false true true false true = true := by kernel_rfl
theorem fil32f : file4 3 false true true false false = true := by kernel_rfl
theorem fil33t : file4 3 false true false false true = true := by kernel_rfl
theorem fil33f : file4 3 false true false false false = true := by kernel_rfl
theorem fil34t : file4 3 false true false true true = true := by kernel_rfl
theorem fil34f : file4 3 false true false true false = true := by kernel_rfl
end Go.Proofs.BoatE
