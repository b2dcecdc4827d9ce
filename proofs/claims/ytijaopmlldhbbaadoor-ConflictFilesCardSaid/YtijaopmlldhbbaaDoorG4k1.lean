/- ConflictFiles at kind 1: the evaluator's answers. -/
import Derived.Test.YtijaopmlldhbbaaDoorG4
namespace Go.Proofs.BoatE
open Go Go.Proofs
set_option maxRecDepth 100000
theorem fil10t : file4 1 true false true false true = true := by kernel_rfl
theorem fil10f : file4 1 true false true false false = true := by kernel_rfl
theorem fil11t : file4 1 false false true false true = true := by kernel_rfl
theorem fil11f : file4 1 false false true false false = true := by kernel_rfl
theorem fil12t : file4 1 false true true false true = true := by kernel_rfl
theorem fil12f : file4 1 false true true false false = true := by kernel_rfl
theorem fil13t : file4 1 false true false false true = true := by kernel_rfl
theorem fil13f : file4 1 false true false false false = true := by kernel_rfl
theorem fil14t : file4 1 false true false true true = true := by kernel_rfl
theorem fil14f : file4 1 false true false true false = true := by kernel_rfl
end Go.Proofs.BoatE
