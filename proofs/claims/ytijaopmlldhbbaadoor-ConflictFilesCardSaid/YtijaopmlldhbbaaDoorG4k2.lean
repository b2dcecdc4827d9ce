/- ConflictFiles at kind 2: the evaluator's answers. -/
import Derived.Test.YtijaopmlldhbbaaDoorG4
namespace Go.Proofs.BoatE
open Go Go.Proofs
set_option maxRecDepth 100000
theorem fil20t : file4 2 true false true false true = true := by kernel_rfl
theorem fil20f : file4 2 true false true false false = true := by kernel_rfl
theorem fil21t : file4 2 false false true false true = true := by kernel_rfl
theorem fil21f : file4 2 false false true false false = true := by kernel_rfl
theorem fil22t : file4 2 false true true false true = true := by kernel_rfl
theorem fil22f : file4 2 false true true false false = true := by kernel_rfl
theorem fil23t : file4 2 false true false false true = true := by kernel_rfl
theorem fil23f : file4 2 false true false false false = true := by kernel_rfl
theorem fil24t : file4 2 false true false true true = true := by kernel_rfl
theorem fil24f : file4 2 false true false true false = true := by kernel_rfl
end Go.Proofs.BoatE
