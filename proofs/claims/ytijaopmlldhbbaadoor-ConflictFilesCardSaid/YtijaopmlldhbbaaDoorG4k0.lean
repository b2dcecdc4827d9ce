/- ConflictFiles at kind 0: the evaluator's answers. -/
import Derived.Test.YtijaopmlldhbbaaDoorG4
namespace Go.Proofs.BoatE
open Go Go.Proofs
set_option maxRecDepth 100000
theorem fil00t : file4 0 true false true false true = true := by kernel_rfl
theorem fil00f : file4 0 true false true false false = true := by kernel_rfl
theorem fil01t : file4 0 false false true false true = true := by kernel_rfl
theorem fil01f : file4 0 false false true false false = true := by kernel_rfl
theorem fil02t : file4 0 false true true false true = true := by kernel_rfl
theorem fil02f : file4 0 false true true false false = true := by kernel_rfl
theorem fil03t : file4 0 false true false false true = true := by kernel_rfl
theorem fil03f : file4 0 false true false false false = true := by kernel_rfl
theorem fil04t : file4 0 false true false true true = true := by kernel_rfl
theorem fil04f : file4 0 false true false true false = true := by kernel_rfl
end Go.Proofs.BoatE
