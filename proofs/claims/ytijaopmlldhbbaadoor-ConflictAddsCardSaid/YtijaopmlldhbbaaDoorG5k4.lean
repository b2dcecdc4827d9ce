/- ConflictAdds at kind 4: the evaluator's answers. -/
import Derived.Test.YtijaopmlldhbbaaDoorG5
namespace Go.Proofs.BoatE
open Go Go.Proofs
set_option maxRecDepth 100000
theorem add400 : add5 4 0 true false true false = true := by kernel_rfl
theorem add401 : add5 4 0 false false true false = true := by kernel_rfl
theorem add402 : add5 4 0 false true true false = true := by kernel_rfl
theorem add403 : add5 4 0 false true false false = true := by kernel_rfl
theorem add404 : add5 4 0 false true false true = true := by kernel_rfl
theorem add410 : add5 4 1 true false true false = true := by kernel_rfl
theorem add411 : add5 4 1 false false true false = true := by kernel_rfl
theorem add412 : add5 4 1 false true true false = true := by kernel_rfl
theorem add413 : add5 4 1 false true false false = true := by kernel_rfl
theorem add414 : add5 4 1 false true false true = true := by kernel_rfl
end Go.Proofs.BoatE
