/- ConflictAdds at kind 2: the evaluator's answers. -/
import Derived.Test.YtijaopmlldhbbaaDoorG5
namespace Go.Proofs.BoatE
open Go Go.Proofs
set_option maxRecDepth 100000
theorem add200 : add5 2 0 true false true false = true := by kernel_rfl
theorem add201 : add5 2 0 false false true false = true := by kernel_rfl
theorem add202 : add5 2 0 false true true false = true := by kernel_rfl
theorem add203 : add5 2 0 false true false false = true := by kernel_rfl
theorem add204 : add5 2 0 false true false true = true := by kernel_rfl
theorem add210 : add5 2 1 true false true false = true := by kernel_rfl
theorem add211 : add5 2 1 false false true false = true := by kernel_rfl
theorem add212 : add5 2 1 false true true false = true := by kernel_rfl
theorem add213 : add5 2 1 false true false false = true := by kernel_rfl
theorem add214 : add5 2 1 false true false true = true := by kernel_rfl
end Go.Proofs.BoatE
