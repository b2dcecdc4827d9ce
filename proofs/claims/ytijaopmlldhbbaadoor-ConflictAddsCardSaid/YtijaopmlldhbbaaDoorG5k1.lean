/- ConflictAdds at kind 1: the evaluator's answers. -/
import Derived.Test.YtijaopmlldhbbaaDoorG5
namespace Go.Proofs.BoatE
open Go Go.Proofs
set_option maxRecDepth 100000
theorem add100 : add5 1 0 true false true false = true := by kernel_rfl
theorem add101 : add5 1 0 false false true false = true := by kernel_rfl
theorem add102 : add5 1 0 false true true false = true := by kernel_rfl
theorem add103 : add5 1 0 false true false false = true := by kernel_rfl
theorem add104 : add5 1 0 false true false true = true := by kernel_rfl
theorem add110 : add5 1 1 true false true false = true := by kernel_rfl
theorem add111 : add5 1 1 false false true false = true := by kernel_rfl
theorem add112 : add5 1 1 false true true false = true := by kernel_rfl
theorem add113 : add5 1 1 false true false false = true := by kernel_rfl
theorem add114 : add5 1 1 false true false true = true := by kernel_rfl
end Go.Proofs.BoatE
