/- ConflictAdds at kind 3: the evaluator's answers. -/
import Derived.Test.YtijaopmlldhbbaaDoorG5
namespace Go.Proofs.BoatE
open Go Go.Proofs
set_option maxRecDepth 100000
theorem add300 : add5 3 0 true false true false = true := by kernel_rfl
theorem add301 : add5 3 0 false false true false = true := by kernel_rfl
theorem add302 : add5 3 0 false true true false = true := by kernel_rfl
theorem add303 : add5 3 0 false true false false = true := by kernel_rfl
theorem add304 : add5 3 0 false true false true = true := by kernel_rfl
theorem add310 : add5 3 1 true false true false = true := by kernel_rfl
theorem add311 : add5 3 1 false false true false = true := by kernel_rfl
theorem add312 : add5 3 1 false true true false = true := by kernel_rfl
theorem add313 : add5 3 1 false true false false = true := by kernel_rfl
theorem add314 : add5 3 1 false true false true = true := by kernel_rfl
end Go.Proofs.BoatE
