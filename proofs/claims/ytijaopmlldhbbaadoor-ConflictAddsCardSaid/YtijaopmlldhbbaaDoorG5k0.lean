/- ConflictAdds at kind 0: the evaluator's answers. -/
import Derived.Test.YtijaopmlldhbbaaDoorG5
namespace Go.Proofs.BoatE
open Go Go.Proofs
set_option maxRecDepth 100000
theorem add000 : add5 0 0 true false true false = true := by kernel_rfl
theorem add001 : add5 0 0 false false true false = true := by kernel_rfl
theorem add002 : add5 0 0 false true true false = true := by kernel_rfl
theorem add003 : add5 0 0 false true false false = true := by kernel_rfl
theorem add004 : add5 0 0 false true false true = true := by kernel_rfl
theorem add010 : add5 0 1 true false true false = true := by kernel_rfl
theorem add011 : add5 0 1 false false true false = true := by kernel_rfl
theorem add012 : add5 0 1 false true true false = true := by kernel_rfl
theorem add013 : add5 0 1 false true false false = true := by kernel_rfl
theorem add014 : add5 0 1 false true false true = true := by kernel_rfl
end Go.Proofs.BoatE
