/- Comparisons at numbers that are known; the ways that are known. -/
import Derived.Test.YthfdbllpofiabaaDoorV22
namespace Go.Proofs.BoatV
open Go Go.Proofs
set_option linter.unusedVariables false
theorem op_lss {k : IntKind} {a b : Int} {r : Bool} (h : decide (a < b) = r) : opK (.bin .lss) [.int k a, .int k b] = some (.bool r) := by subst h; simp [opK, intK]
theorem op_geq {k : IntKind} {a b : Int} {r : Bool} (h : decide (a ≥ b) = r) : opK (.bin .geq) [.int k a, .int k b] = some (.bool r) := by subst h; simp [opK, intK]
theorem op_gtr {k : IntKind} {a b : Int} {r : Bool} (h : decide (a > b) = r) : opK (.bin .gtr) [.int k a, .int k b] = some (.bool r) := by subst h; simp [opK, intK]
theorem op_eql {k : IntKind} {a b : Int} {r : Bool} (h : (a == b) = r) : opK (.bin .eql) [.int k a, .int k b] = some (.bool r) := by subst h; simp [opK, intK]
theorem op_neq {k : IntKind} {a b : Int} {r : Bool} (h : (a != b) = r) : opK (.bin .neq) [.int k a, .int k b] = some (.bool r) := by subst h; simp [opK, intK]
variable {sp : Sps} {next : Nat → List AV → List AO → Option (AV × Heap)} {ρ ρ' : List AV} {ω : List AO} {key : Key} {args l : List AV} {y n : Tr} {R : Option (AV × Heap)}
theorem ev_yes (h1 : instL (nm ρ ω) args = some l) (h2 : opK key l = some (.bool true)) (hy : y.eval sp next ρ ω = R) : (Tr.ite key args y n).eval sp next ρ ω = R := ev_ite h1 h2 (fun _ => hy) (fun h => by cases h)
theorem ev_no (h1 : instL (nm ρ ω) args = some l) (h2 : opK key l = some (.bool false)) (hn : n.eval sp next ρ ω = R) : (Tr.ite key args y n).eval sp next ρ ω = R := ev_ite h1 h2 (fun h => by cases h) (fun _ => hn)

end Go.Proofs.BoatV
