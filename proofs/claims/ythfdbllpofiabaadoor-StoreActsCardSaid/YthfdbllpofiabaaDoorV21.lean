/- The trees, a step at a time. -/
import Derived.Test.YthfdbllpofiabaaDoorV20
namespace Go.Proofs.BoatV
open Go
set_option linter.unusedVariables false
variable {sp : Sps} {next : Nat → List AV → List AO → Option (AV × Heap)} {ρ ρ' : List AV} {ω : List AO} {key : Key} {args l : List AV} {y n : Tr} {R : Option (AV × Heap)} {v res : AV} {b : Bool} {f : FuncId} {H h : Heap}

theorem ev_ite (h1 : instL (nm ρ ω) args = some l) (h2 : opK key l = some (.bool b)) (hy : b = true → y.eval sp next ρ ω = R) (hn : b = false → n.eval sp next ρ ω = R) : (Tr.ite key args y n).eval sp next ρ ω = R := by
  unfold Tr.ite
  cases b with
  | true => simp only [Tr.eval, h1, h2, bindV]; exact hy rfl
  | false => simp [Tr.eval, h1, h2, bindV]; exact hn rfl
theorem ev_ask (h1 : instL (nm ρ ω) args = some l) (h2 : opK key l = some v) (h3 : bindV res v ρ = some ρ') (hy : y.eval sp next ρ' ω = R) : (Tr.ask key args res y n).eval sp next ρ ω = R := by
  simp only [Tr.eval, h1, h2, h3]; exact hy
theorem ev_pcall (h1 : instL (nm ρ ω) args = some l) (h2 : instH (nm ρ ω) H = some h) (h3 : sp.pf f l h = some v) (h4 : bindV res v ρ = some ρ') (hy : y.eval sp next ρ' ω = R) : (Tr.pcall f args H res y n).eval sp next ρ ω = R := by
  simp only [Tr.eval, h1, h2, h3, h4]; exact hy
theorem ev_pite (h1 : instL (nm ρ ω) args = some l) (h2 : instH (nm ρ ω) H = some h) (h3 : sp.pf f l h = some (.bool b)) (hy : b = true → y.eval sp next ρ ω = R) (hn : b = false → n.eval sp next ρ ω = R) : (Tr.pite f args H y n).eval sp next ρ ω = R := by
  unfold Tr.pite
  cases b with
  | true => simp only [Tr.eval, h1, h2, h3, bindV]; exact hy rfl
  | false => simp [Tr.eval, h1, h2, h3, bindV]; exact hn rfl
theorem ev_ret {r a : AV} {H h : Heap} (h1 : r.inst (nm ρ ω) = some a) (h2 : instH (nm ρ ω) H = some h) : (Tr.ret r H).eval sp next ρ ω = some (a, h) := by
  simp only [Tr.eval, h1, h2]
theorem ev_goto {k : Nat} {vals l : List AV} {objs o : Heap} (h1 : instL (nm ρ ω) vals = some l) (h2 : instH (nm ρ ω) objs = some o) (hn : next k l o = R) : (Tr.goto k vals objs).eval sp next ρ ω = R := by
  simp only [Tr.eval, h1, h2]; exact hn
theorem next_succ {F : Flow} {m k : Nat} {nd : Node × Tr} (h : F.nodes[k]? = some nd) (he : nd.2.eval sp (F.next sp m) ρ ω = R) : F.next sp (m + 1) k ρ ω = R := by
  simp only [Flow.next, h]; exact he
theorem spec_of {F : Flow} {m : Nat} {args : List AV} {H : Heap} {ρ1 : List AV} {ω1 : List AO} (h1 : bindL F.args args [] = some ρ) (h2 : bindH F.H H ρ [] = some (ρ1, ω1)) (he : F.tr.eval sp (F.next sp m) ρ1 ω1 = R) : F.spec sp m args H = R := by
  simp only [Flow.spec, h1, h2]; exact he
theorem op_idx {rows : List (List AV)} {row : List AV} {sz i : Nat} {k : IntKind} {z : Int} (h : rows[i]? = some row) (hz : z = i) : opK (.idxA sz) [.im rows sz, .int k z] = some (.ip row) := by
  subst hz
  simp [opK, h]
theorem wrapN {i m : Nat} (h : i < m) (hm : m ≤ 9223372036854775807) : IntKind.i64.wrap ((i : Int) + 1) = ((i + 1 : Nat) : Int) := by rw [IntKind.wrap_i64]; omega
end Go.Proofs.BoatV
