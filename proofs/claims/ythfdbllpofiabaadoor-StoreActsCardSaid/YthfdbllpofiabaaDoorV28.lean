/- Named objects that name no others: stood in for, bound. -/
import Derived.Test.YthfdbllpofiabaaDoorV27
namespace Go.Proofs.BoatV
open Go
set_option linter.unusedVariables false
/-- It names no object, and is none that is dead. -/
def ClO (o : AO) : Prop := (∀ σ, o.ren σ = some o) ∧ o ≠ .dead
theorem ClO.row {cs : List AV} (h : closedL cs = true) : ClO (.row cs) := ⟨fun σ => by simp only [AO.ren, closedL_ren h, Option.map_some], by simp⟩
theorem ClO.chan {cap : Nat} {cs : List AV} (h : closedL cs = true) : ClO (.chan cap cs) := ⟨fun σ => by simp only [AO.ren, closedL_ren h, Option.map_some], by simp⟩
theorem renE_closed {σ : Nat → Option Nat} : ∀ {es : List (AV × AV)}, (∀ e ∈ es, e.1.closed = true ∧ e.2.closed = true) → renE σ es = some es
  | [], _ => rfl
  | (k, v) :: r, h => by
    have h1 := h (k, v) (by simp)
    have h2 : renE σ r = some r := renE_closed (fun e he => h e (List.mem_cons_of_mem _ he))
    simp only [renE, closed_ren h1.1, closed_ren h1.2, h2]
theorem ClO.map {es : List (AV × AV)} (h : ∀ e ∈ es, e.1.closed = true ∧ e.2.closed = true) : ClO (.map es) := ⟨fun σ => by simp only [AO.ren, renE_closed h, Option.map_some], by simp⟩
theorem closedL_map {α : Type} {f : α → AV} (h : ∀ a, (f a).closed = true) : ∀ l : List α, closedL (l.map f) = true
  | [] => rfl
  | a :: r => by simp only [List.map_cons, closedL, h a, closedL_map h r, Bool.and_self]

section
variable {L : Env} {r r' : Heap} {cs cs' : List AV} {t : Nat} {ids : List Nat} {o : AO}
theorem ih_row (h : instL L cs = some cs') (hr : instH L r = some r') : instH L (.row cs :: r) = some (.row cs' :: r') := by simp only [instH, AO.inst, h, Option.map_some, hr]
theorem ih_hid (hc : ClO o) (h : L.ho t = o) (hr : instH L r = some r') : instH L (.hid t ids :: r) = some (o :: r') := by
  have : (AO.hid t ids).inst L = some o := by
    simp only [AO.inst, h, hc.1]
    split
    · rename_i e; cases e; exact absurd rfl hc.2
    · rfl
  simp only [instH, this, hr]
variable {ps vs ρ ρ1 : List AV} {ω : List AO} {P O : Heap} {x : Option (List AV × List AO)}
theorem bh_row (h : bindL ps vs ρ = some ρ1) (hr : bindH P O ρ1 ω = x) : bindH (.row ps :: P) (.row vs :: O) ρ ω = x := by
  simp only [bindH, bindO, h, Option.map_some]; exact hr
theorem bh_hid (hc : ClO o) (ht : t = ω.length) (hr : bindH P O ρ (ω ++ [o]) = x) : bindH (.hid t ids :: P) (o :: O) ρ ω = x := by
  have : bindO (.hid t ids) o ρ ω = some (ρ, ω ++ [o]) := by
    simp only [bindO, ht, if_true, hc.1]
    split
    · rename_i e; cases e; exact absurd rfl hc.2
    · rename_i e; cases e; rfl
    · rename_i e; cases e
  simp only [bindH, this]; exact hr
theorem bh_dead (hr : bindH P O ρ ω = x) : bindH (.dead :: P) (.dead :: O) ρ ω = x := by
  simp only [bindH, bindO]; exact hr
end
end Go.Proofs.BoatV
