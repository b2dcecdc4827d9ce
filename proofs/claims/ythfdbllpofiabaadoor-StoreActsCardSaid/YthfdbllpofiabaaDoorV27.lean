/- The trees, a step at a time: calls and operations that turn memory; contracts that turn memory. -/
import Derived.Test.YthfdbllpofiabaaDoorV26
namespace Go.Proofs.BoatV
open Go
set_option linter.unusedVariables false
section
variable {sp : Sps} {next : Nat → List AV → List AO → Option (AV × Heap)} {ρ ρ' ρ'' : List AV} {ω ω' : List AO} {key : HKey} {args l : List AV} {y n : Tr} {R : Option (AV × Heap)} {v res : AV} {f : FuncId} {H H' h h' : Heap}
theorem ev_call (h1 : instL (nm ρ ω) args = some l) (h2 : instH (nm ρ ω) H = some h) (h3 : sp.sp f l h = some (v, h')) (h4 : bindV res v ρ = some ρ') (h5 : bindH H' h' ρ' ω = some (ρ'', ω')) (hy : y.eval sp next ρ'' ω' = R) : (Tr.call f args H res H' y n).eval sp next ρ ω = R := by
  simp only [Tr.eval, h1, h2, h3, h4, h5]; exact hy
theorem ev_callN (h1 : instL (nm ρ ω) args = some l) (h2 : instH (nm ρ ω) H = some h) (h3 : sp.sp f l h = some (v, h')) (h4 : bindV res v ρ = none) (hn : n.eval sp next ρ ω = R) : (Tr.call f args H res H' y n).eval sp next ρ ω = R := by
  simp only [Tr.eval, h1, h2, h3, h4]; exact hn
theorem ev_callN2 (h1 : instL (nm ρ ω) args = some l) (h2 : instH (nm ρ ω) H = some h) (h3 : sp.sp f l h = some (v, h')) (h4 : bindV res v ρ = some ρ') (h5 : bindH H' h' ρ' ω = none) (hn : n.eval sp next ρ ω = R) : (Tr.call f args H res H' y n).eval sp next ρ ω = R := by
  simp only [Tr.eval, h1, h2, h3, h4, h5]; exact hn
theorem ev_pcallN (h1 : instL (nm ρ ω) args = some l) (h2 : instH (nm ρ ω) H = some h) (h3 : sp.pf f l h = some v) (h4 : bindV res v ρ = none) (hn : n.eval sp next ρ ω = R) : (Tr.pcall f args H res y n).eval sp next ρ ω = R := by
  simp only [Tr.eval, h1, h2, h3, h4]; exact hn
theorem ev_hop (h1 : instL (nm ρ ω) args = some l) (h2 : instH (nm ρ ω) H = some h) (h3 : opH key l h = some (v, h')) (h4 : bindV res v ρ = some ρ') (h5 : bindH H' h' ρ' ω = some (ρ'', ω')) (hy : y.eval sp next ρ'' ω' = R) : (Tr.hop key args H res H' y n).eval sp next ρ ω = R := by
  simp only [Tr.eval, h1, h2, h3, h4, h5]; exact hy
theorem ev_phop (h1 : instL (nm ρ ω) args = some l) (h2 : instH (nm ρ ω) H = some h) (h3 : opP key l h = some v) (h4 : bindV res v ρ = some ρ') (hy : y.eval sp next ρ' ω = R) : (Tr.phop key args H res y n).eval sp next ρ ω = R := by
  simp only [Tr.eval, h1, h2, h3, h4]; exact hy
theorem ev_phopN (h1 : instL (nm ρ ω) args = some l) (h2 : instH (nm ρ ω) H = some h) (h3 : opP key l h = some v) (h4 : bindV res v ρ = none) (hn : n.eval sp next ρ ω = R) : (Tr.phop key args H res y n).eval sp next ρ ω = R := by
  simp only [Tr.eval, h1, h2, h3, h4]; exact hn
end

/-! ### Contracts that turn memory -/
open Classical in
noncomputable def knownM {α : Type} (fit : α → Prop) (enc : α → List AV) (encH : α → Heap) (g : α → AV × Heap) : Spec := fun a H =>
  if h : ∃ d, fit d ∧ enc d = a ∧ encH d = H then some (g (Classical.choose h)) else none
theorem knownM_at {α : Type} {fit : α → Prop} {enc : α → List AV} {encH : α → Heap} {g : α → AV × Heap} (inj : ∀ d e, enc d = enc e → encH d = encH e → d = e) {d : α} (hd : fit d) : knownM fit enc encH g (enc d) (encH d) = some (g d) := by
  unfold knownM
  have h : ∃ e, fit e ∧ enc e = enc d ∧ encH e = encH d := ⟨d, hd, rfl, rfl⟩
  rw [dif_pos h]
  have hs := Classical.choose_spec h
  rw [inj _ _ hs.2.1 hs.2.2]
theorem knownM_spec {P : Program} {α : Type} {fit : α → Prop} {enc : α → List AV} {encH : α → Heap} {g : α → AV × Heap} {f : FuncId} (h : ∀ d, fit d → ∃ s, SpecB P f s ∧ s (enc d) (encH d) = some (g d)) : SpecB P f (knownM fit enc encH g) := by
  intro a H r H' he
  unfold knownM at he
  split at he
  · rename_i hh
    obtain ⟨h1, h2, h3⟩ := Classical.choose_spec hh
    obtain ⟨s, hs, hn⟩ := h _ h1
    rw [h2, h3] at hn
    rw [Option.some.injEq] at he
    rw [he] at hn
    exact hs _ _ _ _ hn
  · cases he
end Go.Proofs.BoatV
