/- A function reckoned at named values: what it answers at the values named. -/
import Derived.Test.YthfdbllpofiabaaDoorV25
namespace Go.Proofs.BoatV
open Go
set_option linter.unusedVariables false
variable {P : Program}

theorem specB_named {T : Tab} {ρ : List AV} {cf : CallF} {f : FuncId} {args l : List AV} {r : AV} (hT : ∀ on, TabOK P (names on ρ []) T) (hcf : ∀ L : Env, TabOK P L T → CallOK P L cf) (h : cf f args [] = some (r, [])) (hr : r.inst (nm ρ []) = some r) (hi : instL (nm ρ []) args = some l) : SpecB P f (memo l r) := by
  intro a H r' H' hm on w β vs hS hR
  unfold memo at hm
  split at hm
  · rename_i hb
    have := beqL_eq _ _ hb
    subst this
    simp only [Option.some.injEq, Prod.mk.injEq] at hm
    obtain ⟨rfl, rfl⟩ := hm
    have hi' : instL (names on ρ []) args = some a := by rw [instL_nm]; exact hi
    obtain ⟨c1, c2⟩ := hcf (names on ρ []) (hT on) f args [] _ [] h w β vs ((Sim.iff_inst rfl).2 hS) (Reps.name hi' hR)
    refine ⟨c1, c2.mono fun e w' => ?_⟩
    rintro ⟨v, βn, D, rfl, s1, s2, s3, s4⟩
    have eD : r.inst D = some r := by rw [inst_on (L' := nm ρ []) s4.hv]; exact hr
    obtain ⟨b, k1, k2⟩ := s2.inst
    rw [eD] at k1; cases k1
    exact ⟨v, βn, D.bare, rfl, (Sim.iff_inst rfl).1 s1, k2, s3, rfl, rfl, s4.on, s4.keep⟩
  · simp at hm

/-- One operation is known. -/
theorem tab1_ok {ρ : List AV} {e : TE} {args : List AV} {r : AV} (h1 : instL (nm ρ []) e.args = some args) (h2 : e.res.inst (nm ρ []) = some r) (h3 : opK e.key args = some r) (on : Nat → Prop) : e.ok (names on ρ []) :=
  ⟨args, r, by rw [instL_nm]; exact h1, by rw [inst_nm]; exact h2, h3⟩
def andC (a c : Int) : Int := IntKind.i64.wrap (BitVec.ofInt IntKind.i64.bits a &&& BitVec.ofInt IntKind.i64.bits c).toNat
theorem op_andC (a c : Int) : opK (.bin .and) [.int .i64 a, .int .i64 c] = some (.int .i64 (andC a c)) := rfl
theorem andC_le (a : Int) (m : Nat) (hm : m < 9223372036854775808) : 0 ≤ andC a m ∧ andC a m ≤ m := by
  have h : (BitVec.ofInt 64 a &&& BitVec.ofInt 64 m).toNat ≤ m := by
    rw [BitVec.toNat_and]
    refine Nat.le_trans Nat.and_le_right ?_
    rw [BitVec.toNat_ofInt]
    omega
  unfold andC
  show 0 ≤ IntKind.i64.wrap ((BitVec.ofInt 64 a &&& BitVec.ofInt 64 m).toNat : Int) ∧ IntKind.i64.wrap ((BitVec.ofInt 64 a &&& BitVec.ofInt 64 m).toNat : Int) ≤ m
  generalize (BitVec.ofInt 64 a &&& BitVec.ofInt 64 m).toNat = n at h ⊢
  rw [IntKind.wrap_i64]
  omega
end Go.Proofs.BoatV
