/- SnapshotTimes: the plain law: it answers true. -/
import Derived.Test.YtijaopmlldhbbaaGreatDoorFT9
import Derived.Test.YtijaopmlldhbbaaGreatDoorV22
namespace Go.Proofs.BoatV
open Go Go.Proofs
set_option linter.unusedVariables false
def and63 (a : Int) : Int := IntKind.i64.wrap (BitVec.ofInt IntKind.i64.bits a &&& BitVec.ofInt IntKind.i64.bits 63).toNat
theorem and63_le (a : Int) : 0 ≤ and63 a ∧ and63 a ≤ 63 := by
  have h : (BitVec.ofInt 64 a &&& BitVec.ofInt 64 63).toNat ≤ 63 := by
    rw [BitVec.toNat_and]
    exact Nat.le_trans Nat.and_le_right (by decide)
  unfold and63
  show 0 ≤ IntKind.i64.wrap ((BitVec.ofInt 64 a &&& BitVec.ofInt 64 63).toNat : Int) ∧ IntKind.i64.wrap ((BitVec.ofInt 64 a &&& BitVec.ofInt 64 63).toNat : Int) ≤ 63
  generalize (BitVec.ofInt 64 a &&& BitVec.ofInt 64 63).toNat = n at h ⊢
  rw [IntKind.wrap_i64]
  omega
theorem op_and63 (a : Int) : opK (.bin .and) [.int .i64 a, .int .i64 63] = some (.int .i64 (and63 a)) := rfl
theorem op_lss {k : IntKind} {a b : Int} {r : Bool} (h : decide (a < b) = r) : opK (.bin .lss) [.int k a, .int k b] = some (.bool r) := by subst h; simp [opK, intK]
theorem op_geq {k : IntKind} {a b : Int} {r : Bool} (h : decide (a ≥ b) = r) : opK (.bin .geq) [.int k a, .int k b] = some (.bool r) := by subst h; simp [opK, intK]
theorem op_gtr {k : IntKind} {a b : Int} {r : Bool} (h : decide (a > b) = r) : opK (.bin .gtr) [.int k a, .int k b] = some (.bool r) := by subst h; simp [opK, intK]
theorem op_eql {k : IntKind} {a b : Int} {r : Bool} (h : (a == b) = r) : opK (.bin .eql) [.int k a, .int k b] = some (.bool r) := by subst h; simp [opK, intK]
theorem op_neq {k : IntKind} {a b : Int} {r : Bool} (h : (a != b) = r) : opK (.bin .neq) [.int k a, .int k b] = some (.bool r) := by subst h; simp [opK, intK]
variable {sp : Sps} {next : Nat → List AV → List AO → Option (AV × Heap)} {ρ ρ' : List AV} {ω : List AO} {key : Key} {args l : List AV} {y n : Tr} {R : Option (AV × Heap)}
theorem ev_yes (h1 : instL (nm ρ ω) args = some l) (h2 : opK key l = some (.bool true)) (hy : y.eval sp next ρ ω = R) : (Tr.ite key args y n).eval sp next ρ ω = R := ev_ite h1 h2 (fun _ => hy) (fun h => by cases h)
theorem ev_no (h1 : instL (nm ρ ω) args = some l) (h2 : opK key l = some (.bool false)) (hn : n.eval sp next ρ ω = R) : (Tr.ite key args y n).eval sp next ρ ω = R := ev_ite h1 h2 (fun h => by cases h) (fun _ => hn)

theorem times_go (zs : List Int) : ∀ (m i : Nat) (v t : Int), zs.length - i ≤ m → i ≤ zs.length → i ≤ 30 → 0 ≤ v → v ≤ i → 0 ≤ t → t ≤ 63 →
    F9.next sp0 (m + 1) 0 [.im (zs.map fun z => [.int .i64 z]) 1, .int .i64 i, .int .i64 v, .int .i64 t] [] = some (.bool true, []) := by
  intro m
  induction m with
  | zero =>
    intro i v t h1 h2 h3 hv0 hv ht0 ht
    obtain rfl : i = zs.length := by omega
    refine next_succ rfl ?_
    refine ev_ask rfl rfl rfl ?_
    refine ev_no rfl (op_lss (by simp)) ?_
    refine ev_no rfl (op_eql (by simp; omega)) ?_
    refine ev_no rfl (op_lss (by simp; omega)) ?_
    refine ev_no rfl (op_gtr (by simp; omega)) ?_
    refine ev_no rfl (op_lss (by simp; omega)) ?_
    refine ev_no rfl (op_eql (by simp; omega)) ?_
    refine ev_no rfl (op_lss (by simp; omega)) ?_
    refine ev_ask rfl rfl rfl ?_
    exact ev_ret rfl rfl
  | succ m ih =>
    intro i v t h1 h2 h3 hv0 hv ht0 ht
    refine next_succ rfl ?_
    refine ev_ask rfl rfl rfl ?_
    refine ev_ite rfl rfl (fun h => ?_) (fun h => ?_)
    · have hi : i < zs.length := by simp at h; omega
      refine ev_ite rfl rfl (fun h30 => ?_) (fun h30 => ?_)
      · have h30' : i < 30 := by simp at h30; omega
        have hg : (zs.map fun z => [AV.int .i64 z])[i]? = some [.int .i64 zs[i]] := by simp [hi]
        generalize zs[i] = z at hg
        refine ev_ask rfl (op_idx hg rfl) rfl ?_
        refine ev_ask rfl (op_and63 z) rfl ?_
        obtain ⟨a0, a1⟩ := and63_le z
        generalize and63 z = a at a0 a1 ⊢
        have wi : IntKind.i64.wrap ((i : Int) + 1) = ((i + 1 : Nat) : Int) := by rw [IntKind.wrap_i64]; omega
        have wv : IntKind.i64.wrap (v + 1) = v + 1 := by rw [IntKind.wrap_i64]; omega
        refine ev_no rfl (op_eql (by simp; omega)) ?_
        refine ev_no rfl (op_lss (by simp; omega)) ?_
        refine ev_no rfl (op_gtr (by simp; omega)) ?_
        refine ev_no rfl (op_lss (by simp; omega)) ?_
        refine ev_no rfl (op_eql (by simp; omega)) ?_
        refine ev_ite rfl rfl (fun hb => ?_) (fun hb => ?_)
        · have hb' : a < t := by simpa using hb
          refine ev_ask rfl (op_geq (r := false) (by simp; omega)) rfl ?_
          refine ev_ask rfl rfl rfl ?_
          refine ev_goto rfl rfl ?_
          rw [wi]
          exact ih (i + 1) v t (by omega) (by omega) (by omega) hv0 (by omega) ht0 ht
        · have hb' : ¬ a < t := by simpa using hb
          refine ev_ask rfl rfl rfl ?_
          refine ev_yes rfl (op_geq (by simp; omega)) ?_
          refine ev_yes rfl (op_eql (by simp)) ?_
          refine ev_ask rfl (op_geq (r := true) (by simp; omega)) rfl ?_
          refine ev_no rfl (op_neq (by simp)) ?_
          refine ev_ask rfl (op_neq (r := false) (by simp)) rfl ?_
          refine ev_ask rfl rfl rfl ?_
          refine ev_goto rfl rfl ?_
          rw [wi, wv]
          exact ih (i + 1) (v + 1) a (by omega) (by omega) (by omega) (by omega) (by omega) a0 a1
      · refine ev_no rfl (op_eql (by simp; omega)) ?_
        refine ev_no rfl (op_lss (by simp; omega)) ?_
        refine ev_no rfl (op_gtr (by simp; omega)) ?_
        refine ev_no rfl (op_lss (by simp; omega)) ?_
        refine ev_no rfl (op_eql (by simp; omega)) ?_
        refine ev_no rfl (op_lss (by simp; omega)) ?_
        refine ev_ask rfl rfl rfl ?_
        exact ev_ret rfl rfl
    · refine ev_no rfl (op_eql (by simp; omega)) ?_
      refine ev_no rfl (op_lss (by simp; omega)) ?_
      refine ev_no rfl (op_gtr (by simp; omega)) ?_
      refine ev_no rfl (op_lss (by simp; omega)) ?_
      refine ev_no rfl (op_eql (by simp; omega)) ?_
      refine ev_no rfl (op_lss (by simp; omega)) ?_
      refine ev_ask rfl rfl rfl ?_
      exact ev_ret rfl rfl

theorem times_true (zs : List Int) : ∃ H, F9.spec sp0 (zs.length + 1) [.im (zs.map fun z => [.int .i64 z]) 1] [] = some (.bool true, H) := by
  refine ⟨[], ?_⟩
  refine spec_of rfl rfl ?_
  refine ev_goto rfl rfl ?_
  exact times_go zs zs.length 0 0 0 (by omega) (by omega) (by omega) (by omega) (by omega) (by omega) (by omega)

/-- A slice of numbers. -/
theorem ok_ints {a : AV} (h : OkAV (.sl 1 [.int .i64]) a) : ∃ zs : List Int, a = .im (zs.map fun z => [.int .i64 z]) 1 := by
  cases h with
  | sl _ _ rows hl hn hr =>
    have : ∀ rows : List (List AV), (∀ (j : Nat) (row : List AV), rows[j]? = some row → row.length = 1) → (∀ (j : Nat) (row : List AV), rows[j]? = some row → ∀ (k : Nat) (s : Sh) (a : AV), [Sh.int .i64][k]? = some s → row[k]? = some a → OkAV s a) → ∃ zs : List Int, rows = zs.map fun z => [AV.int .i64 z] := by
      intro rows
      induction rows with
      | nil => intro _ _; exact ⟨[], rfl⟩
      | cons r rs ih =>
        intro h1 h2
        obtain ⟨zs, rfl⟩ := ih (fun j row h => h1 (j + 1) row (by simpa using h)) (fun j row h => h2 (j + 1) row (by simpa using h))
        have h3 := h1 0 r rfl
        match r, h3 with
        | [x], _ =>
          have := h2 0 [x] rfl 0 _ x rfl rfl
          cases this with
          | int _ z hz => exact ⟨z :: zs, rfl⟩
    obtain ⟨zs, rfl⟩ := this rows hn hr
    exact ⟨zs, rfl⟩
end Go.Proofs.BoatV
