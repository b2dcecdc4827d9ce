/- The contract of Decimal, at numbers that are not negative. -/
import Derived.Test.YthfdbllpofiabaaDoorS3
import Derived.Test.YthfdbllpofiabaaDoorV28
namespace Go.Proofs.BoatV
open Go
set_option linter.unusedVariables false
theorem op_rem10 (n : Nat) (h : n < 18446744073709551616) : opK (.bin .rem) [.int .u64 (n : Int), .int .u64 10] = some (.int .u64 ((n % 10 : Nat) : Int)) := by
  have : ((n : Int).tmod 10) = ((n % 10 : Nat) : Int) := by rw [Int.tmod_eq_emod_of_nonneg (by omega)]; rfl
  simp [opK, intK, this]
  try (rw [IntKind.wrap_u64]; omega)
theorem op_quo10 (n : Nat) (h : n < 18446744073709551616) : opK (.bin .quo) [.int .u64 (n : Int), .int .u64 10] = some (.int .u64 ((n / 10 : Nat) : Int)) := by
  have : ((n : Int).tdiv 10) = ((n / 10 : Nat) : Int) := by rw [Int.tdiv_eq_ediv_of_nonneg (by omega)]; rfl
  simp [opK, intK, this]
  try (rw [IntKind.wrap_u64]; omega)
theorem op_add48 (n : Nat) (h : n < 10) : opK (.bin .add) [.int .u64 48, .int .u64 (n : Int)] = some (.int .u64 ((48 + n : Nat) : Int)) := by
  simp [opK, intK]
  rw [IntKind.wrap_u64]; omega
theorem op_cu8 (n : Nat) (h : n < 10) : opK (.conv .u8) [.int .u64 ((48 + n : Nat) : Int)] = some (.int .u8 ((dig n).toNat : Int)) := by
  have e : (dig n).toNat = 48 + n := by
    unfold dig
    rw [UInt8.toNat_ofNat']
    omega
  rw [e]
  simp [opK]
  rw [IntKind.wrap_u8]; omega
theorem dig_mod (n : Nat) : dig (n % 10) = dig n := by unfold dig; rw [Nat.mod_mod]
def cellsB (out : Str) : List AV := out.map fun b => .int .u8 b.toNat
theorem bytes_cells : ∀ out : Str, bytesOfCells (cellsB out) = some out
  | [] => rfl
  | b :: r => by
    have ih := bytes_cells r
    simp only [cellsB, List.map_cons] at ih ⊢
    have : (b.toNat : Int) < 256 := by have := b.toNat_lt; omega
    simp [bytesOfCells, ih, this]
theorem allOne_cells : ∀ out : Str, allOne (cellsB out) = true
  | [] => rfl
  | b :: r => by
    have ih := allOne_cells r
    simp only [cellsB, List.map_cons] at ih ⊢
    simp [allOne, AV.one, ih]
theorem cellsB_length (out : Str) : (cellsB out).length = out.length := by simp [cellsB]
theorem clB (out : Str) : ClO (.row (cellsB out)) := ClO.row (closedL_map (fun _ => rfl) out)
theorem op_prepend (d : UInt8) (out : Str) (cap : Option Nat) (h0 : out ≠ []) (hl : out.length ≤ 1000) :
    opH (.app 1 1) [.sl 0 0 1 1 (some 1), .sl 1 0 out.length 1 cap] [.row [.int .u8 d.toNat], .row (cellsB out)] = some (.sl 2 0 (1 + out.length) 1 none, [.row [.int .u8 d.toNat], .row (cellsB out), .row (cellsB (d :: out))]) := by
  have h1 : out.length ≠ 0 := fun e => h0 (List.length_eq_zero_iff.1 e)
  have e : List.take out.length (cellsB out) = cellsB out := by rw [← cellsB_length out]; exact List.take_length
  have h2 : ¬ (1 + out.length ≤ 1) := by omega
  have h3 : (1 + out.length) ≤ 140737488355328 := by omega
  simp [opH, srcK, rowAt, cellsB_length, e, allOne_cells, h1, h2, h3, grownA]
  rfl

theorem dec_go (x : Int) (hx : 0 ≤ x) : ∀ (f n : Nat) (out : Str) (cap : Option Nat), n < 10 ^ f → n < 18446744073709551616 → out ≠ [] → out.length + f ≤ 40 →
    F12.next spA (f + 1) 1 [.int .i64 x, .int .u64 (n : Int), .sl 0 0 out.length 1 cap] [.row (cellsB out)] = some (.str (decG f n out), []) := by
  intro f
  induction f with
  | zero =>
    intro n out cap hn hn2 h0 hl
    have hn0 : n = 0 := by simpa using hn
    subst hn0
    refine next_succ rfl ?_
    refine ev_no rfl (op_gtr (by simp)) ?_
    refine ev_ask rfl rfl rfl ?_
    have h1 : out.length ≠ 0 := fun e => h0 (List.length_eq_zero_iff.1 e)
    refine ev_no rfl (op_eql (by simp; exact h0)) ?_
    refine ev_no rfl (op_lss (by simp; omega)) ?_
    refine ev_phop rfl (ih_hid (clB out) rfl rfl) (v := .str out) ?_ rfl ?_
    · have e : List.take out.length (cellsB out) = cellsB out := by rw [← cellsB_length out]; exact List.take_length
      show opP .toS [.sl 0 0 out.length 1 cap] [.row (cellsB out)] = some (.str out)
      simp [opP, HKey.quiet, opH, rowAt, cellsB_length, e, bytes_cells]
    · exact ev_ret rfl rfl
  | succ f ih =>
    intro n out cap hn hn2 h0 hl
    refine next_succ rfl ?_
    refine ev_ite rfl rfl (fun h => ?_) (fun h => ?_)
    · have hn0 : n ≠ 0 := by simp at h; omega
      refine ev_ask rfl (op_rem10 n hn2) rfl ?_
      refine ev_ask rfl (op_add48 _ (Nat.mod_lt _ (by omega))) rfl ?_
      refine ev_ask rfl (op_cu8 _ (Nat.mod_lt _ (by omega))) rfl ?_
      refine ev_hop rfl (ih_row rfl (ih_hid (clB out) rfl rfl)) (op_prepend (dig (n % 10)) out cap h0 (by omega)) rfl (bh_row rfl (bh_hid (clB out) rfl (bh_hid (clB _) rfl rfl))) ?_
      refine ev_ask rfl (op_quo10 n hn2) rfl ?_
      refine ev_goto rfl (ih_hid (clB _) rfl rfl) ?_
      have e1 : 1 + out.length = (dig (n % 10) :: out).length := by simp; omega
      have e2 : decG (f + 1) n out = decG f (n / 10) (dig n :: out) := by simp [decG, hn0]
      rw [e2, ← dig_mod n, e1]
      exact ih (n / 10) (dig (n % 10) :: out) none (by rw [Nat.pow_succ] at hn; omega) (by omega) (by simp) (by simp; omega)
    · have hn0 : n = 0 := by simp at h; omega
      subst hn0
      refine ev_ask rfl rfl rfl ?_
      have h1 : out.length ≠ 0 := fun e => h0 (List.length_eq_zero_iff.1 e)
      refine ev_no rfl (op_eql (by simp; exact h0)) ?_
      refine ev_no rfl (op_lss (by simp; omega)) ?_
      refine ev_phop rfl (ih_hid (clB out) rfl rfl) (v := .str out) ?_ rfl ?_
      · have e : List.take out.length (cellsB out) = cellsB out := by rw [← cellsB_length out]; exact List.take_length
        show opP .toS [.sl 0 0 out.length 1 cap] [.row (cellsB out)] = some (.str out)
        simp [opP, HKey.quiet, opH, rowAt, cellsB_length, e, bytes_cells]
      · have e2 : decG (f + 1) 0 out = out := by simp [decG]
        rw [e2]
        exact ev_ret rfl rfl
def fitD (x : Int) : Prop := 0 ≤ x ∧ x ≤ 9223372036854775807
noncomputable def g12 := known fitD e1 fun x => .str (decN x.toNat)
theorem at12 (n : Nat) (h : n ≤ 9223372036854775807) : g12 [.int .i64 (n : Int)] [] = some (.str (decN n)) := by
  have := known_at (g := fun x : Int => AV.str (decN x.toNat)) e1_inj (d := (n : Int)) (fit := fitD) ⟨by omega, by omega⟩
  exact this
theorem k12 : SpecB Tryd.prog 12 (pure1 g12) := known_spec (F := F12) (fun n => F12_spec spA_ok n) fun x hx => ⟨22, by
  obtain ⟨h0, h1⟩ := hx
  obtain ⟨n, rfl⟩ := Int.eq_ofNat_of_zero_le h0
  have hn2 : n < 18446744073709551616 := by omega
  refine spec_of rfl rfl ?_
  refine ev_ask rfl (v := .int .u64 (n : Int)) (by simp [opK]; rw [IntKind.wrap_u64]; omega) rfl ?_
  refine ev_no rfl (op_lss (by simp)) ?_
  refine ev_goto rfl rfl ?_
  refine next_succ rfl ?_
  have main : F12.next spA 21 1 [.int .i64 (n : Int), .int .u64 ((n / 10 : Nat) : Int), .sl 0 0 1 1 (some 1)] [.row [.int .u8 ((dig (n % 10)).toNat : Int)]] = some (.str (decN n), []) := by
    have := dec_go (n : Int) h0 20 (n / 10) [dig (n % 10)] (some 1) (by omega) (by omega) (by simp) (by simp)
    rw [dig_mod] at this ⊢
    exact this
  refine ev_ite rfl rfl (fun h => ?_) (fun h => ?_)
  · refine ev_ask rfl (op_rem10 n hn2) rfl ?_
    refine ev_ask rfl (op_add48 _ (Nat.mod_lt _ (by omega))) rfl ?_
    refine ev_ask rfl (op_cu8 _ (Nat.mod_lt _ (by omega))) rfl ?_
    refine ev_ask rfl (op_quo10 n hn2) rfl ?_
    exact ev_goto rfl rfl main
  · refine ev_ask rfl (op_rem10 n hn2) rfl ?_
    refine ev_ask rfl (op_add48 _ (Nat.mod_lt _ (by omega))) rfl ?_
    refine ev_ask rfl (op_cu8 _ (Nat.mod_lt _ (by omega))) rfl ?_
    refine ev_ask rfl (op_quo10 n hn2) rfl ?_
    exact ev_goto rfl rfl main⟩
end Go.Proofs.BoatV
