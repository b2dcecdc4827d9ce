/- What came in, of plain kinds. -/
import Derived.Test.YthfdbllpofiabaaDoorV26
namespace Go.Proofs.BoatV
open Go
theorem ok_int {a : AV} (h : OkAV (.int .i64) a) : ∃ n : Int, (Lit.int .i64 n).wf = true ∧ a = .int .i64 n := by
  cases h with
  | int _ n hw => exact ⟨n, hw, rfl⟩
theorem ok_str {a : AV} (h : OkAV .str a) : ∃ s : List UInt8, s.length ≤ maxLen ∧ a = .str s := by
  cases h with
  | str s hw => exact ⟨s, hw, rfl⟩
/-- A slice of numbers. -/
theorem ok_ints {a : AV} (h : OkAV (.sl 1 [.int .i64]) a) : ∃ zs : List Int, (zs.length ≤ maxLen ∧ ∀ z ∈ zs, (Lit.int .i64 z).wf = true) ∧ a = .im (zs.map fun z => [.int .i64 z]) 1 := by
  cases h with
  | sl _ _ rows hl hn hr =>
    have : ∀ rows : List (List AV), (∀ (j : Nat) (row : List AV), rows[j]? = some row → row.length = 1) → (∀ (j : Nat) (row : List AV), rows[j]? = some row → ∀ (k : Nat) (s : Sh) (a : AV), [Sh.int .i64][k]? = some s → row[k]? = some a → OkAV s a) → ∃ zs : List Int, (∀ z ∈ zs, (Lit.int .i64 z).wf = true) ∧ rows = zs.map fun z => [AV.int .i64 z] := by
      intro rows
      induction rows with
      | nil => intro _ _; exact ⟨[], by simp, rfl⟩
      | cons r rs ih =>
        intro h1 h2
        obtain ⟨zs, hz, rfl⟩ := ih (fun j row h => h1 (j + 1) row (by simpa using h)) (fun j row h => h2 (j + 1) row (by simpa using h))
        have h3 := h1 0 r rfl
        match r, h3 with
        | [x], _ =>
          have := h2 0 [x] rfl 0 _ x rfl rfl
          cases this with
          | int _ z hw => exact ⟨z :: zs, by simpa using ⟨hw, hz⟩, rfl⟩
    obtain ⟨zs, hz, rfl⟩ := this rows hn hr
    exact ⟨zs, ⟨by simpa using hl, hz⟩, rfl⟩
/-- A slice of texts. -/
theorem ok_strs {a : AV} (h : OkAV (.sl 1 [.str]) a) : ∃ zs : List (List UInt8), (zs.length ≤ maxLen ∧ ∀ z ∈ zs, z.length ≤ maxLen) ∧ a = .im (zs.map fun z => [.str z]) 1 := by
  cases h with
  | sl _ _ rows hl hn hr =>
    have : ∀ rows : List (List AV), (∀ (j : Nat) (row : List AV), rows[j]? = some row → row.length = 1) → (∀ (j : Nat) (row : List AV), rows[j]? = some row → ∀ (k : Nat) (s : Sh) (a : AV), [Sh.str][k]? = some s → row[k]? = some a → OkAV s a) → ∃ zs : List (List UInt8), (∀ z ∈ zs, z.length ≤ maxLen) ∧ rows = zs.map fun z => [AV.str z] := by
      intro rows
      induction rows with
      | nil => intro _ _; exact ⟨[], by simp, rfl⟩
      | cons r rs ih =>
        intro h1 h2
        obtain ⟨zs, hz, rfl⟩ := ih (fun j row h => h1 (j + 1) row (by simpa using h)) (fun j row h => h2 (j + 1) row (by simpa using h))
        have h3 := h1 0 r rfl
        match r, h3 with
        | [x], _ =>
          have := h2 0 [x] rfl 0 _ x rfl rfl
          cases this with
          | str z hw => exact ⟨z :: zs, by simpa using ⟨hw, hz⟩, rfl⟩
    obtain ⟨zs, hz, rfl⟩ := this rows hn hr
    exact ⟨zs, ⟨by simpa using hl, hz⟩, rfl⟩
end Go.Proofs.BoatV
