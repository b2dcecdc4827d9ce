/- StoreCopies: four cases, reckoned. -/
import Derived.Test.YthfdbllpofiabaaDoorV26
import Derived.Test.YthfdbllpofiabaaDoorS0
namespace Go.Proofs.BoatV
open Go Go.Proofs
set_option maxRecDepth 100000
def tabC (c : Int) : Tab := ⟨[⟨.bin .and, [.hid 0 true [], .int .i64 3], .int .i64 c⟩], [], []⟩
theorem copies0 : full Tryd.prog (tabC 0) okS ext2 40 9 [.hid 0 true []] [] = some (.bool true, []) := by kernel_rfl
theorem copies1 : full Tryd.prog (tabC 1) okS ext2 40 9 [.hid 0 true []] [] = some (.bool true, []) := by kernel_rfl
theorem copies2 : full Tryd.prog (tabC 2) okS ext2 40 9 [.hid 0 true []] [] = some (.bool true, []) := by kernel_rfl
theorem copies3 : full Tryd.prog (tabC 3) okS ext2 40 9 [.hid 0 true []] [] = some (.bool true, []) := by kernel_rfl
theorem tabC_ok {c a : Int} (h : andC a 3 = c) (on : Nat → Prop) : TabOK Tryd.prog (names on [.int .i64 a] []) (tabC c) :=
  ⟨⟨fun e he => by
    obtain rfl : e = _ := List.mem_singleton.1 he
    exact tab1_ok rfl rfl (by rw [← h]; rfl) on, fun e he => by simp [tabC] at he⟩, fun e he => by simp [tabC] at he⟩
theorem copies_spec (a : Int) : SpecB Tryd.prog 9 (memo [.int .i64 a] (.bool true)) := by
  obtain ⟨h0, h1⟩ := andC_le a 3 (by omega)
  have go : ∀ c, andC a 3 = c → full Tryd.prog (tabC c) okS ext2 40 9 [.hid 0 true []] [] = some (.bool true, []) → SpecB Tryd.prog 9 (memo [.int .i64 a] (.bool true)) := fun c hc h =>
    specB_named (fun on => tabC_ok hc on) (fun L hT => full_ok mixedS hT ext2_ok okS_enters 40) h rfl rfl
  have : andC a 3 = 0 ∨ andC a 3 = 1 ∨ andC a 3 = 2 ∨ andC a 3 = 3 := by
    have h1' : andC a 3 ≤ 3 := h1
    have h0' : 0 ≤ andC a 3 := h0
    omega
  rcases this with h | h | h | h
  · exact go _ h copies0
  · exact go _ h copies1
  · exact go _ h copies2
  · exact go _ h copies3
theorem copies_true (a : Int) : ∃ H, memo [.int .i64 a] (.bool true) [.int .i64 a] [] = some (.bool true, H) := by
  refine ⟨[], ?_⟩
  have : beqL [AV.int .i64 a] [AV.int .i64 a] = true := by simp [beqL, AV.beq]
  simp only [memo, this]
end Go.Proofs.BoatV
