/- ConflictSchemas at each kind and either spec: the evaluator's answers. -/
import Derived.Test.YtijaopmlldhbbaaDoorF1
namespace Go.Proofs.BoatE
open Go Go.Proofs
set_option maxRecDepth 100000
theorem sch0t : isTrue (full Tryd.prog okE ext2 30 6 [.hid .i64 [⟨.rem, .u64, false, 9, false, 0⟩], .bool true] []) = true := by kernel_rfl
theorem sch0f : isTrue (full Tryd.prog okE ext2 30 6 [.hid .i64 [⟨.rem, .u64, false, 9, false, 0⟩], .bool false] []) = true := by kernel_rfl
theorem sch1t : isTrue (full Tryd.prog okE ext2 30 6 [.hid .i64 [⟨.rem, .u64, false, 9, false, 1⟩], .bool true] []) = true := by kernel_rfl
theorem sch1f : isTrue (full Tryd.prog okE ext2 30 6 [.hid .i64 [⟨.rem, .u64, false, 9, false, 1⟩], .bool false] []) = true := by kernel_rfl
theorem sch2t : isTrue (full Tryd.prog okE ext2 30 6 [.hid .i64 [⟨.rem, .u64, false, 9, false, 2⟩], .bool true] []) = true := by kernel_rfl
theorem sch2f : isTrue (full Tryd.prog okE ext2 30 6 [.hid .i64 [⟨.rem, .u64, false, 9, false, 2⟩], .bool false] []) = true := by kernel_rfl
theorem sch3t : isTrue (full Tryd.prog okE ext2 30 6 [.hid .i64 [⟨.rem, .u64, false, 9, false, 3⟩], .bool true] []) = true := by kernel_rfl
theorem sch3f : isTrue (full Tryd.prog okE ext2 30 6 [.hid .i64 [⟨.rem, .u64, false, 9, false, 3⟩], .bool false] []) = true := by kernel_rfl
theorem sch4t : isTrue (full Tryd.prog okE ext2 30 6 [.hid .i64 [⟨.rem, .u64, false, 9, false, 4⟩], .bool true] []) = true := by kernel_rfl
theorem sch4f : isTrue (full Tryd.prog okE ext2 30 6 [.hid .i64 [⟨.rem, .u64, false, 9, false, 4⟩], .bool false] []) = true := by kernel_rfl
theorem sch5t : isTrue (full Tryd.prog okE ext2 30 6 [.hid .i64 [⟨.rem, .u64, false, 9, false, 5⟩], .bool true] []) = true := by kernel_rfl
theorem sch5f : isTrue (full Tryd.prog okE ext2 30 6 [.hid .i64 [⟨.rem, .u64, false, 9, false, 5⟩], .bool false] []) = true := by kernel_rfl
theorem sch6t : isTrue (full Tryd.prog okE ext2 30 6 [.hid .i64 [⟨.rem, .u64, false, 9, false, 6⟩], .bool true] []) = true := by kernel_rfl
theorem sch6f : isTrue (full Tryd.prog okE ext2 30 6 [.hid .i64 [⟨.rem, .u64, false, 9, false, 6⟩], .bool false] []) = true := by kernel_rfl
theorem sch7t : isTrue (full Tryd.prog okE ext2 30 6 [.hid .i64 [⟨.rem, .u64, false, 9, false, 7⟩], .bool true] []) = true := by kernel_rfl
theorem sch7f : isTrue (full Tryd.prog okE ext2 30 6 [.hid .i64 [⟨.rem, .u64, false, 9, false, 7⟩], .bool false] []) = true := by kernel_rfl
theorem sch8t : isTrue (full Tryd.prog okE ext2 30 6 [.hid .i64 [⟨.rem, .u64, false, 9, false, 8⟩], .bool true] []) = true := by kernel_rfl
theorem sch8f : isTrue (full Tryd.prog okE ext2 30 6 [.hid .i64 [⟨.rem, .u64, false, 9, false, 8⟩], .bool false] []) = true := by kernel_rfl
theorem sch (k : Nat) (hk : k < 9) (b : Bool) : isTrue (full Tryd.prog okE ext2 30 6 [.hid .i64 [⟨.rem, .u64, false, 9, false, (k : Int)⟩], .bool b] []) = true := by
  rcases k with _ | _ | _ | _ | _ | _ | _ | _ | _ | k
  · cases b; exact sch0f; exact sch0t
  · cases b; exact sch1f; exact sch1t
  · cases b; exact sch2f; exact sch2t
  · cases b; exact sch3f; exact sch3t
  · cases b; exact sch4f; exact sch4t
  · cases b; exact sch5f; exact sch5t
  · cases b; exact sch6f; exact sch6t
  · cases b; exact sch7f; exact sch7t
  · cases b; exact sch8f; exact sch8t
  · omega
end Go.Proofs.BoatE
