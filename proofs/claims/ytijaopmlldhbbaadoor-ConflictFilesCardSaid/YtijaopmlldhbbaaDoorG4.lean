/- ConflictFiles: what is known of the kind and of the value asked for, in classes. -/
import Derived.Test.YtijaopmlldhbbaaDoorF1
namespace Go.Proofs.BoatE
open Go Go.Proofs
/-- a: x < 10, b: 10 < x, c: x < 20, d: 20 < x. -/
def fsX (k : Nat) (a b c d : Bool) : List HF := [⟨.rem, .u64, .tag 0, .num 4, .num k⟩, ⟨.and, .i64, .tag 1, .num 31, .tag 2⟩, ⟨.lss, .i64, .tag 2, .num 10, .bool a⟩, ⟨.lss, .i64, .num 10, .tag 2, .bool b⟩, ⟨.lss, .i64, .tag 2, .num 20, .bool c⟩, ⟨.lss, .i64, .num 20, .tag 2, .bool d⟩, ⟨.geq, .i64, .tag 2, .num 10, .bool !a⟩, ⟨.leq, .i64, .tag 2, .num 20, .bool !d⟩]
noncomputable def file4 (k : Nat) (a b c d : Bool) (m : Bool) : Bool := isTrue (full Tryd.prog okE ext2 30 4 [.hid .i64 0 (fsX k a b c d), .hid .i64 1 (fsX k a b c d), .bool m] [])
end Go.Proofs.BoatE
