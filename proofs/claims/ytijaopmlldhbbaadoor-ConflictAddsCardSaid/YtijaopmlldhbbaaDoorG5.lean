/- ConflictAdds: what is known of the kind, of the value asked for and of the file's values, in classes. -/
import Derived.Test.YtijaopmlldhbbaaDoorF1
namespace Go.Proofs.BoatE
open Go Go.Proofs
/-- Names: 0 kind, 1 v, 2 lo, 3 rows, 4 x, 5 y, 6 y + 3. a: x < y, b: y < x, c: x < y + 3, d: y + 3 < x. -/
def fsA (k r : Nat) (a b c d : Bool) : List HF := [⟨.rem, .u64, .tag 0, .num 5, .num k⟩, ⟨.and, .i64, .tag 1, .num 31, .tag 4⟩, ⟨.and, .i64, .tag 2, .num 31, .tag 5⟩, ⟨.and, .i64, .tag 3, .num 1, .num r⟩, ⟨.add, .i64, .tag 5, .num 3, .tag 6⟩,
  ⟨.lss, .i64, .tag 4, .tag 5, .bool a⟩, ⟨.lss, .i64, .tag 5, .tag 4, .bool b⟩, ⟨.lss, .i64, .tag 4, .tag 6, .bool c⟩, ⟨.lss, .i64, .tag 6, .tag 4, .bool d⟩, ⟨.geq, .i64, .tag 4, .tag 5, .bool !a⟩, ⟨.leq, .i64, .tag 4, .tag 6, .bool !d⟩]
noncomputable def add5 (k r : Nat) (a b c d : Bool) : Bool := isTrue (full Tryd.prog okE ext2 30 5 [.hid .i64 0 (fsA k r a b c d), .hid .i64 1 (fsA k r a b c d), .hid .i64 2 (fsA k r a b c d), .hid .i64 3 (fsA k r a b c d)] [])
end Go.Proofs.BoatE
