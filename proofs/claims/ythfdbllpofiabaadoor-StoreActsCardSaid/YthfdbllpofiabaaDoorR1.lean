/- Functions as trees (printed by Drv2.lean through mks.py); that the trees tell what they do. -/
import Derived.Test.YthfdbllpofiabaaDoorS15
namespace Go.Proofs.BoatV
open Go Go.Proofs
set_option maxRecDepth 100000
/-! boathouse/boathouseref1.Below -/
def F57t0 : Tr :=
  (.ask .lenS [(.hid 0 true [])] (.hid 3 true [])
    (.ite (.bin .lss) [(.hid 2 true []), (.hid 3 true [])]
      (.ask .lenS [(.hid 1 true [])] (.hid 4 true [])
        (.ite (.bin .lss) [(.hid 2 true []), (.hid 4 true [])]
          (.ask .idxS [(.hid 0 true []), (.hid 2 true [])] (.hid 5 true [])
            (.ask .idxS [(.hid 1 true []), (.hid 2 true [])] (.hid 6 true [])
              (.ite (.bin .neq) [(.hid 5 true []), (.hid 6 true [])]
                (.ite (.bin .lss) [(.hid 5 true []), (.hid 6 true [])]
                  (.ret (.bool true) [])
                  (.ret (.bool false) []))
                (.ask (.bin .add) [(.hid 2 true []), (.int .i64 1)] (.hid 7 true [])
                  (.goto 0 [(.hid 0 true []), (.hid 1 true []), (.hid 7 true [])] [])
                  .fail))
              .fail)
            .fail)
          (.ite (.bin .lss) [(.hid 3 true []), (.hid 4 true [])]
            (.ret (.bool true) [])
            (.ret (.bool false) [])))
        .fail)
      (.ask .lenS [(.hid 1 true [])] (.hid 4 true [])
        (.ite (.bin .lss) [(.hid 3 true []), (.hid 4 true [])]
          (.ret (.bool true) [])
          (.ret (.bool false) []))
        .fail))
    .fail)
def F57n0 : Node := ⟨[0, 1, 0, 1], [[(.hid 0 true []), (.hid 1 true []), .top, .top, .top, (.hid 2 true []), .top, .top], [.top, .top, .top, .top, .top, .top, .top, .top], [.top, .top, .top, .top, .top, .top, .top, .top], [.top, .top, .top, .top, .top, .top, .top, .top], [.top, .top, .top, .top, .top]], []⟩
def F57t : Tr :=
  (.goto 0 [(.hid 0 true []), (.hid 1 true []), (.int .i64 0)] [])
def F57 : Flow := ⟨57, [(.hid 0 true []), (.hid 1 true [])], [], F57t, [(F57n0, F57t0)]⟩
theorem F57_ok : F57.check Tryd.prog okS ext2 40 = true := by kernel_rfl
theorem F57_spec {sp : Sps} (hsp : sp.ok Tryd.prog) (n : Nat) : SpecB Tryd.prog 57 (F57.spec sp n) := flow_ok mixedS ext2_ok okS_enters hsp F57_ok rfl n
/-! boathouse/boathouseref1.KeyMay -/
def F44t0 : Tr :=
  (.ask .lenS [(.hid 0 true [])] (.hid 2 true [])
    (.ite (.bin .lss) [(.hid 1 true []), (.hid 2 true [])]
      (.ask .idxS [(.hid 0 true []), (.hid 1 true [])] (.hid 3 true [])
        (.ite (.bin .lss) [(.hid 3 true []), (.int .u8 33)]
          (.ret (.bool false) [])
          (.ite (.bin .gtr) [(.hid 3 true []), (.int .u8 126)]
            (.ret (.bool false) [])
            (.ask (.bin .add) [(.hid 1 true []), (.int .i64 1)] (.hid 4 true [])
              (.goto 0 [(.hid 0 true []), (.hid 4 true [])] [])
              .fail)))
        .fail)
      (.ret (.bool true) []))
    .fail)
def F44n0 : Node := ⟨[0, 1, 0, 1, 1], [[(.hid 0 true []), .top, .top, (.hid 1 true []), .top, .top, .top, .top], [.top, .top, .top, .top, .top, .top, .top, .top], [.top, .top, .top, .top, .top, .top, .top, .top], [.top, .top, .top, .top]], []⟩
def F44t : Tr :=
  (.ask .lenS [(.hid 0 true [])] (.hid 1 true [])
    (.ite (.bin .lss) [(.hid 1 true []), (.int .i64 1)]
      (.ret (.bool false) [])
      (.ite (.bin .gtr) [(.hid 1 true []), (.int .i64 64)]
        (.ret (.bool false) [])
        (.goto 0 [(.hid 0 true []), (.int .i64 0)] [])))
    .fail)
def F44 : Flow := ⟨44, [(.hid 0 true [])], [], F44t, [(F44n0, F44t0)]⟩
theorem F44_ok : F44.check Tryd.prog okS ext2 40 = true := by kernel_rfl
theorem F44_spec {sp : Sps} (hsp : sp.ok Tryd.prog) (n : Nat) : SpecB Tryd.prog 44 (F44.spec sp n) := flow_ok mixedS ext2_ok okS_enters hsp F44_ok rfl n
/-! (*boathouse/boathouseref1.Store).place -/
def F45ot0 : Tr :=
  (.ask .lenA [(.hid 3 false [1])] (.hid 6 true [])
    (.ite (.bin .lss) [(.hid 1 true []), (.hid 6 true [])]
      (.ask (.idxA 3) [(.hid 3 false [1]), (.hid 1 true [])] (.hid 7 false [1])
        (.ask (.fadr 0) [(.hid 7 false [1])] (.hid 8 false [1])
          (.phop (.load none) [(.hid 8 false [0])] [(.hid 0 [])] (.hid 9 true [])
            (.ite (.bin .eql) [(.hid 9 true []), (.hid 0 true [])]
              (.ret (.tup [(.hid 1 true []), (.bool true)]) [(.row [(.hid 2 true []), (.hid 3 false [1]), (.hid 4 true []), (.hid 5 true [])]), (.hid 0 [])])
              (.pite 57 [(.hid 9 true []), (.hid 0 true [])] []
                (.ask (.bin .add) [(.hid 1 true []), (.int .i64 1)] (.hid 10 true [])
                  (.goto 0 [(.hid 0 true []), (.hid 10 true []), (.hid 2 true []), (.hid 3 false [0]), (.hid 4 true []), (.hid 5 true [])] [(.hid 0 [])])
                  .fail)
                (.ret (.tup [(.hid 1 true []), (.bool false)]) [(.row [(.hid 2 true []), (.hid 3 false [1]), (.hid 4 true []), (.hid 5 true [])]), (.hid 0 [])])))
            .fail)
          .fail)
        .fail)
      (.ret (.tup [(.hid 6 true []), (.bool false)]) [(.row [(.hid 2 true []), (.hid 3 false [1]), (.hid 4 true []), (.hid 5 true [])]), (.hid 0 [])]))
    .fail)
def F45on0 : Node := ⟨[0, 1, 0, 1], [[(.ptr 0 0), (.hid 0 true []), .top, .top, .top, .top, (.hid 1 true []), .top], [.top, .top, .top, .top, .top, .top, .top, .top], [.top, .top, .top, .top, .top, .top, .top, .top], [.top, .top, .top, .top, .top, .top, .top, .top], [.top, .top, .top, .top, .top, .top, .top, .top], [.top, .top, .top, .top]], [(.row [(.hid 2 true []), (.hid 3 false [1]), (.hid 4 true []), (.hid 5 true [])]), (.hid 0 [])]⟩
def F45ot : Tr :=
  (.goto 0 [(.hid 0 true []), (.int .i64 0), (.hid 1 true []), (.hid 2 false [0]), (.hid 3 true []), (.hid 4 true [])] [(.hid 0 [])])
def F45o : Flow := ⟨45, [(.ptr 0 0), (.hid 0 true [])], [(.row [(.hid 1 true []), (.hid 2 false [1]), (.hid 3 true []), (.hid 4 true [])]), (.hid 0 [])], F45ot, [(F45on0, F45ot0)]⟩
theorem F45o_ok : F45o.check Tryd.prog okS ext2 40 = true := by kernel_rfl
theorem F45o_spec {sp : Sps} (hsp : sp.ok Tryd.prog) (n : Nat) : SpecB Tryd.prog 45 (F45o.spec sp n) := flow_ok mixedS ext2_ok okS_enters hsp F45o_ok rfl n
/-! (*boathouse/boathouseref1.Store).Copy -/
def F23nt : Tr :=
  (.ret (.ptr 1 0) [(.row [(.hid 0 true []), .snil, (.hid 1 true []), (.hid 2 true [])]), (.row [(.hid 0 true []), (.sl 2 0 0 3 (some 0)), (.hid 1 true []), (.hid 2 true [])]), (.row [])])
def F23n : Flow := ⟨23, [(.ptr 0 0)], [(.row [(.hid 0 true []), .snil, (.hid 1 true []), (.hid 2 true [])])], F23nt, []⟩
theorem F23n_ok : F23n.check Tryd.prog okS ext2 40 = true := by kernel_rfl
theorem F23n_spec {sp : Sps} (hsp : sp.ok Tryd.prog) (n : Nat) : SpecB Tryd.prog 23 (F23n.spec sp n) := flow_ok mixedS ext2_ok okS_enters hsp F23n_ok rfl n
/-! (*boathouse/boathouseref1.Store).Copy -/
def F23ot : Tr :=
  (.hop (.app 3 40) [(.sl 0 0 0 3 (some 0)), (.hid 1 false [1])] [(.row []), (.hid 0 [])] (.hid 4 false [2]) [(.row []), (.hid 1 []), (.hid 2 [])]
    (.ret (.ptr 2 0) [(.row [(.hid 0 true []), (.hid 1 false [1]), (.hid 2 true []), (.hid 3 true [])]), (.hid 1 []), (.row [(.hid 0 true []), (.hid 4 false [3]), (.hid 2 true []), (.hid 3 true [])]), (.hid 2 [])])
    (.hop (.app 3 40) [(.sl 0 0 0 3 (some 0)), (.hid 1 false [1])] [(.row []), (.hid 0 [])] (.sl 0 0 0 3 (some 0)) [(.row []), (.hid 1 [])]
      (.ret (.ptr 2 0) [(.row [(.hid 0 true []), (.hid 1 false [1]), (.hid 2 true []), (.hid 3 true [])]), (.hid 1 []), (.row [(.hid 0 true []), (.sl 3 0 0 3 (some 0)), (.hid 2 true []), (.hid 3 true [])]), (.row [])])
      .fail))
def F23o : Flow := ⟨23, [(.ptr 0 0)], [(.row [(.hid 0 true []), (.hid 1 false [1]), (.hid 2 true []), (.hid 3 true [])]), (.hid 0 [])], F23ot, []⟩
theorem F23o_ok : F23o.check Tryd.prog okS ext2 40 = true := by kernel_rfl
theorem F23o_spec {sp : Sps} (hsp : sp.ok Tryd.prog) (n : Nat) : SpecB Tryd.prog 23 (F23o.spec sp n) := flow_ok mixedS ext2_ok okS_enters hsp F23o_ok rfl n
/-! boathouse/boathouselaw0.SameObjects -/
def F25at0 : Tr :=
  (.ask .lenA [(.hid 0 false [0])] (.hid 3 true [])
    (.ite (.bin .lss) [(.hid 2 true []), (.hid 3 true [])]
      (.ask (.idxA 3) [(.hid 0 false [0]), (.hid 2 true [])] (.hid 4 false [0])
        (.phop (.load (some 3)) [(.hid 4 false [0])] [(.hid 0 [])] (.agg [(.hid 5 true []), (.hid 6 true []), (.hid 7 true [])])
          (.ask (.idxA 3) [(.hid 1 false [1]), (.hid 2 true [])] (.hid 8 false [1])
            (.phop (.load (some 3)) [(.hid 8 false [0])] [(.hid 1 [])] (.agg [(.hid 9 true []), (.hid 10 true []), (.hid 11 true [])])
              (.ite .eqS [(.hid 5 true []), (.hid 9 true [])]
                (.ite .eqS [(.hid 6 true []), (.hid 10 true [])]
                  (.ite .eqI [(.hid 7 true []), (.hid 11 true [])]
                    (.ask (.bin .add) [(.hid 2 true []), (.int .i64 1)] (.hid 12 true [])
                      (.goto 0 [(.hid 0 false [0]), (.hid 1 false [0]), (.hid 12 true [])] [(.hid 0 []), (.hid 1 [])])
                      .fail)
                    (.ret (.bool false) [(.hid 0 []), (.hid 1 [])]))
                  (.ret (.bool false) [(.hid 0 []), (.hid 1 [])]))
                (.ret (.bool false) [(.hid 0 []), (.hid 1 [])]))
              .fail)
            .fail)
          .fail)
        .fail)
      (.ret (.bool true) [(.hid 0 []), (.hid 1 [])]))
    .fail)
def F25an0 : Node := ⟨[0, 1, 0, 1, 1], [[(.hid 0 false [0]), (.hid 1 false [1]), .top, .top, .top, (.hid 2 true []), .top, .top], [.top, .top, .top, .top, .top, .top, .top, .top], [.top, .top, .top, .top, .top, .top, .top, .top], [.top, .top]], [(.hid 0 []), (.hid 1 [])]⟩
def F25at : Tr :=
  (.ask .lenA [(.hid 0 false [0])] (.hid 2 true [])
    (.ask .lenA [(.hid 1 false [1])] (.hid 3 true [])
      (.ite (.bin .neq) [(.hid 2 true []), (.hid 3 true [])]
        (.ret (.bool false) [(.hid 0 []), (.hid 1 [])])
        (.goto 0 [(.hid 0 false [0]), (.hid 1 false [0]), (.int .i64 0)] [(.hid 0 []), (.hid 1 [])]))
      .fail)
    .fail)
def F25a : Flow := ⟨25, [(.hid 0 false [0]), (.hid 1 false [1])], [(.hid 0 []), (.hid 1 [])], F25at, [(F25an0, F25at0)]⟩
theorem F25a_ok : F25a.check Tryd.prog okS ext2 40 = true := by kernel_rfl
theorem F25a_spec {sp : Sps} (hsp : sp.ok Tryd.prog) (n : Nat) : SpecB Tryd.prog 25 (F25a.spec sp n) := flow_ok mixedS ext2_ok okS_enters hsp F25a_ok rfl n
/-! boathouse/boathouselaw0.SameObjects -/
def F25bt0 : Tr :=
  (.ret (.bool true) [(.hid 0 [])])
def F25bn0 : Node := ⟨[0, 1, 0, 1, 1], [[.snil, (.hid 0 false [0]), .top, .top, .top, (.int .i64 0), .top, .top], [.top, .top, .top, .top, .top, .top, .top, .top], [.top, .top, .top, .top, .top, .top, .top, .top], [.top, .top]], [(.hid 0 [])]⟩
def F25bt : Tr :=
  (.ask .lenA [(.hid 0 false [0])] (.hid 1 true [])
    (.ite (.bin .neq) [(.int .i64 0), (.hid 1 true [])]
      (.ret (.bool false) [(.hid 0 [])])
      (.goto 0 [(.hid 0 false [0])] [(.hid 0 [])]))
    .fail)
def F25b : Flow := ⟨25, [.snil, (.hid 0 false [0])], [(.hid 0 [])], F25bt, [(F25bn0, F25bt0)]⟩
theorem F25b_ok : F25b.check Tryd.prog okS ext2 40 = true := by kernel_rfl
theorem F25b_spec {sp : Sps} (hsp : sp.ok Tryd.prog) (n : Nat) : SpecB Tryd.prog 25 (F25b.spec sp n) := flow_ok mixedS ext2_ok okS_enters hsp F25b_ok rfl n
/-! boathouse/boathouselaw0.SameObjects -/
def F25ct0 : Tr :=
  (.ask .lenA [(.hid 0 false [0])] (.hid 2 true [])
    (.ite (.bin .lss) [(.hid 1 true []), (.hid 2 true [])]
      (.ask (.idxA 3) [(.hid 0 false [0]), (.hid 1 true [])] (.hid 3 false [0])
        (.phop (.load (some 3)) [(.hid 3 false [0])] [(.hid 0 [])] (.agg [(.hid 4 true []), (.hid 5 true []), (.hid 6 true [])])
          (.ask (.idxA 3) [.snil, (.hid 1 true [])] (.ip [(.hid 7 true []), (.hid 8 true []), (.hid 9 true [])])
            (.ite .eqS [(.hid 4 true []), (.hid 7 true [])]
              (.ite .eqS [(.hid 5 true []), (.hid 8 true [])]
                (.ite .eqI [(.hid 6 true []), (.hid 9 true [])]
                  (.ask (.bin .add) [(.hid 1 true []), (.int .i64 1)] (.hid 10 true [])
                    (.goto 0 [(.hid 0 false [0]), (.hid 10 true [])] [(.hid 0 [])])
                    .fail)
                  (.ret (.bool false) [(.hid 0 [])]))
                (.ret (.bool false) [(.hid 0 [])]))
              (.ret (.bool false) [(.hid 0 [])]))
            .fail)
          .fail)
        .fail)
      (.ret (.bool true) [(.hid 0 [])]))
    .fail)
def F25cn0 : Node := ⟨[0, 1, 0, 1, 1], [[(.hid 0 false [0]), .snil, .top, .top, .top, (.hid 1 true []), .top, .top], [.top, .top, .top, .top, .top, .top, .top, .top], [.top, .top, .top, .top, .top, .top, .top, .top], [.top, .top]], [(.hid 0 [])]⟩
def F25ct : Tr :=
  (.ask .lenA [(.hid 0 false [0])] (.hid 1 true [])
    (.ite (.bin .neq) [(.hid 1 true []), (.int .i64 0)]
      (.ret (.bool false) [(.hid 0 [])])
      (.goto 0 [(.hid 0 false [0]), (.int .i64 0)] [(.hid 0 [])]))
    .fail)
def F25c : Flow := ⟨25, [(.hid 0 false [0]), .snil], [(.hid 0 [])], F25ct, [(F25cn0, F25ct0)]⟩
theorem F25c_ok : F25c.check Tryd.prog okS ext2 40 = true := by kernel_rfl
theorem F25c_spec {sp : Sps} (hsp : sp.ok Tryd.prog) (n : Nat) : SpecB Tryd.prog 25 (F25c.spec sp n) := flow_ok mixedS ext2_ok okS_enters hsp F25c_ok rfl n
/-! boathouse/boathouselaw0.SameObjects -/
def F25dt0 : Tr :=
  (.ret (.bool true) [])
def F25dn0 : Node := ⟨[0, 1, 0, 1, 1], [[.snil, .snil, .top, .top, .top, (.int .i64 0), .top, .top], [.top, .top, .top, .top, .top, .top, .top, .top], [.top, .top, .top, .top, .top, .top, .top, .top], [.top, .top]], []⟩
def F25dt : Tr :=
  (.goto 0 [] [])
def F25d : Flow := ⟨25, [.snil, .snil], [], F25dt, [(F25dn0, F25dt0)]⟩
theorem F25d_ok : F25d.check Tryd.prog okS ext2 40 = true := by kernel_rfl
theorem F25d_spec {sp : Sps} (hsp : sp.ok Tryd.prog) (n : Nat) : SpecB Tryd.prog 25 (F25d.spec sp n) := flow_ok mixedS ext2_ok okS_enters hsp F25d_ok rfl n
/-! boathouse/boathouselaw0.SpoilObjects -/
def F26t0 : Tr :=
  (.ask .lenA [(.hid 0 false [0])] (.hid 2 true [])
    (.ite (.bin .lss) [(.hid 1 true []), (.hid 2 true [])]
      (.ask (.idxA 3) [(.hid 0 false [0]), (.hid 1 true [])] (.hid 3 false [0])
        (.ask (.fadr 2) [(.hid 3 false [0])] (.hid 4 false [0])
          (.phop (.load none) [(.hid 4 false [0])] [(.hid 0 [])] (.hid 5 true [])
            (.ask (.bin .xor) [(.hid 5 true []), (.int .i64 90)] (.hid 6 true [])
              (.hop (.stor 1) [(.hid 4 false [0]), (.hid 6 true [])] [(.hid 0 [])] .undef [(.hid 1 [])]
                (.ask (.bin .add) [(.hid 1 true []), (.int .i64 1)] (.hid 7 true [])
                  (.goto 0 [(.hid 0 false [0]), (.hid 7 true [])] [(.hid 1 [])])
                  .fail)
                .fail)
              .fail)
            .fail)
          .fail)
        .fail)
      (.ret (.tup []) [(.hid 0 [])]))
    .fail)
def F26n0 : Node := ⟨[0, 1], [[(.hid 0 false [0]), .top, (.hid 1 true []), .top, .top, .top, .top, .top], [.top, .top, .top, .top, .top, .top, .top, .top], [.top, .top, .top]], [(.hid 0 [])]⟩
def F26t : Tr :=
  (.goto 0 [(.hid 0 false [0]), (.int .i64 0)] [(.hid 0 [])])
def F26 : Flow := ⟨26, [(.hid 0 false [0])], [(.hid 0 [])], F26t, [(F26n0, F26t0)]⟩
theorem F26_ok : F26.check Tryd.prog okS ext2 40 = true := by kernel_rfl
theorem F26_spec {sp : Sps} (hsp : sp.ok Tryd.prog) (n : Nat) : SpecB Tryd.prog 26 (F26.spec sp n) := flow_ok mixedS ext2_ok okS_enters hsp F26_ok rfl n
/-! boathouse/boathouselaw0.SpoilObjects -/
def F26nt0 : Tr :=
  (.ret (.tup []) [])
def F26nn0 : Node := ⟨[0, 1], [[.snil, .top, (.int .i64 0), .top, .top, .top, .top, .top], [.top, .top, .top, .top, .top, .top, .top, .top], [.top, .top, .top]], []⟩
def F26nt : Tr :=
  (.goto 0 [] [])
def F26n : Flow := ⟨26, [.snil], [], F26nt, [(F26nn0, F26nt0)]⟩
theorem F26n_ok : F26n.check Tryd.prog okS ext2 40 = true := by kernel_rfl
theorem F26n_spec {sp : Sps} (hsp : sp.ok Tryd.prog) (n : Nat) : SpecB Tryd.prog 26 (F26n.spec sp n) := flow_ok mixedS ext2_ok okS_enters hsp F26n_ok rfl n
/-! (*boathouse/boathouseref1.Store).Put -/
def F32nt : Tr :=
  (.ask (.bin .add) [(.hid 5 true []), (.int .i64 1)] (.hid 6 true [])
    (.ite (.bin .gtr) [(.hid 4 true []), (.int .i64 0)]
      (.ask (.bin .sub) [(.hid 4 true []), (.int .i64 1)] (.hid 7 true [])
        (.ret (.int .i64 104) [(.row [(.hid 3 true []), .snil, (.hid 7 true []), (.hid 6 true [])])])
        .fail)
      (.pite 44 [(.hid 0 true [])] []
        (.ask .lenS [(.hid 1 true [])] (.hid 7 true [])
          (.ite (.bin .gtr) [(.hid 7 true []), (.int .i64 65536)]
            (.ret (.int .i64 100) [(.row [(.hid 3 true []), .snil, (.hid 4 true []), (.hid 6 true [])])])
            (.ite (.bin .lss) [(.hid 2 true []), (.int .i64 0)]
              (.ret (.int .i64 100) [(.row [(.hid 3 true []), .snil, (.hid 4 true []), (.hid 6 true [])])])
              (.ite (.bin .geq) [(.int .i64 0), (.hid 3 true [])]
                (.ret (.int .i64 103) [(.row [(.hid 3 true []), .snil, (.hid 4 true []), (.hid 6 true [])])])
                (.ret (.int .i64 0) [(.row [(.hid 3 true []), (.sl 1 0 1 3 none), (.hid 4 true []), (.hid 6 true [])]), (.row [(.hid 0 true []), (.hid 1 true []), (.hid 2 true [])])]))))
          .fail)
        (.ret (.int .i64 100) [(.row [(.hid 3 true []), .snil, (.hid 4 true []), (.hid 6 true [])])])))
    .fail)
def F32n : Flow := ⟨32, [(.ptr 0 0), (.hid 0 true []), (.hid 1 true []), (.hid 2 true [])], [(.row [(.hid 3 true []), .snil, (.hid 4 true []), (.hid 5 true [])])], F32nt, []⟩
theorem F32n_ok : F32n.check Tryd.prog okS ext2 40 = true := by kernel_rfl
theorem F32n_spec {sp : Sps} (hsp : sp.ok Tryd.prog) (n : Nat) : SpecB Tryd.prog 32 (F32n.spec sp n) := flow_ok mixedS ext2_ok okS_enters hsp F32n_ok rfl n
/-! (*boathouse/boathouseref1.Store).Put -/
def F32ot : Tr :=
  (.ask (.bin .add) [(.hid 6 true []), (.int .i64 1)] (.hid 7 true [])
    (.ite (.bin .gtr) [(.hid 5 true []), (.int .i64 0)]
      (.ask (.bin .sub) [(.hid 5 true []), (.int .i64 1)] (.hid 8 true [])
        (.ret (.int .i64 104) [(.row [(.hid 3 true []), (.hid 4 false [1]), (.hid 8 true []), (.hid 7 true [])]), (.hid 0 [])])
        .fail)
      (.pite 44 [(.hid 0 true [])] []
        (.ask .lenS [(.hid 1 true [])] (.hid 8 true [])
          (.ite (.bin .gtr) [(.hid 8 true []), (.int .i64 65536)]
            (.ret (.int .i64 100) [(.row [(.hid 3 true []), (.hid 4 false [1]), (.hid 5 true []), (.hid 7 true [])]), (.hid 0 [])])
            (.ite (.bin .lss) [(.hid 2 true []), (.int .i64 0)]
              (.ret (.int .i64 100) [(.row [(.hid 3 true []), (.hid 4 false [1]), (.hid 5 true []), (.hid 7 true [])]), (.hid 0 [])])
              (.pcall 45 [(.ptr 0 0), (.hid 0 true [])] [(.row [(.hid 3 true []), (.hid 4 false [1]), (.hid 5 true []), (.hid 7 true [])]), (.hid 0 [])] (.tup [(.hid 9 true []), (.bool true)])
                (.ret (.int .i64 101) [(.row [(.hid 3 true []), (.hid 4 false [1]), (.hid 5 true []), (.hid 7 true [])]), (.hid 0 [])])
                (.pcall 45 [(.ptr 0 0), (.hid 0 true [])] [(.row [(.hid 3 true []), (.hid 4 false [1]), (.hid 5 true []), (.hid 7 true [])]), (.hid 0 [])] (.tup [(.hid 9 true []), (.bool false)])
                  (.ask .lenA [(.hid 4 false [1])] (.hid 10 true [])
                    (.ite (.bin .geq) [(.hid 10 true []), (.hid 3 true [])]
                      (.ret (.int .i64 103) [(.row [(.hid 3 true []), (.hid 4 false [1]), (.hid 5 true []), (.hid 7 true [])]), (.hid 0 [])])
                      (.ask (.slc (some 3) false true false) [(.hid 4 false [1]), (.hid 9 true [])] (.hid 11 false [1])
                        (.hop (.app 3 40) [.snil, (.hid 11 false [0])] [(.hid 0 [])] (.hid 12 false [1]) [(.hid 1 []), (.hid 2 [])]
                          (.hop (.app 3 40) [(.hid 12 false [0]), (.sl 1 0 1 3 (some 1))] [(.hid 2 []), (.row [(.hid 0 true []), (.hid 1 true []), (.hid 2 true [])])] (.hid 13 false [2]) [.dead, (.row [(.hid 14 true []), (.hid 15 true []), (.hid 16 true [])]), (.hid 3 [])]
                            (.ask (.slc (some 3) true false false) [(.hid 4 false [1]), (.hid 9 true [])] (.hid 17 false [1])
                              (.hop (.app 3 40) [(.hid 13 false [0]), (.hid 17 false [1])] [(.hid 3 []), (.hid 1 [])] (.hid 18 false [2]) [.dead, (.hid 4 []), (.hid 5 [])]
                                (.ret (.int .i64 0) [(.row [(.hid 3 true []), (.hid 18 false [2]), (.hid 5 true []), (.hid 7 true [])]), (.hid 4 []), (.hid 5 [])])
                                (.hop (.app 3 40) [(.hid 13 false [0]), (.hid 17 false [1])] [(.hid 3 []), (.hid 1 [])] (.hid 18 false [0]) [(.hid 4 []), (.hid 5 [])]
                                  (.ret (.int .i64 0) [(.row [(.hid 3 true []), (.hid 18 false [2]), (.hid 5 true []), (.hid 7 true [])]), (.hid 5 []), (.hid 4 [])])
                                  .fail))
                              .fail)
                            .fail)
                          (.hop (.app 3 40) [.snil, (.hid 11 false [0])] [(.hid 0 [])] .snil [(.hid 1 [])]
                            (.ask (.slc (some 3) true false false) [(.hid 4 false [1]), (.hid 9 true [])] (.hid 12 false [1])
                              (.hop (.app 3 40) [(.sl 0 0 1 3 none), (.hid 12 false [1])] [(.row [(.hid 0 true []), (.hid 1 true []), (.hid 2 true [])]), (.hid 1 [])] (.hid 13 false [2]) [.dead, (.hid 2 []), (.hid 3 [])]
                                (.ret (.int .i64 0) [(.row [(.hid 3 true []), (.hid 13 false [2]), (.hid 5 true []), (.hid 7 true [])]), (.hid 2 []), (.hid 3 [])])
                                (.hop (.app 3 40) [(.sl 0 0 1 3 none), (.hid 12 false [1])] [(.row [(.hid 0 true []), (.hid 1 true []), (.hid 2 true [])]), (.hid 1 [])] (.hid 13 false [0]) [(.row [(.hid 14 true []), (.hid 15 true []), (.hid 16 true [])]), (.hid 2 [])]
                                  (.ret (.int .i64 0) [(.row [(.hid 3 true []), (.hid 13 false [2]), (.hid 5 true []), (.hid 7 true [])]), (.hid 2 []), (.row [(.hid 14 true []), (.hid 15 true []), (.hid 16 true [])])])
                                  .fail))
                              .fail)
                            .fail))
                        .fail))
                    .fail)
                  .fail))))
          .fail)
        (.ret (.int .i64 100) [(.row [(.hid 3 true []), (.hid 4 false [1]), (.hid 5 true []), (.hid 7 true [])]), (.hid 0 [])])))
    .fail)
def F32o : Flow := ⟨32, [(.ptr 0 0), (.hid 0 true []), (.hid 1 true []), (.hid 2 true [])], [(.row [(.hid 3 true []), (.hid 4 false [1]), (.hid 5 true []), (.hid 6 true [])]), (.hid 0 [])], F32ot, []⟩
theorem F32o_ok : F32o.check Tryd.prog okS ext2 40 = true := by kernel_rfl
theorem F32o_spec {sp : Sps} (hsp : sp.ok Tryd.prog) (n : Nat) : SpecB Tryd.prog 32 (F32o.spec sp n) := flow_ok mixedS ext2_ok okS_enters hsp F32o_ok rfl n
/-! (*boathouse/boathouseref1.Store).Get -/
def F33nt : Tr :=
  (.ask (.bin .add) [(.hid 3 true []), (.int .i64 1)] (.hid 4 true [])
    (.ite (.bin .gtr) [(.hid 2 true []), (.int .i64 0)]
      (.ask (.bin .sub) [(.hid 2 true []), (.int .i64 1)] (.hid 5 true [])
        (.ret (.tup [(.str []), (.int .i64 104)]) [(.row [(.hid 1 true []), .snil, (.hid 5 true []), (.hid 4 true [])])])
        .fail)
      (.ret (.tup [(.str []), (.int .i64 102)]) [(.row [(.hid 1 true []), .snil, (.hid 2 true []), (.hid 4 true [])])]))
    .fail)
def F33n : Flow := ⟨33, [(.ptr 0 0), (.hid 0 true [])], [(.row [(.hid 1 true []), .snil, (.hid 2 true []), (.hid 3 true [])])], F33nt, []⟩
theorem F33n_ok : F33n.check Tryd.prog okS ext2 40 = true := by kernel_rfl
theorem F33n_spec {sp : Sps} (hsp : sp.ok Tryd.prog) (n : Nat) : SpecB Tryd.prog 33 (F33n.spec sp n) := flow_ok mixedS ext2_ok okS_enters hsp F33n_ok rfl n
/-! (*boathouse/boathouseref1.Store).Get -/
def F33ot : Tr :=
  (.ask (.bin .add) [(.hid 4 true []), (.int .i64 1)] (.hid 5 true [])
    (.ite (.bin .gtr) [(.hid 3 true []), (.int .i64 0)]
      (.ask (.bin .sub) [(.hid 3 true []), (.int .i64 1)] (.hid 6 true [])
        (.ret (.tup [(.str []), (.int .i64 104)]) [(.row [(.hid 1 true []), (.hid 2 false [1]), (.hid 6 true []), (.hid 5 true [])]), (.hid 0 [])])
        .fail)
      (.pcall 45 [(.ptr 0 0), (.hid 0 true [])] [(.row [(.hid 1 true []), (.hid 2 false [1]), (.hid 3 true []), (.hid 5 true [])]), (.hid 0 [])] (.tup [(.hid 6 true []), (.bool true)])
        (.ask (.idxA 3) [(.hid 2 false [1]), (.hid 6 true [])] (.hid 7 false [1])
          (.ask (.fadr 1) [(.hid 7 false [1])] (.hid 8 false [1])
            (.phop (.load none) [(.hid 8 false [0])] [(.hid 0 [])] (.hid 9 true [])
              (.ret (.tup [(.hid 9 true []), (.int .i64 0)]) [(.row [(.hid 1 true []), (.hid 2 false [1]), (.hid 3 true []), (.hid 5 true [])]), (.hid 0 [])])
              .fail)
            .fail)
          .fail)
        (.pcall 45 [(.ptr 0 0), (.hid 0 true [])] [(.row [(.hid 1 true []), (.hid 2 false [1]), (.hid 3 true []), (.hid 5 true [])]), (.hid 0 [])] (.tup [(.hid 6 true []), (.bool false)])
          (.ret (.tup [(.str []), (.int .i64 102)]) [(.row [(.hid 1 true []), (.hid 2 false [1]), (.hid 3 true []), (.hid 5 true [])]), (.hid 0 [])])
          .fail)))
    .fail)
def F33o : Flow := ⟨33, [(.ptr 0 0), (.hid 0 true [])], [(.row [(.hid 1 true []), (.hid 2 false [1]), (.hid 3 true []), (.hid 4 true [])]), (.hid 0 [])], F33ot, []⟩
theorem F33o_ok : F33o.check Tryd.prog okS ext2 40 = true := by kernel_rfl
theorem F33o_spec {sp : Sps} (hsp : sp.ok Tryd.prog) (n : Nat) : SpecB Tryd.prog 33 (F33o.spec sp n) := flow_ok mixedS ext2_ok okS_enters hsp F33o_ok rfl n
/-! (*boathouse/boathouseref1.Store).List -/
def F34nt0 : Tr :=
  (.ret (.tup [.snil, (.int .i64 0)]) [(.row [(.hid 1 true []), .snil, (.hid 2 true []), (.hid 3 true [])])])
def F34nn0 : Node := ⟨[0, 1, 0, 1, 1, 1], [[(.ptr 0 0), (.hid 0 true []), .top, .top, .top, .top, .snil, (.int .i64 0)], [.top, .top, .top, .top, .top, .top, .top, .top], [.top, .top, .top, .top, .top, .top, .top, .top], [.top, .top, .top, .top, .top, .top, .top, .top], [.top, .top, .top, .top, .top, .top, .top, .top], [.top, .top, .top, .top, .top, .top, .top, .top], [.top, .top, .top, .top, .top, .top, .top, .top]], [(.row [(.hid 1 true []), .snil, (.hid 2 true []), (.hid 3 true [])])]⟩
def F34nt : Tr :=
  (.ask (.bin .add) [(.hid 3 true []), (.int .i64 1)] (.hid 4 true [])
    (.ite (.bin .gtr) [(.hid 2 true []), (.int .i64 0)]
      (.ask (.bin .sub) [(.hid 2 true []), (.int .i64 1)] (.hid 5 true [])
        (.ret (.tup [.snil, (.int .i64 104)]) [(.row [(.hid 1 true []), .snil, (.hid 5 true []), (.hid 4 true [])])])
        .fail)
      (.goto 0 [(.hid 0 true []), (.hid 1 true []), (.hid 2 true []), (.hid 4 true [])] []))
    .fail)
def F34n : Flow := ⟨34, [(.ptr 0 0), (.hid 0 true [])], [(.row [(.hid 1 true []), .snil, (.hid 2 true []), (.hid 3 true [])])], F34nt, [(F34nn0, F34nt0)]⟩
theorem F34n_ok : F34n.check Tryd.prog okS ext2 40 = true := by kernel_rfl
theorem F34n_spec {sp : Sps} (hsp : sp.ok Tryd.prog) (n : Nat) : SpecB Tryd.prog 34 (F34n.spec sp n) := flow_ok mixedS ext2_ok okS_enters hsp F34n_ok rfl n
/-! (*boathouse/boathouseref1.Store).List -/
def F34ot0 : Tr :=
  (.ask .lenA [(.hid 3 false [1])] (.hid 6 true [])
    (.ite (.bin .lss) [(.hid 1 true []), (.hid 6 true [])]
      (.ask (.idxA 3) [(.hid 3 false [1]), (.hid 1 true [])] (.hid 7 false [1])
        (.ask (.fadr 0) [(.hid 7 false [1])] (.hid 8 false [1])
          (.phop (.load none) [(.hid 8 false [0])] [(.hid 0 [])] (.hid 9 true [])
            (.ask .lenS [(.hid 9 true [])] (.hid 10 true [])
              (.ask .lenS [(.hid 0 true [])] (.hid 11 true [])
                (.ite (.bin .geq) [(.hid 10 true []), (.hid 11 true [])]
                  (.ask (.slc none false true false) [(.hid 9 true []), (.hid 11 true [])] (.hid 12 true [])
                    (.ite (.bin .eql) [(.hid 12 true []), (.hid 0 true [])]
                      (.ask (.fadr 2) [(.hid 7 false [1])] (.hid 13 false [1])
                        (.phop (.load none) [(.hid 13 false [0])] [(.hid 0 [])] (.hid 14 true [])
                          (.ask (.bin .add) [(.hid 1 true []), (.int .i64 1)] (.hid 15 true [])
                            (.goto 1 [(.hid 0 true []), (.sl 0 0 1 3 none), (.hid 15 true []), (.hid 2 true []), (.hid 3 false [0]), (.hid 4 true []), (.hid 5 true [])] [(.hid 0 []), (.row [(.hid 9 true []), (.str []), (.hid 14 true [])])])
                            .fail)
                          .fail)
                        .fail)
                      (.ask (.bin .add) [(.hid 1 true []), (.int .i64 1)] (.hid 13 true [])
                        (.goto 0 [(.hid 0 true []), (.hid 13 true []), (.hid 2 true []), (.hid 3 false [0]), (.hid 4 true []), (.hid 5 true [])] [(.hid 0 [])])
                        .fail))
                    .fail)
                  (.ask (.bin .add) [(.hid 1 true []), (.int .i64 1)] (.hid 12 true [])
                    (.goto 0 [(.hid 0 true []), (.hid 12 true []), (.hid 2 true []), (.hid 3 false [0]), (.hid 4 true []), (.hid 5 true [])] [(.hid 0 [])])
                    .fail))
                .fail)
              .fail)
            .fail)
          .fail)
        .fail)
      (.ret (.tup [.snil, (.int .i64 0)]) [(.row [(.hid 2 true []), (.hid 3 false [1]), (.hid 4 true []), (.hid 5 true [])]), (.hid 0 [])]))
    .fail)
def F34on0 : Node := ⟨[0, 1, 0, 1, 1, 1], [[(.ptr 0 0), (.hid 0 true []), .top, .top, .top, .top, .snil, (.hid 1 true [])], [.top, .top, .top, .top, .top, .top, .top, .top], [.top, .top, .top, .top, .top, .top, .top, .top], [.top, .top, .top, .top, .top, .top, .top, .top], [.top, .top, .top, .top, .top, .top, .top, .top], [.top, .top, .top, .top, .top, .top, .top, .top], [.top, .top, .top, .top, .top, .top, .top, .top]], [(.row [(.hid 2 true []), (.hid 3 false [1]), (.hid 4 true []), (.hid 5 true [])]), (.hid 0 [])]⟩
def F34ot1 : Tr :=
  (.ask .lenA [(.hid 4 false [1])] (.hid 7 true [])
    (.ite (.bin .lss) [(.hid 2 true []), (.hid 7 true [])]
      (.ask (.idxA 3) [(.hid 4 false [1]), (.hid 2 true [])] (.hid 8 false [1])
        (.ask (.fadr 0) [(.hid 8 false [1])] (.hid 9 false [1])
          (.phop (.load none) [(.hid 9 false [0])] [(.hid 0 [])] (.hid 10 true [])
            (.ask .lenS [(.hid 10 true [])] (.hid 11 true [])
              (.ask .lenS [(.hid 0 true [])] (.hid 12 true [])
                (.ite (.bin .geq) [(.hid 11 true []), (.hid 12 true [])]
                  (.ask (.slc none false true false) [(.hid 10 true []), (.hid 12 true [])] (.hid 13 true [])
                    (.ite (.bin .eql) [(.hid 13 true []), (.hid 0 true [])]
                      (.ask (.fadr 2) [(.hid 8 false [1])] (.hid 14 false [1])
                        (.phop (.load none) [(.hid 14 false [0])] [(.hid 0 [])] (.hid 15 true [])
                          (.hop (.app 3 40) [(.hid 1 false [0]), (.sl 1 0 1 3 (some 1))] [(.hid 1 []), (.row [(.hid 10 true []), (.str []), (.hid 15 true [])])] (.hid 16 false [2]) [.dead, (.row [(.hid 17 true []), (.str []), (.hid 18 true [])]), (.hid 2 [])]
                            (.ask (.bin .add) [(.hid 2 true []), (.int .i64 1)] (.hid 19 true [])
                              (.goto 1 [(.hid 0 true []), (.hid 16 false [0]), (.hid 19 true []), (.hid 3 true []), (.hid 4 false [0]), (.hid 5 true []), (.hid 6 true [])] [(.hid 0 []), (.hid 2 [])])
                              .fail)
                            .fail)
                          .fail)
                        .fail)
                      (.ask (.bin .add) [(.hid 2 true []), (.int .i64 1)] (.hid 14 true [])
                        (.goto 1 [(.hid 0 true []), (.hid 1 false [0]), (.hid 14 true []), (.hid 3 true []), (.hid 4 false [0]), (.hid 5 true []), (.hid 6 true [])] [(.hid 0 []), (.hid 1 [])])
                        .fail))
                    .fail)
                  (.ask (.bin .add) [(.hid 2 true []), (.int .i64 1)] (.hid 13 true [])
                    (.goto 1 [(.hid 0 true []), (.hid 1 false [0]), (.hid 13 true []), (.hid 3 true []), (.hid 4 false [0]), (.hid 5 true []), (.hid 6 true [])] [(.hid 0 []), (.hid 1 [])])
                    .fail))
                .fail)
              .fail)
            .fail)
          .fail)
        .fail)
      (.ret (.tup [(.hid 1 false [2]), (.int .i64 0)]) [(.row [(.hid 3 true []), (.hid 4 false [1]), (.hid 5 true []), (.hid 6 true [])]), (.hid 0 []), (.hid 1 [])]))
    .fail)
def F34on1 : Node := ⟨[0, 1, 0, 1, 1, 1], [[(.ptr 0 0), (.hid 0 true []), .top, .top, .top, .top, (.hid 1 false [2]), (.hid 2 true [])], [.top, .top, .top, .top, .top, .top, .top, .top], [.top, .top, .top, .top, .top, .top, .top, .top], [.top, .top, .top, .top, .top, .top, .top, .top], [.top, .top, .top, .top, .top, .top, .top, .top], [.top, .top, .top, .top, .top, .top, .top, .top], [.top, .top, .top, .top, .top, .top, .top, .top]], [(.row [(.hid 3 true []), (.hid 4 false [1]), (.hid 5 true []), (.hid 6 true [])]), (.hid 0 []), (.hid 1 [])]⟩
def F34ot : Tr :=
  (.ask (.bin .add) [(.hid 4 true []), (.int .i64 1)] (.hid 5 true [])
    (.ite (.bin .gtr) [(.hid 3 true []), (.int .i64 0)]
      (.ask (.bin .sub) [(.hid 3 true []), (.int .i64 1)] (.hid 6 true [])
        (.ret (.tup [.snil, (.int .i64 104)]) [(.row [(.hid 1 true []), (.hid 2 false [1]), (.hid 6 true []), (.hid 5 true [])]), (.hid 0 [])])
        .fail)
      (.goto 0 [(.hid 0 true []), (.int .i64 0), (.hid 1 true []), (.hid 2 false [0]), (.hid 3 true []), (.hid 5 true [])] [(.hid 0 [])]))
    .fail)
def F34o : Flow := ⟨34, [(.ptr 0 0), (.hid 0 true [])], [(.row [(.hid 1 true []), (.hid 2 false [1]), (.hid 3 true []), (.hid 4 true [])]), (.hid 0 [])], F34ot, [(F34on0, F34ot0), (F34on1, F34ot1)]⟩
theorem F34o_ok : F34o.check Tryd.prog okS ext2 40 = true := by kernel_rfl
theorem F34o_spec {sp : Sps} (hsp : sp.ok Tryd.prog) (n : Nat) : SpecB Tryd.prog 34 (F34o.spec sp n) := flow_ok mixedS ext2_ok okS_enters hsp F34o_ok rfl n
/-! (*boathouse/boathouseref1.Store).Delete -/
def F35nt : Tr :=
  (.ask (.bin .add) [(.hid 3 true []), (.int .i64 1)] (.hid 4 true [])
    (.ite (.bin .gtr) [(.hid 2 true []), (.int .i64 0)]
      (.ask (.bin .sub) [(.hid 2 true []), (.int .i64 1)] (.hid 5 true [])
        (.ret (.int .i64 104) [(.row [(.hid 1 true []), .snil, (.hid 5 true []), (.hid 4 true [])])])
        .fail)
      (.ret (.int .i64 102) [(.row [(.hid 1 true []), .snil, (.hid 2 true []), (.hid 4 true [])])]))
    .fail)
def F35n : Flow := ⟨35, [(.ptr 0 0), (.hid 0 true [])], [(.row [(.hid 1 true []), .snil, (.hid 2 true []), (.hid 3 true [])])], F35nt, []⟩
theorem F35n_ok : F35n.check Tryd.prog okS ext2 40 = true := by kernel_rfl
theorem F35n_spec {sp : Sps} (hsp : sp.ok Tryd.prog) (n : Nat) : SpecB Tryd.prog 35 (F35n.spec sp n) := flow_ok mixedS ext2_ok okS_enters hsp F35n_ok rfl n
/-! (*boathouse/boathouseref1.Store).Delete -/
def F35ot : Tr :=
  (.ask (.bin .add) [(.hid 4 true []), (.int .i64 1)] (.hid 5 true [])
    (.ite (.bin .gtr) [(.hid 3 true []), (.int .i64 0)]
      (.ask (.bin .sub) [(.hid 3 true []), (.int .i64 1)] (.hid 6 true [])
        (.ret (.int .i64 104) [(.row [(.hid 1 true []), (.hid 2 false [1]), (.hid 6 true []), (.hid 5 true [])]), (.hid 0 [])])
        .fail)
      (.pcall 45 [(.ptr 0 0), (.hid 0 true [])] [(.row [(.hid 1 true []), (.hid 2 false [1]), (.hid 3 true []), (.hid 5 true [])]), (.hid 0 [])] (.tup [(.hid 6 true []), (.bool true)])
        (.ask (.slc (some 3) false true false) [(.hid 2 false [1]), (.hid 6 true [])] (.hid 7 false [1])
          (.hop (.app 3 40) [.snil, (.hid 7 false [0])] [(.hid 0 [])] (.hid 8 false [1]) [(.hid 1 []), (.hid 2 [])]
            (.ask (.bin .add) [(.hid 6 true []), (.int .i64 1)] (.hid 9 true [])
              (.ask (.slc (some 3) true false false) [(.hid 2 false [1]), (.hid 9 true [])] (.hid 10 false [1])
                (.hop (.app 3 40) [(.hid 8 false [0]), (.hid 10 false [1])] [(.hid 2 []), (.hid 1 [])] (.hid 11 false [2]) [.dead, (.hid 3 []), (.hid 4 [])]
                  (.ret (.int .i64 0) [(.row [(.hid 1 true []), (.hid 11 false [2]), (.hid 3 true []), (.hid 5 true [])]), (.hid 3 []), (.hid 4 [])])
                  (.hop (.app 3 40) [(.hid 8 false [0]), (.hid 10 false [1])] [(.hid 2 []), (.hid 1 [])] (.hid 11 false [0]) [(.hid 3 []), (.hid 4 [])]
                    (.ret (.int .i64 0) [(.row [(.hid 1 true []), (.hid 11 false [2]), (.hid 3 true []), (.hid 5 true [])]), (.hid 4 []), (.hid 3 [])])
                    .fail))
                .fail)
              .fail)
            (.hop (.app 3 40) [.snil, (.hid 7 false [0])] [(.hid 0 [])] .snil [(.hid 1 [])]
              (.ask (.bin .add) [(.hid 6 true []), (.int .i64 1)] (.hid 8 true [])
                (.ask (.slc (some 3) true false false) [(.hid 2 false [1]), (.hid 8 true [])] (.hid 9 false [1])
                  (.hop (.app 3 40) [.snil, (.hid 9 false [0])] [(.hid 1 [])] (.hid 10 false [1]) [(.hid 2 []), (.hid 3 [])]
                    (.ret (.int .i64 0) [(.row [(.hid 1 true []), (.hid 10 false [2]), (.hid 3 true []), (.hid 5 true [])]), (.hid 2 []), (.hid 3 [])])
                    (.hop (.app 3 40) [.snil, (.hid 9 false [0])] [(.hid 1 [])] .snil [(.hid 2 [])]
                      (.ret (.int .i64 0) [(.row [(.hid 1 true []), .snil, (.hid 3 true []), (.hid 5 true [])]), (.hid 2 [])])
                      .fail))
                  .fail)
                .fail)
              .fail))
          .fail)
        (.pcall 45 [(.ptr 0 0), (.hid 0 true [])] [(.row [(.hid 1 true []), (.hid 2 false [1]), (.hid 3 true []), (.hid 5 true [])]), (.hid 0 [])] (.tup [(.hid 6 true []), (.bool false)])
          (.ret (.int .i64 102) [(.row [(.hid 1 true []), (.hid 2 false [1]), (.hid 3 true []), (.hid 5 true [])]), (.hid 0 [])])
          .fail)))
    .fail)
def F35o : Flow := ⟨35, [(.ptr 0 0), (.hid 0 true [])], [(.row [(.hid 1 true []), (.hid 2 false [1]), (.hid 3 true []), (.hid 4 true [])]), (.hid 0 [])], F35ot, []⟩
theorem F35o_ok : F35o.check Tryd.prog okS ext2 40 = true := by kernel_rfl
theorem F35o_spec {sp : Sps} (hsp : sp.ok Tryd.prog) (n : Nat) : SpecB Tryd.prog 35 (F35o.spec sp n) := flow_ok mixedS ext2_ok okS_enters hsp F35o_ok rfl n
/-! (*boathouse/boathouseref1.Store).Fail -/
def F36nt : Tr :=
  (.ite (.bin .lss) [(.hid 0 true []), (.int .i64 0)]
    (.ret (.int .i64 100) [(.row [(.hid 1 true []), .snil, (.hid 2 true []), (.hid 3 true [])])])
    (.ret (.int .i64 0) [(.row [(.hid 1 true []), .snil, (.hid 0 true []), (.hid 3 true [])])]))
def F36n : Flow := ⟨36, [(.ptr 0 0), (.hid 0 true [])], [(.row [(.hid 1 true []), .snil, (.hid 2 true []), (.hid 3 true [])])], F36nt, []⟩
theorem F36n_ok : F36n.check Tryd.prog okS ext2 40 = true := by kernel_rfl
theorem F36n_spec {sp : Sps} (hsp : sp.ok Tryd.prog) (n : Nat) : SpecB Tryd.prog 36 (F36n.spec sp n) := flow_ok mixedS ext2_ok okS_enters hsp F36n_ok rfl n
/-! (*boathouse/boathouseref1.Store).Fail -/
def F36ot : Tr :=
  (.ite (.bin .lss) [(.hid 0 true []), (.int .i64 0)]
    (.ret (.int .i64 100) [(.row [(.hid 1 true []), (.hid 2 false [1]), (.hid 3 true []), (.hid 4 true [])]), (.hid 0 [])])
    (.ret (.int .i64 0) [(.row [(.hid 1 true []), (.hid 2 false [1]), (.hid 0 true []), (.hid 4 true [])]), (.hid 0 [])]))
def F36o : Flow := ⟨36, [(.ptr 0 0), (.hid 0 true [])], [(.row [(.hid 1 true []), (.hid 2 false [1]), (.hid 3 true []), (.hid 4 true [])]), (.hid 0 [])], F36ot, []⟩
theorem F36o_ok : F36o.check Tryd.prog okS ext2 40 = true := by kernel_rfl
theorem F36o_spec {sp : Sps} (hsp : sp.ok Tryd.prog) (n : Nat) : SpecB Tryd.prog 36 (F36o.spec sp n) := flow_ok mixedS ext2_ok okS_enters hsp F36o_ok rfl n
end Go.Proofs.BoatV
