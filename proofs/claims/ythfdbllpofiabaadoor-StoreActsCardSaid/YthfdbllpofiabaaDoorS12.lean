/- Functions as trees (printed by Drv2.lean through mks.py); that the trees tell what they do. -/
import Derived.Test.YthfdbllpofiabaaDoorS11
namespace Go.Proofs.BoatV
open Go Go.Proofs
set_option maxRecDepth 100000
/-! (*boathouse/objstore.Store).List -/
def F16t0 : Tr :=
  (.ret (.tup [.snil, (.int .i64 0)]) [(.row [(.hid 0 true []), (.mapv 1), (.chv 2), (.hid 1 true [])]), (.hid 0 []), (.hid 1 [])])
def F16n0 : Node := ⟨[0, 1, 0, 1, 1, 1], [[.top, .top, .top, .top, .top, .top, .snil, .top], [.top, .top, .top, .top, .top, .top, .top, .top], [.top, .top, (.int .i64 0), (.int .i64 0), .top, .top, .top, .top], [.top, .top, .top, .top]], [(.row [(.hid 0 true []), (.mapv 1), (.chv 2), (.hid 1 true [])]), (.hid 0 []), (.hid 1 [])]⟩
def F16t1 : Tr :=
  (.ite (.bin .lss) [(.hid 2 true []), (.hid 1 true [])]
    (.ask (.idxA 3) [(.hid 0 false [3]), (.hid 2 true [])] (.hid 5 false [3])
      (.ask (.fadr 1) [(.hid 5 false [3])] (.hid 6 false [3])
        (.hop (.stor 1) [(.hid 6 false [0]), (.str [])] [(.hid 2 [])] .undef [(.hid 3 [])]
          (.ask (.bin .add) [(.hid 2 true []), (.int .i64 1)] (.hid 7 true [])
            (.goto 1 [(.hid 0 false [0]), (.hid 1 true []), (.hid 7 true []), (.hid 3 true []), (.hid 4 true [])] [(.hid 0 []), (.hid 1 []), (.hid 3 [])])
            .fail)
          .fail)
        .fail)
      .fail)
    (.ret (.tup [(.hid 0 false [3]), (.int .i64 0)]) [(.row [(.hid 3 true []), (.mapv 1), (.chv 2), (.hid 4 true [])]), (.hid 0 []), (.hid 1 []), (.hid 2 [])]))
def F16n1 : Node := ⟨[0, 1, 0, 1, 1, 1], [[.top, .top, .top, .top, .top, .top, (.hid 0 false [3]), .top], [.top, .top, .top, .top, .top, .top, .top, .top], [.top, .top, (.hid 1 true []), (.hid 2 true []), .top, .top, .top, .top], [.top, .top, .top, .top]], [(.row [(.hid 3 true []), (.mapv 1), (.chv 2), (.hid 4 true [])]), (.hid 0 []), (.hid 1 []), (.hid 2 [])]⟩
def F16t : Tr :=
  (.call 27 [(.ptr 0 0)] [(.row [(.hid 1 true []), (.mapv 1), (.chv 2), (.hid 2 true [])]), (.hid 0 []), (.hid 1 [])] (.bool true) [(.row [(.hid 3 true []), (.mapv 1), (.chv 2), (.hid 4 true [])]), (.hid 2 []), (.hid 3 [])]
    (.ret (.tup [.snil, (.int .i64 104)]) [(.row [(.hid 3 true []), (.mapv 1), (.chv 2), (.hid 4 true [])]), (.hid 2 []), (.hid 3 [])])
    (.call 27 [(.ptr 0 0)] [(.row [(.hid 1 true []), (.mapv 1), (.chv 2), (.hid 2 true [])]), (.hid 0 []), (.hid 1 [])] (.bool false) [(.row [(.hid 3 true []), (.mapv 1), (.chv 2), (.hid 4 true [])]), (.hid 2 []), (.hid 3 [])]
      (.call 29 [(.ptr 0 0), (.hid 0 true [])] [(.row [(.hid 3 true []), (.mapv 1), (.chv 2), (.hid 4 true [])]), (.hid 2 []), (.hid 3 [])] (.hid 5 false [3]) [(.row [(.hid 6 true []), (.mapv 1), (.chv 2), (.hid 7 true [])]), (.hid 4 []), (.hid 5 []), (.hid 6 [])]
        (.ask .lenA [(.hid 5 false [3])] (.hid 8 true [])
          (.goto 1 [(.hid 5 false [0]), (.hid 8 true []), (.int .i64 0), (.hid 6 true []), (.hid 7 true [])] [(.hid 4 []), (.hid 5 []), (.hid 6 [])])
          .fail)
        (.call 29 [(.ptr 0 0), (.hid 0 true [])] [(.row [(.hid 3 true []), (.mapv 1), (.chv 2), (.hid 4 true [])]), (.hid 2 []), (.hid 3 [])] .snil [(.row [(.hid 5 true []), (.mapv 1), (.chv 2), (.hid 6 true [])]), (.hid 4 []), (.hid 5 [])]
          (.goto 0 [(.hid 5 true []), (.hid 6 true [])] [(.hid 4 []), (.hid 5 [])])
          .fail))
      .fail))
def F16 : Flow := ⟨16, [(.ptr 0 0), (.hid 0 true [])], [(.row [(.hid 1 true []), (.mapv 1), (.chv 2), (.hid 2 true [])]), (.hid 0 []), (.hid 1 [])], F16t, [(F16n0, F16t0), (F16n1, F16t1)]⟩
theorem F16_ok : F16.check Tryd.prog okS ext2 40 = true := by kernel_rfl
theorem F16_spec {sp : Sps} (hsp : sp.ok Tryd.prog) (n : Nat) : SpecB Tryd.prog 16 (F16.spec sp n) := flow_ok mixedS ext2_ok okS_enters hsp F16_ok rfl n
/-! boathouse/boathouselaw1.StoreFails -/
def F6t0 : Tr :=
  (.ite (.bin .lss) [(.hid 3 true []), (.hid 1 true [])]
    (.pcall 12 [(.hid 3 true [])] [] (.hid 6 true [])
      (.ask (.bin .add) [(.str [120]), (.hid 6 true [])] (.hid 7 true [])
        (.call 13 [(.ptr 0 0), (.hid 7 true []), (.str [100]), (.hid 3 true [])] [(.row [(.hid 4 true []), (.mapv 1), (.chv 2), (.hid 5 true [])]), (.hid 0 []), (.hid 1 [])] (.hid 8 true []) [(.row [(.hid 9 true []), (.mapv 1), (.chv 2), (.hid 10 true [])]), (.hid 2 []), (.hid 3 [])]
          (.ite (.bin .eql) [(.hid 8 true []), (.int .i64 0)]
            (.ite (.bin .geq) [(.hid 3 true []), (.hid 0 true [])]
              (.ask (.bin .add) [(.hid 3 true []), (.int .i64 1)] (.hid 11 true [])
                (.goto 0 [(.hid 0 true []), (.hid 1 true []), (.hid 2 true []), (.hid 11 true []), (.hid 9 true []), (.hid 10 true [])] [(.hid 2 []), (.hid 3 [])])
                .fail)
              (.ret (.bool false) []))
            (.ite (.bin .geq) [(.hid 3 true []), (.hid 0 true [])]
              (.ret (.bool false) [])
              (.ask (.bin .add) [(.hid 3 true []), (.int .i64 1)] (.hid 11 true [])
                (.goto 0 [(.hid 0 true []), (.hid 1 true []), (.hid 2 true []), (.hid 11 true []), (.hid 9 true []), (.hid 10 true [])] [(.hid 2 []), (.hid 3 [])])
                .fail)))
          .fail)
        .fail)
      .fail)
    (.call 17 [(.ptr 0 0), (.int .i64 (-1))] [(.row [(.hid 4 true []), (.mapv 1), (.chv 2), (.hid 5 true [])]), (.hid 0 []), (.hid 1 [])] (.hid 6 true []) [(.row [(.hid 7 true []), (.mapv 1), (.chv 2), (.hid 8 true [])]), (.hid 2 []), (.hid 3 [])]
      (.ite (.bin .eql) [(.hid 2 true []), (.int .i64 0)]
        (.ite (.bin .eql) [(.hid 6 true []), (.int .i64 100)]
          (.call 18 [(.ptr 0 0)] [(.row [(.hid 7 true []), (.mapv 1), (.chv 2), (.hid 8 true [])]), (.hid 2 []), (.hid 3 [])] (.hid 9 false [3]) [(.row [(.hid 10 true []), (.mapv 1), (.chv 2), (.hid 11 true [])]), (.hid 4 []), (.hid 5 []), (.hid 6 [])]
            (.ask .lenA [(.hid 9 false [3])] (.hid 12 true [])
              (.ask (.bin .sub) [(.hid 1 true []), (.hid 0 true [])] (.hid 13 true [])
                (.ask .mx [(.int .i64 0), (.hid 13 true [])] (.hid 14 true [])
                  (.ite (.bin .eql) [(.hid 12 true []), (.hid 14 true [])]
                    (.ite (.bin .eql) [(.hid 11 true []), (.hid 1 true [])]
                      (.ret (.bool true) [])
                      (.ret (.bool false) []))
                    (.ret (.bool false) []))
                  .fail)
                .fail)
              .fail)
            (.call 18 [(.ptr 0 0)] [(.row [(.hid 7 true []), (.mapv 1), (.chv 2), (.hid 8 true [])]), (.hid 2 []), (.hid 3 [])] .snil [(.row [(.hid 9 true []), (.mapv 1), (.chv 2), (.hid 10 true [])]), (.hid 4 []), (.hid 5 [])]
              (.ask (.bin .sub) [(.hid 1 true []), (.hid 0 true [])] (.hid 11 true [])
                (.ask .mx [(.int .i64 0), (.hid 11 true [])] (.hid 12 true [])
                  (.ite (.bin .eql) [(.int .i64 0), (.hid 12 true [])]
                    (.ite (.bin .eql) [(.hid 10 true []), (.hid 1 true [])]
                      (.ret (.bool true) [])
                      (.ret (.bool false) []))
                    (.ret (.bool false) []))
                  .fail)
                .fail)
              .fail))
          (.ret (.bool false) []))
        (.ret (.bool false) []))
      .fail))
def F6n0 : Node := ⟨[0, 1, 0, 1, 1, 1, 1, 1], [[.top, .top, .top, .top, .top, (.ptr 0 0), (.int .i64 0), (.hid 0 true [])], [(.hid 1 true []), (.hid 2 true []), (.hid 3 true []), .top, .top, .top, .top, .top], [.top, .top, .top, .top, .top, .top, .top, .top], [.top, .top, .top, .top, .top, .top, .top, .top], [.top, .top, .top, .top, .top, .top, .top, .top], [.top, .top, .top, .top, .top, .top, .top, .top], [.top, .top, .top, .top, .top, .top, .top, .top], [.top, .top, .top, .top, .top, .top, .top, .top], [.top, .top, .top, .top, .top, .top, .top, .top], [.top, .top, .top]], [(.row [(.hid 4 true []), (.mapv 1), (.chv 2), (.hid 5 true [])]), (.hid 0 []), (.hid 1 [])]⟩
def F6t : Tr :=
  (.ask (.bin .and) [(.hid 0 true []), (.int .i64 31)] (.hid 2 true [])
    (.ask (.bin .and) [(.hid 1 true []), (.int .i64 63)] (.hid 3 true [])
      (.call 17 [(.ptr 0 0), (.hid 2 true [])] [(.row [(.int .i64 300), (.mapv 1), (.chv 2), (.int .i64 0)]), (.map []), (.chan 1 [])] (.hid 4 true []) [(.row [(.hid 5 true []), (.mapv 1), (.chv 2), (.hid 6 true [])]), (.hid 0 []), (.hid 1 [])]
        (.goto 0 [(.hid 2 true []), (.hid 3 true []), (.hid 4 true []), (.int .i64 0), (.hid 5 true []), (.hid 6 true [])] [(.hid 0 []), (.hid 1 [])])
        .fail)
      .fail)
    .fail)
def F6 : Flow := ⟨6, [(.hid 0 true []), (.hid 1 true [])], [], F6t, [(F6n0, F6t0)]⟩
theorem F6_ok : F6.check Tryd.prog okS ext2 40 = true := by kernel_rfl
theorem F6_spec {sp : Sps} (hsp : sp.ok Tryd.prog) (n : Nat) : SpecB Tryd.prog 6 (F6.spec sp n) := flow_ok mixedS ext2_ok okS_enters hsp F6_ok rfl n
/-! boathouse/boathouselaw1.StoreLists -/
def F4t0 : Tr :=
  (.ask .lenA [(.hid 0 false [])] (.hid 5 true [])
    (.ite (.bin .lss) [(.hid 2 true []), (.hid 5 true [])]
      (.ite (.bin .lss) [(.hid 2 true []), (.int .i64 60)]
        (.ask (.idxA 1) [(.hid 0 false []), (.hid 2 true [])] (.ip [(.hid 6 true [])])
          (.ask (.conv .u64) [(.hid 6 true [])] (.hid 7 true [])
            (.ask (.bin .rem) [(.hid 7 true []), (.int .u64 100)] (.hid 8 true [])
              (.ask (.conv .i64) [(.hid 8 true [])] (.hid 9 true [])
                (.pcall 12 [(.hid 9 true [])] [] (.hid 10 true [])
                  (.ask (.bin .add) [(.str [107]), (.hid 10 true [])] (.hid 11 true [])
                    (.call 13 [(.ptr 0 0), (.hid 11 true []), (.str [100]), (.hid 2 true [])] [(.row [(.hid 3 true []), (.mapv 1), (.chv 2), (.hid 4 true [])]), (.hid 1 []), (.hid 2 [])] (.hid 12 true []) [(.row [(.hid 13 true []), (.mapv 1), (.chv 2), (.hid 14 true [])]), (.hid 3 []), (.hid 4 [])]
                      (.ite (.bin .eql) [(.hid 12 true []), (.int .i64 0)]
                        (.ask (.idxA 1) [(.sl 1 0 100 1 (some 100)), (.hid 9 true [])] (.hid 15 false [1])
                          (.phop (.load none) [(.hid 15 false [0])] [(.hid 0 [])] (.hid 16 true [])
                            (.ite .eqB [(.bool true), (.hid 16 true [])]
                              (.ret (.bool false) [])
                              (.hop (.stor 1) [(.hid 15 false [0]), (.bool true)] [(.hid 0 [])] .undef [(.hid 5 [])]
                                (.ask (.bin .add) [(.hid 2 true []), (.int .i64 1)] (.hid 17 true [])
                                  (.goto 0 [(.hid 0 false []), (.hid 1 true []), (.hid 17 true []), (.hid 13 true []), (.hid 14 true [])] [(.hid 5 []), (.hid 3 []), (.hid 4 [])])
                                  .fail)
                                .fail))
                            .fail)
                          .fail)
                        (.ask (.idxA 1) [(.sl 1 0 100 1 (some 100)), (.hid 9 true [])] (.hid 15 false [1])
                          (.phop (.load none) [(.hid 15 false [0])] [(.hid 0 [])] (.hid 16 true [])
                            (.ite .eqB [(.bool false), (.hid 16 true [])]
                              (.ret (.bool false) [])
                              (.hop (.stor 1) [(.hid 15 false [0]), (.bool true)] [(.hid 0 [])] .undef [(.hid 5 [])]
                                (.ask (.bin .add) [(.hid 2 true []), (.int .i64 1)] (.hid 17 true [])
                                  (.goto 0 [(.hid 0 false []), (.hid 1 true []), (.hid 17 true []), (.hid 13 true []), (.hid 14 true [])] [(.hid 5 []), (.hid 3 []), (.hid 4 [])])
                                  .fail)
                                .fail))
                            .fail)
                          .fail))
                      .fail)
                    .fail)
                  .fail)
                .fail)
              .fail)
            .fail)
          .fail)
        (.ask .lenS [(.hid 1 true [])] (.hid 6 true [])
          (.ask (.bin .and) [(.hid 6 true []), (.int .i64 1)] (.hid 7 true [])
            (.ite (.bin .eql) [(.hid 7 true []), (.int .i64 1)]
              (.call 16 [(.ptr 0 0), (.str [107, 49])] [(.row [(.hid 3 true []), (.mapv 1), (.chv 2), (.hid 4 true [])]), (.hid 1 []), (.hid 2 [])] (.tup [(.hid 8 false [3]), (.hid 9 true [])]) [(.row [(.hid 10 true []), (.mapv 1), (.chv 2), (.hid 11 true [])]), (.hid 3 []), (.hid 4 []), (.hid 5 [])]
                (.goto 3 [(.str [107, 49]), (.hid 8 false [0]), (.hid 9 true []), (.int .i64 0), (.int .i64 0), (.hid 10 true []), (.hid 11 true [])] [(.hid 0 []), (.hid 5 []), (.hid 3 []), (.hid 4 [])])
                (.call 16 [(.ptr 0 0), (.str [107, 49])] [(.row [(.hid 3 true []), (.mapv 1), (.chv 2), (.hid 4 true [])]), (.hid 1 []), (.hid 2 [])] (.tup [.snil, (.hid 8 true [])]) [(.row [(.hid 9 true []), (.mapv 1), (.chv 2), (.hid 10 true [])]), (.hid 3 []), (.hid 4 [])]
                  (.goto 1 [(.str [107, 49]), (.hid 8 true []), (.int .i64 0), (.int .i64 0), (.hid 9 true []), (.hid 10 true [])] [(.hid 0 []), (.hid 3 []), (.hid 4 [])])
                  .fail))
              (.call 16 [(.ptr 0 0), (.str [107])] [(.row [(.hid 3 true []), (.mapv 1), (.chv 2), (.hid 4 true [])]), (.hid 1 []), (.hid 2 [])] (.tup [(.hid 8 false [3]), (.hid 9 true [])]) [(.row [(.hid 10 true []), (.mapv 1), (.chv 2), (.hid 11 true [])]), (.hid 3 []), (.hid 4 []), (.hid 5 [])]
                (.goto 3 [(.str [107]), (.hid 8 false [0]), (.hid 9 true []), (.int .i64 0), (.int .i64 0), (.hid 10 true []), (.hid 11 true [])] [(.hid 0 []), (.hid 5 []), (.hid 3 []), (.hid 4 [])])
                (.call 16 [(.ptr 0 0), (.str [107])] [(.row [(.hid 3 true []), (.mapv 1), (.chv 2), (.hid 4 true [])]), (.hid 1 []), (.hid 2 [])] (.tup [.snil, (.hid 8 true [])]) [(.row [(.hid 9 true []), (.mapv 1), (.chv 2), (.hid 10 true [])]), (.hid 3 []), (.hid 4 [])]
                  (.goto 1 [(.str [107]), (.hid 8 true []), (.int .i64 0), (.int .i64 0), (.hid 9 true []), (.hid 10 true [])] [(.hid 0 []), (.hid 3 []), (.hid 4 [])])
                  .fail)))
            .fail)
          .fail))
      (.ask .lenS [(.hid 1 true [])] (.hid 6 true [])
        (.ask (.bin .and) [(.hid 6 true []), (.int .i64 1)] (.hid 7 true [])
          (.ite (.bin .eql) [(.hid 7 true []), (.int .i64 1)]
            (.call 16 [(.ptr 0 0), (.str [107, 49])] [(.row [(.hid 3 true []), (.mapv 1), (.chv 2), (.hid 4 true [])]), (.hid 1 []), (.hid 2 [])] (.tup [(.hid 8 false [3]), (.hid 9 true [])]) [(.row [(.hid 10 true []), (.mapv 1), (.chv 2), (.hid 11 true [])]), (.hid 3 []), (.hid 4 []), (.hid 5 [])]
              (.goto 3 [(.str [107, 49]), (.hid 8 false [0]), (.hid 9 true []), (.int .i64 0), (.int .i64 0), (.hid 10 true []), (.hid 11 true [])] [(.hid 0 []), (.hid 5 []), (.hid 3 []), (.hid 4 [])])
              (.call 16 [(.ptr 0 0), (.str [107, 49])] [(.row [(.hid 3 true []), (.mapv 1), (.chv 2), (.hid 4 true [])]), (.hid 1 []), (.hid 2 [])] (.tup [.snil, (.hid 8 true [])]) [(.row [(.hid 9 true []), (.mapv 1), (.chv 2), (.hid 10 true [])]), (.hid 3 []), (.hid 4 [])]
                (.goto 1 [(.str [107, 49]), (.hid 8 true []), (.int .i64 0), (.int .i64 0), (.hid 9 true []), (.hid 10 true [])] [(.hid 0 []), (.hid 3 []), (.hid 4 [])])
                .fail))
            (.call 16 [(.ptr 0 0), (.str [107])] [(.row [(.hid 3 true []), (.mapv 1), (.chv 2), (.hid 4 true [])]), (.hid 1 []), (.hid 2 [])] (.tup [(.hid 8 false [3]), (.hid 9 true [])]) [(.row [(.hid 10 true []), (.mapv 1), (.chv 2), (.hid 11 true [])]), (.hid 3 []), (.hid 4 []), (.hid 5 [])]
              (.goto 3 [(.str [107]), (.hid 8 false [0]), (.hid 9 true []), (.int .i64 0), (.int .i64 0), (.hid 10 true []), (.hid 11 true [])] [(.hid 0 []), (.hid 5 []), (.hid 3 []), (.hid 4 [])])
              (.call 16 [(.ptr 0 0), (.str [107])] [(.row [(.hid 3 true []), (.mapv 1), (.chv 2), (.hid 4 true [])]), (.hid 1 []), (.hid 2 [])] (.tup [.snil, (.hid 8 true [])]) [(.row [(.hid 9 true []), (.mapv 1), (.chv 2), (.hid 10 true [])]), (.hid 3 []), (.hid 4 [])]
                (.goto 1 [(.str [107]), (.hid 8 true []), (.int .i64 0), (.int .i64 0), (.hid 9 true []), (.hid 10 true [])] [(.hid 0 []), (.hid 3 []), (.hid 4 [])])
                .fail)))
          .fail)
        .fail))
    .fail)
def F4n0 : Node := ⟨[0, 1, 0, 1, 1, 1, 1], [[(.hid 0 false []), (.hid 1 true []), .top, .top, .top, (.ptr 0 0), (.int .i64 0), (.sl 1 0 100 1 (some 100))], [(.hid 2 true []), .top, .top, .top, .top, .top, .top, .top], [.top, .top, .top, .top, .top, .top, .top, .top], [.top, .top, .top, .top, .top, .top, .top, .top], [.top, .top, .top, .top, .top, .top, .top, .top], [.top, .top, .top, .top, .top, .top, .top, .top], [.top, .top, .top, .top, .top, .top, .top, .top], [.top, .top, .top, .top, .top, .top, .top, .top], [.top, .top, .top, .top, .top, .top, .top, .top], [.top, .top, .top, .top, .top, .top, .top, .top], [.top, .top, .top, .top, .top, .top, .top, .top], [.top, .top, .top, .top, .top, .top, .top, .top], [.top, .top, .top, .top, .top, .top, .top, .top], [.top, .top, .top, .top, .top, .top, .top, .top], [.top, .top, .top, .top, .top, .top, .top, .top], [.top, .top, .top, .top, .top, .top, .top, .top], [.top, .top, .top, .top, .top, .top, .top, .top], [.top, .top, .top, .top, .top, .top, .top, .top], [.top, .top, .top, .top, .top, .top, .top, .top], [.top, .top]], [(.row [(.hid 3 true []), (.mapv 2), (.chv 3), (.hid 4 true [])]), (.hid 0 []), (.hid 1 []), (.hid 2 [])]⟩
def F4t1 : Tr :=
  (.ite (.bin .lss) [(.hid 3 true []), (.int .i64 100)]
    (.pcall 12 [(.hid 3 true [])] [] (.hid 6 true [])
      (.ask (.bin .add) [(.str [107]), (.hid 6 true [])] (.hid 7 true [])
        (.ask (.idxA 1) [(.sl 1 0 100 1 (some 100)), (.hid 3 true [])] (.hid 8 false [1])
          (.phop (.load none) [(.hid 8 false [0])] [(.hid 0 [])] (.hid 9 true [])
            (.ite .idB [(.hid 9 true [])]
              (.ask .lenS [(.hid 7 true [])] (.hid 10 true [])
                (.ask .lenS [(.hid 0 true [])] (.hid 11 true [])
                  (.ite (.bin .geq) [(.hid 10 true []), (.hid 11 true [])]
                    (.ask (.slc none false true false) [(.hid 7 true []), (.hid 11 true [])] (.hid 12 true [])
                      (.ite (.bin .eql) [(.hid 12 true []), (.hid 0 true [])]
                        (.ask (.bin .add) [(.hid 2 true []), (.int .i64 1)] (.hid 13 true [])
                          (.ask (.bin .add) [(.hid 3 true []), (.int .i64 1)] (.hid 14 true [])
                            (.goto 1 [(.hid 0 true []), (.hid 1 true []), (.hid 13 true []), (.hid 14 true []), (.hid 4 true []), (.hid 5 true [])] [(.hid 0 []), (.hid 1 []), (.hid 2 [])])
                            .fail)
                          .fail)
                        (.ask (.bin .add) [(.hid 3 true []), (.int .i64 1)] (.hid 13 true [])
                          (.goto 1 [(.hid 0 true []), (.hid 1 true []), (.hid 2 true []), (.hid 13 true []), (.hid 4 true []), (.hid 5 true [])] [(.hid 0 []), (.hid 1 []), (.hid 2 [])])
                          .fail))
                      .fail)
                    (.ask (.bin .add) [(.hid 3 true []), (.int .i64 1)] (.hid 12 true [])
                      (.goto 1 [(.hid 0 true []), (.hid 1 true []), (.hid 2 true []), (.hid 12 true []), (.hid 4 true []), (.hid 5 true [])] [(.hid 0 []), (.hid 1 []), (.hid 2 [])])
                      .fail))
                  .fail)
                .fail)
              (.ask (.bin .add) [(.hid 3 true []), (.int .i64 1)] (.hid 10 true [])
                (.goto 1 [(.hid 0 true []), (.hid 1 true []), (.hid 2 true []), (.hid 10 true []), (.hid 4 true []), (.hid 5 true [])] [(.hid 0 []), (.hid 1 []), (.hid 2 [])])
                .fail))
            .fail)
          .fail)
        .fail)
      .fail)
    (.goto 2 [(.hid 1 true []), (.hid 2 true []), (.hid 4 true []), (.hid 5 true [])] [(.hid 1 []), (.hid 2 [])]))
def F4n1 : Node := ⟨[0, 1, 0, 1, 1, 1, 1, 1, 1, 1, 1, 1], [[.top, .top, .top, .top, .top, (.ptr 0 0), (.int .i64 0), (.sl 1 0 100 1 (some 100))], [.top, .top, .top, (.hid 0 true []), .snil, (.hid 1 true []), (.hid 2 true []), (.hid 3 true [])], [.top, .top, .top, .top, .top, .top, .top, .top], [.top, .top, .top, .top, .top, .top, .top, .top], [.top, .top, .top, .top, .top, .top, .top, .top], [.top, .top, .top, .top, .top, .top, .top, .top], [.top, .top, .top, .top, .top, .top, .top, .top], [.top, .top, .top, .top, .top, .top, .top, .top], [.top, .top, .top, .top, .top, .top, .top, .top], [.top, .top, .top, .top, .top, .top, .top, .top], [.top, .top, .top, .top, .top, .top, .top, .top], [.top, .top, .top, .top, .top, .top, .top, .top], [.top, .top, .top, .top, .top, .top, .top, .top], [.top, .top, .top, .top, .top, .top, .top, .top], [.top, .top, .top, .top, .top, .top, .top, .top], [.top, .top, .top, .top, .top, .top, .top, .top], [.top, .top, .top, .top, .top, .top, .top, .top], [.top, .top, .top, .top, .top, .top, .top, .top], [.top, .top, .top, .top, .top, .top, .top, .top], [.top, .top]], [(.row [(.hid 4 true []), (.mapv 2), (.chv 3), (.hid 5 true [])]), (.hid 0 []), (.hid 1 []), (.hid 2 [])]⟩
def F4t2 : Tr :=
  (.call 16 [(.ptr 0 0), (.str [122])] [(.row [(.hid 2 true []), (.mapv 1), (.chv 2), (.hid 3 true [])]), (.hid 0 []), (.hid 1 [])] (.tup [(.hid 4 false [3]), (.hid 5 true [])]) [(.row [(.hid 6 true []), (.mapv 1), (.chv 2), (.hid 7 true [])]), (.hid 2 []), (.hid 3 []), (.hid 4 [])]
    (.ite (.bin .eql) [(.hid 0 true []), (.int .i64 0)]
      (.ite (.bin .eql) [(.int .i64 0), (.hid 1 true [])]
        (.ite (.bin .eql) [(.hid 5 true []), (.int .i64 0)]
          (.ask .lenA [(.hid 4 false [3])] (.hid 8 true [])
            (.ite (.bin .eql) [(.hid 8 true []), (.int .i64 0)]
              (.ret (.bool true) [])
              (.ret (.bool false) []))
            .fail)
          (.ret (.bool false) []))
        (.ret (.bool false) []))
      (.ret (.bool false) []))
    (.call 16 [(.ptr 0 0), (.str [122])] [(.row [(.hid 2 true []), (.mapv 1), (.chv 2), (.hid 3 true [])]), (.hid 0 []), (.hid 1 [])] (.tup [.snil, (.hid 4 true [])]) [(.row [(.hid 5 true []), (.mapv 1), (.chv 2), (.hid 6 true [])]), (.hid 2 []), (.hid 3 [])]
      (.ite (.bin .eql) [(.hid 0 true []), (.int .i64 0)]
        (.ite (.bin .eql) [(.int .i64 0), (.hid 1 true [])]
          (.ite (.bin .eql) [(.hid 4 true []), (.int .i64 0)]
            (.ret (.bool true) [])
            (.ret (.bool false) []))
          (.ret (.bool false) []))
        (.ret (.bool false) []))
      .fail))
def F4n2 : Node := ⟨[0, 1, 0, 1, 1, 1, 1, 1, 1, 1, 1, 1, 1], [[.top, .top, .top, .top, .top, (.ptr 0 0), (.int .i64 0), .top], [.top, .top, .top, .top, .snil, (.hid 0 true []), (.hid 1 true []), .top], [.top, (.int .i64 1), .top, .top, .top, .top, .top, .top], [.top, .top, .top, .top, .top, .top, .top, .top], [.top, .top, .top, .top, .top, .top, .top, .top], [.top, .top, .top, .top, .top, .top, .top, .top], [.top, .top, .top, .top, .top, .top, .top, .top], [.top, .top, .top, .top, .top, .top, .top, .top], [.top, .top, .top, .top, .top, .top, .top, .top], [.top, .top, .top, .top, .top, .top, .top, .top], [.top, .top, .top, .top, .top, .top, .top, .top], [.top, .top, .top, .top, .top, .top, .top, .top], [.top, .top, .top, .top, .top, .top, .top, .top], [.top, .top, .top, .top, .top, .top, .top, .top], [.top, .top, .top, .top, .top, .top, .top, .top], [.top, .top, .top, .top, .top, .top, .top, .top], [.top, .top, .top, .top, .top, .top, .top, .top], [.top, .top, .top, .top, .top, .top, .top, .top], [.top, .top, .top, .top, .top, .top, .top, .top], [.top, .top]], [(.row [(.hid 2 true []), (.mapv 1), (.chv 2), (.hid 3 true [])]), (.hid 0 []), (.hid 1 [])]⟩
def F4t3 : Tr :=
  (.ite (.bin .lss) [(.hid 4 true []), (.int .i64 100)]
    (.pcall 12 [(.hid 4 true [])] [] (.hid 7 true [])
      (.ask (.bin .add) [(.str [107]), (.hid 7 true [])] (.hid 8 true [])
        (.ask (.idxA 1) [(.sl 1 0 100 1 (some 100)), (.hid 4 true [])] (.hid 9 false [1])
          (.phop (.load none) [(.hid 9 false [0])] [(.hid 0 [])] (.hid 10 true [])
            (.ite .idB [(.hid 10 true [])]
              (.ask .lenS [(.hid 8 true [])] (.hid 11 true [])
                (.ask .lenS [(.hid 0 true [])] (.hid 12 true [])
                  (.ite (.bin .geq) [(.hid 11 true []), (.hid 12 true [])]
                    (.ask (.slc none false true false) [(.hid 8 true []), (.hid 12 true [])] (.hid 13 true [])
                      (.ite (.bin .eql) [(.hid 13 true []), (.hid 0 true [])]
                        (.ask (.bin .add) [(.hid 3 true []), (.int .i64 1)] (.hid 14 true [])
                          (.ask (.bin .add) [(.hid 4 true []), (.int .i64 1)] (.hid 15 true [])
                            (.goto 3 [(.hid 0 true []), (.hid 1 false [0]), (.hid 2 true []), (.hid 14 true []), (.hid 15 true []), (.hid 5 true []), (.hid 6 true [])] [(.hid 0 []), (.hid 1 []), (.hid 2 []), (.hid 3 [])])
                            .fail)
                          .fail)
                        (.ask (.bin .add) [(.hid 4 true []), (.int .i64 1)] (.hid 14 true [])
                          (.goto 3 [(.hid 0 true []), (.hid 1 false [0]), (.hid 2 true []), (.hid 3 true []), (.hid 14 true []), (.hid 5 true []), (.hid 6 true [])] [(.hid 0 []), (.hid 1 []), (.hid 2 []), (.hid 3 [])])
                          .fail))
                      .fail)
                    (.ask (.bin .add) [(.hid 4 true []), (.int .i64 1)] (.hid 13 true [])
                      (.goto 3 [(.hid 0 true []), (.hid 1 false [0]), (.hid 2 true []), (.hid 3 true []), (.hid 13 true []), (.hid 5 true []), (.hid 6 true [])] [(.hid 0 []), (.hid 1 []), (.hid 2 []), (.hid 3 [])])
                      .fail))
                  .fail)
                .fail)
              (.ask (.bin .add) [(.hid 4 true []), (.int .i64 1)] (.hid 11 true [])
                (.goto 3 [(.hid 0 true []), (.hid 1 false [0]), (.hid 2 true []), (.hid 3 true []), (.hid 11 true []), (.hid 5 true []), (.hid 6 true [])] [(.hid 0 []), (.hid 1 []), (.hid 2 []), (.hid 3 [])])
                .fail))
            .fail)
          .fail)
        .fail)
      .fail)
    (.goto 4 [(.hid 1 false [0]), (.hid 2 true []), (.hid 3 true []), (.int .i64 1), (.hid 5 true []), (.hid 6 true [])] [(.hid 1 []), (.hid 2 []), (.hid 3 [])]))
def F4n3 : Node := ⟨[0, 1, 0, 1, 1, 1, 1, 1, 1, 1, 1, 1], [[.top, .top, .top, .top, .top, (.ptr 0 0), (.int .i64 0), (.sl 1 0 100 1 (some 100))], [.top, .top, .top, (.hid 0 true []), (.hid 1 false [2]), (.hid 2 true []), (.hid 3 true []), (.hid 4 true [])], [.top, .top, .top, .top, .top, .top, .top, .top], [.top, .top, .top, .top, .top, .top, .top, .top], [.top, .top, .top, .top, .top, .top, .top, .top], [.top, .top, .top, .top, .top, .top, .top, .top], [.top, .top, .top, .top, .top, .top, .top, .top], [.top, .top, .top, .top, .top, .top, .top, .top], [.top, .top, .top, .top, .top, .top, .top, .top], [.top, .top, .top, .top, .top, .top, .top, .top], [.top, .top, .top, .top, .top, .top, .top, .top], [.top, .top, .top, .top, .top, .top, .top, .top], [.top, .top, .top, .top, .top, .top, .top, .top], [.top, .top, .top, .top, .top, .top, .top, .top], [.top, .top, .top, .top, .top, .top, .top, .top], [.top, .top, .top, .top, .top, .top, .top, .top], [.top, .top, .top, .top, .top, .top, .top, .top], [.top, .top, .top, .top, .top, .top, .top, .top], [.top, .top, .top, .top, .top, .top, .top, .top], [.top, .top]], [(.row [(.hid 5 true []), (.mapv 3), (.chv 4), (.hid 6 true [])]), (.hid 0 []), (.hid 1 []), (.hid 2 []), (.hid 3 [])]⟩
def F4t4 : Tr :=
  (.ask .lenA [(.hid 0 false [1])] (.hid 6 true [])
    (.ite (.bin .lss) [(.hid 3 true []), (.hid 6 true [])]
      (.ask (.bin .sub) [(.hid 3 true []), (.int .i64 1)] (.hid 7 true [])
        (.ask (.idxA 3) [(.hid 0 false [1]), (.hid 7 true [])] (.hid 8 false [1])
          (.ask (.fadr 0) [(.hid 8 false [1])] (.hid 9 false [1])
            (.phop (.load none) [(.hid 9 false [0])] [(.hid 0 [])] (.hid 10 true [])
              (.ask (.idxA 3) [(.hid 0 false [1]), (.hid 3 true [])] (.hid 11 false [1])
                (.ask (.fadr 0) [(.hid 11 false [1])] (.hid 12 false [1])
                  (.phop (.load none) [(.hid 12 false [0])] [(.hid 0 [])] (.hid 13 true [])
                    (.ite (.bin .geq) [(.hid 10 true []), (.hid 13 true [])]
                      (.ret (.bool false) [])
                      (.ask (.fadr 1) [(.hid 11 false [1])] (.hid 14 false [1])
                        (.phop (.load none) [(.hid 14 false [0])] [(.hid 0 [])] (.hid 15 true [])
                          (.ite (.bin .neq) [(.hid 15 true []), (.str [])]
                            (.ret (.bool false) [])
                            (.ask (.bin .add) [(.hid 3 true []), (.int .i64 1)] (.hid 16 true [])
                              (.goto 4 [(.hid 0 false [0]), (.hid 1 true []), (.hid 2 true []), (.hid 16 true []), (.hid 4 true []), (.hid 5 true [])] [(.hid 0 []), (.hid 1 []), (.hid 2 [])])
                              .fail))
                          .fail)
                        .fail))
                    .fail)
                  .fail)
                .fail)
              .fail)
            .fail)
          .fail)
        .fail)
      (.call 16 [(.ptr 0 0), (.str [122])] [(.row [(.hid 4 true []), (.mapv 1), (.chv 2), (.hid 5 true [])]), (.hid 1 []), (.hid 2 [])] (.tup [(.hid 7 false [3]), (.hid 8 true [])]) [(.row [(.hid 9 true []), (.mapv 1), (.chv 2), (.hid 10 true [])]), (.hid 3 []), (.hid 4 []), (.hid 5 [])]
        (.ite (.bin .eql) [(.hid 1 true []), (.int .i64 0)]
          (.ite (.bin .eql) [(.hid 6 true []), (.hid 2 true [])]
            (.ite (.bin .eql) [(.hid 8 true []), (.int .i64 0)]
              (.ask .lenA [(.hid 7 false [4])] (.hid 11 true [])
                (.ite (.bin .eql) [(.hid 11 true []), (.int .i64 0)]
                  (.ret (.bool true) [])
                  (.ret (.bool false) []))
                .fail)
              (.ret (.bool false) []))
            (.ret (.bool false) []))
          (.ret (.bool false) []))
        (.call 16 [(.ptr 0 0), (.str [122])] [(.row [(.hid 4 true []), (.mapv 1), (.chv 2), (.hid 5 true [])]), (.hid 1 []), (.hid 2 [])] (.tup [.snil, (.hid 7 true [])]) [(.row [(.hid 8 true []), (.mapv 1), (.chv 2), (.hid 9 true [])]), (.hid 3 []), (.hid 4 [])]
          (.ite (.bin .eql) [(.hid 1 true []), (.int .i64 0)]
            (.ite (.bin .eql) [(.hid 6 true []), (.hid 2 true [])]
              (.ite (.bin .eql) [(.hid 7 true []), (.int .i64 0)]
                (.ret (.bool true) [])
                (.ret (.bool false) []))
              (.ret (.bool false) []))
            (.ret (.bool false) []))
          .fail)))
    .fail)
def F4n4 : Node := ⟨[0, 1, 0, 1, 1, 1, 1, 1, 1, 1, 1, 1, 1], [[.top, .top, .top, .top, .top, (.ptr 0 0), (.int .i64 0), .top], [.top, .top, .top, .top, (.hid 0 false [1]), (.hid 1 true []), (.hid 2 true []), .top], [.top, (.hid 3 true []), .top, .top, .top, .top, .top, .top], [.top, .top, .top, .top, .top, .top, .top, .top], [.top, .top, .top, .top, .top, .top, .top, .top], [.top, .top, .top, .top, .top, .top, .top, .top], [.top, .top, .top, .top, .top, .top, .top, .top], [.top, .top, .top, .top, .top, .top, .top, .top], [.top, .top, .top, .top, .top, .top, .top, .top], [.top, .top, .top, .top, .top, .top, .top, .top], [.top, .top, .top, .top, .top, .top, .top, .top], [.top, .top, .top, .top, .top, .top, .top, .top], [.top, .top, .top, .top, .top, .top, .top, .top], [.top, .top, .top, .top, .top, .top, .top, .top], [.top, .top, .top, .top, .top, .top, .top, .top], [.top, .top, .top, .top, .top, .top, .top, .top], [.top, .top, .top, .top, .top, .top, .top, .top], [.top, .top, .top, .top, .top, .top, .top, .top], [.top, .top, .top, .top, .top, .top, .top, .top], [.top, .top]], [(.row [(.hid 4 true []), (.mapv 2), (.chv 3), (.hid 5 true [])]), (.hid 0 []), (.hid 1 []), (.hid 2 [])]⟩
def F4t : Tr :=
  (.goto 0 [(.hid 0 false []), (.hid 1 true []), (.int .i64 0), (.int .i64 200), (.int .i64 0)] [(.row [(.bool false), (.bool false), (.bool false), (.bool false), (.bool false), (.bool false), (.bool false), (.bool false), (.bool false), (.bool false), (.bool false), (.bool false), (.bool false), (.bool false), (.bool false), (.bool false), (.bool false), (.bool false), (.bool false), (.bool false), (.bool false), (.bool false), (.bool false), (.bool false), (.bool false), (.bool false), (.bool false), (.bool false), (.bool false), (.bool false), (.bool false), (.bool false), (.bool false), (.bool false), (.bool false), (.bool false), (.bool false), (.bool false), (.bool false), (.bool false), (.bool false), (.bool false), (.bool false), (.bool false), (.bool false), (.bool false), (.bool false), (.bool false), (.bool false), (.bool false), (.bool false), (.bool false), (.bool false), (.bool false), (.bool false), (.bool false), (.bool false), (.bool false), (.bool false), (.bool false), (.bool false), (.bool false), (.bool false), (.bool false), (.bool false), (.bool false), (.bool false), (.bool false), (.bool false), (.bool false), (.bool false), (.bool false), (.bool false), (.bool false), (.bool false), (.bool false), (.bool false), (.bool false), (.bool false), (.bool false), (.bool false), (.bool false), (.bool false), (.bool false), (.bool false), (.bool false), (.bool false), (.bool false), (.bool false), (.bool false), (.bool false), (.bool false), (.bool false), (.bool false), (.bool false), (.bool false), (.bool false), (.bool false), (.bool false), (.bool false)]), (.map []), (.chan 1 [])])
def F4 : Flow := ⟨4, [(.hid 0 false []), (.hid 1 true [])], [], F4t, [(F4n0, F4t0), (F4n1, F4t1), (F4n2, F4t2), (F4n3, F4t3), (F4n4, F4t4)]⟩
theorem F4_ok : F4.check Tryd.prog okS ext2 40 = true := by kernel_rfl
theorem F4_spec {sp : Sps} (hsp : sp.ok Tryd.prog) (n : Nat) : SpecB Tryd.prog 4 (F4.spec sp n) := flow_ok mixedS ext2_ok okS_enters hsp F4_ok rfl n
/-! boathouse/boathouselaw1.StoreKeys -/
def F5t0 : Tr :=
  (.ite (.bin .lss) [(.hid 4 true []), (.hid 2 true [])]
    (.ask (.idxA 1) [(.hid 3 false [1]), (.hid 4 true [])] (.hid 5 false [1])
      (.hop (.stor 1) [(.hid 5 false [0]), (.int .u8 107)] [(.hid 0 [])] .undef [(.hid 2 [])]
        (.ask (.bin .add) [(.hid 4 true []), (.int .i64 1)] (.hid 6 true [])
          (.goto 0 [(.hid 0 true []), (.hid 1 true []), (.hid 2 true []), (.hid 3 false [0]), (.hid 6 true [])] [(.hid 2 []), (.hid 1 [])])
          .fail)
        .fail)
      .fail)
    (.ask (.conv .u8) [(.hid 0 true [])] (.hid 5 true [])
      (.ite (.bin .gtr) [(.hid 2 true []), (.int .i64 0)]
        (.ask (.bin .sub) [(.hid 2 true []), (.int .i64 1)] (.hid 6 true [])
          (.ask (.idxA 1) [(.hid 3 false [1]), (.hid 6 true [])] (.hid 7 false [1])
            (.hop (.stor 1) [(.hid 7 false [0]), (.hid 5 true [])] [(.hid 0 [])] .undef [(.hid 2 [])]
              (.phop .toS [(.hid 3 false [0])] [(.hid 2 [])] (.hid 8 true [])
                (.call 13 [(.ptr 0 0), (.hid 8 true []), (.str []), (.int .i64 0)] [(.row [(.int .i64 9), (.mapv 1), (.chv 2), (.int .i64 0)]), (.map []), (.hid 1 [])] (.hid 9 true []) [(.row [(.hid 10 true []), (.mapv 1), (.chv 2), (.hid 11 true [])]), (.hid 3 []), (.hid 4 [])]
                  (.ask (.bin .geq) [(.hid 2 true []), (.int .i64 1)] (.bool true)
                    (.ite (.bin .leq) [(.hid 2 true []), (.int .i64 64)]
                      (.ite (.bin .geq) [(.hid 5 true []), (.int .u8 33)]
                        (.ite (.bin .leq) [(.hid 5 true []), (.int .u8 126)]
                          (.ask (.bin .and) [(.hid 1 true []), (.int .i64 1)] (.hid 12 true [])
                            (.ask (.bin .add) [(.int .i64 65536), (.hid 12 true [])] (.hid 13 true [])
                              (.hop (.mk 1 [(.int .u8 0)]) [(.hid 13 true []), (.hid 13 true [])] [] (.hid 14 false [0]) [(.hid 5 [])]
                                (.phop .toS [(.hid 14 false [0])] [(.hid 5 [])] (.hid 15 true [])
                                  (.call 13 [(.ptr 0 0), (.str [98, 105, 103]), (.hid 15 true []), (.int .i64 0)] [(.row [(.hid 10 true []), (.mapv 1), (.chv 2), (.hid 11 true [])]), (.hid 3 []), (.hid 4 [])] (.hid 16 true []) [(.row [(.hid 17 true []), (.mapv 1), (.chv 2), (.hid 18 true [])]), (.hid 6 []), (.hid 7 [])]
                                    (.ask (.bin .and) [(.hid 1 true []), (.int .i64 7)] (.hid 19 true [])
                                      (.ask (.bin .sub) [(.int .i64 (-1)), (.hid 19 true [])] (.hid 20 true [])
                                        (.call 13 [(.ptr 0 0), (.str [101, 97, 114, 108, 121]), (.str []), (.hid 20 true [])] [(.row [(.hid 17 true []), (.mapv 1), (.chv 2), (.hid 18 true [])]), (.hid 6 []), (.hid 7 [])] (.hid 21 true []) [(.row [(.hid 22 true []), (.mapv 1), (.chv 2), (.hid 23 true [])]), (.hid 8 []), (.hid 9 [])]
                                          (.ite (.bin .eql) [(.hid 9 true []), (.int .i64 0)]
                                            (.ite (.bin .eql) [(.hid 16 true []), (.int .i64 0)]
                                              (.ite (.bin .eql) [(.hid 12 true []), (.int .i64 0)]
                                                (.ite (.bin .eql) [(.hid 21 true []), (.int .i64 100)]
                                                  (.ret (.bool true) [])
                                                  (.ret (.bool false) []))
                                                (.ret (.bool false) []))
                                              (.ite (.bin .eql) [(.hid 12 true []), (.int .i64 0)]
                                                (.ret (.bool false) [])
                                                (.ite (.bin .eql) [(.hid 21 true []), (.int .i64 100)]
                                                  (.ret (.bool true) [])
                                                  (.ret (.bool false) []))))
                                            (.ret (.bool false) []))
                                          .fail)
                                        .fail)
                                      .fail)
                                    .fail)
                                  .fail)
                                .fail)
                              .fail)
                            .fail)
                          (.ask (.bin .and) [(.hid 1 true []), (.int .i64 1)] (.hid 12 true [])
                            (.ask (.bin .add) [(.int .i64 65536), (.hid 12 true [])] (.hid 13 true [])
                              (.hop (.mk 1 [(.int .u8 0)]) [(.hid 13 true []), (.hid 13 true [])] [] (.hid 14 false [0]) [(.hid 5 [])]
                                (.phop .toS [(.hid 14 false [0])] [(.hid 5 [])] (.hid 15 true [])
                                  (.call 13 [(.ptr 0 0), (.str [98, 105, 103]), (.hid 15 true []), (.int .i64 0)] [(.row [(.hid 10 true []), (.mapv 1), (.chv 2), (.hid 11 true [])]), (.hid 3 []), (.hid 4 [])] (.hid 16 true []) [(.row [(.hid 17 true []), (.mapv 1), (.chv 2), (.hid 18 true [])]), (.hid 6 []), (.hid 7 [])]
                                    (.ask (.bin .and) [(.hid 1 true []), (.int .i64 7)] (.hid 19 true [])
                                      (.ask (.bin .sub) [(.int .i64 (-1)), (.hid 19 true [])] (.hid 20 true [])
                                        (.call 13 [(.ptr 0 0), (.str [101, 97, 114, 108, 121]), (.str []), (.hid 20 true [])] [(.row [(.hid 17 true []), (.mapv 1), (.chv 2), (.hid 18 true [])]), (.hid 6 []), (.hid 7 [])] (.hid 21 true []) [(.row [(.hid 22 true []), (.mapv 1), (.chv 2), (.hid 23 true [])]), (.hid 8 []), (.hid 9 [])]
                                          (.ite (.bin .eql) [(.hid 9 true []), (.int .i64 0)]
                                            (.ret (.bool false) [])
                                            (.ite (.bin .eql) [(.hid 9 true []), (.int .i64 100)]
                                              (.ite (.bin .eql) [(.hid 16 true []), (.int .i64 0)]
                                                (.ite (.bin .eql) [(.hid 12 true []), (.int .i64 0)]
                                                  (.ite (.bin .eql) [(.hid 21 true []), (.int .i64 100)]
                                                    (.ret (.bool true) [])
                                                    (.ret (.bool false) []))
                                                  (.ret (.bool false) []))
                                                (.ite (.bin .eql) [(.hid 12 true []), (.int .i64 0)]
                                                  (.ret (.bool false) [])
                                                  (.ite (.bin .eql) [(.hid 21 true []), (.int .i64 100)]
                                                    (.ret (.bool true) [])
                                                    (.ret (.bool false) []))))
                                              (.ret (.bool false) [])))
                                          .fail)
                                        .fail)
                                      .fail)
                                    .fail)
                                  .fail)
                                .fail)
                              .fail)
                            .fail))
                        (.ask (.bin .and) [(.hid 1 true []), (.int .i64 1)] (.hid 12 true [])
                          (.ask (.bin .add) [(.int .i64 65536), (.hid 12 true [])] (.hid 13 true [])
                            (.hop (.mk 1 [(.int .u8 0)]) [(.hid 13 true []), (.hid 13 true [])] [] (.hid 14 false [0]) [(.hid 5 [])]
                              (.phop .toS [(.hid 14 false [0])] [(.hid 5 [])] (.hid 15 true [])
                                (.call 13 [(.ptr 0 0), (.str [98, 105, 103]), (.hid 15 true []), (.int .i64 0)] [(.row [(.hid 10 true []), (.mapv 1), (.chv 2), (.hid 11 true [])]), (.hid 3 []), (.hid 4 [])] (.hid 16 true []) [(.row [(.hid 17 true []), (.mapv 1), (.chv 2), (.hid 18 true [])]), (.hid 6 []), (.hid 7 [])]
                                  (.ask (.bin .and) [(.hid 1 true []), (.int .i64 7)] (.hid 19 true [])
                                    (.ask (.bin .sub) [(.int .i64 (-1)), (.hid 19 true [])] (.hid 20 true [])
                                      (.call 13 [(.ptr 0 0), (.str [101, 97, 114, 108, 121]), (.str []), (.hid 20 true [])] [(.row [(.hid 17 true []), (.mapv 1), (.chv 2), (.hid 18 true [])]), (.hid 6 []), (.hid 7 [])] (.hid 21 true []) [(.row [(.hid 22 true []), (.mapv 1), (.chv 2), (.hid 23 true [])]), (.hid 8 []), (.hid 9 [])]
                                        (.ite (.bin .eql) [(.hid 9 true []), (.int .i64 0)]
                                          (.ret (.bool false) [])
                                          (.ite (.bin .eql) [(.hid 9 true []), (.int .i64 100)]
                                            (.ite (.bin .eql) [(.hid 16 true []), (.int .i64 0)]
                                              (.ite (.bin .eql) [(.hid 12 true []), (.int .i64 0)]
                                                (.ite (.bin .eql) [(.hid 21 true []), (.int .i64 100)]
                                                  (.ret (.bool true) [])
                                                  (.ret (.bool false) []))
                                                (.ret (.bool false) []))
                                              (.ite (.bin .eql) [(.hid 12 true []), (.int .i64 0)]
                                                (.ret (.bool false) [])
                                                (.ite (.bin .eql) [(.hid 21 true []), (.int .i64 100)]
                                                  (.ret (.bool true) [])
                                                  (.ret (.bool false) []))))
                                            (.ret (.bool false) [])))
                                        .fail)
                                      .fail)
                                    .fail)
                                  .fail)
                                .fail)
                              .fail)
                            .fail)
                          .fail))
                      (.ask (.bin .and) [(.hid 1 true []), (.int .i64 1)] (.hid 12 true [])
                        (.ask (.bin .add) [(.int .i64 65536), (.hid 12 true [])] (.hid 13 true [])
                          (.hop (.mk 1 [(.int .u8 0)]) [(.hid 13 true []), (.hid 13 true [])] [] (.hid 14 false [0]) [(.hid 5 [])]
                            (.phop .toS [(.hid 14 false [0])] [(.hid 5 [])] (.hid 15 true [])
                              (.call 13 [(.ptr 0 0), (.str [98, 105, 103]), (.hid 15 true []), (.int .i64 0)] [(.row [(.hid 10 true []), (.mapv 1), (.chv 2), (.hid 11 true [])]), (.hid 3 []), (.hid 4 [])] (.hid 16 true []) [(.row [(.hid 17 true []), (.mapv 1), (.chv 2), (.hid 18 true [])]), (.hid 6 []), (.hid 7 [])]
                                (.ask (.bin .and) [(.hid 1 true []), (.int .i64 7)] (.hid 19 true [])
                                  (.ask (.bin .sub) [(.int .i64 (-1)), (.hid 19 true [])] (.hid 20 true [])
                                    (.call 13 [(.ptr 0 0), (.str [101, 97, 114, 108, 121]), (.str []), (.hid 20 true [])] [(.row [(.hid 17 true []), (.mapv 1), (.chv 2), (.hid 18 true [])]), (.hid 6 []), (.hid 7 [])] (.hid 21 true []) [(.row [(.hid 22 true []), (.mapv 1), (.chv 2), (.hid 23 true [])]), (.hid 8 []), (.hid 9 [])]
                                      (.ite (.bin .eql) [(.hid 9 true []), (.int .i64 0)]
                                        (.ret (.bool false) [])
                                        (.ite (.bin .eql) [(.hid 9 true []), (.int .i64 100)]
                                          (.ite (.bin .eql) [(.hid 16 true []), (.int .i64 0)]
                                            (.ite (.bin .eql) [(.hid 12 true []), (.int .i64 0)]
                                              (.ite (.bin .eql) [(.hid 21 true []), (.int .i64 100)]
                                                (.ret (.bool true) [])
                                                (.ret (.bool false) []))
                                              (.ret (.bool false) []))
                                            (.ite (.bin .eql) [(.hid 12 true []), (.int .i64 0)]
                                              (.ret (.bool false) [])
                                              (.ite (.bin .eql) [(.hid 21 true []), (.int .i64 100)]
                                                (.ret (.bool true) [])
                                                (.ret (.bool false) []))))
                                          (.ret (.bool false) [])))
                                      .fail)
                                    .fail)
                                  .fail)
                                .fail)
                              .fail)
                            .fail)
                          .fail)
                        .fail))
                    .fail)
                  .fail)
                .fail)
              .fail)
            .fail)
          .fail)
        (.phop .toS [(.hid 3 false [0])] [(.hid 0 [])] (.hid 6 true [])
          (.call 13 [(.ptr 0 0), (.hid 6 true []), (.str []), (.int .i64 0)] [(.row [(.int .i64 9), (.mapv 1), (.chv 2), (.int .i64 0)]), (.map []), (.hid 1 [])] (.hid 7 true []) [(.row [(.hid 8 true []), (.mapv 1), (.chv 2), (.hid 9 true [])]), (.hid 2 []), (.hid 3 [])]
            (.ask (.bin .geq) [(.hid 2 true []), (.int .i64 1)] (.bool false)
              (.ask (.bin .and) [(.hid 1 true []), (.int .i64 1)] (.hid 10 true [])
                (.ask (.bin .add) [(.int .i64 65536), (.hid 10 true [])] (.hid 11 true [])
                  (.hop (.mk 1 [(.int .u8 0)]) [(.hid 11 true []), (.hid 11 true [])] [] (.hid 12 false [0]) [(.hid 4 [])]
                    (.phop .toS [(.hid 12 false [0])] [(.hid 4 [])] (.hid 13 true [])
                      (.call 13 [(.ptr 0 0), (.str [98, 105, 103]), (.hid 13 true []), (.int .i64 0)] [(.row [(.hid 8 true []), (.mapv 1), (.chv 2), (.hid 9 true [])]), (.hid 2 []), (.hid 3 [])] (.hid 14 true []) [(.row [(.hid 15 true []), (.mapv 1), (.chv 2), (.hid 16 true [])]), (.hid 5 []), (.hid 6 [])]
                        (.ask (.bin .and) [(.hid 1 true []), (.int .i64 7)] (.hid 17 true [])
                          (.ask (.bin .sub) [(.int .i64 (-1)), (.hid 17 true [])] (.hid 18 true [])
                            (.call 13 [(.ptr 0 0), (.str [101, 97, 114, 108, 121]), (.str []), (.hid 18 true [])] [(.row [(.hid 15 true []), (.mapv 1), (.chv 2), (.hid 16 true [])]), (.hid 5 []), (.hid 6 [])] (.hid 19 true []) [(.row [(.hid 20 true []), (.mapv 1), (.chv 2), (.hid 21 true [])]), (.hid 7 []), (.hid 8 [])]
                              (.ite (.bin .eql) [(.hid 7 true []), (.int .i64 0)]
                                (.ret (.bool false) [])
                                (.ite (.bin .eql) [(.hid 7 true []), (.int .i64 100)]
                                  (.ite (.bin .eql) [(.hid 14 true []), (.int .i64 0)]
                                    (.ite (.bin .eql) [(.hid 10 true []), (.int .i64 0)]
                                      (.ite (.bin .eql) [(.hid 19 true []), (.int .i64 100)]
                                        (.ret (.bool true) [])
                                        (.ret (.bool false) []))
                                      (.ret (.bool false) []))
                                    (.ite (.bin .eql) [(.hid 10 true []), (.int .i64 0)]
                                      (.ret (.bool false) [])
                                      (.ite (.bin .eql) [(.hid 19 true []), (.int .i64 100)]
                                        (.ret (.bool true) [])
                                        (.ret (.bool false) []))))
                                  (.ret (.bool false) [])))
                              .fail)
                            .fail)
                          .fail)
                        .fail)
                      .fail)
                    .fail)
                  .fail)
                .fail)
              .fail)
            .fail)
          .fail))
      .fail))
def F5n0 : Node := ⟨[0, 1, 0, 1, 1, 1, 1, 1], [[.top, (.hid 0 true []), (.hid 1 true []), .top, .top, .top, .top, (.ptr 0 0)], [(.int .i64 0), (.hid 2 true []), (.hid 3 false [1]), (.hid 4 true []), .top, .top, .top, .top], [.top, .top, .top, .top, .top, .top, .top, .top], [.top, .top, .top, .top, .top, .top, .top, .top], [.top, .top, .top, .top, .top, .top, .top, .top], [.top, .top, .top, .top, .top, .top, .top, .top], [.top, .top, .top, .top, .top, .top, .top, .top], [.top, .top, .top, .top, .top, .top, .top, .top], [.top, .top, .top, .top, .top, .top, .top, .top], [.top, .top, .top, .top, .top, .top, .top, .top], [.top, .top, .top, .top, .top, .top, .top, .top], [.top, .top, .top, .top, .top, .top, .top, .top], [.top, .top, .top, .top, .top, .top, .top, .top], [.top, .top]], [(.row [(.int .i64 9), (.mapv 2), (.chv 3), (.int .i64 0)]), (.hid 0 []), (.map []), (.hid 1 [])]⟩
def F5t : Tr :=
  (.ask (.bin .and) [(.hid 0 true []), (.int .i64 127)] (.hid 3 true [])
    (.hop (.mk 1 [(.int .u8 0)]) [(.hid 3 true []), (.hid 3 true [])] [] (.hid 4 false [0]) [(.hid 0 [])]
      (.goto 0 [(.hid 1 true []), (.hid 2 true []), (.hid 3 true []), (.hid 4 false [0]), (.int .i64 0)] [(.hid 0 []), (.chan 1 [])])
      .fail)
    .fail)
def F5 : Flow := ⟨5, [(.hid 0 true []), (.hid 1 true []), (.hid 2 true [])], [], F5t, [(F5n0, F5t0)]⟩
theorem F5_ok : F5.check Tryd.prog okS ext2 40 = true := by kernel_rfl
theorem F5_spec {sp : Sps} (hsp : sp.ok Tryd.prog) (n : Nat) : SpecB Tryd.prog 5 (F5.spec sp n) := flow_ok mixedS ext2_ok okS_enters hsp F5_ok rfl n
end Go.Proofs.BoatV
