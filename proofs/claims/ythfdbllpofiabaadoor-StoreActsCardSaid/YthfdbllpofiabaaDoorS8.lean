/- Functions as trees (printed by Drv2.lean through mks.py); that the trees tell what they do. -/
import Derived.Test.YthfdbllpofiabaaDoorS7
namespace Go.Proofs.BoatV
open Go Go.Proofs
set_option maxRecDepth 100000
/-! boathouse/boathouselaw1.StoreOnce -/
def F3t0 : Tr :=
  (.ask .lenA [(.hid 0 false [])] (.hid 5 true [])
    (.ite (.bin .lss) [(.hid 2 true []), (.hid 5 true [])]
      (.ite (.bin .lss) [(.hid 2 true []), (.int .i64 20)]
        (.ask (.idxA 1) [(.hid 0 false []), (.hid 2 true [])] (.ip [(.hid 6 true [])])
          (.ask .lenS [(.hid 6 true [])] (.hid 7 true [])
            (.ite (.bin .gtr) [(.hid 7 true []), (.int .i64 1000)]
              (.ask (.slc none false true false) [(.hid 6 true []), (.int .i64 1000)] (.hid 8 true [])
                (.call 13 [(.ptr 0 0), (.hid 1 true []), (.hid 8 true []), (.hid 2 true [])] [(.row [(.hid 3 true []), (.mapv 1), (.chv 2), (.hid 4 true [])]), (.hid 0 []), (.hid 1 [])] (.hid 9 true []) [(.row [(.hid 10 true []), (.mapv 1), (.chv 2), (.hid 11 true [])]), (.hid 2 []), (.hid 3 [])]
                  (.ite (.bin .eql) [(.hid 2 true []), (.int .i64 0)]
                    (.call 14 [(.ptr 0 0), (.hid 1 true [])] [(.row [(.hid 10 true []), (.mapv 1), (.chv 2), (.hid 11 true [])]), (.hid 2 []), (.hid 3 [])] (.tup [(.hid 12 true []), (.hid 13 true [])]) [(.row [(.hid 14 true []), (.mapv 1), (.chv 2), (.hid 15 true [])]), (.hid 4 []), (.hid 5 [])]
                      (.ask (.idxA 1) [(.hid 0 false []), (.int .i64 0)] (.ip [(.hid 16 true [])])
                        (.ask .lenS [(.hid 16 true [])] (.hid 17 true [])
                          (.ite (.bin .gtr) [(.hid 17 true []), (.int .i64 1000)]
                            (.ask (.slc none false true false) [(.hid 16 true []), (.int .i64 1000)] (.hid 18 true [])
                              (.ite (.bin .neq) [(.hid 9 true []), (.int .i64 0)]
                                (.ret (.bool false) [])
                                (.ite (.bin .neq) [(.hid 13 true []), (.int .i64 0)]
                                  (.ret (.bool false) [])
                                  (.ite (.bin .neq) [(.hid 12 true []), (.hid 18 true [])]
                                    (.ret (.bool false) [])
                                    (.ask (.bin .add) [(.hid 2 true []), (.int .i64 1)] (.hid 19 true [])
                                      (.goto 0 [(.hid 0 false []), (.hid 1 true []), (.hid 19 true []), (.hid 14 true []), (.hid 15 true [])] [(.hid 4 []), (.hid 5 [])])
                                      .fail))))
                              .fail)
                            (.ite (.bin .neq) [(.hid 9 true []), (.int .i64 0)]
                              (.ret (.bool false) [])
                              (.ite (.bin .neq) [(.hid 13 true []), (.int .i64 0)]
                                (.ret (.bool false) [])
                                (.ite (.bin .neq) [(.hid 12 true []), (.hid 16 true [])]
                                  (.ret (.bool false) [])
                                  (.ask (.bin .add) [(.hid 2 true []), (.int .i64 1)] (.hid 18 true [])
                                    (.goto 0 [(.hid 0 false []), (.hid 1 true []), (.hid 18 true []), (.hid 14 true []), (.hid 15 true [])] [(.hid 4 []), (.hid 5 [])])
                                    .fail)))))
                          .fail)
                        .fail)
                      .fail)
                    (.call 14 [(.ptr 0 0), (.hid 1 true [])] [(.row [(.hid 10 true []), (.mapv 1), (.chv 2), (.hid 11 true [])]), (.hid 2 []), (.hid 3 [])] (.tup [(.hid 12 true []), (.hid 13 true [])]) [(.row [(.hid 14 true []), (.mapv 1), (.chv 2), (.hid 15 true [])]), (.hid 4 []), (.hid 5 [])]
                      (.ask (.idxA 1) [(.hid 0 false []), (.int .i64 0)] (.ip [(.hid 16 true [])])
                        (.ask .lenS [(.hid 16 true [])] (.hid 17 true [])
                          (.ite (.bin .gtr) [(.hid 17 true []), (.int .i64 1000)]
                            (.ask (.slc none false true false) [(.hid 16 true []), (.int .i64 1000)] (.hid 18 true [])
                              (.ite (.bin .neq) [(.hid 9 true []), (.int .i64 101)]
                                (.ret (.bool false) [])
                                (.ite (.bin .neq) [(.hid 13 true []), (.int .i64 0)]
                                  (.ret (.bool false) [])
                                  (.ite (.bin .neq) [(.hid 12 true []), (.hid 18 true [])]
                                    (.ret (.bool false) [])
                                    (.ask (.bin .add) [(.hid 2 true []), (.int .i64 1)] (.hid 19 true [])
                                      (.goto 0 [(.hid 0 false []), (.hid 1 true []), (.hid 19 true []), (.hid 14 true []), (.hid 15 true [])] [(.hid 4 []), (.hid 5 [])])
                                      .fail))))
                              .fail)
                            (.ite (.bin .neq) [(.hid 9 true []), (.int .i64 101)]
                              (.ret (.bool false) [])
                              (.ite (.bin .neq) [(.hid 13 true []), (.int .i64 0)]
                                (.ret (.bool false) [])
                                (.ite (.bin .neq) [(.hid 12 true []), (.hid 16 true [])]
                                  (.ret (.bool false) [])
                                  (.ask (.bin .add) [(.hid 2 true []), (.int .i64 1)] (.hid 18 true [])
                                    (.goto 0 [(.hid 0 false []), (.hid 1 true []), (.hid 18 true []), (.hid 14 true []), (.hid 15 true [])] [(.hid 4 []), (.hid 5 [])])
                                    .fail)))))
                          .fail)
                        .fail)
                      .fail))
                  .fail)
                .fail)
              (.call 13 [(.ptr 0 0), (.hid 1 true []), (.hid 6 true []), (.hid 2 true [])] [(.row [(.hid 3 true []), (.mapv 1), (.chv 2), (.hid 4 true [])]), (.hid 0 []), (.hid 1 [])] (.hid 8 true []) [(.row [(.hid 9 true []), (.mapv 1), (.chv 2), (.hid 10 true [])]), (.hid 2 []), (.hid 3 [])]
                (.ite (.bin .eql) [(.hid 2 true []), (.int .i64 0)]
                  (.call 14 [(.ptr 0 0), (.hid 1 true [])] [(.row [(.hid 9 true []), (.mapv 1), (.chv 2), (.hid 10 true [])]), (.hid 2 []), (.hid 3 [])] (.tup [(.hid 11 true []), (.hid 12 true [])]) [(.row [(.hid 13 true []), (.mapv 1), (.chv 2), (.hid 14 true [])]), (.hid 4 []), (.hid 5 [])]
                    (.ask (.idxA 1) [(.hid 0 false []), (.int .i64 0)] (.ip [(.hid 15 true [])])
                      (.ask .lenS [(.hid 15 true [])] (.hid 16 true [])
                        (.ite (.bin .gtr) [(.hid 16 true []), (.int .i64 1000)]
                          (.ask (.slc none false true false) [(.hid 15 true []), (.int .i64 1000)] (.hid 17 true [])
                            (.ite (.bin .neq) [(.hid 8 true []), (.int .i64 0)]
                              (.ret (.bool false) [])
                              (.ite (.bin .neq) [(.hid 12 true []), (.int .i64 0)]
                                (.ret (.bool false) [])
                                (.ite (.bin .neq) [(.hid 11 true []), (.hid 17 true [])]
                                  (.ret (.bool false) [])
                                  (.ask (.bin .add) [(.hid 2 true []), (.int .i64 1)] (.hid 18 true [])
                                    (.goto 0 [(.hid 0 false []), (.hid 1 true []), (.hid 18 true []), (.hid 13 true []), (.hid 14 true [])] [(.hid 4 []), (.hid 5 [])])
                                    .fail))))
                            .fail)
                          (.ite (.bin .neq) [(.hid 8 true []), (.int .i64 0)]
                            (.ret (.bool false) [])
                            (.ite (.bin .neq) [(.hid 12 true []), (.int .i64 0)]
                              (.ret (.bool false) [])
                              (.ite (.bin .neq) [(.hid 11 true []), (.hid 15 true [])]
                                (.ret (.bool false) [])
                                (.ask (.bin .add) [(.hid 2 true []), (.int .i64 1)] (.hid 17 true [])
                                  (.goto 0 [(.hid 0 false []), (.hid 1 true []), (.hid 17 true []), (.hid 13 true []), (.hid 14 true [])] [(.hid 4 []), (.hid 5 [])])
                                  .fail)))))
                        .fail)
                      .fail)
                    .fail)
                  (.call 14 [(.ptr 0 0), (.hid 1 true [])] [(.row [(.hid 9 true []), (.mapv 1), (.chv 2), (.hid 10 true [])]), (.hid 2 []), (.hid 3 [])] (.tup [(.hid 11 true []), (.hid 12 true [])]) [(.row [(.hid 13 true []), (.mapv 1), (.chv 2), (.hid 14 true [])]), (.hid 4 []), (.hid 5 [])]
                    (.ask (.idxA 1) [(.hid 0 false []), (.int .i64 0)] (.ip [(.hid 15 true [])])
                      (.ask .lenS [(.hid 15 true [])] (.hid 16 true [])
                        (.ite (.bin .gtr) [(.hid 16 true []), (.int .i64 1000)]
                          (.ask (.slc none false true false) [(.hid 15 true []), (.int .i64 1000)] (.hid 17 true [])
                            (.ite (.bin .neq) [(.hid 8 true []), (.int .i64 101)]
                              (.ret (.bool false) [])
                              (.ite (.bin .neq) [(.hid 12 true []), (.int .i64 0)]
                                (.ret (.bool false) [])
                                (.ite (.bin .neq) [(.hid 11 true []), (.hid 17 true [])]
                                  (.ret (.bool false) [])
                                  (.ask (.bin .add) [(.hid 2 true []), (.int .i64 1)] (.hid 18 true [])
                                    (.goto 0 [(.hid 0 false []), (.hid 1 true []), (.hid 18 true []), (.hid 13 true []), (.hid 14 true [])] [(.hid 4 []), (.hid 5 [])])
                                    .fail))))
                            .fail)
                          (.ite (.bin .neq) [(.hid 8 true []), (.int .i64 101)]
                            (.ret (.bool false) [])
                            (.ite (.bin .neq) [(.hid 12 true []), (.int .i64 0)]
                              (.ret (.bool false) [])
                              (.ite (.bin .neq) [(.hid 11 true []), (.hid 15 true [])]
                                (.ret (.bool false) [])
                                (.ask (.bin .add) [(.hid 2 true []), (.int .i64 1)] (.hid 17 true [])
                                  (.goto 0 [(.hid 0 false []), (.hid 1 true []), (.hid 17 true []), (.hid 13 true []), (.hid 14 true [])] [(.hid 4 []), (.hid 5 [])])
                                  .fail)))))
                        .fail)
                      .fail)
                    .fail))
                .fail))
            .fail)
          .fail)
        (.ret (.bool true) []))
      (.ret (.bool true) []))
    .fail)
def F3n0 : Node := ⟨[0, 1, 0, 1, 1, 1, 1], [[.top, (.hid 0 false []), .top, .top, .top, (.ptr 0 0), (.int .i64 0), (.hid 1 true [])], [(.hid 2 true []), .top, .top, .top, .top, .top, .top, .top], [.top, .top, .top, .top, .top, .top, .top, .top], [.top, .top, .top, .top, .top, .top, .top, .top], [.top, .top, .top, .top, .top, .top, .top, .top], [.top, .top, .top, .top, .top, .top, .top, .top], [.top, .top, .top, .top, .top, .top, .top, .top], [.top, .top, .top, .top, .top, .top, .top, .top], [.top, .top, .top, .top, .top, .top, .top, .top], [.top, .top, .top, .top, .top, .top, .top, .top], [.top, .top]], [(.row [(.hid 3 true []), (.mapv 1), (.chv 2), (.hid 4 true [])]), (.hid 0 []), (.hid 1 [])]⟩
def F3t : Tr :=
  (.ask .lenS [(.hid 0 true [])] (.hid 2 true [])
    (.pcall 12 [(.hid 2 true [])] [] (.hid 3 true [])
      (.ask (.bin .add) [(.str [107]), (.hid 3 true [])] (.hid 4 true [])
        (.goto 0 [(.hid 1 false []), (.hid 4 true []), (.int .i64 0), (.int .i64 10), (.int .i64 0)] [(.map []), (.chan 1 [])])
        .fail)
      .fail)
    .fail)
def F3 : Flow := ⟨3, [(.hid 0 true []), (.hid 1 false [])], [], F3t, [(F3n0, F3t0)]⟩
theorem F3_ok : F3.check Tryd.prog okS ext2 40 = true := by kernel_rfl
theorem F3_spec {sp : Sps} (hsp : sp.ok Tryd.prog) (n : Nat) : SpecB Tryd.prog 3 (F3.spec sp n) := flow_ok mixedS ext2_ok okS_enters hsp F3_ok rfl n
/-! boathouse/boathouselaw1.StoreRoom -/
def F7t0 : Tr :=
  (.ask (.bin .add) [(.hid 1 true []), (.int .i64 3)] (.hid 5 true [])
    (.ite (.bin .lss) [(.hid 2 true []), (.hid 5 true [])]
      (.pcall 12 [(.hid 2 true [])] [] (.hid 6 true [])
        (.ask (.bin .add) [(.str [111]), (.hid 6 true [])] (.hid 7 true [])
          (.call 13 [(.ptr 0 0), (.hid 7 true []), (.str []), (.int .i64 0)] [(.row [(.hid 3 true []), (.mapv 1), (.chv 2), (.hid 4 true [])]), (.hid 0 []), (.hid 1 [])] (.hid 8 true []) [(.row [(.hid 9 true []), (.mapv 1), (.chv 2), (.hid 10 true [])]), (.hid 2 []), (.hid 3 [])]
            (.ite (.bin .eql) [(.hid 8 true []), (.int .i64 0)]
              (.ite (.bin .lss) [(.hid 2 true []), (.hid 1 true [])]
                (.ask (.bin .geq) [(.hid 2 true []), (.hid 1 true [])] (.bool false)
                  (.ask (.bin .add) [(.hid 2 true []), (.int .i64 1)] (.hid 11 true [])
                    (.goto 0 [(.hid 0 true []), (.hid 1 true []), (.hid 11 true []), (.hid 9 true []), (.hid 10 true [])] [(.hid 2 []), (.hid 3 [])])
                    .fail)
                  .fail)
                (.ret (.bool false) []))
              (.ite (.bin .lss) [(.hid 2 true []), (.hid 1 true [])]
                (.ret (.bool false) [])
                (.ask (.bin .geq) [(.hid 2 true []), (.hid 1 true [])] (.bool true)
                  (.ite (.bin .neq) [(.hid 8 true []), (.int .i64 103)]
                    (.ret (.bool false) [])
                    (.ask (.bin .add) [(.hid 2 true []), (.int .i64 1)] (.hid 11 true [])
                      (.goto 0 [(.hid 0 true []), (.hid 1 true []), (.hid 11 true []), (.hid 9 true []), (.hid 10 true [])] [(.hid 2 []), (.hid 3 [])])
                      .fail))
                  .fail)))
            .fail)
          .fail)
        .fail)
      (.ask (.conv .u64) [(.hid 0 true [])] (.hid 6 true [])
        (.ask (.conv .u64) [(.hid 1 true [])] (.hid 7 true [])
          (.ask (.bin .rem) [(.hid 6 true []), (.hid 7 true [])] (.hid 8 true [])
            (.ask (.conv .i64) [(.hid 8 true [])] (.hid 9 true [])
              (.pcall 12 [(.hid 9 true [])] [] (.hid 10 true [])
                (.ask (.bin .add) [(.str [111]), (.hid 10 true [])] (.hid 11 true [])
                  (.call 20 [(.ptr 0 0), (.hid 11 true [])] [(.row [(.hid 3 true []), (.mapv 1), (.chv 2), (.hid 4 true [])]), (.hid 0 []), (.hid 1 [])] (.hid 12 true []) [(.row [(.hid 13 true []), (.mapv 1), (.chv 2), (.hid 14 true [])]), (.hid 2 []), (.hid 3 [])]
                    (.call 13 [(.ptr 0 0), (.str [97, 103, 97, 105, 110]), (.str []), (.int .i64 0)] [(.row [(.hid 13 true []), (.mapv 1), (.chv 2), (.hid 14 true [])]), (.hid 2 []), (.hid 3 [])] (.hid 15 true []) [(.row [(.hid 16 true []), (.mapv 1), (.chv 2), (.hid 17 true [])]), (.hid 4 []), (.hid 5 [])]
                      (.call 13 [(.ptr 0 0), (.str [109, 111, 114, 101]), (.str []), (.int .i64 0)] [(.row [(.hid 16 true []), (.mapv 1), (.chv 2), (.hid 17 true [])]), (.hid 4 []), (.hid 5 [])] (.hid 18 true []) [(.row [(.hid 19 true []), (.mapv 1), (.chv 2), (.hid 20 true [])]), (.hid 6 []), (.hid 7 [])]
                        (.ite (.bin .eql) [(.hid 12 true []), (.int .i64 0)]
                          (.ite (.bin .eql) [(.hid 15 true []), (.int .i64 0)]
                            (.ite (.bin .eql) [(.hid 18 true []), (.int .i64 103)]
                              (.call 18 [(.ptr 0 0)] [(.row [(.hid 19 true []), (.mapv 1), (.chv 2), (.hid 20 true [])]), (.hid 6 []), (.hid 7 [])] (.hid 21 false [3]) [(.row [(.hid 22 true []), (.mapv 1), (.chv 2), (.hid 23 true [])]), (.hid 8 []), (.hid 9 []), (.hid 10 [])]
                                (.ask .lenA [(.hid 21 false [3])] (.hid 24 true [])
                                  (.ite (.bin .eql) [(.hid 24 true []), (.hid 1 true [])]
                                    (.ret (.bool true) [])
                                    (.ret (.bool false) []))
                                  .fail)
                                (.call 18 [(.ptr 0 0)] [(.row [(.hid 19 true []), (.mapv 1), (.chv 2), (.hid 20 true [])]), (.hid 6 []), (.hid 7 [])] .snil [(.row [(.hid 21 true []), (.mapv 1), (.chv 2), (.hid 22 true [])]), (.hid 8 []), (.hid 9 [])]
                                  (.ite (.bin .eql) [(.int .i64 0), (.hid 1 true [])]
                                    (.ret (.bool true) [])
                                    (.ret (.bool false) []))
                                  .fail))
                              (.ret (.bool false) []))
                            (.ret (.bool false) []))
                          (.ret (.bool false) []))
                        .fail)
                      .fail)
                    .fail)
                  .fail)
                .fail)
              .fail)
            .fail)
          .fail)
        .fail))
    .fail)
def F7n0 : Node := ⟨[0, 1, 0, 1, 1, 1, 1], [[.top, (.hid 0 true []), .top, .top, .top, (.hid 1 true []), (.ptr 0 0), (.int .i64 0)], [(.hid 2 true []), .top, .top, .top, .top, .top, .top, .top], [.top, .top, .top, .top, .top, .top, .top, .top], [.top, .top, .top, .top, .top, .top, .top, .top], [.top, .top, .top, .top, .top, .top, .top, .top], [.top, .top, .top, .top, .top, .top, .top, .top], [.top, .top, .top, .top, .top, .top, .top, .top], [.top, .top, .top, .top, .top, .top, .top, .top], [.top, .top, .top, .top, .top, .top, .top, .top], [.top, .top, .top, .top, .top, .top, .top, .top], [.top, .top, .top, .top, .top, .top, .top, .top], [.top, .top]], [(.row [(.hid 3 true []), (.mapv 1), (.chv 2), (.hid 4 true [])]), (.hid 0 []), (.hid 1 [])]⟩
def F7t1 : Tr :=
  (.ask (.bin .add) [(.hid 1 true []), (.int .i64 3)] (.hid 3 true [])
    (.ite (.bin .lss) [(.hid 2 true []), (.hid 3 true [])]
      (.pcall 12 [(.hid 2 true [])] [] (.hid 4 true [])
        (.ask (.bin .add) [(.str [111]), (.hid 4 true [])] (.hid 5 true [])
          (.call 13 [.nilp, (.hid 5 true []), (.str []), (.int .i64 0)] [] (.hid 6 true []) []
            (.ite (.bin .eql) [(.hid 6 true []), (.int .i64 0)]
              (.ite (.bin .lss) [(.hid 2 true []), (.hid 1 true [])]
                (.ask (.bin .geq) [(.hid 2 true []), (.hid 1 true [])] (.bool false)
                  (.ask (.bin .add) [(.hid 2 true []), (.int .i64 1)] (.hid 7 true [])
                    (.goto 1 [(.hid 0 true []), (.hid 1 true []), (.hid 7 true [])] [])
                    .fail)
                  .fail)
                (.ret (.bool false) []))
              (.ite (.bin .lss) [(.hid 2 true []), (.hid 1 true [])]
                (.ret (.bool false) [])
                (.ask (.bin .geq) [(.hid 2 true []), (.hid 1 true [])] (.bool true)
                  (.ite (.bin .neq) [(.hid 6 true []), (.int .i64 103)]
                    (.ret (.bool false) [])
                    (.ask (.bin .add) [(.hid 2 true []), (.int .i64 1)] (.hid 7 true [])
                      (.goto 1 [(.hid 0 true []), (.hid 1 true []), (.hid 7 true [])] [])
                      .fail))
                  .fail)))
            .fail)
          .fail)
        .fail)
      (.ask (.conv .u64) [(.hid 0 true [])] (.hid 4 true [])
        (.ask (.conv .u64) [(.hid 1 true [])] (.hid 5 true [])
          (.ask (.bin .rem) [(.hid 4 true []), (.hid 5 true [])] (.hid 6 true [])
            (.ask (.conv .i64) [(.hid 6 true [])] (.hid 7 true [])
              (.pcall 12 [(.hid 7 true [])] [] (.hid 8 true [])
                (.ask (.bin .add) [(.str [111]), (.hid 8 true [])] (.hid 9 true [])
                  (.call 20 [.nilp, (.hid 9 true [])] [] (.hid 10 true []) []
                    (.call 13 [.nilp, (.str [97, 103, 97, 105, 110]), (.str []), (.int .i64 0)] [] (.hid 11 true []) []
                      (.call 13 [.nilp, (.str [109, 111, 114, 101]), (.str []), (.int .i64 0)] [] (.hid 12 true []) []
                        (.ret (.bool false) [])
                        .fail)
                      .fail)
                    .fail)
                  .fail)
                .fail)
              .fail)
            .fail)
          .fail)
        .fail))
    .fail)
def F7n1 : Node := ⟨[0, 1, 0, 1, 1, 1, 1], [[.top, (.hid 0 true []), .top, .top, .top, (.hid 1 true []), .nilp, (.int .i64 100)], [(.hid 2 true []), .top, .top, .top, .top, .top, .top, .top], [.top, .top, .top, .top, .top, .top, .top, .top], [.top, .top, .top, .top, .top, .top, .top, .top], [.top, .top, .top, .top, .top, .top, .top, .top], [.top, .top, .top, .top, .top, .top, .top, .top], [.top, .top, .top, .top, .top, .top, .top, .top], [.top, .top, .top, .top, .top, .top, .top, .top], [.top, .top, .top, .top, .top, .top, .top, .top], [.top, .top, .top, .top, .top, .top, .top, .top], [.top, .top, .top, .top, .top, .top, .top, .top], [.top, .top]], []⟩
def F7t : Tr :=
  (.ask (.bin .and) [(.hid 0 true []), (.int .i64 31)] (.hid 2 true [])
    (.ask (.bin .add) [(.int .i64 1), (.hid 2 true [])] (.hid 3 true [])
      (.ite (.bin .lss) [(.hid 3 true []), (.int .i64 1)]
        (.goto 1 [(.hid 1 true []), (.hid 3 true []), (.int .i64 0)] [])
        (.ite (.bin .gtr) [(.hid 3 true []), (.int .i64 4096)]
          (.goto 1 [(.hid 1 true []), (.hid 3 true []), (.int .i64 0)] [])
          (.goto 0 [(.hid 1 true []), (.hid 3 true []), (.int .i64 0), (.hid 3 true []), (.int .i64 0)] [(.map []), (.chan 1 [])])))
      .fail)
    .fail)
def F7 : Flow := ⟨7, [(.hid 0 true []), (.hid 1 true [])], [], F7t, [(F7n0, F7t0), (F7n1, F7t1)]⟩
theorem F7_ok : F7.check Tryd.prog okS ext2 40 = true := by kernel_rfl
theorem F7_spec {sp : Sps} (hsp : sp.ok Tryd.prog) (n : Nat) : SpecB Tryd.prog 7 (F7.spec sp n) := flow_ok mixedS ext2_ok okS_enters hsp F7_ok rfl n
end Go.Proofs.BoatV
