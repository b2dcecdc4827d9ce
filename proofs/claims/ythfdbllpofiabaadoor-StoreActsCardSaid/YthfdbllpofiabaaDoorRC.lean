/- StoreActs as trees (printed by Drv2.lean; ways that are never taken fail); that the trees tell what it does. -/
import Derived.Test.YthfdbllpofiabaaDoorRB
namespace Go.Proofs.BoatV
open Go Go.Proofs
set_option maxRecDepth 100000
def F8t0 : Tr :=
  (.ask .lenA [(.hid 0 false [])] (.hid 7 true [])
    (.ite (.bin .lss) [(.hid 1 true []), (.hid 7 true [])]
      (.ite (.bin .lss) [(.hid 1 true []), (.int .i64 200)]
        (.ite (.bin .eql) [(.hid 1 true []), (.int .i64 30)]
          (.call 22 [(.ptr 0 0)] [(.row [(.hid 2 true []), (.mapv 1), (.chv 2), (.hid 3 true [])]), (.hid 0 []), (.hid 1 [])] (.ptr 3 0) [(.row [(.hid 8 true []), (.mapv 1), (.chv 2), (.hid 9 true [])]), (.hid 2 []), (.hid 3 []), (.row [(.hid 10 true []), (.mapv 4), (.chv 5), (.hid 11 true [])]), (.hid 4 []), (.hid 5 [])]
            (.call 23 [(.ptr 0 0)] [(.row [(.hid 4 true []), .snil, (.hid 5 true []), (.hid 6 true [])])] (.ptr 1 0) [(.row [(.hid 12 true []), .snil, (.hid 13 true []), (.hid 14 true [])]), (.row [(.hid 15 true []), (.hid 16 false [2]), (.hid 17 true []), (.hid 18 true [])]), (.hid 6 [])]
              (.ask (.idxA 4) [(.hid 0 false []), (.hid 1 true [])] (.ip [(.hid 19 true []), (.hid 20 true []), (.hid 21 true []), (.hid 22 true [])])
                (.call 24 [(.ptr 0 0), (.ptr 1 0), (.agg [(.hid 19 true []), (.hid 20 true []), (.hid 21 true []), (.hid 22 true [])])] [(.row [(.hid 8 true []), (.mapv 2), (.chv 3), (.hid 9 true [])]), (.row [(.hid 12 true []), .snil, (.hid 13 true []), (.hid 14 true [])]), (.hid 2 []), (.hid 3 [])] (.bool true) [(.row [(.hid 23 true []), (.mapv 2), (.chv 3), (.hid 24 true [])]), (.row [(.hid 25 true []), (.hid 26 false [4]), (.hid 27 true []), (.hid 28 true [])]), (.hid 7 []), (.hid 8 []), (.hid 9 [])]
                  (.ask (.bin .gtr) [(.hid 1 true []), (.int .i64 30)] (.bool false)
                    (.ite (.bin .neq) [(.hid 24 true []), (.hid 28 true [])]
                      .fail
                      (.ask (.bin .add) [(.hid 1 true []), (.int .i64 1)] (.hid 29 true [])
                        (.goto 3 [(.hid 0 false []), (.hid 29 true []), (.hid 23 true []), (.hid 24 true []), (.hid 25 true []), (.hid 26 false [0]), (.hid 27 true []), (.hid 28 true []), (.hid 10 true []), (.hid 11 true []), (.hid 15 true []), (.hid 16 false [0]), (.hid 17 true []), (.hid 18 true [])] [(.hid 7 []), (.hid 8 []), (.hid 9 []), (.hid 4 []), (.hid 5 []), (.hid 6 [])])
                        .fail))
                    .fail)
                  (.call 24 [(.ptr 0 0), (.ptr 1 0), (.agg [(.hid 19 true []), (.hid 20 true []), (.hid 21 true []), (.hid 22 true [])])] [(.row [(.hid 8 true []), (.mapv 2), (.chv 3), (.hid 9 true [])]), (.row [(.hid 12 true []), .snil, (.hid 13 true []), (.hid 14 true [])]), (.hid 2 []), (.hid 3 [])] (.bool true) [(.row [(.hid 23 true []), (.mapv 2), (.chv 3), (.hid 24 true [])]), (.row [(.hid 25 true []), .snil, (.hid 26 true []), (.hid 27 true [])]), (.hid 7 []), (.hid 8 [])]
                    (.ask (.bin .gtr) [(.hid 1 true []), (.int .i64 30)] (.bool false)
                      (.ite (.bin .neq) [(.hid 24 true []), (.hid 27 true [])]
                        .fail
                        (.ask (.bin .add) [(.hid 1 true []), (.int .i64 1)] (.hid 28 true [])
                          (.goto 2 [(.hid 0 false []), (.hid 28 true []), (.hid 23 true []), (.hid 24 true []), (.hid 25 true []), (.hid 26 true []), (.hid 27 true []), (.hid 10 true []), (.hid 11 true []), (.hid 15 true []), (.hid 16 false [0]), (.hid 17 true []), (.hid 18 true [])] [(.hid 7 []), (.hid 8 []), (.hid 4 []), (.hid 5 []), (.hid 6 [])])
                          .fail))
                      .fail)
                    .fail))
                .fail)
              .fail)
            .fail)
          (.ask (.idxA 4) [(.hid 0 false []), (.hid 1 true [])] (.ip [(.hid 8 true []), (.hid 9 true []), (.hid 10 true []), (.hid 11 true [])])
            (.call 24 [(.ptr 0 0), (.ptr 1 0), (.agg [(.hid 8 true []), (.hid 9 true []), (.hid 10 true []), (.hid 11 true [])])] [(.row [(.hid 2 true []), (.mapv 2), (.chv 3), (.hid 3 true [])]), (.row [(.hid 4 true []), .snil, (.hid 5 true []), (.hid 6 true [])]), (.hid 0 []), (.hid 1 [])] (.bool true) [(.row [(.hid 12 true []), (.mapv 2), (.chv 3), (.hid 13 true [])]), (.row [(.hid 14 true []), (.hid 15 false [4]), (.hid 16 true []), (.hid 17 true [])]), (.hid 2 []), (.hid 3 []), (.hid 4 [])]
              (.ite (.bin .gtr) [(.hid 1 true []), (.int .i64 30)]
                .fail
                (.ite (.bin .neq) [(.hid 13 true []), (.hid 17 true [])]
                  .fail
                  (.ask (.bin .add) [(.hid 1 true []), (.int .i64 1)] (.hid 18 true [])
                    (.goto 1 [(.hid 0 false []), (.hid 18 true []), (.hid 12 true []), (.hid 13 true []), (.hid 14 true []), (.hid 15 false [0]), (.hid 16 true []), (.hid 17 true [])] [(.hid 2 []), (.hid 3 []), (.hid 4 [])])
                    .fail)))
              (.call 24 [(.ptr 0 0), (.ptr 1 0), (.agg [(.hid 8 true []), (.hid 9 true []), (.hid 10 true []), (.hid 11 true [])])] [(.row [(.hid 2 true []), (.mapv 2), (.chv 3), (.hid 3 true [])]), (.row [(.hid 4 true []), .snil, (.hid 5 true []), (.hid 6 true [])]), (.hid 0 []), (.hid 1 [])] (.bool true) [(.row [(.hid 12 true []), (.mapv 2), (.chv 3), (.hid 13 true [])]), (.row [(.hid 14 true []), .snil, (.hid 15 true []), (.hid 16 true [])]), (.hid 2 []), (.hid 3 [])]
                (.ite (.bin .gtr) [(.hid 1 true []), (.int .i64 30)]
                  .fail
                  (.ite (.bin .neq) [(.hid 13 true []), (.hid 16 true [])]
                    .fail
                    (.ask (.bin .add) [(.hid 1 true []), (.int .i64 1)] (.hid 17 true [])
                      (.goto 0 [(.hid 0 false []), (.hid 17 true []), (.hid 12 true []), (.hid 13 true []), (.hid 14 true []), (.hid 15 true []), (.hid 16 true [])] [(.hid 2 []), (.hid 3 [])])
                      .fail)))
                .fail))
            .fail))
        (.call 18 [(.ptr 0 0)] [(.row [(.hid 2 true []), (.mapv 1), (.chv 2), (.hid 3 true [])]), (.hid 0 []), (.hid 1 [])] .snil [(.row [(.hid 8 true []), (.mapv 1), (.chv 2), (.hid 9 true [])]), (.hid 2 []), (.hid 3 [])]
          (.pite 25 [.snil, .snil] []
            (.call 26 [.snil] [] (.tup []) []
              (.call 18 [(.ptr 0 0)] [(.row [(.hid 8 true []), (.mapv 1), (.chv 2), (.hid 9 true [])]), (.hid 2 []), (.hid 3 [])] .snil [(.row [(.hid 10 true []), (.mapv 1), (.chv 2), (.hid 11 true [])]), (.hid 4 []), (.hid 5 [])]
                (.call 18 [(.ptr 0 0)] [(.row [(.hid 10 true []), (.mapv 1), (.chv 2), (.hid 11 true [])]), (.hid 4 []), (.hid 5 [])] .snil [(.row [(.hid 12 true []), (.mapv 1), (.chv 2), (.hid 13 true [])]), (.hid 6 []), (.hid 7 [])]
                  (.ret (.bool true) [])
                  .fail)
                .fail)
              .fail)
            .fail)
          .fail))
      (.call 18 [(.ptr 0 0)] [(.row [(.hid 2 true []), (.mapv 1), (.chv 2), (.hid 3 true [])]), (.hid 0 []), (.hid 1 [])] .snil [(.row [(.hid 8 true []), (.mapv 1), (.chv 2), (.hid 9 true [])]), (.hid 2 []), (.hid 3 [])]
        (.pite 25 [.snil, .snil] []
          (.call 26 [.snil] [] (.tup []) []
            (.call 18 [(.ptr 0 0)] [(.row [(.hid 8 true []), (.mapv 1), (.chv 2), (.hid 9 true [])]), (.hid 2 []), (.hid 3 [])] .snil [(.row [(.hid 10 true []), (.mapv 1), (.chv 2), (.hid 11 true [])]), (.hid 4 []), (.hid 5 [])]
              (.call 18 [(.ptr 0 0)] [(.row [(.hid 10 true []), (.mapv 1), (.chv 2), (.hid 11 true [])]), (.hid 4 []), (.hid 5 [])] .snil [(.row [(.hid 12 true []), (.mapv 1), (.chv 2), (.hid 13 true [])]), (.hid 6 []), (.hid 7 [])]
                (.ret (.bool true) [])
                .fail)
              .fail)
            .fail)
          .fail)
        .fail))
    .fail)
def F8n0 : Node := ⟨[0, 1, 0, 1, 1, 1, 1, 1, 1], [[.top, (.hid 0 false []), .top, .top, .top, (.ptr 0 0), .top, (.ptr 1 0)], [.top, (.ptr 0 0), (.ptr 1 0), (.hid 1 true []), .top, .top, .top, .top], [.top, .top, .top, .top, .top, .top, .top, .top], [.top, .top, .top, .top, .top, .top, .top, .top], [.top, .top, .top, .top, .top, .top, .top, .top], [.top, .top, .top, .top, .top, .top, .top, .top], [.top, .top, .top, .top, .top, .top, .top, .top], [.top, .top, .top, .top, .top, .top, .top, .top], [.top, .top, .top, .top, .top, .top, .top, .top], [.top, .top, .top, .top, .top, .top, .top, .top], [.top, .top, .top, .top, .top, .top, .top, .top], [.top, .top, .top, .top, .top, .top, .top, .top], [.top, .top, .top, .top, .top, .top, .top, .top], [.top, .top, .top, .top, .top, .top, .top, .top], [.top, .top, .top, .top, .top, .top, .top, .top], [.top, .top, .top, .top, .top, .top, .top, .top]], [(.row [(.hid 2 true []), (.mapv 2), (.chv 3), (.hid 3 true [])]), (.row [(.hid 4 true []), .snil, (.hid 5 true []), (.hid 6 true [])]), (.hid 0 []), (.hid 1 [])]⟩
def F8t1 : Tr :=
  (.ask .lenA [(.hid 0 false [])] (.hid 8 true [])
    (.ite (.bin .lss) [(.hid 1 true []), (.hid 8 true [])]
      (.ite (.bin .lss) [(.hid 1 true []), (.int .i64 200)]
        (.ite (.bin .eql) [(.hid 1 true []), (.int .i64 30)]
          (.call 22 [(.ptr 0 0)] [(.row [(.hid 2 true []), (.mapv 1), (.chv 2), (.hid 3 true [])]), (.hid 0 []), (.hid 1 [])] (.ptr 3 0) [(.row [(.hid 9 true []), (.mapv 1), (.chv 2), (.hid 10 true [])]), (.hid 3 []), (.hid 4 []), (.row [(.hid 11 true []), (.mapv 4), (.chv 5), (.hid 12 true [])]), (.hid 5 []), (.hid 6 [])]
            (.call 23 [(.ptr 0 0)] [(.row [(.hid 4 true []), (.hid 5 false [1]), (.hid 6 true []), (.hid 7 true [])]), (.hid 2 [])] (.ptr 2 0) [(.row [(.hid 13 true []), (.hid 14 false [1]), (.hid 15 true []), (.hid 16 true [])]), (.hid 7 []), (.row [(.hid 17 true []), (.hid 18 false [3]), (.hid 19 true []), (.hid 20 true [])]), (.hid 8 [])]
              (.ask (.idxA 4) [(.hid 0 false []), (.hid 1 true [])] (.ip [(.hid 21 true []), (.hid 22 true []), (.hid 23 true []), (.hid 24 true [])])
                (.call 24 [(.ptr 0 0), (.ptr 1 0), (.agg [(.hid 21 true []), (.hid 22 true []), (.hid 23 true []), (.hid 24 true [])])] [(.row [(.hid 9 true []), (.mapv 2), (.chv 3), (.hid 10 true [])]), (.row [(.hid 13 true []), (.hid 14 false [4]), (.hid 15 true []), (.hid 16 true [])]), (.hid 3 []), (.hid 4 []), (.hid 7 [])] (.bool true) [(.row [(.hid 25 true []), (.mapv 2), (.chv 3), (.hid 26 true [])]), (.row [(.hid 27 true []), (.hid 28 false [5]), (.hid 29 true []), (.hid 30 true [])]), (.hid 9 []), (.hid 10 []), (.hid 11 []), (.hid 12 [])]
                  (.ask (.bin .gtr) [(.hid 1 true []), (.int .i64 30)] (.bool false)
                    (.ite (.bin .neq) [(.hid 26 true []), (.hid 30 true [])]
                      .fail
                      (.ask (.bin .add) [(.hid 1 true []), (.int .i64 1)] (.hid 31 true [])
                        (.goto 3 [(.hid 0 false []), (.hid 31 true []), (.hid 25 true []), (.hid 26 true []), (.hid 27 true []), (.hid 28 false [0]), (.hid 29 true []), (.hid 30 true []), (.hid 11 true []), (.hid 12 true []), (.hid 17 true []), (.hid 18 false [0]), (.hid 19 true []), (.hid 20 true [])] [(.hid 9 []), (.hid 10 []), (.hid 12 []), (.hid 5 []), (.hid 6 []), (.hid 8 [])])
                        .fail))
                    .fail)
                  (.call 24 [(.ptr 0 0), (.ptr 1 0), (.agg [(.hid 21 true []), (.hid 22 true []), (.hid 23 true []), (.hid 24 true [])])] [(.row [(.hid 9 true []), (.mapv 2), (.chv 3), (.hid 10 true [])]), (.row [(.hid 13 true []), (.hid 14 false [4]), (.hid 15 true []), (.hid 16 true [])]), (.hid 3 []), (.hid 4 []), (.hid 7 [])] (.bool true) [(.row [(.hid 25 true []), (.mapv 2), (.chv 3), (.hid 26 true [])]), (.row [(.hid 27 true []), .snil, (.hid 28 true []), (.hid 29 true [])]), (.hid 9 []), (.hid 10 []), (.hid 11 [])]
                    (.ask (.bin .gtr) [(.hid 1 true []), (.int .i64 30)] (.bool false)
                      (.ite (.bin .neq) [(.hid 26 true []), (.hid 29 true [])]
                        .fail
                        (.ask (.bin .add) [(.hid 1 true []), (.int .i64 1)] (.hid 30 true [])
                          (.goto 2 [(.hid 0 false []), (.hid 30 true []), (.hid 25 true []), (.hid 26 true []), (.hid 27 true []), (.hid 28 true []), (.hid 29 true []), (.hid 11 true []), (.hid 12 true []), (.hid 17 true []), (.hid 18 false [0]), (.hid 19 true []), (.hid 20 true [])] [(.hid 9 []), (.hid 10 []), (.hid 5 []), (.hid 6 []), (.hid 8 [])])
                          .fail))
                      .fail)
                    (.call 24 [(.ptr 0 0), (.ptr 1 0), (.agg [(.hid 21 true []), (.hid 22 true []), (.hid 23 true []), (.hid 24 true [])])] [(.row [(.hid 9 true []), (.mapv 2), (.chv 3), (.hid 10 true [])]), (.row [(.hid 13 true []), (.hid 14 false [4]), (.hid 15 true []), (.hid 16 true [])]), (.hid 3 []), (.hid 4 []), (.hid 7 [])] (.bool true) [(.row [(.hid 25 true []), (.mapv 2), (.chv 3), (.hid 26 true [])]), (.row [(.hid 27 true []), (.hid 28 false [4]), (.hid 29 true []), (.hid 30 true [])]), (.hid 9 []), (.hid 10 []), (.hid 11 [])]
                      (.ask (.bin .gtr) [(.hid 1 true []), (.int .i64 30)] (.bool false)
                        (.ite (.bin .neq) [(.hid 26 true []), (.hid 30 true [])]
                          .fail
                          (.ask (.bin .add) [(.hid 1 true []), (.int .i64 1)] (.hid 31 true [])
                            (.goto 3 [(.hid 0 false []), (.hid 31 true []), (.hid 25 true []), (.hid 26 true []), (.hid 27 true []), (.hid 28 false [0]), (.hid 29 true []), (.hid 30 true []), (.hid 11 true []), (.hid 12 true []), (.hid 17 true []), (.hid 18 false [0]), (.hid 19 true []), (.hid 20 true [])] [(.hid 9 []), (.hid 10 []), (.hid 11 []), (.hid 5 []), (.hid 6 []), (.hid 8 [])])
                            .fail))
                        .fail)
                      .fail)))
                .fail)
              .fail)
            .fail)
          (.ask (.idxA 4) [(.hid 0 false []), (.hid 1 true [])] (.ip [(.hid 9 true []), (.hid 10 true []), (.hid 11 true []), (.hid 12 true [])])
            (.call 24 [(.ptr 0 0), (.ptr 1 0), (.agg [(.hid 9 true []), (.hid 10 true []), (.hid 11 true []), (.hid 12 true [])])] [(.row [(.hid 2 true []), (.mapv 2), (.chv 3), (.hid 3 true [])]), (.row [(.hid 4 true []), (.hid 5 false [4]), (.hid 6 true []), (.hid 7 true [])]), (.hid 0 []), (.hid 1 []), (.hid 2 [])] (.bool true) [(.row [(.hid 13 true []), (.mapv 2), (.chv 3), (.hid 14 true [])]), (.row [(.hid 15 true []), (.hid 16 false [5]), (.hid 17 true []), (.hid 18 true [])]), (.hid 3 []), (.hid 4 []), (.hid 5 []), (.hid 6 [])]
              (.ite (.bin .gtr) [(.hid 1 true []), (.int .i64 30)]
                .fail
                (.ite (.bin .neq) [(.hid 14 true []), (.hid 18 true [])]
                  .fail
                  (.ask (.bin .add) [(.hid 1 true []), (.int .i64 1)] (.hid 19 true [])
                    (.goto 1 [(.hid 0 false []), (.hid 19 true []), (.hid 13 true []), (.hid 14 true []), (.hid 15 true []), (.hid 16 false [0]), (.hid 17 true []), (.hid 18 true [])] [(.hid 3 []), (.hid 4 []), (.hid 6 [])])
                    .fail)))
              (.call 24 [(.ptr 0 0), (.ptr 1 0), (.agg [(.hid 9 true []), (.hid 10 true []), (.hid 11 true []), (.hid 12 true [])])] [(.row [(.hid 2 true []), (.mapv 2), (.chv 3), (.hid 3 true [])]), (.row [(.hid 4 true []), (.hid 5 false [4]), (.hid 6 true []), (.hid 7 true [])]), (.hid 0 []), (.hid 1 []), (.hid 2 [])] (.bool true) [(.row [(.hid 13 true []), (.mapv 2), (.chv 3), (.hid 14 true [])]), (.row [(.hid 15 true []), .snil, (.hid 16 true []), (.hid 17 true [])]), (.hid 3 []), (.hid 4 []), (.hid 5 [])]
                (.ite (.bin .gtr) [(.hid 1 true []), (.int .i64 30)]
                  .fail
                  (.ite (.bin .neq) [(.hid 14 true []), (.hid 17 true [])]
                    .fail
                    (.ask (.bin .add) [(.hid 1 true []), (.int .i64 1)] (.hid 18 true [])
                      (.goto 0 [(.hid 0 false []), (.hid 18 true []), (.hid 13 true []), (.hid 14 true []), (.hid 15 true []), (.hid 16 true []), (.hid 17 true [])] [(.hid 3 []), (.hid 4 [])])
                      .fail)))
                (.call 24 [(.ptr 0 0), (.ptr 1 0), (.agg [(.hid 9 true []), (.hid 10 true []), (.hid 11 true []), (.hid 12 true [])])] [(.row [(.hid 2 true []), (.mapv 2), (.chv 3), (.hid 3 true [])]), (.row [(.hid 4 true []), (.hid 5 false [4]), (.hid 6 true []), (.hid 7 true [])]), (.hid 0 []), (.hid 1 []), (.hid 2 [])] (.bool true) [(.row [(.hid 13 true []), (.mapv 2), (.chv 3), (.hid 14 true [])]), (.row [(.hid 15 true []), (.hid 16 false [4]), (.hid 17 true []), (.hid 18 true [])]), (.hid 3 []), (.hid 4 []), (.hid 5 [])]
                  (.ite (.bin .gtr) [(.hid 1 true []), (.int .i64 30)]
                    .fail
                    (.ite (.bin .neq) [(.hid 14 true []), (.hid 18 true [])]
                      .fail
                      (.ask (.bin .add) [(.hid 1 true []), (.int .i64 1)] (.hid 19 true [])
                        (.goto 1 [(.hid 0 false []), (.hid 19 true []), (.hid 13 true []), (.hid 14 true []), (.hid 15 true []), (.hid 16 false [0]), (.hid 17 true []), (.hid 18 true [])] [(.hid 3 []), (.hid 4 []), (.hid 5 [])])
                        .fail)))
                  .fail)))
            .fail))
        (.call 18 [(.ptr 0 0)] [(.row [(.hid 2 true []), (.mapv 1), (.chv 2), (.hid 3 true [])]), (.hid 0 []), (.hid 1 [])] (.hid 9 false [3]) [(.row [(.hid 10 true []), (.mapv 1), (.chv 2), (.hid 11 true [])]), (.hid 3 []), (.hid 4 []), (.hid 5 [])]
          (.pite 25 [(.hid 9 false [0]), (.hid 5 false [1])] [(.hid 5 []), (.hid 2 [])]
            (.call 26 [(.hid 9 false [0])] [(.hid 5 [])] (.tup []) [(.hid 6 [])]
              (.call 18 [(.ptr 0 0)] [(.row [(.hid 10 true []), (.mapv 1), (.chv 2), (.hid 11 true [])]), (.hid 3 []), (.hid 4 [])] (.hid 12 false [3]) [(.row [(.hid 13 true []), (.mapv 1), (.chv 2), (.hid 14 true [])]), (.hid 7 []), (.hid 8 []), (.hid 9 [])]
                (.pite 25 [(.hid 12 false [0]), (.hid 5 false [1])] [(.hid 9 []), (.hid 2 [])]
                  (.call 18 [(.ptr 0 0)] [(.row [(.hid 13 true []), (.mapv 1), (.chv 2), (.hid 14 true [])]), (.hid 7 []), (.hid 8 [])] (.hid 15 false [3]) [(.row [(.hid 16 true []), (.mapv 1), (.chv 2), (.hid 17 true [])]), (.hid 10 []), (.hid 11 []), (.hid 12 [])]
                    (.pite 25 [(.hid 15 false [0]), (.hid 5 false [1])] [(.hid 12 []), (.hid 2 [])]
                      (.ret (.bool true) [])
                      .fail)
                    (.call 18 [(.ptr 0 0)] [(.row [(.hid 13 true []), (.mapv 1), (.chv 2), (.hid 14 true [])]), (.hid 7 []), (.hid 8 [])] .snil [(.row [(.hid 15 true []), (.mapv 1), (.chv 2), (.hid 16 true [])]), (.hid 10 []), (.hid 11 [])]
                      (.pite 25 [.snil, (.hid 5 false [0])] [(.hid 2 [])]
                        (.ret (.bool true) [])
                        .fail)
                      .fail))
                  .fail)
                (.call 18 [(.ptr 0 0)] [(.row [(.hid 10 true []), (.mapv 1), (.chv 2), (.hid 11 true [])]), (.hid 3 []), (.hid 4 [])] .snil [(.row [(.hid 12 true []), (.mapv 1), (.chv 2), (.hid 13 true [])]), (.hid 7 []), (.hid 8 [])]
                  (.pite 25 [.snil, (.hid 5 false [0])] [(.hid 2 [])]
                    (.call 18 [(.ptr 0 0)] [(.row [(.hid 12 true []), (.mapv 1), (.chv 2), (.hid 13 true [])]), (.hid 7 []), (.hid 8 [])] (.hid 14 false [3]) [(.row [(.hid 15 true []), (.mapv 1), (.chv 2), (.hid 16 true [])]), (.hid 9 []), (.hid 10 []), (.hid 11 [])]
                      (.pite 25 [(.hid 14 false [0]), (.hid 5 false [1])] [(.hid 11 []), (.hid 2 [])]
                        (.ret (.bool true) [])
                        .fail)
                      (.call 18 [(.ptr 0 0)] [(.row [(.hid 12 true []), (.mapv 1), (.chv 2), (.hid 13 true [])]), (.hid 7 []), (.hid 8 [])] .snil [(.row [(.hid 14 true []), (.mapv 1), (.chv 2), (.hid 15 true [])]), (.hid 9 []), (.hid 10 [])]
                        (.ret (.bool true) [])
                        .fail))
                    .fail)
                  .fail))
              .fail)
            .fail)
          (.call 18 [(.ptr 0 0)] [(.row [(.hid 2 true []), (.mapv 1), (.chv 2), (.hid 3 true [])]), (.hid 0 []), (.hid 1 [])] .snil [(.row [(.hid 9 true []), (.mapv 1), (.chv 2), (.hid 10 true [])]), (.hid 3 []), (.hid 4 [])]
            (.pite 25 [.snil, (.hid 5 false [0])] [(.hid 2 [])]
              (.call 26 [.snil] [] (.tup []) []
                (.call 18 [(.ptr 0 0)] [(.row [(.hid 9 true []), (.mapv 1), (.chv 2), (.hid 10 true [])]), (.hid 3 []), (.hid 4 [])] (.hid 11 false [3]) [(.row [(.hid 12 true []), (.mapv 1), (.chv 2), (.hid 13 true [])]), (.hid 5 []), (.hid 6 []), (.hid 7 [])]
                  (.pite 25 [(.hid 11 false [0]), (.hid 5 false [1])] [(.hid 7 []), (.hid 2 [])]
                    (.call 18 [(.ptr 0 0)] [(.row [(.hid 12 true []), (.mapv 1), (.chv 2), (.hid 13 true [])]), (.hid 5 []), (.hid 6 [])] (.hid 14 false [3]) [(.row [(.hid 15 true []), (.mapv 1), (.chv 2), (.hid 16 true [])]), (.hid 8 []), (.hid 9 []), (.hid 10 [])]
                      (.pite 25 [(.hid 14 false [0]), (.hid 5 false [1])] [(.hid 10 []), (.hid 2 [])]
                        (.ret (.bool true) [])
                        .fail)
                      (.call 18 [(.ptr 0 0)] [(.row [(.hid 12 true []), (.mapv 1), (.chv 2), (.hid 13 true [])]), (.hid 5 []), (.hid 6 [])] .snil [(.row [(.hid 14 true []), (.mapv 1), (.chv 2), (.hid 15 true [])]), (.hid 8 []), (.hid 9 [])]
                        (.ret (.bool true) [])
                        .fail))
                    .fail)
                  (.call 18 [(.ptr 0 0)] [(.row [(.hid 9 true []), (.mapv 1), (.chv 2), (.hid 10 true [])]), (.hid 3 []), (.hid 4 [])] .snil [(.row [(.hid 11 true []), (.mapv 1), (.chv 2), (.hid 12 true [])]), (.hid 5 []), (.hid 6 [])]
                    (.call 18 [(.ptr 0 0)] [(.row [(.hid 11 true []), (.mapv 1), (.chv 2), (.hid 12 true [])]), (.hid 5 []), (.hid 6 [])] (.hid 13 false [3]) [(.row [(.hid 14 true []), (.mapv 1), (.chv 2), (.hid 15 true [])]), (.hid 7 []), (.hid 8 []), (.hid 9 [])]
                      (.pite 25 [(.hid 13 false [0]), (.hid 5 false [1])] [(.hid 9 []), (.hid 2 [])]
                        (.ret (.bool true) [])
                        .fail)
                      (.call 18 [(.ptr 0 0)] [(.row [(.hid 11 true []), (.mapv 1), (.chv 2), (.hid 12 true [])]), (.hid 5 []), (.hid 6 [])] .snil [(.row [(.hid 13 true []), (.mapv 1), (.chv 2), (.hid 14 true [])]), (.hid 7 []), (.hid 8 [])]
                        (.ret (.bool true) [])
                        .fail))
                    .fail))
                .fail)
              .fail)
            .fail)))
      (.call 18 [(.ptr 0 0)] [(.row [(.hid 2 true []), (.mapv 1), (.chv 2), (.hid 3 true [])]), (.hid 0 []), (.hid 1 [])] (.hid 9 false [3]) [(.row [(.hid 10 true []), (.mapv 1), (.chv 2), (.hid 11 true [])]), (.hid 3 []), (.hid 4 []), (.hid 5 [])]
        (.pite 25 [(.hid 9 false [0]), (.hid 5 false [1])] [(.hid 5 []), (.hid 2 [])]
          (.call 26 [(.hid 9 false [0])] [(.hid 5 [])] (.tup []) [(.hid 6 [])]
            (.call 18 [(.ptr 0 0)] [(.row [(.hid 10 true []), (.mapv 1), (.chv 2), (.hid 11 true [])]), (.hid 3 []), (.hid 4 [])] (.hid 12 false [3]) [(.row [(.hid 13 true []), (.mapv 1), (.chv 2), (.hid 14 true [])]), (.hid 7 []), (.hid 8 []), (.hid 9 [])]
              (.pite 25 [(.hid 12 false [0]), (.hid 5 false [1])] [(.hid 9 []), (.hid 2 [])]
                (.call 18 [(.ptr 0 0)] [(.row [(.hid 13 true []), (.mapv 1), (.chv 2), (.hid 14 true [])]), (.hid 7 []), (.hid 8 [])] (.hid 15 false [3]) [(.row [(.hid 16 true []), (.mapv 1), (.chv 2), (.hid 17 true [])]), (.hid 10 []), (.hid 11 []), (.hid 12 [])]
                  (.pite 25 [(.hid 15 false [0]), (.hid 5 false [1])] [(.hid 12 []), (.hid 2 [])]
                    (.ret (.bool true) [])
                    .fail)
                  (.call 18 [(.ptr 0 0)] [(.row [(.hid 13 true []), (.mapv 1), (.chv 2), (.hid 14 true [])]), (.hid 7 []), (.hid 8 [])] .snil [(.row [(.hid 15 true []), (.mapv 1), (.chv 2), (.hid 16 true [])]), (.hid 10 []), (.hid 11 [])]
                    (.pite 25 [.snil, (.hid 5 false [0])] [(.hid 2 [])]
                      (.ret (.bool true) [])
                      .fail)
                    .fail))
                .fail)
              (.call 18 [(.ptr 0 0)] [(.row [(.hid 10 true []), (.mapv 1), (.chv 2), (.hid 11 true [])]), (.hid 3 []), (.hid 4 [])] .snil [(.row [(.hid 12 true []), (.mapv 1), (.chv 2), (.hid 13 true [])]), (.hid 7 []), (.hid 8 [])]
                (.pite 25 [.snil, (.hid 5 false [0])] [(.hid 2 [])]
                  (.call 18 [(.ptr 0 0)] [(.row [(.hid 12 true []), (.mapv 1), (.chv 2), (.hid 13 true [])]), (.hid 7 []), (.hid 8 [])] (.hid 14 false [3]) [(.row [(.hid 15 true []), (.mapv 1), (.chv 2), (.hid 16 true [])]), (.hid 9 []), (.hid 10 []), (.hid 11 [])]
                    (.pite 25 [(.hid 14 false [0]), (.hid 5 false [1])] [(.hid 11 []), (.hid 2 [])]
                      (.ret (.bool true) [])
                      .fail)
                    (.call 18 [(.ptr 0 0)] [(.row [(.hid 12 true []), (.mapv 1), (.chv 2), (.hid 13 true [])]), (.hid 7 []), (.hid 8 [])] .snil [(.row [(.hid 14 true []), (.mapv 1), (.chv 2), (.hid 15 true [])]), (.hid 9 []), (.hid 10 [])]
                      (.ret (.bool true) [])
                      .fail))
                  .fail)
                .fail))
            .fail)
          .fail)
        (.call 18 [(.ptr 0 0)] [(.row [(.hid 2 true []), (.mapv 1), (.chv 2), (.hid 3 true [])]), (.hid 0 []), (.hid 1 [])] .snil [(.row [(.hid 9 true []), (.mapv 1), (.chv 2), (.hid 10 true [])]), (.hid 3 []), (.hid 4 [])]
          (.pite 25 [.snil, (.hid 5 false [0])] [(.hid 2 [])]
            (.call 26 [.snil] [] (.tup []) []
              (.call 18 [(.ptr 0 0)] [(.row [(.hid 9 true []), (.mapv 1), (.chv 2), (.hid 10 true [])]), (.hid 3 []), (.hid 4 [])] (.hid 11 false [3]) [(.row [(.hid 12 true []), (.mapv 1), (.chv 2), (.hid 13 true [])]), (.hid 5 []), (.hid 6 []), (.hid 7 [])]
                (.pite 25 [(.hid 11 false [0]), (.hid 5 false [1])] [(.hid 7 []), (.hid 2 [])]
                  (.call 18 [(.ptr 0 0)] [(.row [(.hid 12 true []), (.mapv 1), (.chv 2), (.hid 13 true [])]), (.hid 5 []), (.hid 6 [])] (.hid 14 false [3]) [(.row [(.hid 15 true []), (.mapv 1), (.chv 2), (.hid 16 true [])]), (.hid 8 []), (.hid 9 []), (.hid 10 [])]
                    (.pite 25 [(.hid 14 false [0]), (.hid 5 false [1])] [(.hid 10 []), (.hid 2 [])]
                      (.ret (.bool true) [])
                      .fail)
                    (.call 18 [(.ptr 0 0)] [(.row [(.hid 12 true []), (.mapv 1), (.chv 2), (.hid 13 true [])]), (.hid 5 []), (.hid 6 [])] .snil [(.row [(.hid 14 true []), (.mapv 1), (.chv 2), (.hid 15 true [])]), (.hid 8 []), (.hid 9 [])]
                      (.ret (.bool true) [])
                      .fail))
                  .fail)
                (.call 18 [(.ptr 0 0)] [(.row [(.hid 9 true []), (.mapv 1), (.chv 2), (.hid 10 true [])]), (.hid 3 []), (.hid 4 [])] .snil [(.row [(.hid 11 true []), (.mapv 1), (.chv 2), (.hid 12 true [])]), (.hid 5 []), (.hid 6 [])]
                  (.call 18 [(.ptr 0 0)] [(.row [(.hid 11 true []), (.mapv 1), (.chv 2), (.hid 12 true [])]), (.hid 5 []), (.hid 6 [])] (.hid 13 false [3]) [(.row [(.hid 14 true []), (.mapv 1), (.chv 2), (.hid 15 true [])]), (.hid 7 []), (.hid 8 []), (.hid 9 [])]
                    (.pite 25 [(.hid 13 false [0]), (.hid 5 false [1])] [(.hid 9 []), (.hid 2 [])]
                      (.ret (.bool true) [])
                      .fail)
                    (.call 18 [(.ptr 0 0)] [(.row [(.hid 11 true []), (.mapv 1), (.chv 2), (.hid 12 true [])]), (.hid 5 []), (.hid 6 [])] .snil [(.row [(.hid 13 true []), (.mapv 1), (.chv 2), (.hid 14 true [])]), (.hid 7 []), (.hid 8 [])]
                      (.ret (.bool true) [])
                      .fail))
                  .fail))
              .fail)
            .fail)
          .fail)))
    .fail)
def F8n1 : Node := ⟨[0, 1, 0, 1, 1, 1, 1, 1, 1], [[.top, (.hid 0 false []), .top, .top, .top, (.ptr 0 0), .top, (.ptr 1 0)], [.top, (.ptr 0 0), (.ptr 1 0), (.hid 1 true []), .top, .top, .top, .top], [.top, .top, .top, .top, .top, .top, .top, .top], [.top, .top, .top, .top, .top, .top, .top, .top], [.top, .top, .top, .top, .top, .top, .top, .top], [.top, .top, .top, .top, .top, .top, .top, .top], [.top, .top, .top, .top, .top, .top, .top, .top], [.top, .top, .top, .top, .top, .top, .top, .top], [.top, .top, .top, .top, .top, .top, .top, .top], [.top, .top, .top, .top, .top, .top, .top, .top], [.top, .top, .top, .top, .top, .top, .top, .top], [.top, .top, .top, .top, .top, .top, .top, .top], [.top, .top, .top, .top, .top, .top, .top, .top], [.top, .top, .top, .top, .top, .top, .top, .top], [.top, .top, .top, .top, .top, .top, .top, .top], [.top, .top, .top, .top, .top, .top, .top, .top]], [(.row [(.hid 2 true []), (.mapv 2), (.chv 3), (.hid 3 true [])]), (.row [(.hid 4 true []), (.hid 5 false [4]), (.hid 6 true []), (.hid 7 true [])]), (.hid 0 []), (.hid 1 []), (.hid 2 [])]⟩
def F8t2 : Tr :=
  (.ask .lenA [(.hid 0 false [])] (.hid 13 true [])
    (.ite (.bin .lss) [(.hid 1 true []), (.hid 13 true [])]
      (.ite (.bin .lss) [(.hid 1 true []), (.int .i64 200)]
        (.ite (.bin .eql) [(.hid 1 true []), (.int .i64 30)]
          .fail
          (.ask (.idxA 4) [(.hid 0 false []), (.hid 1 true [])] (.ip [(.hid 14 true []), (.hid 15 true []), (.hid 16 true []), (.hid 17 true [])])
            (.call 24 [(.ptr 0 0), (.ptr 1 0), (.agg [(.hid 14 true []), (.hid 15 true []), (.hid 16 true []), (.hid 17 true [])])] [(.row [(.hid 2 true []), (.mapv 2), (.chv 3), (.hid 3 true [])]), (.row [(.hid 4 true []), .snil, (.hid 5 true []), (.hid 6 true [])]), (.hid 0 []), (.hid 1 [])] (.bool true) [(.row [(.hid 18 true []), (.mapv 2), (.chv 3), (.hid 19 true [])]), (.row [(.hid 20 true []), (.hid 21 false [4]), (.hid 22 true []), (.hid 23 true [])]), (.hid 5 []), (.hid 6 []), (.hid 7 [])]
              (.ite (.bin .gtr) [(.hid 1 true []), (.int .i64 30)]
                (.ask (.bin .rem) [(.hid 1 true []), (.int .i64 3)] (.hid 24 true [])
                  (.ite (.bin .eql) [(.hid 24 true []), (.int .i64 0)]
                    (.ask (.bin .quo) [(.hid 1 true []), (.int .i64 2)] (.hid 25 true [])
                      (.ask (.idxA 4) [(.hid 0 false []), (.hid 25 true [])] (.ip [(.hid 26 true []), (.hid 27 true []), (.hid 28 true []), (.hid 29 true [])])
                        (.call 24 [(.ptr 0 0), (.ptr 1 0), (.agg [(.hid 26 true []), (.hid 27 true []), (.hid 28 true []), (.hid 29 true [])])] [(.row [(.hid 7 true []), (.mapv 2), (.chv 3), (.hid 8 true [])]), (.row [(.hid 9 true []), (.hid 10 false [4]), (.hid 11 true []), (.hid 12 true [])]), (.hid 2 []), (.hid 3 []), (.hid 4 [])] (.bool true) [(.row [(.hid 30 true []), (.mapv 2), (.chv 3), (.hid 31 true [])]), (.row [(.hid 32 true []), (.hid 33 false [5]), (.hid 34 true []), (.hid 35 true [])]), (.hid 8 []), (.hid 9 []), (.hid 10 []), (.hid 11 [])]
                          (.ite (.bin .neq) [(.hid 19 true []), (.hid 23 true [])]
                            .fail
                            (.ask (.bin .add) [(.hid 1 true []), (.int .i64 1)] (.hid 36 true [])
                              (.goto 3 [(.hid 0 false []), (.hid 36 true []), (.hid 18 true []), (.hid 19 true []), (.hid 20 true []), (.hid 21 false [0]), (.hid 22 true []), (.hid 23 true []), (.hid 30 true []), (.hid 31 true []), (.hid 32 true []), (.hid 33 false [0]), (.hid 34 true []), (.hid 35 true [])] [(.hid 5 []), (.hid 6 []), (.hid 7 []), (.hid 8 []), (.hid 9 []), (.hid 11 [])])
                              .fail))
                          (.call 24 [(.ptr 0 0), (.ptr 1 0), (.agg [(.hid 26 true []), (.hid 27 true []), (.hid 28 true []), (.hid 29 true [])])] [(.row [(.hid 7 true []), (.mapv 2), (.chv 3), (.hid 8 true [])]), (.row [(.hid 9 true []), (.hid 10 false [4]), (.hid 11 true []), (.hid 12 true [])]), (.hid 2 []), (.hid 3 []), (.hid 4 [])] (.bool true) [(.row [(.hid 30 true []), (.mapv 2), (.chv 3), (.hid 31 true [])]), (.row [(.hid 32 true []), .snil, (.hid 33 true []), (.hid 34 true [])]), (.hid 8 []), (.hid 9 []), (.hid 10 [])]
                            (.ite (.bin .neq) [(.hid 19 true []), (.hid 23 true [])]
                              .fail
                              (.ask (.bin .add) [(.hid 1 true []), (.int .i64 1)] (.hid 35 true [])
                                (.goto 5 [(.hid 0 false []), (.hid 35 true []), (.hid 18 true []), (.hid 19 true []), (.hid 20 true []), (.hid 21 false [0]), (.hid 22 true []), (.hid 23 true []), (.hid 30 true []), (.hid 31 true []), (.hid 32 true []), (.hid 33 true []), (.hid 34 true [])] [(.hid 5 []), (.hid 6 []), (.hid 7 []), (.hid 8 []), (.hid 9 [])])
                                .fail))
                            (.call 24 [(.ptr 0 0), (.ptr 1 0), (.agg [(.hid 26 true []), (.hid 27 true []), (.hid 28 true []), (.hid 29 true [])])] [(.row [(.hid 7 true []), (.mapv 2), (.chv 3), (.hid 8 true [])]), (.row [(.hid 9 true []), (.hid 10 false [4]), (.hid 11 true []), (.hid 12 true [])]), (.hid 2 []), (.hid 3 []), (.hid 4 [])] (.bool true) [(.row [(.hid 30 true []), (.mapv 2), (.chv 3), (.hid 31 true [])]), (.row [(.hid 32 true []), (.hid 33 false [4]), (.hid 34 true []), (.hid 35 true [])]), (.hid 8 []), (.hid 9 []), (.hid 10 [])]
                              (.ite (.bin .neq) [(.hid 19 true []), (.hid 23 true [])]
                                .fail
                                (.ask (.bin .add) [(.hid 1 true []), (.int .i64 1)] (.hid 36 true [])
                                  (.goto 3 [(.hid 0 false []), (.hid 36 true []), (.hid 18 true []), (.hid 19 true []), (.hid 20 true []), (.hid 21 false [0]), (.hid 22 true []), (.hid 23 true []), (.hid 30 true []), (.hid 31 true []), (.hid 32 true []), (.hid 33 false [0]), (.hid 34 true []), (.hid 35 true [])] [(.hid 5 []), (.hid 6 []), (.hid 7 []), (.hid 8 []), (.hid 9 []), (.hid 10 [])])
                                  .fail))
                              .fail)))
                        .fail)
                      .fail)
                    (.ite (.bin .neq) [(.hid 19 true []), (.hid 23 true [])]
                      .fail
                      (.ask (.bin .add) [(.hid 1 true []), (.int .i64 1)] (.hid 25 true [])
                        (.goto 3 [(.hid 0 false []), (.hid 25 true []), (.hid 18 true []), (.hid 19 true []), (.hid 20 true []), (.hid 21 false [0]), (.hid 22 true []), (.hid 23 true []), (.hid 7 true []), (.hid 8 true []), (.hid 9 true []), (.hid 10 false [0]), (.hid 11 true []), (.hid 12 true [])] [(.hid 5 []), (.hid 6 []), (.hid 7 []), (.hid 2 []), (.hid 3 []), (.hid 4 [])])
                        .fail)))
                  .fail)
                .fail)
              (.call 24 [(.ptr 0 0), (.ptr 1 0), (.agg [(.hid 14 true []), (.hid 15 true []), (.hid 16 true []), (.hid 17 true [])])] [(.row [(.hid 2 true []), (.mapv 2), (.chv 3), (.hid 3 true [])]), (.row [(.hid 4 true []), .snil, (.hid 5 true []), (.hid 6 true [])]), (.hid 0 []), (.hid 1 [])] (.bool true) [(.row [(.hid 18 true []), (.mapv 2), (.chv 3), (.hid 19 true [])]), (.row [(.hid 20 true []), .snil, (.hid 21 true []), (.hid 22 true [])]), (.hid 5 []), (.hid 6 [])]
                (.ite (.bin .gtr) [(.hid 1 true []), (.int .i64 30)]
                  (.ask (.bin .rem) [(.hid 1 true []), (.int .i64 3)] (.hid 23 true [])
                    (.ite (.bin .eql) [(.hid 23 true []), (.int .i64 0)]
                      (.ask (.bin .quo) [(.hid 1 true []), (.int .i64 2)] (.hid 24 true [])
                        (.ask (.idxA 4) [(.hid 0 false []), (.hid 24 true [])] (.ip [(.hid 25 true []), (.hid 26 true []), (.hid 27 true []), (.hid 28 true [])])
                          (.call 24 [(.ptr 0 0), (.ptr 1 0), (.agg [(.hid 25 true []), (.hid 26 true []), (.hid 27 true []), (.hid 28 true [])])] [(.row [(.hid 7 true []), (.mapv 2), (.chv 3), (.hid 8 true [])]), (.row [(.hid 9 true []), (.hid 10 false [4]), (.hid 11 true []), (.hid 12 true [])]), (.hid 2 []), (.hid 3 []), (.hid 4 [])] (.bool true) [(.row [(.hid 29 true []), (.mapv 2), (.chv 3), (.hid 30 true [])]), (.row [(.hid 31 true []), (.hid 32 false [5]), (.hid 33 true []), (.hid 34 true [])]), (.hid 7 []), (.hid 8 []), (.hid 9 []), (.hid 10 [])]
                            (.ite (.bin .neq) [(.hid 19 true []), (.hid 22 true [])]
                              .fail
                              (.ask (.bin .add) [(.hid 1 true []), (.int .i64 1)] (.hid 35 true [])
                                (.goto 2 [(.hid 0 false []), (.hid 35 true []), (.hid 18 true []), (.hid 19 true []), (.hid 20 true []), (.hid 21 true []), (.hid 22 true []), (.hid 29 true []), (.hid 30 true []), (.hid 31 true []), (.hid 32 false [0]), (.hid 33 true []), (.hid 34 true [])] [(.hid 5 []), (.hid 6 []), (.hid 7 []), (.hid 8 []), (.hid 10 [])])
                                .fail))
                            (.call 24 [(.ptr 0 0), (.ptr 1 0), (.agg [(.hid 25 true []), (.hid 26 true []), (.hid 27 true []), (.hid 28 true [])])] [(.row [(.hid 7 true []), (.mapv 2), (.chv 3), (.hid 8 true [])]), (.row [(.hid 9 true []), (.hid 10 false [4]), (.hid 11 true []), (.hid 12 true [])]), (.hid 2 []), (.hid 3 []), (.hid 4 [])] (.bool true) [(.row [(.hid 29 true []), (.mapv 2), (.chv 3), (.hid 30 true [])]), (.row [(.hid 31 true []), .snil, (.hid 32 true []), (.hid 33 true [])]), (.hid 7 []), (.hid 8 []), (.hid 9 [])]
                              (.ite (.bin .neq) [(.hid 19 true []), (.hid 22 true [])]
                                .fail
                                (.ask (.bin .add) [(.hid 1 true []), (.int .i64 1)] (.hid 34 true [])
                                  (.goto 4 [(.hid 0 false []), (.hid 34 true []), (.hid 18 true []), (.hid 19 true []), (.hid 20 true []), (.hid 21 true []), (.hid 22 true []), (.hid 29 true []), (.hid 30 true []), (.hid 31 true []), (.hid 32 true []), (.hid 33 true [])] [(.hid 5 []), (.hid 6 []), (.hid 7 []), (.hid 8 [])])
                                  .fail))
                              (.call 24 [(.ptr 0 0), (.ptr 1 0), (.agg [(.hid 25 true []), (.hid 26 true []), (.hid 27 true []), (.hid 28 true [])])] [(.row [(.hid 7 true []), (.mapv 2), (.chv 3), (.hid 8 true [])]), (.row [(.hid 9 true []), (.hid 10 false [4]), (.hid 11 true []), (.hid 12 true [])]), (.hid 2 []), (.hid 3 []), (.hid 4 [])] (.bool true) [(.row [(.hid 29 true []), (.mapv 2), (.chv 3), (.hid 30 true [])]), (.row [(.hid 31 true []), (.hid 32 false [4]), (.hid 33 true []), (.hid 34 true [])]), (.hid 7 []), (.hid 8 []), (.hid 9 [])]
                                (.ite (.bin .neq) [(.hid 19 true []), (.hid 22 true [])]
                                  .fail
                                  (.ask (.bin .add) [(.hid 1 true []), (.int .i64 1)] (.hid 35 true [])
                                    (.goto 2 [(.hid 0 false []), (.hid 35 true []), (.hid 18 true []), (.hid 19 true []), (.hid 20 true []), (.hid 21 true []), (.hid 22 true []), (.hid 29 true []), (.hid 30 true []), (.hid 31 true []), (.hid 32 false [0]), (.hid 33 true []), (.hid 34 true [])] [(.hid 5 []), (.hid 6 []), (.hid 7 []), (.hid 8 []), (.hid 9 [])])
                                    .fail))
                                .fail)))
                          .fail)
                        .fail)
                      (.ite (.bin .neq) [(.hid 19 true []), (.hid 22 true [])]
                        .fail
                        (.ask (.bin .add) [(.hid 1 true []), (.int .i64 1)] (.hid 24 true [])
                          (.goto 2 [(.hid 0 false []), (.hid 24 true []), (.hid 18 true []), (.hid 19 true []), (.hid 20 true []), (.hid 21 true []), (.hid 22 true []), (.hid 7 true []), (.hid 8 true []), (.hid 9 true []), (.hid 10 false [0]), (.hid 11 true []), (.hid 12 true [])] [(.hid 5 []), (.hid 6 []), (.hid 2 []), (.hid 3 []), (.hid 4 [])])
                          .fail)))
                    .fail)
                  .fail)
                .fail))
            .fail))
        (.call 18 [(.ptr 0 0)] [(.row [(.hid 2 true []), (.mapv 1), (.chv 2), (.hid 3 true [])]), (.hid 0 []), (.hid 1 [])] .snil [(.row [(.hid 14 true []), (.mapv 1), (.chv 2), (.hid 15 true [])]), (.hid 5 []), (.hid 6 [])]
          (.pite 25 [.snil, .snil] []
            (.call 26 [.snil] [] (.tup []) []
              (.call 18 [(.ptr 0 0)] [(.row [(.hid 14 true []), (.mapv 1), (.chv 2), (.hid 15 true [])]), (.hid 5 []), (.hid 6 [])] .snil [(.row [(.hid 16 true []), (.mapv 1), (.chv 2), (.hid 17 true [])]), (.hid 7 []), (.hid 8 [])]
                (.call 18 [(.ptr 0 0)] [(.row [(.hid 7 true []), (.mapv 1), (.chv 2), (.hid 8 true [])]), (.hid 2 []), (.hid 3 [])] (.hid 18 false [3]) [(.row [(.hid 19 true []), (.mapv 1), (.chv 2), (.hid 20 true [])]), (.hid 9 []), (.hid 10 []), (.hid 11 [])]
                  (.pite 25 [(.hid 18 false [0]), (.hid 10 false [1])] [(.hid 11 []), (.hid 4 [])]
                    (.ret (.bool true) [])
                    .fail)
                  (.call 18 [(.ptr 0 0)] [(.row [(.hid 7 true []), (.mapv 1), (.chv 2), (.hid 8 true [])]), (.hid 2 []), (.hid 3 [])] .snil [(.row [(.hid 18 true []), (.mapv 1), (.chv 2), (.hid 19 true [])]), (.hid 9 []), (.hid 10 [])]
                    (.pite 25 [.snil, (.hid 10 false [0])] [(.hid 4 [])]
                      (.ret (.bool true) [])
                      .fail)
                    .fail))
                .fail)
              .fail)
            .fail)
          .fail))
      (.call 18 [(.ptr 0 0)] [(.row [(.hid 2 true []), (.mapv 1), (.chv 2), (.hid 3 true [])]), (.hid 0 []), (.hid 1 [])] .snil [(.row [(.hid 14 true []), (.mapv 1), (.chv 2), (.hid 15 true [])]), (.hid 5 []), (.hid 6 [])]
        (.pite 25 [.snil, .snil] []
          (.call 26 [.snil] [] (.tup []) []
            (.call 18 [(.ptr 0 0)] [(.row [(.hid 14 true []), (.mapv 1), (.chv 2), (.hid 15 true [])]), (.hid 5 []), (.hid 6 [])] .snil [(.row [(.hid 16 true []), (.mapv 1), (.chv 2), (.hid 17 true [])]), (.hid 7 []), (.hid 8 [])]
              (.call 18 [(.ptr 0 0)] [(.row [(.hid 7 true []), (.mapv 1), (.chv 2), (.hid 8 true [])]), (.hid 2 []), (.hid 3 [])] (.hid 18 false [3]) [(.row [(.hid 19 true []), (.mapv 1), (.chv 2), (.hid 20 true [])]), (.hid 9 []), (.hid 10 []), (.hid 11 [])]
                (.pite 25 [(.hid 18 false [0]), (.hid 10 false [1])] [(.hid 11 []), (.hid 4 [])]
                  (.ret (.bool true) [])
                  .fail)
                (.call 18 [(.ptr 0 0)] [(.row [(.hid 7 true []), (.mapv 1), (.chv 2), (.hid 8 true [])]), (.hid 2 []), (.hid 3 [])] .snil [(.row [(.hid 18 true []), (.mapv 1), (.chv 2), (.hid 19 true [])]), (.hid 9 []), (.hid 10 [])]
                  (.pite 25 [.snil, (.hid 10 false [0])] [(.hid 4 [])]
                    (.ret (.bool true) [])
                    .fail)
                  .fail))
              .fail)
            .fail)
          .fail)
        .fail))
    .fail)
def F8n2 : Node := ⟨[0, 1, 0, 1, 1, 1, 1, 1, 1], [[.top, (.hid 0 false []), .top, .top, .top, (.ptr 0 0), .top, (.ptr 1 0)], [.top, (.ptr 2 0), (.ptr 3 0), (.hid 1 true []), .top, .top, .top, .top], [.top, .top, .top, .top, .top, .top, .top, .top], [.top, .top, .top, .top, .top, .top, .top, .top], [.top, .top, .top, .top, .top, .top, .top, .top], [.top, .top, .top, .top, .top, .top, .top, .top], [.top, .top, .top, .top, .top, .top, .top, .top], [.top, .top, .top, .top, .top, .top, .top, .top], [.top, .top, .top, .top, .top, .top, .top, .top], [.top, .top, .top, .top, .top, .top, .top, .top], [.top, .top, .top, .top, .top, .top, .top, .top], [.top, .top, .top, .top, .top, .top, .top, .top], [.top, .top, .top, .top, .top, .top, .top, .top], [.top, .top, .top, .top, .top, .top, .top, .top], [.top, .top, .top, .top, .top, .top, .top, .top], [.top, .top, .top, .top, .top, .top, .top, .top]], [(.row [(.hid 2 true []), (.mapv 4), (.chv 5), (.hid 3 true [])]), (.row [(.hid 4 true []), .snil, (.hid 5 true []), (.hid 6 true [])]), (.row [(.hid 7 true []), (.mapv 6), (.chv 7), (.hid 8 true [])]), (.row [(.hid 9 true []), (.hid 10 false [8]), (.hid 11 true []), (.hid 12 true [])]), (.hid 0 []), (.hid 1 []), (.hid 2 []), (.hid 3 []), (.hid 4 [])]⟩
def F8t3 : Tr :=
  (.ask .lenA [(.hid 0 false [])] (.hid 14 true [])
    (.ite (.bin .lss) [(.hid 1 true []), (.hid 14 true [])]
      (.ite (.bin .lss) [(.hid 1 true []), (.int .i64 200)]
        (.ite (.bin .eql) [(.hid 1 true []), (.int .i64 30)]
          .fail
          (.ask (.idxA 4) [(.hid 0 false []), (.hid 1 true [])] (.ip [(.hid 15 true []), (.hid 16 true []), (.hid 17 true []), (.hid 18 true [])])
            (.call 24 [(.ptr 0 0), (.ptr 1 0), (.agg [(.hid 15 true []), (.hid 16 true []), (.hid 17 true []), (.hid 18 true [])])] [(.row [(.hid 2 true []), (.mapv 2), (.chv 3), (.hid 3 true [])]), (.row [(.hid 4 true []), (.hid 5 false [4]), (.hid 6 true []), (.hid 7 true [])]), (.hid 0 []), (.hid 1 []), (.hid 2 [])] (.bool true) [(.row [(.hid 19 true []), (.mapv 2), (.chv 3), (.hid 20 true [])]), (.row [(.hid 21 true []), (.hid 22 false [5]), (.hid 23 true []), (.hid 24 true [])]), (.hid 6 []), (.hid 7 []), (.hid 8 []), (.hid 9 [])]
              (.ite (.bin .gtr) [(.hid 1 true []), (.int .i64 30)]
                (.ask (.bin .rem) [(.hid 1 true []), (.int .i64 3)] (.hid 25 true [])
                  (.ite (.bin .eql) [(.hid 25 true []), (.int .i64 0)]
                    (.ask (.bin .quo) [(.hid 1 true []), (.int .i64 2)] (.hid 26 true [])
                      (.ask (.idxA 4) [(.hid 0 false []), (.hid 26 true [])] (.ip [(.hid 27 true []), (.hid 28 true []), (.hid 29 true []), (.hid 30 true [])])
                        (.call 24 [(.ptr 0 0), (.ptr 1 0), (.agg [(.hid 27 true []), (.hid 28 true []), (.hid 29 true []), (.hid 30 true [])])] [(.row [(.hid 8 true []), (.mapv 2), (.chv 3), (.hid 9 true [])]), (.row [(.hid 10 true []), (.hid 11 false [4]), (.hid 12 true []), (.hid 13 true [])]), (.hid 3 []), (.hid 4 []), (.hid 5 [])] (.bool true) [(.row [(.hid 31 true []), (.mapv 2), (.chv 3), (.hid 32 true [])]), (.row [(.hid 33 true []), (.hid 34 false [5]), (.hid 35 true []), (.hid 36 true [])]), (.hid 10 []), (.hid 11 []), (.hid 12 []), (.hid 13 [])]
                          (.ite (.bin .neq) [(.hid 20 true []), (.hid 24 true [])]
                            .fail
                            (.ask (.bin .add) [(.hid 1 true []), (.int .i64 1)] (.hid 37 true [])
                              (.goto 3 [(.hid 0 false []), (.hid 37 true []), (.hid 19 true []), (.hid 20 true []), (.hid 21 true []), (.hid 22 false [0]), (.hid 23 true []), (.hid 24 true []), (.hid 31 true []), (.hid 32 true []), (.hid 33 true []), (.hid 34 false [0]), (.hid 35 true []), (.hid 36 true [])] [(.hid 6 []), (.hid 7 []), (.hid 9 []), (.hid 10 []), (.hid 11 []), (.hid 13 [])])
                              .fail))
                          (.call 24 [(.ptr 0 0), (.ptr 1 0), (.agg [(.hid 27 true []), (.hid 28 true []), (.hid 29 true []), (.hid 30 true [])])] [(.row [(.hid 8 true []), (.mapv 2), (.chv 3), (.hid 9 true [])]), (.row [(.hid 10 true []), (.hid 11 false [4]), (.hid 12 true []), (.hid 13 true [])]), (.hid 3 []), (.hid 4 []), (.hid 5 [])] (.bool true) [(.row [(.hid 31 true []), (.mapv 2), (.chv 3), (.hid 32 true [])]), (.row [(.hid 33 true []), .snil, (.hid 34 true []), (.hid 35 true [])]), (.hid 10 []), (.hid 11 []), (.hid 12 [])]
                            (.ite (.bin .neq) [(.hid 20 true []), (.hid 24 true [])]
                              .fail
                              (.ask (.bin .add) [(.hid 1 true []), (.int .i64 1)] (.hid 36 true [])
                                (.goto 5 [(.hid 0 false []), (.hid 36 true []), (.hid 19 true []), (.hid 20 true []), (.hid 21 true []), (.hid 22 false [0]), (.hid 23 true []), (.hid 24 true []), (.hid 31 true []), (.hid 32 true []), (.hid 33 true []), (.hid 34 true []), (.hid 35 true [])] [(.hid 6 []), (.hid 7 []), (.hid 9 []), (.hid 10 []), (.hid 11 [])])
                                .fail))
                            (.call 24 [(.ptr 0 0), (.ptr 1 0), (.agg [(.hid 27 true []), (.hid 28 true []), (.hid 29 true []), (.hid 30 true [])])] [(.row [(.hid 8 true []), (.mapv 2), (.chv 3), (.hid 9 true [])]), (.row [(.hid 10 true []), (.hid 11 false [4]), (.hid 12 true []), (.hid 13 true [])]), (.hid 3 []), (.hid 4 []), (.hid 5 [])] (.bool true) [(.row [(.hid 31 true []), (.mapv 2), (.chv 3), (.hid 32 true [])]), (.row [(.hid 33 true []), (.hid 34 false [4]), (.hid 35 true []), (.hid 36 true [])]), (.hid 10 []), (.hid 11 []), (.hid 12 [])]
                              (.ite (.bin .neq) [(.hid 20 true []), (.hid 24 true [])]
                                .fail
                                (.ask (.bin .add) [(.hid 1 true []), (.int .i64 1)] (.hid 37 true [])
                                  (.goto 3 [(.hid 0 false []), (.hid 37 true []), (.hid 19 true []), (.hid 20 true []), (.hid 21 true []), (.hid 22 false [0]), (.hid 23 true []), (.hid 24 true []), (.hid 31 true []), (.hid 32 true []), (.hid 33 true []), (.hid 34 false [0]), (.hid 35 true []), (.hid 36 true [])] [(.hid 6 []), (.hid 7 []), (.hid 9 []), (.hid 10 []), (.hid 11 []), (.hid 12 [])])
                                  .fail))
                              .fail)))
                        .fail)
                      .fail)
                    (.ite (.bin .neq) [(.hid 20 true []), (.hid 24 true [])]
                      .fail
                      (.ask (.bin .add) [(.hid 1 true []), (.int .i64 1)] (.hid 26 true [])
                        (.goto 3 [(.hid 0 false []), (.hid 26 true []), (.hid 19 true []), (.hid 20 true []), (.hid 21 true []), (.hid 22 false [0]), (.hid 23 true []), (.hid 24 true []), (.hid 8 true []), (.hid 9 true []), (.hid 10 true []), (.hid 11 false [0]), (.hid 12 true []), (.hid 13 true [])] [(.hid 6 []), (.hid 7 []), (.hid 9 []), (.hid 3 []), (.hid 4 []), (.hid 5 [])])
                        .fail)))
                  .fail)
                .fail)
              (.call 24 [(.ptr 0 0), (.ptr 1 0), (.agg [(.hid 15 true []), (.hid 16 true []), (.hid 17 true []), (.hid 18 true [])])] [(.row [(.hid 2 true []), (.mapv 2), (.chv 3), (.hid 3 true [])]), (.row [(.hid 4 true []), (.hid 5 false [4]), (.hid 6 true []), (.hid 7 true [])]), (.hid 0 []), (.hid 1 []), (.hid 2 [])] (.bool true) [(.row [(.hid 19 true []), (.mapv 2), (.chv 3), (.hid 20 true [])]), (.row [(.hid 21 true []), .snil, (.hid 22 true []), (.hid 23 true [])]), (.hid 6 []), (.hid 7 []), (.hid 8 [])]
                (.ite (.bin .gtr) [(.hid 1 true []), (.int .i64 30)]
                  (.ask (.bin .rem) [(.hid 1 true []), (.int .i64 3)] (.hid 24 true [])
                    (.ite (.bin .eql) [(.hid 24 true []), (.int .i64 0)]
                      (.ask (.bin .quo) [(.hid 1 true []), (.int .i64 2)] (.hid 25 true [])
                        (.ask (.idxA 4) [(.hid 0 false []), (.hid 25 true [])] (.ip [(.hid 26 true []), (.hid 27 true []), (.hid 28 true []), (.hid 29 true [])])
                          (.call 24 [(.ptr 0 0), (.ptr 1 0), (.agg [(.hid 26 true []), (.hid 27 true []), (.hid 28 true []), (.hid 29 true [])])] [(.row [(.hid 8 true []), (.mapv 2), (.chv 3), (.hid 9 true [])]), (.row [(.hid 10 true []), (.hid 11 false [4]), (.hid 12 true []), (.hid 13 true [])]), (.hid 3 []), (.hid 4 []), (.hid 5 [])] (.bool true) [(.row [(.hid 30 true []), (.mapv 2), (.chv 3), (.hid 31 true [])]), (.row [(.hid 32 true []), (.hid 33 false [5]), (.hid 34 true []), (.hid 35 true [])]), (.hid 9 []), (.hid 10 []), (.hid 11 []), (.hid 12 [])]
                            (.ite (.bin .neq) [(.hid 20 true []), (.hid 23 true [])]
                              .fail
                              (.ask (.bin .add) [(.hid 1 true []), (.int .i64 1)] (.hid 36 true [])
                                (.goto 2 [(.hid 0 false []), (.hid 36 true []), (.hid 19 true []), (.hid 20 true []), (.hid 21 true []), (.hid 22 true []), (.hid 23 true []), (.hid 30 true []), (.hid 31 true []), (.hid 32 true []), (.hid 33 false [0]), (.hid 34 true []), (.hid 35 true [])] [(.hid 6 []), (.hid 7 []), (.hid 9 []), (.hid 10 []), (.hid 12 [])])
                                .fail))
                            (.call 24 [(.ptr 0 0), (.ptr 1 0), (.agg [(.hid 26 true []), (.hid 27 true []), (.hid 28 true []), (.hid 29 true [])])] [(.row [(.hid 8 true []), (.mapv 2), (.chv 3), (.hid 9 true [])]), (.row [(.hid 10 true []), (.hid 11 false [4]), (.hid 12 true []), (.hid 13 true [])]), (.hid 3 []), (.hid 4 []), (.hid 5 [])] (.bool true) [(.row [(.hid 30 true []), (.mapv 2), (.chv 3), (.hid 31 true [])]), (.row [(.hid 32 true []), .snil, (.hid 33 true []), (.hid 34 true [])]), (.hid 9 []), (.hid 10 []), (.hid 11 [])]
                              (.ite (.bin .neq) [(.hid 20 true []), (.hid 23 true [])]
                                .fail
                                (.ask (.bin .add) [(.hid 1 true []), (.int .i64 1)] (.hid 35 true [])
                                  (.goto 4 [(.hid 0 false []), (.hid 35 true []), (.hid 19 true []), (.hid 20 true []), (.hid 21 true []), (.hid 22 true []), (.hid 23 true []), (.hid 30 true []), (.hid 31 true []), (.hid 32 true []), (.hid 33 true []), (.hid 34 true [])] [(.hid 6 []), (.hid 7 []), (.hid 9 []), (.hid 10 [])])
                                  .fail))
                              (.call 24 [(.ptr 0 0), (.ptr 1 0), (.agg [(.hid 26 true []), (.hid 27 true []), (.hid 28 true []), (.hid 29 true [])])] [(.row [(.hid 8 true []), (.mapv 2), (.chv 3), (.hid 9 true [])]), (.row [(.hid 10 true []), (.hid 11 false [4]), (.hid 12 true []), (.hid 13 true [])]), (.hid 3 []), (.hid 4 []), (.hid 5 [])] (.bool true) [(.row [(.hid 30 true []), (.mapv 2), (.chv 3), (.hid 31 true [])]), (.row [(.hid 32 true []), (.hid 33 false [4]), (.hid 34 true []), (.hid 35 true [])]), (.hid 9 []), (.hid 10 []), (.hid 11 [])]
                                (.ite (.bin .neq) [(.hid 20 true []), (.hid 23 true [])]
                                  .fail
                                  (.ask (.bin .add) [(.hid 1 true []), (.int .i64 1)] (.hid 36 true [])
                                    (.goto 2 [(.hid 0 false []), (.hid 36 true []), (.hid 19 true []), (.hid 20 true []), (.hid 21 true []), (.hid 22 true []), (.hid 23 true []), (.hid 30 true []), (.hid 31 true []), (.hid 32 true []), (.hid 33 false [0]), (.hid 34 true []), (.hid 35 true [])] [(.hid 6 []), (.hid 7 []), (.hid 9 []), (.hid 10 []), (.hid 11 [])])
                                    .fail))
                                .fail)))
                          .fail)
                        .fail)
                      (.ite (.bin .neq) [(.hid 20 true []), (.hid 23 true [])]
                        .fail
                        (.ask (.bin .add) [(.hid 1 true []), (.int .i64 1)] (.hid 25 true [])
                          (.goto 2 [(.hid 0 false []), (.hid 25 true []), (.hid 19 true []), (.hid 20 true []), (.hid 21 true []), (.hid 22 true []), (.hid 23 true []), (.hid 8 true []), (.hid 9 true []), (.hid 10 true []), (.hid 11 false [0]), (.hid 12 true []), (.hid 13 true [])] [(.hid 6 []), (.hid 7 []), (.hid 3 []), (.hid 4 []), (.hid 5 [])])
                          .fail)))
                    .fail)
                  .fail)
                (.call 24 [(.ptr 0 0), (.ptr 1 0), (.agg [(.hid 15 true []), (.hid 16 true []), (.hid 17 true []), (.hid 18 true [])])] [(.row [(.hid 2 true []), (.mapv 2), (.chv 3), (.hid 3 true [])]), (.row [(.hid 4 true []), (.hid 5 false [4]), (.hid 6 true []), (.hid 7 true [])]), (.hid 0 []), (.hid 1 []), (.hid 2 [])] (.bool true) [(.row [(.hid 19 true []), (.mapv 2), (.chv 3), (.hid 20 true [])]), (.row [(.hid 21 true []), (.hid 22 false [4]), (.hid 23 true []), (.hid 24 true [])]), (.hid 6 []), (.hid 7 []), (.hid 8 [])]
                  (.ite (.bin .gtr) [(.hid 1 true []), (.int .i64 30)]
                    (.ask (.bin .rem) [(.hid 1 true []), (.int .i64 3)] (.hid 25 true [])
                      (.ite (.bin .eql) [(.hid 25 true []), (.int .i64 0)]
                        (.ask (.bin .quo) [(.hid 1 true []), (.int .i64 2)] (.hid 26 true [])
                          (.ask (.idxA 4) [(.hid 0 false []), (.hid 26 true [])] (.ip [(.hid 27 true []), (.hid 28 true []), (.hid 29 true []), (.hid 30 true [])])
                            (.call 24 [(.ptr 0 0), (.ptr 1 0), (.agg [(.hid 27 true []), (.hid 28 true []), (.hid 29 true []), (.hid 30 true [])])] [(.row [(.hid 8 true []), (.mapv 2), (.chv 3), (.hid 9 true [])]), (.row [(.hid 10 true []), (.hid 11 false [4]), (.hid 12 true []), (.hid 13 true [])]), (.hid 3 []), (.hid 4 []), (.hid 5 [])] (.bool true) [(.row [(.hid 31 true []), (.mapv 2), (.chv 3), (.hid 32 true [])]), (.row [(.hid 33 true []), (.hid 34 false [5]), (.hid 35 true []), (.hid 36 true [])]), (.hid 9 []), (.hid 10 []), (.hid 11 []), (.hid 12 [])]
                              (.ite (.bin .neq) [(.hid 20 true []), (.hid 24 true [])]
                                .fail
                                (.ask (.bin .add) [(.hid 1 true []), (.int .i64 1)] (.hid 37 true [])
                                  (.goto 3 [(.hid 0 false []), (.hid 37 true []), (.hid 19 true []), (.hid 20 true []), (.hid 21 true []), (.hid 22 false [0]), (.hid 23 true []), (.hid 24 true []), (.hid 31 true []), (.hid 32 true []), (.hid 33 true []), (.hid 34 false [0]), (.hid 35 true []), (.hid 36 true [])] [(.hid 6 []), (.hid 7 []), (.hid 8 []), (.hid 9 []), (.hid 10 []), (.hid 12 [])])
                                  .fail))
                              (.call 24 [(.ptr 0 0), (.ptr 1 0), (.agg [(.hid 27 true []), (.hid 28 true []), (.hid 29 true []), (.hid 30 true [])])] [(.row [(.hid 8 true []), (.mapv 2), (.chv 3), (.hid 9 true [])]), (.row [(.hid 10 true []), (.hid 11 false [4]), (.hid 12 true []), (.hid 13 true [])]), (.hid 3 []), (.hid 4 []), (.hid 5 [])] (.bool true) [(.row [(.hid 31 true []), (.mapv 2), (.chv 3), (.hid 32 true [])]), (.row [(.hid 33 true []), .snil, (.hid 34 true []), (.hid 35 true [])]), (.hid 9 []), (.hid 10 []), (.hid 11 [])]
                                (.ite (.bin .neq) [(.hid 20 true []), (.hid 24 true [])]
                                  .fail
                                  (.ask (.bin .add) [(.hid 1 true []), (.int .i64 1)] (.hid 36 true [])
                                    (.goto 5 [(.hid 0 false []), (.hid 36 true []), (.hid 19 true []), (.hid 20 true []), (.hid 21 true []), (.hid 22 false [0]), (.hid 23 true []), (.hid 24 true []), (.hid 31 true []), (.hid 32 true []), (.hid 33 true []), (.hid 34 true []), (.hid 35 true [])] [(.hid 6 []), (.hid 7 []), (.hid 8 []), (.hid 9 []), (.hid 10 [])])
                                    .fail))
                                (.call 24 [(.ptr 0 0), (.ptr 1 0), (.agg [(.hid 27 true []), (.hid 28 true []), (.hid 29 true []), (.hid 30 true [])])] [(.row [(.hid 8 true []), (.mapv 2), (.chv 3), (.hid 9 true [])]), (.row [(.hid 10 true []), (.hid 11 false [4]), (.hid 12 true []), (.hid 13 true [])]), (.hid 3 []), (.hid 4 []), (.hid 5 [])] (.bool true) [(.row [(.hid 31 true []), (.mapv 2), (.chv 3), (.hid 32 true [])]), (.row [(.hid 33 true []), (.hid 34 false [4]), (.hid 35 true []), (.hid 36 true [])]), (.hid 9 []), (.hid 10 []), (.hid 11 [])]
                                  (.ite (.bin .neq) [(.hid 20 true []), (.hid 24 true [])]
                                    .fail
                                    (.ask (.bin .add) [(.hid 1 true []), (.int .i64 1)] (.hid 37 true [])
                                      (.goto 3 [(.hid 0 false []), (.hid 37 true []), (.hid 19 true []), (.hid 20 true []), (.hid 21 true []), (.hid 22 false [0]), (.hid 23 true []), (.hid 24 true []), (.hid 31 true []), (.hid 32 true []), (.hid 33 true []), (.hid 34 false [0]), (.hid 35 true []), (.hid 36 true [])] [(.hid 6 []), (.hid 7 []), (.hid 8 []), (.hid 9 []), (.hid 10 []), (.hid 11 [])])
                                      .fail))
                                  .fail)))
                            .fail)
                          .fail)
                        (.ite (.bin .neq) [(.hid 20 true []), (.hid 24 true [])]
                          .fail
                          (.ask (.bin .add) [(.hid 1 true []), (.int .i64 1)] (.hid 26 true [])
                            (.goto 3 [(.hid 0 false []), (.hid 26 true []), (.hid 19 true []), (.hid 20 true []), (.hid 21 true []), (.hid 22 false [0]), (.hid 23 true []), (.hid 24 true []), (.hid 8 true []), (.hid 9 true []), (.hid 10 true []), (.hid 11 false [0]), (.hid 12 true []), (.hid 13 true [])] [(.hid 6 []), (.hid 7 []), (.hid 8 []), (.hid 3 []), (.hid 4 []), (.hid 5 [])])
                            .fail)))
                      .fail)
                    .fail)
                  .fail)))
            .fail))
        (.call 18 [(.ptr 0 0)] [(.row [(.hid 2 true []), (.mapv 1), (.chv 2), (.hid 3 true [])]), (.hid 0 []), (.hid 1 [])] (.hid 15 false [3]) [(.row [(.hid 16 true []), (.mapv 1), (.chv 2), (.hid 17 true [])]), (.hid 6 []), (.hid 7 []), (.hid 8 [])]
          (.pite 25 [(.hid 15 false [0]), (.hid 5 false [1])] [(.hid 8 []), (.hid 2 [])]
            (.call 26 [(.hid 15 false [0])] [(.hid 8 [])] (.tup []) [(.hid 9 [])]
              (.call 18 [(.ptr 0 0)] [(.row [(.hid 16 true []), (.mapv 1), (.chv 2), (.hid 17 true [])]), (.hid 6 []), (.hid 7 [])] (.hid 18 false [3]) [(.row [(.hid 19 true []), (.mapv 1), (.chv 2), (.hid 20 true [])]), (.hid 10 []), (.hid 11 []), (.hid 12 [])]
                (.pite 25 [(.hid 18 false [0]), (.hid 5 false [1])] [(.hid 12 []), (.hid 2 [])]
                  (.call 18 [(.ptr 0 0)] [(.row [(.hid 8 true []), (.mapv 1), (.chv 2), (.hid 9 true [])]), (.hid 3 []), (.hid 4 [])] (.hid 21 false [3]) [(.row [(.hid 22 true []), (.mapv 1), (.chv 2), (.hid 23 true [])]), (.hid 13 []), (.hid 14 []), (.hid 15 [])]
                    (.pite 25 [(.hid 21 false [0]), (.hid 11 false [1])] [(.hid 15 []), (.hid 5 [])]
                      (.ret (.bool true) [])
                      .fail)
                    (.call 18 [(.ptr 0 0)] [(.row [(.hid 8 true []), (.mapv 1), (.chv 2), (.hid 9 true [])]), (.hid 3 []), (.hid 4 [])] .snil [(.row [(.hid 21 true []), (.mapv 1), (.chv 2), (.hid 22 true [])]), (.hid 13 []), (.hid 14 [])]
                      (.pite 25 [.snil, (.hid 11 false [0])] [(.hid 5 [])]
                        (.ret (.bool true) [])
                        .fail)
                      .fail))
                  .fail)
                (.call 18 [(.ptr 0 0)] [(.row [(.hid 16 true []), (.mapv 1), (.chv 2), (.hid 17 true [])]), (.hid 6 []), (.hid 7 [])] .snil [(.row [(.hid 18 true []), (.mapv 1), (.chv 2), (.hid 19 true [])]), (.hid 10 []), (.hid 11 [])]
                  (.pite 25 [.snil, (.hid 5 false [0])] [(.hid 2 [])]
                    (.call 18 [(.ptr 0 0)] [(.row [(.hid 8 true []), (.mapv 1), (.chv 2), (.hid 9 true [])]), (.hid 3 []), (.hid 4 [])] (.hid 20 false [3]) [(.row [(.hid 21 true []), (.mapv 1), (.chv 2), (.hid 22 true [])]), (.hid 12 []), (.hid 13 []), (.hid 14 [])]
                      (.pite 25 [(.hid 20 false [0]), (.hid 11 false [1])] [(.hid 14 []), (.hid 5 [])]
                        (.ret (.bool true) [])
                        .fail)
                      (.call 18 [(.ptr 0 0)] [(.row [(.hid 8 true []), (.mapv 1), (.chv 2), (.hid 9 true [])]), (.hid 3 []), (.hid 4 [])] .snil [(.row [(.hid 20 true []), (.mapv 1), (.chv 2), (.hid 21 true [])]), (.hid 12 []), (.hid 13 [])]
                        (.pite 25 [.snil, (.hid 11 false [0])] [(.hid 5 [])]
                          (.ret (.bool true) [])
                          .fail)
                        .fail))
                    .fail)
                  .fail))
              .fail)
            .fail)
          (.call 18 [(.ptr 0 0)] [(.row [(.hid 2 true []), (.mapv 1), (.chv 2), (.hid 3 true [])]), (.hid 0 []), (.hid 1 [])] .snil [(.row [(.hid 15 true []), (.mapv 1), (.chv 2), (.hid 16 true [])]), (.hid 6 []), (.hid 7 [])]
            (.pite 25 [.snil, (.hid 5 false [0])] [(.hid 2 [])]
              (.call 26 [.snil] [] (.tup []) []
                (.call 18 [(.ptr 0 0)] [(.row [(.hid 15 true []), (.mapv 1), (.chv 2), (.hid 16 true [])]), (.hid 6 []), (.hid 7 [])] (.hid 17 false [3]) [(.row [(.hid 18 true []), (.mapv 1), (.chv 2), (.hid 19 true [])]), (.hid 8 []), (.hid 9 []), (.hid 10 [])]
                  (.pite 25 [(.hid 17 false [0]), (.hid 5 false [1])] [(.hid 10 []), (.hid 2 [])]
                    (.call 18 [(.ptr 0 0)] [(.row [(.hid 8 true []), (.mapv 1), (.chv 2), (.hid 9 true [])]), (.hid 3 []), (.hid 4 [])] (.hid 20 false [3]) [(.row [(.hid 21 true []), (.mapv 1), (.chv 2), (.hid 22 true [])]), (.hid 11 []), (.hid 12 []), (.hid 13 [])]
                      (.pite 25 [(.hid 20 false [0]), (.hid 11 false [1])] [(.hid 13 []), (.hid 5 [])]
                        (.ret (.bool true) [])
                        .fail)
                      (.call 18 [(.ptr 0 0)] [(.row [(.hid 8 true []), (.mapv 1), (.chv 2), (.hid 9 true [])]), (.hid 3 []), (.hid 4 [])] .snil [(.row [(.hid 20 true []), (.mapv 1), (.chv 2), (.hid 21 true [])]), (.hid 11 []), (.hid 12 [])]
                        (.pite 25 [.snil, (.hid 11 false [0])] [(.hid 5 [])]
                          (.ret (.bool true) [])
                          .fail)
                        .fail))
                    .fail)
                  (.call 18 [(.ptr 0 0)] [(.row [(.hid 15 true []), (.mapv 1), (.chv 2), (.hid 16 true [])]), (.hid 6 []), (.hid 7 [])] .snil [(.row [(.hid 17 true []), (.mapv 1), (.chv 2), (.hid 18 true [])]), (.hid 8 []), (.hid 9 [])]
                    (.call 18 [(.ptr 0 0)] [(.row [(.hid 8 true []), (.mapv 1), (.chv 2), (.hid 9 true [])]), (.hid 3 []), (.hid 4 [])] (.hid 19 false [3]) [(.row [(.hid 20 true []), (.mapv 1), (.chv 2), (.hid 21 true [])]), (.hid 10 []), (.hid 11 []), (.hid 12 [])]
                      (.pite 25 [(.hid 19 false [0]), (.hid 11 false [1])] [(.hid 12 []), (.hid 5 [])]
                        (.ret (.bool true) [])
                        .fail)
                      (.call 18 [(.ptr 0 0)] [(.row [(.hid 8 true []), (.mapv 1), (.chv 2), (.hid 9 true [])]), (.hid 3 []), (.hid 4 [])] .snil [(.row [(.hid 19 true []), (.mapv 1), (.chv 2), (.hid 20 true [])]), (.hid 10 []), (.hid 11 [])]
                        (.pite 25 [.snil, (.hid 11 false [0])] [(.hid 5 [])]
                          (.ret (.bool true) [])
                          .fail)
                        .fail))
                    .fail))
                .fail)
              .fail)
            .fail)))
      (.call 18 [(.ptr 0 0)] [(.row [(.hid 2 true []), (.mapv 1), (.chv 2), (.hid 3 true [])]), (.hid 0 []), (.hid 1 [])] (.hid 15 false [3]) [(.row [(.hid 16 true []), (.mapv 1), (.chv 2), (.hid 17 true [])]), (.hid 6 []), (.hid 7 []), (.hid 8 [])]
        (.pite 25 [(.hid 15 false [0]), (.hid 5 false [1])] [(.hid 8 []), (.hid 2 [])]
          (.call 26 [(.hid 15 false [0])] [(.hid 8 [])] (.tup []) [(.hid 9 [])]
            (.call 18 [(.ptr 0 0)] [(.row [(.hid 16 true []), (.mapv 1), (.chv 2), (.hid 17 true [])]), (.hid 6 []), (.hid 7 [])] (.hid 18 false [3]) [(.row [(.hid 19 true []), (.mapv 1), (.chv 2), (.hid 20 true [])]), (.hid 10 []), (.hid 11 []), (.hid 12 [])]
              (.pite 25 [(.hid 18 false [0]), (.hid 5 false [1])] [(.hid 12 []), (.hid 2 [])]
                (.call 18 [(.ptr 0 0)] [(.row [(.hid 8 true []), (.mapv 1), (.chv 2), (.hid 9 true [])]), (.hid 3 []), (.hid 4 [])] (.hid 21 false [3]) [(.row [(.hid 22 true []), (.mapv 1), (.chv 2), (.hid 23 true [])]), (.hid 13 []), (.hid 14 []), (.hid 15 [])]
                  (.pite 25 [(.hid 21 false [0]), (.hid 11 false [1])] [(.hid 15 []), (.hid 5 [])]
                    (.ret (.bool true) [])
                    .fail)
                  (.call 18 [(.ptr 0 0)] [(.row [(.hid 8 true []), (.mapv 1), (.chv 2), (.hid 9 true [])]), (.hid 3 []), (.hid 4 [])] .snil [(.row [(.hid 21 true []), (.mapv 1), (.chv 2), (.hid 22 true [])]), (.hid 13 []), (.hid 14 [])]
                    (.pite 25 [.snil, (.hid 11 false [0])] [(.hid 5 [])]
                      (.ret (.bool true) [])
                      .fail)
                    .fail))
                .fail)
              (.call 18 [(.ptr 0 0)] [(.row [(.hid 16 true []), (.mapv 1), (.chv 2), (.hid 17 true [])]), (.hid 6 []), (.hid 7 [])] .snil [(.row [(.hid 18 true []), (.mapv 1), (.chv 2), (.hid 19 true [])]), (.hid 10 []), (.hid 11 [])]
                (.pite 25 [.snil, (.hid 5 false [0])] [(.hid 2 [])]
                  (.call 18 [(.ptr 0 0)] [(.row [(.hid 8 true []), (.mapv 1), (.chv 2), (.hid 9 true [])]), (.hid 3 []), (.hid 4 [])] (.hid 20 false [3]) [(.row [(.hid 21 true []), (.mapv 1), (.chv 2), (.hid 22 true [])]), (.hid 12 []), (.hid 13 []), (.hid 14 [])]
                    (.pite 25 [(.hid 20 false [0]), (.hid 11 false [1])] [(.hid 14 []), (.hid 5 [])]
                      (.ret (.bool true) [])
                      .fail)
                    (.call 18 [(.ptr 0 0)] [(.row [(.hid 8 true []), (.mapv 1), (.chv 2), (.hid 9 true [])]), (.hid 3 []), (.hid 4 [])] .snil [(.row [(.hid 20 true []), (.mapv 1), (.chv 2), (.hid 21 true [])]), (.hid 12 []), (.hid 13 [])]
                      (.pite 25 [.snil, (.hid 11 false [0])] [(.hid 5 [])]
                        (.ret (.bool true) [])
                        .fail)
                      .fail))
                  .fail)
                .fail))
            .fail)
          .fail)
        (.call 18 [(.ptr 0 0)] [(.row [(.hid 2 true []), (.mapv 1), (.chv 2), (.hid 3 true [])]), (.hid 0 []), (.hid 1 [])] .snil [(.row [(.hid 15 true []), (.mapv 1), (.chv 2), (.hid 16 true [])]), (.hid 6 []), (.hid 7 [])]
          (.pite 25 [.snil, (.hid 5 false [0])] [(.hid 2 [])]
            (.call 26 [.snil] [] (.tup []) []
              (.call 18 [(.ptr 0 0)] [(.row [(.hid 15 true []), (.mapv 1), (.chv 2), (.hid 16 true [])]), (.hid 6 []), (.hid 7 [])] (.hid 17 false [3]) [(.row [(.hid 18 true []), (.mapv 1), (.chv 2), (.hid 19 true [])]), (.hid 8 []), (.hid 9 []), (.hid 10 [])]
                (.pite 25 [(.hid 17 false [0]), (.hid 5 false [1])] [(.hid 10 []), (.hid 2 [])]
                  (.call 18 [(.ptr 0 0)] [(.row [(.hid 8 true []), (.mapv 1), (.chv 2), (.hid 9 true [])]), (.hid 3 []), (.hid 4 [])] (.hid 20 false [3]) [(.row [(.hid 21 true []), (.mapv 1), (.chv 2), (.hid 22 true [])]), (.hid 11 []), (.hid 12 []), (.hid 13 [])]
                    (.pite 25 [(.hid 20 false [0]), (.hid 11 false [1])] [(.hid 13 []), (.hid 5 [])]
                      (.ret (.bool true) [])
                      .fail)
                    (.call 18 [(.ptr 0 0)] [(.row [(.hid 8 true []), (.mapv 1), (.chv 2), (.hid 9 true [])]), (.hid 3 []), (.hid 4 [])] .snil [(.row [(.hid 20 true []), (.mapv 1), (.chv 2), (.hid 21 true [])]), (.hid 11 []), (.hid 12 [])]
                      (.pite 25 [.snil, (.hid 11 false [0])] [(.hid 5 [])]
                        (.ret (.bool true) [])
                        .fail)
                      .fail))
                  .fail)
                (.call 18 [(.ptr 0 0)] [(.row [(.hid 15 true []), (.mapv 1), (.chv 2), (.hid 16 true [])]), (.hid 6 []), (.hid 7 [])] .snil [(.row [(.hid 17 true []), (.mapv 1), (.chv 2), (.hid 18 true [])]), (.hid 8 []), (.hid 9 [])]
                  (.call 18 [(.ptr 0 0)] [(.row [(.hid 8 true []), (.mapv 1), (.chv 2), (.hid 9 true [])]), (.hid 3 []), (.hid 4 [])] (.hid 19 false [3]) [(.row [(.hid 20 true []), (.mapv 1), (.chv 2), (.hid 21 true [])]), (.hid 10 []), (.hid 11 []), (.hid 12 [])]
                    (.pite 25 [(.hid 19 false [0]), (.hid 11 false [1])] [(.hid 12 []), (.hid 5 [])]
                      (.ret (.bool true) [])
                      .fail)
                    (.call 18 [(.ptr 0 0)] [(.row [(.hid 8 true []), (.mapv 1), (.chv 2), (.hid 9 true [])]), (.hid 3 []), (.hid 4 [])] .snil [(.row [(.hid 19 true []), (.mapv 1), (.chv 2), (.hid 20 true [])]), (.hid 10 []), (.hid 11 [])]
                      (.pite 25 [.snil, (.hid 11 false [0])] [(.hid 5 [])]
                        (.ret (.bool true) [])
                        .fail)
                      .fail))
                  .fail))
              .fail)
            .fail)
          .fail)))
    .fail)
def F8n3 : Node := ⟨[0, 1, 0, 1, 1, 1, 1, 1, 1], [[.top, (.hid 0 false []), .top, .top, .top, (.ptr 0 0), .top, (.ptr 1 0)], [.top, (.ptr 2 0), (.ptr 3 0), (.hid 1 true []), .top, .top, .top, .top], [.top, .top, .top, .top, .top, .top, .top, .top], [.top, .top, .top, .top, .top, .top, .top, .top], [.top, .top, .top, .top, .top, .top, .top, .top], [.top, .top, .top, .top, .top, .top, .top, .top], [.top, .top, .top, .top, .top, .top, .top, .top], [.top, .top, .top, .top, .top, .top, .top, .top], [.top, .top, .top, .top, .top, .top, .top, .top], [.top, .top, .top, .top, .top, .top, .top, .top], [.top, .top, .top, .top, .top, .top, .top, .top], [.top, .top, .top, .top, .top, .top, .top, .top], [.top, .top, .top, .top, .top, .top, .top, .top], [.top, .top, .top, .top, .top, .top, .top, .top], [.top, .top, .top, .top, .top, .top, .top, .top], [.top, .top, .top, .top, .top, .top, .top, .top]], [(.row [(.hid 2 true []), (.mapv 4), (.chv 5), (.hid 3 true [])]), (.row [(.hid 4 true []), (.hid 5 false [6]), (.hid 6 true []), (.hid 7 true [])]), (.row [(.hid 8 true []), (.mapv 7), (.chv 8), (.hid 9 true [])]), (.row [(.hid 10 true []), (.hid 11 false [9]), (.hid 12 true []), (.hid 13 true [])]), (.hid 0 []), (.hid 1 []), (.hid 2 []), (.hid 3 []), (.hid 4 []), (.hid 5 [])]⟩
def F8t4 : Tr :=
  (.ask .lenA [(.hid 0 false [])] (.hid 12 true [])
    (.ite (.bin .lss) [(.hid 1 true []), (.hid 12 true [])]
      (.ite (.bin .lss) [(.hid 1 true []), (.int .i64 200)]
        (.ite (.bin .eql) [(.hid 1 true []), (.int .i64 30)]
          .fail
          (.ask (.idxA 4) [(.hid 0 false []), (.hid 1 true [])] (.ip [(.hid 13 true []), (.hid 14 true []), (.hid 15 true []), (.hid 16 true [])])
            (.call 24 [(.ptr 0 0), (.ptr 1 0), (.agg [(.hid 13 true []), (.hid 14 true []), (.hid 15 true []), (.hid 16 true [])])] [(.row [(.hid 2 true []), (.mapv 2), (.chv 3), (.hid 3 true [])]), (.row [(.hid 4 true []), .snil, (.hid 5 true []), (.hid 6 true [])]), (.hid 0 []), (.hid 1 [])] (.bool true) [(.row [(.hid 17 true []), (.mapv 2), (.chv 3), (.hid 18 true [])]), (.row [(.hid 19 true []), (.hid 20 false [4]), (.hid 21 true []), (.hid 22 true [])]), (.hid 4 []), (.hid 5 []), (.hid 6 [])]
              (.ite (.bin .gtr) [(.hid 1 true []), (.int .i64 30)]
                (.ask (.bin .rem) [(.hid 1 true []), (.int .i64 3)] (.hid 23 true [])
                  (.ite (.bin .eql) [(.hid 23 true []), (.int .i64 0)]
                    (.ask (.bin .quo) [(.hid 1 true []), (.int .i64 2)] (.hid 24 true [])
                      (.ask (.idxA 4) [(.hid 0 false []), (.hid 24 true [])] (.ip [(.hid 25 true []), (.hid 26 true []), (.hid 27 true []), (.hid 28 true [])])
                        (.call 24 [(.ptr 0 0), (.ptr 1 0), (.agg [(.hid 25 true []), (.hid 26 true []), (.hid 27 true []), (.hid 28 true [])])] [(.row [(.hid 7 true []), (.mapv 2), (.chv 3), (.hid 8 true [])]), (.row [(.hid 9 true []), .snil, (.hid 10 true []), (.hid 11 true [])]), (.hid 2 []), (.hid 3 [])] (.bool true) [(.row [(.hid 29 true []), (.mapv 2), (.chv 3), (.hid 30 true [])]), (.row [(.hid 31 true []), (.hid 32 false [4]), (.hid 33 true []), (.hid 34 true [])]), (.hid 7 []), (.hid 8 []), (.hid 9 [])]
                          (.ite (.bin .neq) [(.hid 18 true []), (.hid 22 true [])]
                            .fail
                            (.ask (.bin .add) [(.hid 1 true []), (.int .i64 1)] (.hid 35 true [])
                              (.goto 3 [(.hid 0 false []), (.hid 35 true []), (.hid 17 true []), (.hid 18 true []), (.hid 19 true []), (.hid 20 false [0]), (.hid 21 true []), (.hid 22 true []), (.hid 29 true []), (.hid 30 true []), (.hid 31 true []), (.hid 32 false [0]), (.hid 33 true []), (.hid 34 true [])] [(.hid 4 []), (.hid 5 []), (.hid 6 []), (.hid 7 []), (.hid 8 []), (.hid 9 [])])
                              .fail))
                          (.call 24 [(.ptr 0 0), (.ptr 1 0), (.agg [(.hid 25 true []), (.hid 26 true []), (.hid 27 true []), (.hid 28 true [])])] [(.row [(.hid 7 true []), (.mapv 2), (.chv 3), (.hid 8 true [])]), (.row [(.hid 9 true []), .snil, (.hid 10 true []), (.hid 11 true [])]), (.hid 2 []), (.hid 3 [])] (.bool true) [(.row [(.hid 29 true []), (.mapv 2), (.chv 3), (.hid 30 true [])]), (.row [(.hid 31 true []), .snil, (.hid 32 true []), (.hid 33 true [])]), (.hid 7 []), (.hid 8 [])]
                            (.ite (.bin .neq) [(.hid 18 true []), (.hid 22 true [])]
                              .fail
                              (.ask (.bin .add) [(.hid 1 true []), (.int .i64 1)] (.hid 34 true [])
                                (.goto 5 [(.hid 0 false []), (.hid 34 true []), (.hid 17 true []), (.hid 18 true []), (.hid 19 true []), (.hid 20 false [0]), (.hid 21 true []), (.hid 22 true []), (.hid 29 true []), (.hid 30 true []), (.hid 31 true []), (.hid 32 true []), (.hid 33 true [])] [(.hid 4 []), (.hid 5 []), (.hid 6 []), (.hid 7 []), (.hid 8 [])])
                                .fail))
                            .fail))
                        .fail)
                      .fail)
                    (.ite (.bin .neq) [(.hid 18 true []), (.hid 22 true [])]
                      .fail
                      (.ask (.bin .add) [(.hid 1 true []), (.int .i64 1)] (.hid 24 true [])
                        (.goto 5 [(.hid 0 false []), (.hid 24 true []), (.hid 17 true []), (.hid 18 true []), (.hid 19 true []), (.hid 20 false [0]), (.hid 21 true []), (.hid 22 true []), (.hid 7 true []), (.hid 8 true []), (.hid 9 true []), (.hid 10 true []), (.hid 11 true [])] [(.hid 4 []), (.hid 5 []), (.hid 6 []), (.hid 2 []), (.hid 3 [])])
                        .fail)))
                  .fail)
                .fail)
              (.call 24 [(.ptr 0 0), (.ptr 1 0), (.agg [(.hid 13 true []), (.hid 14 true []), (.hid 15 true []), (.hid 16 true [])])] [(.row [(.hid 2 true []), (.mapv 2), (.chv 3), (.hid 3 true [])]), (.row [(.hid 4 true []), .snil, (.hid 5 true []), (.hid 6 true [])]), (.hid 0 []), (.hid 1 [])] (.bool true) [(.row [(.hid 17 true []), (.mapv 2), (.chv 3), (.hid 18 true [])]), (.row [(.hid 19 true []), .snil, (.hid 20 true []), (.hid 21 true [])]), (.hid 4 []), (.hid 5 [])]
                (.ite (.bin .gtr) [(.hid 1 true []), (.int .i64 30)]
                  (.ask (.bin .rem) [(.hid 1 true []), (.int .i64 3)] (.hid 22 true [])
                    (.ite (.bin .eql) [(.hid 22 true []), (.int .i64 0)]
                      (.ask (.bin .quo) [(.hid 1 true []), (.int .i64 2)] (.hid 23 true [])
                        (.ask (.idxA 4) [(.hid 0 false []), (.hid 23 true [])] (.ip [(.hid 24 true []), (.hid 25 true []), (.hid 26 true []), (.hid 27 true [])])
                          (.call 24 [(.ptr 0 0), (.ptr 1 0), (.agg [(.hid 24 true []), (.hid 25 true []), (.hid 26 true []), (.hid 27 true [])])] [(.row [(.hid 7 true []), (.mapv 2), (.chv 3), (.hid 8 true [])]), (.row [(.hid 9 true []), .snil, (.hid 10 true []), (.hid 11 true [])]), (.hid 2 []), (.hid 3 [])] (.bool true) [(.row [(.hid 28 true []), (.mapv 2), (.chv 3), (.hid 29 true [])]), (.row [(.hid 30 true []), (.hid 31 false [4]), (.hid 32 true []), (.hid 33 true [])]), (.hid 6 []), (.hid 7 []), (.hid 8 [])]
                            (.ite (.bin .neq) [(.hid 18 true []), (.hid 21 true [])]
                              .fail
                              (.ask (.bin .add) [(.hid 1 true []), (.int .i64 1)] (.hid 34 true [])
                                (.goto 2 [(.hid 0 false []), (.hid 34 true []), (.hid 17 true []), (.hid 18 true []), (.hid 19 true []), (.hid 20 true []), (.hid 21 true []), (.hid 28 true []), (.hid 29 true []), (.hid 30 true []), (.hid 31 false [0]), (.hid 32 true []), (.hid 33 true [])] [(.hid 4 []), (.hid 5 []), (.hid 6 []), (.hid 7 []), (.hid 8 [])])
                                .fail))
                            (.call 24 [(.ptr 0 0), (.ptr 1 0), (.agg [(.hid 24 true []), (.hid 25 true []), (.hid 26 true []), (.hid 27 true [])])] [(.row [(.hid 7 true []), (.mapv 2), (.chv 3), (.hid 8 true [])]), (.row [(.hid 9 true []), .snil, (.hid 10 true []), (.hid 11 true [])]), (.hid 2 []), (.hid 3 [])] (.bool true) [(.row [(.hid 28 true []), (.mapv 2), (.chv 3), (.hid 29 true [])]), (.row [(.hid 30 true []), .snil, (.hid 31 true []), (.hid 32 true [])]), (.hid 6 []), (.hid 7 [])]
                              (.ite (.bin .neq) [(.hid 18 true []), (.hid 21 true [])]
                                .fail
                                (.ask (.bin .add) [(.hid 1 true []), (.int .i64 1)] (.hid 33 true [])
                                  (.goto 4 [(.hid 0 false []), (.hid 33 true []), (.hid 17 true []), (.hid 18 true []), (.hid 19 true []), (.hid 20 true []), (.hid 21 true []), (.hid 28 true []), (.hid 29 true []), (.hid 30 true []), (.hid 31 true []), (.hid 32 true [])] [(.hid 4 []), (.hid 5 []), (.hid 6 []), (.hid 7 [])])
                                  .fail))
                              .fail))
                          .fail)
                        .fail)
                      (.ite (.bin .neq) [(.hid 18 true []), (.hid 21 true [])]
                        .fail
                        (.ask (.bin .add) [(.hid 1 true []), (.int .i64 1)] (.hid 23 true [])
                          (.goto 4 [(.hid 0 false []), (.hid 23 true []), (.hid 17 true []), (.hid 18 true []), (.hid 19 true []), (.hid 20 true []), (.hid 21 true []), (.hid 7 true []), (.hid 8 true []), (.hid 9 true []), (.hid 10 true []), (.hid 11 true [])] [(.hid 4 []), (.hid 5 []), (.hid 2 []), (.hid 3 [])])
                          .fail)))
                    .fail)
                  .fail)
                .fail))
            .fail))
        (.call 18 [(.ptr 0 0)] [(.row [(.hid 2 true []), (.mapv 1), (.chv 2), (.hid 3 true [])]), (.hid 0 []), (.hid 1 [])] .snil [(.row [(.hid 13 true []), (.mapv 1), (.chv 2), (.hid 14 true [])]), (.hid 4 []), (.hid 5 [])]
          (.pite 25 [.snil, .snil] []
            (.call 26 [.snil] [] (.tup []) []
              (.call 18 [(.ptr 0 0)] [(.row [(.hid 13 true []), (.mapv 1), (.chv 2), (.hid 14 true [])]), (.hid 4 []), (.hid 5 [])] .snil [(.row [(.hid 15 true []), (.mapv 1), (.chv 2), (.hid 16 true [])]), (.hid 6 []), (.hid 7 [])]
                (.call 18 [(.ptr 0 0)] [(.row [(.hid 7 true []), (.mapv 1), (.chv 2), (.hid 8 true [])]), (.hid 2 []), (.hid 3 [])] .snil [(.row [(.hid 17 true []), (.mapv 1), (.chv 2), (.hid 18 true [])]), (.hid 8 []), (.hid 9 [])]
                  (.ret (.bool true) [])
                  .fail)
                .fail)
              .fail)
            .fail)
          .fail))
      (.call 18 [(.ptr 0 0)] [(.row [(.hid 2 true []), (.mapv 1), (.chv 2), (.hid 3 true [])]), (.hid 0 []), (.hid 1 [])] .snil [(.row [(.hid 13 true []), (.mapv 1), (.chv 2), (.hid 14 true [])]), (.hid 4 []), (.hid 5 [])]
        (.pite 25 [.snil, .snil] []
          (.call 26 [.snil] [] (.tup []) []
            (.call 18 [(.ptr 0 0)] [(.row [(.hid 13 true []), (.mapv 1), (.chv 2), (.hid 14 true [])]), (.hid 4 []), (.hid 5 [])] .snil [(.row [(.hid 15 true []), (.mapv 1), (.chv 2), (.hid 16 true [])]), (.hid 6 []), (.hid 7 [])]
              (.call 18 [(.ptr 0 0)] [(.row [(.hid 7 true []), (.mapv 1), (.chv 2), (.hid 8 true [])]), (.hid 2 []), (.hid 3 [])] .snil [(.row [(.hid 17 true []), (.mapv 1), (.chv 2), (.hid 18 true [])]), (.hid 8 []), (.hid 9 [])]
                (.ret (.bool true) [])
                .fail)
              .fail)
            .fail)
          .fail)
        .fail))
    .fail)
def F8n4 : Node := ⟨[0, 1, 0, 1, 1, 1, 1, 1, 1], [[.top, (.hid 0 false []), .top, .top, .top, (.ptr 0 0), .top, (.ptr 1 0)], [.top, (.ptr 2 0), (.ptr 3 0), (.hid 1 true []), .top, .top, .top, .top], [.top, .top, .top, .top, .top, .top, .top, .top], [.top, .top, .top, .top, .top, .top, .top, .top], [.top, .top, .top, .top, .top, .top, .top, .top], [.top, .top, .top, .top, .top, .top, .top, .top], [.top, .top, .top, .top, .top, .top, .top, .top], [.top, .top, .top, .top, .top, .top, .top, .top], [.top, .top, .top, .top, .top, .top, .top, .top], [.top, .top, .top, .top, .top, .top, .top, .top], [.top, .top, .top, .top, .top, .top, .top, .top], [.top, .top, .top, .top, .top, .top, .top, .top], [.top, .top, .top, .top, .top, .top, .top, .top], [.top, .top, .top, .top, .top, .top, .top, .top], [.top, .top, .top, .top, .top, .top, .top, .top], [.top, .top, .top, .top, .top, .top, .top, .top]], [(.row [(.hid 2 true []), (.mapv 4), (.chv 5), (.hid 3 true [])]), (.row [(.hid 4 true []), .snil, (.hid 5 true []), (.hid 6 true [])]), (.row [(.hid 7 true []), (.mapv 6), (.chv 7), (.hid 8 true [])]), (.row [(.hid 9 true []), .snil, (.hid 10 true []), (.hid 11 true [])]), (.hid 0 []), (.hid 1 []), (.hid 2 []), (.hid 3 [])]⟩
def F8t5 : Tr :=
  (.ask .lenA [(.hid 0 false [])] (.hid 13 true [])
    (.ite (.bin .lss) [(.hid 1 true []), (.hid 13 true [])]
      (.ite (.bin .lss) [(.hid 1 true []), (.int .i64 200)]
        (.ite (.bin .eql) [(.hid 1 true []), (.int .i64 30)]
          .fail
          (.ask (.idxA 4) [(.hid 0 false []), (.hid 1 true [])] (.ip [(.hid 14 true []), (.hid 15 true []), (.hid 16 true []), (.hid 17 true [])])
            (.call 24 [(.ptr 0 0), (.ptr 1 0), (.agg [(.hid 14 true []), (.hid 15 true []), (.hid 16 true []), (.hid 17 true [])])] [(.row [(.hid 2 true []), (.mapv 2), (.chv 3), (.hid 3 true [])]), (.row [(.hid 4 true []), (.hid 5 false [4]), (.hid 6 true []), (.hid 7 true [])]), (.hid 0 []), (.hid 1 []), (.hid 2 [])] (.bool true) [(.row [(.hid 18 true []), (.mapv 2), (.chv 3), (.hid 19 true [])]), (.row [(.hid 20 true []), (.hid 21 false [5]), (.hid 22 true []), (.hid 23 true [])]), (.hid 5 []), (.hid 6 []), (.hid 7 []), (.hid 8 [])]
              (.ite (.bin .gtr) [(.hid 1 true []), (.int .i64 30)]
                (.ask (.bin .rem) [(.hid 1 true []), (.int .i64 3)] (.hid 24 true [])
                  (.ite (.bin .eql) [(.hid 24 true []), (.int .i64 0)]
                    (.ask (.bin .quo) [(.hid 1 true []), (.int .i64 2)] (.hid 25 true [])
                      (.ask (.idxA 4) [(.hid 0 false []), (.hid 25 true [])] (.ip [(.hid 26 true []), (.hid 27 true []), (.hid 28 true []), (.hid 29 true [])])
                        (.call 24 [(.ptr 0 0), (.ptr 1 0), (.agg [(.hid 26 true []), (.hid 27 true []), (.hid 28 true []), (.hid 29 true [])])] [(.row [(.hid 8 true []), (.mapv 2), (.chv 3), (.hid 9 true [])]), (.row [(.hid 10 true []), .snil, (.hid 11 true []), (.hid 12 true [])]), (.hid 3 []), (.hid 4 [])] (.bool true) [(.row [(.hid 30 true []), (.mapv 2), (.chv 3), (.hid 31 true [])]), (.row [(.hid 32 true []), (.hid 33 false [4]), (.hid 34 true []), (.hid 35 true [])]), (.hid 9 []), (.hid 10 []), (.hid 11 [])]
                          (.ite (.bin .neq) [(.hid 19 true []), (.hid 23 true [])]
                            .fail
                            (.ask (.bin .add) [(.hid 1 true []), (.int .i64 1)] (.hid 36 true [])
                              (.goto 3 [(.hid 0 false []), (.hid 36 true []), (.hid 18 true []), (.hid 19 true []), (.hid 20 true []), (.hid 21 false [0]), (.hid 22 true []), (.hid 23 true []), (.hid 30 true []), (.hid 31 true []), (.hid 32 true []), (.hid 33 false [0]), (.hid 34 true []), (.hid 35 true [])] [(.hid 5 []), (.hid 6 []), (.hid 8 []), (.hid 9 []), (.hid 10 []), (.hid 11 [])])
                              .fail))
                          (.call 24 [(.ptr 0 0), (.ptr 1 0), (.agg [(.hid 26 true []), (.hid 27 true []), (.hid 28 true []), (.hid 29 true [])])] [(.row [(.hid 8 true []), (.mapv 2), (.chv 3), (.hid 9 true [])]), (.row [(.hid 10 true []), .snil, (.hid 11 true []), (.hid 12 true [])]), (.hid 3 []), (.hid 4 [])] (.bool true) [(.row [(.hid 30 true []), (.mapv 2), (.chv 3), (.hid 31 true [])]), (.row [(.hid 32 true []), .snil, (.hid 33 true []), (.hid 34 true [])]), (.hid 9 []), (.hid 10 [])]
                            (.ite (.bin .neq) [(.hid 19 true []), (.hid 23 true [])]
                              .fail
                              (.ask (.bin .add) [(.hid 1 true []), (.int .i64 1)] (.hid 35 true [])
                                (.goto 5 [(.hid 0 false []), (.hid 35 true []), (.hid 18 true []), (.hid 19 true []), (.hid 20 true []), (.hid 21 false [0]), (.hid 22 true []), (.hid 23 true []), (.hid 30 true []), (.hid 31 true []), (.hid 32 true []), (.hid 33 true []), (.hid 34 true [])] [(.hid 5 []), (.hid 6 []), (.hid 8 []), (.hid 9 []), (.hid 10 [])])
                                .fail))
                            .fail))
                        .fail)
                      .fail)
                    (.ite (.bin .neq) [(.hid 19 true []), (.hid 23 true [])]
                      .fail
                      (.ask (.bin .add) [(.hid 1 true []), (.int .i64 1)] (.hid 25 true [])
                        (.goto 5 [(.hid 0 false []), (.hid 25 true []), (.hid 18 true []), (.hid 19 true []), (.hid 20 true []), (.hid 21 false [0]), (.hid 22 true []), (.hid 23 true []), (.hid 8 true []), (.hid 9 true []), (.hid 10 true []), (.hid 11 true []), (.hid 12 true [])] [(.hid 5 []), (.hid 6 []), (.hid 8 []), (.hid 3 []), (.hid 4 [])])
                        .fail)))
                  .fail)
                .fail)
              (.call 24 [(.ptr 0 0), (.ptr 1 0), (.agg [(.hid 14 true []), (.hid 15 true []), (.hid 16 true []), (.hid 17 true [])])] [(.row [(.hid 2 true []), (.mapv 2), (.chv 3), (.hid 3 true [])]), (.row [(.hid 4 true []), (.hid 5 false [4]), (.hid 6 true []), (.hid 7 true [])]), (.hid 0 []), (.hid 1 []), (.hid 2 [])] (.bool true) [(.row [(.hid 18 true []), (.mapv 2), (.chv 3), (.hid 19 true [])]), (.row [(.hid 20 true []), .snil, (.hid 21 true []), (.hid 22 true [])]), (.hid 5 []), (.hid 6 []), (.hid 7 [])]
                (.ite (.bin .gtr) [(.hid 1 true []), (.int .i64 30)]
                  (.ask (.bin .rem) [(.hid 1 true []), (.int .i64 3)] (.hid 23 true [])
                    (.ite (.bin .eql) [(.hid 23 true []), (.int .i64 0)]
                      (.ask (.bin .quo) [(.hid 1 true []), (.int .i64 2)] (.hid 24 true [])
                        (.ask (.idxA 4) [(.hid 0 false []), (.hid 24 true [])] (.ip [(.hid 25 true []), (.hid 26 true []), (.hid 27 true []), (.hid 28 true [])])
                          (.call 24 [(.ptr 0 0), (.ptr 1 0), (.agg [(.hid 25 true []), (.hid 26 true []), (.hid 27 true []), (.hid 28 true [])])] [(.row [(.hid 8 true []), (.mapv 2), (.chv 3), (.hid 9 true [])]), (.row [(.hid 10 true []), .snil, (.hid 11 true []), (.hid 12 true [])]), (.hid 3 []), (.hid 4 [])] (.bool true) [(.row [(.hid 29 true []), (.mapv 2), (.chv 3), (.hid 30 true [])]), (.row [(.hid 31 true []), (.hid 32 false [4]), (.hid 33 true []), (.hid 34 true [])]), (.hid 8 []), (.hid 9 []), (.hid 10 [])]
                            (.ite (.bin .neq) [(.hid 19 true []), (.hid 22 true [])]
                              .fail
                              (.ask (.bin .add) [(.hid 1 true []), (.int .i64 1)] (.hid 35 true [])
                                (.goto 2 [(.hid 0 false []), (.hid 35 true []), (.hid 18 true []), (.hid 19 true []), (.hid 20 true []), (.hid 21 true []), (.hid 22 true []), (.hid 29 true []), (.hid 30 true []), (.hid 31 true []), (.hid 32 false [0]), (.hid 33 true []), (.hid 34 true [])] [(.hid 5 []), (.hid 6 []), (.hid 8 []), (.hid 9 []), (.hid 10 [])])
                                .fail))
                            (.call 24 [(.ptr 0 0), (.ptr 1 0), (.agg [(.hid 25 true []), (.hid 26 true []), (.hid 27 true []), (.hid 28 true [])])] [(.row [(.hid 8 true []), (.mapv 2), (.chv 3), (.hid 9 true [])]), (.row [(.hid 10 true []), .snil, (.hid 11 true []), (.hid 12 true [])]), (.hid 3 []), (.hid 4 [])] (.bool true) [(.row [(.hid 29 true []), (.mapv 2), (.chv 3), (.hid 30 true [])]), (.row [(.hid 31 true []), .snil, (.hid 32 true []), (.hid 33 true [])]), (.hid 8 []), (.hid 9 [])]
                              (.ite (.bin .neq) [(.hid 19 true []), (.hid 22 true [])]
                                .fail
                                (.ask (.bin .add) [(.hid 1 true []), (.int .i64 1)] (.hid 34 true [])
                                  (.goto 4 [(.hid 0 false []), (.hid 34 true []), (.hid 18 true []), (.hid 19 true []), (.hid 20 true []), (.hid 21 true []), (.hid 22 true []), (.hid 29 true []), (.hid 30 true []), (.hid 31 true []), (.hid 32 true []), (.hid 33 true [])] [(.hid 5 []), (.hid 6 []), (.hid 8 []), (.hid 9 [])])
                                  .fail))
                              .fail))
                          .fail)
                        .fail)
                      (.ite (.bin .neq) [(.hid 19 true []), (.hid 22 true [])]
                        .fail
                        (.ask (.bin .add) [(.hid 1 true []), (.int .i64 1)] (.hid 24 true [])
                          (.goto 4 [(.hid 0 false []), (.hid 24 true []), (.hid 18 true []), (.hid 19 true []), (.hid 20 true []), (.hid 21 true []), (.hid 22 true []), (.hid 8 true []), (.hid 9 true []), (.hid 10 true []), (.hid 11 true []), (.hid 12 true [])] [(.hid 5 []), (.hid 6 []), (.hid 3 []), (.hid 4 [])])
                          .fail)))
                    .fail)
                  .fail)
                (.call 24 [(.ptr 0 0), (.ptr 1 0), (.agg [(.hid 14 true []), (.hid 15 true []), (.hid 16 true []), (.hid 17 true [])])] [(.row [(.hid 2 true []), (.mapv 2), (.chv 3), (.hid 3 true [])]), (.row [(.hid 4 true []), (.hid 5 false [4]), (.hid 6 true []), (.hid 7 true [])]), (.hid 0 []), (.hid 1 []), (.hid 2 [])] (.bool true) [(.row [(.hid 18 true []), (.mapv 2), (.chv 3), (.hid 19 true [])]), (.row [(.hid 20 true []), (.hid 21 false [4]), (.hid 22 true []), (.hid 23 true [])]), (.hid 5 []), (.hid 6 []), (.hid 7 [])]
                  (.ite (.bin .gtr) [(.hid 1 true []), (.int .i64 30)]
                    (.ask (.bin .rem) [(.hid 1 true []), (.int .i64 3)] (.hid 24 true [])
                      (.ite (.bin .eql) [(.hid 24 true []), (.int .i64 0)]
                        (.ask (.bin .quo) [(.hid 1 true []), (.int .i64 2)] (.hid 25 true [])
                          (.ask (.idxA 4) [(.hid 0 false []), (.hid 25 true [])] (.ip [(.hid 26 true []), (.hid 27 true []), (.hid 28 true []), (.hid 29 true [])])
                            (.call 24 [(.ptr 0 0), (.ptr 1 0), (.agg [(.hid 26 true []), (.hid 27 true []), (.hid 28 true []), (.hid 29 true [])])] [(.row [(.hid 8 true []), (.mapv 2), (.chv 3), (.hid 9 true [])]), (.row [(.hid 10 true []), .snil, (.hid 11 true []), (.hid 12 true [])]), (.hid 3 []), (.hid 4 [])] (.bool true) [(.row [(.hid 30 true []), (.mapv 2), (.chv 3), (.hid 31 true [])]), (.row [(.hid 32 true []), (.hid 33 false [4]), (.hid 34 true []), (.hid 35 true [])]), (.hid 8 []), (.hid 9 []), (.hid 10 [])]
                              (.ite (.bin .neq) [(.hid 19 true []), (.hid 23 true [])]
                                .fail
                                (.ask (.bin .add) [(.hid 1 true []), (.int .i64 1)] (.hid 36 true [])
                                  (.goto 3 [(.hid 0 false []), (.hid 36 true []), (.hid 18 true []), (.hid 19 true []), (.hid 20 true []), (.hid 21 false [0]), (.hid 22 true []), (.hid 23 true []), (.hid 30 true []), (.hid 31 true []), (.hid 32 true []), (.hid 33 false [0]), (.hid 34 true []), (.hid 35 true [])] [(.hid 5 []), (.hid 6 []), (.hid 7 []), (.hid 8 []), (.hid 9 []), (.hid 10 [])])
                                  .fail))
                              (.call 24 [(.ptr 0 0), (.ptr 1 0), (.agg [(.hid 26 true []), (.hid 27 true []), (.hid 28 true []), (.hid 29 true [])])] [(.row [(.hid 8 true []), (.mapv 2), (.chv 3), (.hid 9 true [])]), (.row [(.hid 10 true []), .snil, (.hid 11 true []), (.hid 12 true [])]), (.hid 3 []), (.hid 4 [])] (.bool true) [(.row [(.hid 30 true []), (.mapv 2), (.chv 3), (.hid 31 true [])]), (.row [(.hid 32 true []), .snil, (.hid 33 true []), (.hid 34 true [])]), (.hid 8 []), (.hid 9 [])]
                                (.ite (.bin .neq) [(.hid 19 true []), (.hid 23 true [])]
                                  .fail
                                  (.ask (.bin .add) [(.hid 1 true []), (.int .i64 1)] (.hid 35 true [])
                                    (.goto 5 [(.hid 0 false []), (.hid 35 true []), (.hid 18 true []), (.hid 19 true []), (.hid 20 true []), (.hid 21 false [0]), (.hid 22 true []), (.hid 23 true []), (.hid 30 true []), (.hid 31 true []), (.hid 32 true []), (.hid 33 true []), (.hid 34 true [])] [(.hid 5 []), (.hid 6 []), (.hid 7 []), (.hid 8 []), (.hid 9 [])])
                                    .fail))
                                .fail))
                            .fail)
                          .fail)
                        (.ite (.bin .neq) [(.hid 19 true []), (.hid 23 true [])]
                          .fail
                          (.ask (.bin .add) [(.hid 1 true []), (.int .i64 1)] (.hid 25 true [])
                            (.goto 5 [(.hid 0 false []), (.hid 25 true []), (.hid 18 true []), (.hid 19 true []), (.hid 20 true []), (.hid 21 false [0]), (.hid 22 true []), (.hid 23 true []), (.hid 8 true []), (.hid 9 true []), (.hid 10 true []), (.hid 11 true []), (.hid 12 true [])] [(.hid 5 []), (.hid 6 []), (.hid 7 []), (.hid 3 []), (.hid 4 [])])
                            .fail)))
                      .fail)
                    .fail)
                  .fail)))
            .fail))
        (.call 18 [(.ptr 0 0)] [(.row [(.hid 2 true []), (.mapv 1), (.chv 2), (.hid 3 true [])]), (.hid 0 []), (.hid 1 [])] (.hid 14 false [3]) [(.row [(.hid 15 true []), (.mapv 1), (.chv 2), (.hid 16 true [])]), (.hid 5 []), (.hid 6 []), (.hid 7 [])]
          (.pite 25 [(.hid 14 false [0]), (.hid 5 false [1])] [(.hid 7 []), (.hid 2 [])]
            (.call 26 [(.hid 14 false [0])] [(.hid 7 [])] (.tup []) [(.hid 8 [])]
              (.call 18 [(.ptr 0 0)] [(.row [(.hid 15 true []), (.mapv 1), (.chv 2), (.hid 16 true [])]), (.hid 5 []), (.hid 6 [])] (.hid 17 false [3]) [(.row [(.hid 18 true []), (.mapv 1), (.chv 2), (.hid 19 true [])]), (.hid 9 []), (.hid 10 []), (.hid 11 [])]
                (.pite 25 [(.hid 17 false [0]), (.hid 5 false [1])] [(.hid 11 []), (.hid 2 [])]
                  (.call 18 [(.ptr 0 0)] [(.row [(.hid 8 true []), (.mapv 1), (.chv 2), (.hid 9 true [])]), (.hid 3 []), (.hid 4 [])] .snil [(.row [(.hid 20 true []), (.mapv 1), (.chv 2), (.hid 21 true [])]), (.hid 12 []), (.hid 13 [])]
                    (.pite 25 [.snil, .snil] []
                      (.ret (.bool true) [])
                      .fail)
                    .fail)
                  .fail)
                (.call 18 [(.ptr 0 0)] [(.row [(.hid 15 true []), (.mapv 1), (.chv 2), (.hid 16 true [])]), (.hid 5 []), (.hid 6 [])] .snil [(.row [(.hid 17 true []), (.mapv 1), (.chv 2), (.hid 18 true [])]), (.hid 9 []), (.hid 10 [])]
                  (.pite 25 [.snil, (.hid 5 false [0])] [(.hid 2 [])]
                    (.call 18 [(.ptr 0 0)] [(.row [(.hid 8 true []), (.mapv 1), (.chv 2), (.hid 9 true [])]), (.hid 3 []), (.hid 4 [])] .snil [(.row [(.hid 19 true []), (.mapv 1), (.chv 2), (.hid 20 true [])]), (.hid 11 []), (.hid 12 [])]
                      (.pite 25 [.snil, .snil] []
                        (.ret (.bool true) [])
                        .fail)
                      .fail)
                    .fail)
                  .fail))
              .fail)
            .fail)
          (.call 18 [(.ptr 0 0)] [(.row [(.hid 2 true []), (.mapv 1), (.chv 2), (.hid 3 true [])]), (.hid 0 []), (.hid 1 [])] .snil [(.row [(.hid 14 true []), (.mapv 1), (.chv 2), (.hid 15 true [])]), (.hid 5 []), (.hid 6 [])]
            (.pite 25 [.snil, (.hid 5 false [0])] [(.hid 2 [])]
              (.call 26 [.snil] [] (.tup []) []
                (.call 18 [(.ptr 0 0)] [(.row [(.hid 14 true []), (.mapv 1), (.chv 2), (.hid 15 true [])]), (.hid 5 []), (.hid 6 [])] (.hid 16 false [3]) [(.row [(.hid 17 true []), (.mapv 1), (.chv 2), (.hid 18 true [])]), (.hid 7 []), (.hid 8 []), (.hid 9 [])]
                  (.pite 25 [(.hid 16 false [0]), (.hid 5 false [1])] [(.hid 9 []), (.hid 2 [])]
                    (.call 18 [(.ptr 0 0)] [(.row [(.hid 8 true []), (.mapv 1), (.chv 2), (.hid 9 true [])]), (.hid 3 []), (.hid 4 [])] .snil [(.row [(.hid 19 true []), (.mapv 1), (.chv 2), (.hid 20 true [])]), (.hid 10 []), (.hid 11 [])]
                      (.pite 25 [.snil, .snil] []
                        (.ret (.bool true) [])
                        .fail)
                      .fail)
                    .fail)
                  (.call 18 [(.ptr 0 0)] [(.row [(.hid 14 true []), (.mapv 1), (.chv 2), (.hid 15 true [])]), (.hid 5 []), (.hid 6 [])] .snil [(.row [(.hid 16 true []), (.mapv 1), (.chv 2), (.hid 17 true [])]), (.hid 7 []), (.hid 8 [])]
                    (.call 18 [(.ptr 0 0)] [(.row [(.hid 8 true []), (.mapv 1), (.chv 2), (.hid 9 true [])]), (.hid 3 []), (.hid 4 [])] .snil [(.row [(.hid 18 true []), (.mapv 1), (.chv 2), (.hid 19 true [])]), (.hid 9 []), (.hid 10 [])]
                      (.pite 25 [.snil, .snil] []
                        (.ret (.bool true) [])
                        .fail)
                      .fail)
                    .fail))
                .fail)
              .fail)
            .fail)))
      (.call 18 [(.ptr 0 0)] [(.row [(.hid 2 true []), (.mapv 1), (.chv 2), (.hid 3 true [])]), (.hid 0 []), (.hid 1 [])] (.hid 14 false [3]) [(.row [(.hid 15 true []), (.mapv 1), (.chv 2), (.hid 16 true [])]), (.hid 5 []), (.hid 6 []), (.hid 7 [])]
        (.pite 25 [(.hid 14 false [0]), (.hid 5 false [1])] [(.hid 7 []), (.hid 2 [])]
          (.call 26 [(.hid 14 false [0])] [(.hid 7 [])] (.tup []) [(.hid 8 [])]
            (.call 18 [(.ptr 0 0)] [(.row [(.hid 15 true []), (.mapv 1), (.chv 2), (.hid 16 true [])]), (.hid 5 []), (.hid 6 [])] (.hid 17 false [3]) [(.row [(.hid 18 true []), (.mapv 1), (.chv 2), (.hid 19 true [])]), (.hid 9 []), (.hid 10 []), (.hid 11 [])]
              (.pite 25 [(.hid 17 false [0]), (.hid 5 false [1])] [(.hid 11 []), (.hid 2 [])]
                (.call 18 [(.ptr 0 0)] [(.row [(.hid 8 true []), (.mapv 1), (.chv 2), (.hid 9 true [])]), (.hid 3 []), (.hid 4 [])] .snil [(.row [(.hid 20 true []), (.mapv 1), (.chv 2), (.hid 21 true [])]), (.hid 12 []), (.hid 13 [])]
                  (.pite 25 [.snil, .snil] []
                    (.ret (.bool true) [])
                    .fail)
                  .fail)
                .fail)
              (.call 18 [(.ptr 0 0)] [(.row [(.hid 15 true []), (.mapv 1), (.chv 2), (.hid 16 true [])]), (.hid 5 []), (.hid 6 [])] .snil [(.row [(.hid 17 true []), (.mapv 1), (.chv 2), (.hid 18 true [])]), (.hid 9 []), (.hid 10 [])]
                (.pite 25 [.snil, (.hid 5 false [0])] [(.hid 2 [])]
                  (.call 18 [(.ptr 0 0)] [(.row [(.hid 8 true []), (.mapv 1), (.chv 2), (.hid 9 true [])]), (.hid 3 []), (.hid 4 [])] .snil [(.row [(.hid 19 true []), (.mapv 1), (.chv 2), (.hid 20 true [])]), (.hid 11 []), (.hid 12 [])]
                    (.pite 25 [.snil, .snil] []
                      (.ret (.bool true) [])
                      .fail)
                    .fail)
                  .fail)
                .fail))
            .fail)
          .fail)
        (.call 18 [(.ptr 0 0)] [(.row [(.hid 2 true []), (.mapv 1), (.chv 2), (.hid 3 true [])]), (.hid 0 []), (.hid 1 [])] .snil [(.row [(.hid 14 true []), (.mapv 1), (.chv 2), (.hid 15 true [])]), (.hid 5 []), (.hid 6 [])]
          (.pite 25 [.snil, (.hid 5 false [0])] [(.hid 2 [])]
            (.call 26 [.snil] [] (.tup []) []
              (.call 18 [(.ptr 0 0)] [(.row [(.hid 14 true []), (.mapv 1), (.chv 2), (.hid 15 true [])]), (.hid 5 []), (.hid 6 [])] (.hid 16 false [3]) [(.row [(.hid 17 true []), (.mapv 1), (.chv 2), (.hid 18 true [])]), (.hid 7 []), (.hid 8 []), (.hid 9 [])]
                (.pite 25 [(.hid 16 false [0]), (.hid 5 false [1])] [(.hid 9 []), (.hid 2 [])]
                  (.call 18 [(.ptr 0 0)] [(.row [(.hid 8 true []), (.mapv 1), (.chv 2), (.hid 9 true [])]), (.hid 3 []), (.hid 4 [])] .snil [(.row [(.hid 19 true []), (.mapv 1), (.chv 2), (.hid 20 true [])]), (.hid 10 []), (.hid 11 [])]
                    (.pite 25 [.snil, .snil] []
                      (.ret (.bool true) [])
                      .fail)
                    .fail)
                  .fail)
                (.call 18 [(.ptr 0 0)] [(.row [(.hid 14 true []), (.mapv 1), (.chv 2), (.hid 15 true [])]), (.hid 5 []), (.hid 6 [])] .snil [(.row [(.hid 16 true []), (.mapv 1), (.chv 2), (.hid 17 true [])]), (.hid 7 []), (.hid 8 [])]
                  (.call 18 [(.ptr 0 0)] [(.row [(.hid 8 true []), (.mapv 1), (.chv 2), (.hid 9 true [])]), (.hid 3 []), (.hid 4 [])] .snil [(.row [(.hid 18 true []), (.mapv 1), (.chv 2), (.hid 19 true [])]), (.hid 9 []), (.hid 10 [])]
                    (.pite 25 [.snil, .snil] []
                      (.ret (.bool true) [])
                      .fail)
                    .fail)
                  .fail))
              .fail)
            .fail)
          .fail)))
    .fail)
def F8n5 : Node := ⟨[0, 1, 0, 1, 1, 1, 1, 1, 1], [[.top, (.hid 0 false []), .top, .top, .top, (.ptr 0 0), .top, (.ptr 1 0)], [.top, (.ptr 2 0), (.ptr 3 0), (.hid 1 true []), .top, .top, .top, .top], [.top, .top, .top, .top, .top, .top, .top, .top], [.top, .top, .top, .top, .top, .top, .top, .top], [.top, .top, .top, .top, .top, .top, .top, .top], [.top, .top, .top, .top, .top, .top, .top, .top], [.top, .top, .top, .top, .top, .top, .top, .top], [.top, .top, .top, .top, .top, .top, .top, .top], [.top, .top, .top, .top, .top, .top, .top, .top], [.top, .top, .top, .top, .top, .top, .top, .top], [.top, .top, .top, .top, .top, .top, .top, .top], [.top, .top, .top, .top, .top, .top, .top, .top], [.top, .top, .top, .top, .top, .top, .top, .top], [.top, .top, .top, .top, .top, .top, .top, .top], [.top, .top, .top, .top, .top, .top, .top, .top], [.top, .top, .top, .top, .top, .top, .top, .top]], [(.row [(.hid 2 true []), (.mapv 4), (.chv 5), (.hid 3 true [])]), (.row [(.hid 4 true []), (.hid 5 false [6]), (.hid 6 true []), (.hid 7 true [])]), (.row [(.hid 8 true []), (.mapv 7), (.chv 8), (.hid 9 true [])]), (.row [(.hid 10 true []), .snil, (.hid 11 true []), (.hid 12 true [])]), (.hid 0 []), (.hid 1 []), (.hid 2 []), (.hid 3 []), (.hid 4 [])]⟩
def F8t : Tr :=
  (.ite (.bin .lss) [(.hid 0 true []), (.int .i64 1)]
    (.ret (.bool true) [])
    (.ite (.bin .gtr) [(.hid 0 true []), (.int .i64 4096)]
      (.ret (.bool true) [])
      (.goto 0 [(.hid 1 false []), (.int .i64 0), (.hid 0 true []), (.int .i64 0), (.hid 0 true []), (.int .i64 0), (.int .i64 0)] [(.map []), (.chan 1 [])])))
def F8 : Flow := ⟨8, [(.hid 0 true []), (.hid 1 false [])], [], F8t, [(F8n0, F8t0), (F8n1, F8t1), (F8n2, F8t2), (F8n3, F8t3), (F8n4, F8t4), (F8n5, F8t5)]⟩
theorem F8_go : ∃ fn body, Tryd.prog.funcs[8]? = some fn ∧ fn.body = some body := ⟨_, _, rfl, rfl⟩
noncomputable def F8c (t : Tr) (s : Func → Code → Tab → Option Out) : Bool := match Tryd.prog.funcs[8]? with
  | some fn => match fn.body with
    | some body => checkTr Tryd.prog fn F8.H.length F8.nodes (s fn body) t ⟨[], [], []⟩
    | none => false
  | none => false
theorem F8_e : F8c F8t (startF Tryd.prog okS ext2 40 F8) = true := by kernel_rfl
theorem F8_c0 : F8c F8t0 (fun fn body => startN Tryd.prog okS ext2 40 F8 body F8n0) = true := by kernel_rfl
theorem F8_c1 : F8c F8t1 (fun fn body => startN Tryd.prog okS ext2 40 F8 body F8n1) = true := by kernel_rfl
theorem F8_c2 : F8c F8t2 (fun fn body => startN Tryd.prog okS ext2 40 F8 body F8n2) = true := by kernel_rfl
theorem F8_c3 : F8c F8t3 (fun fn body => startN Tryd.prog okS ext2 40 F8 body F8n3) = true := by kernel_rfl
theorem F8_c4 : F8c F8t4 (fun fn body => startN Tryd.prog okS ext2 40 F8 body F8n4) = true := by kernel_rfl
theorem F8_c5 : F8c F8t5 (fun fn body => startN Tryd.prog okS ext2 40 F8 body F8n5) = true := by kernel_rfl
theorem F8_ok : F8.check Tryd.prog okS ext2 40 = true := by
  have e := F8_e
  have c0 := F8_c0
  have c1 := F8_c1
  have c2 := F8_c2
  have c3 := F8_c3
  have c4 := F8_c4
  have c5 := F8_c5
  unfold F8c at e c0 c1 c2 c3 c4 c5
  unfold Flow.check
  rw [show F8.f = 8 from rfl]
  cases hf : Tryd.prog.funcs[8]? with
  | none => rw [hf] at e; cases e
  | some fn =>
    rw [hf] at e c0 c1 c2 c3 c4 c5
    simp only at e c0 c1 c2 c3 c4 c5 ⊢
    cases hb : fn.body with
    | none => rw [hb] at e; cases e
    | some body =>
      rw [hb] at e c0 c1 c2 c3 c4 c5
      simp only at e c0 c1 c2 c3 c4 c5 ⊢
      have hn : checkNodes Tryd.prog okS ext2 40 F8 fn body F8.nodes = true := by
        show checkNodes Tryd.prog okS ext2 40 F8 fn body [(F8n0, F8t0), (F8n1, F8t1), (F8n2, F8t2), (F8n3, F8t3), (F8n4, F8t4), (F8n5, F8t5)] = true
        simp only [checkNodes, c0, c1, c2, c3, c4, c5, Bool.and_self]
      rw [hn, Bool.and_true]
      exact e
theorem F8_spec {sp : Sps} (hsp : sp.ok Tryd.prog) (n : Nat) : SpecB Tryd.prog 8 (F8.spec sp n) := flow_ok mixedS ext2_ok okS_enters hsp F8_ok rfl n
end Go.Proofs.BoatV
