/- SnapshotTimes: its text as trees; that they tell what it does. -/
import Derived.Test.YtijaopmlldhbbaaGreatDoorFZ
namespace Go.Proofs.BoatV
open Go Go.Proofs
set_option maxRecDepth 100000
def F9t0 : Tr :=
  (.ask .lenA [(.hid 0 false [])] (.hid 4 true [])
    (.ite (.bin .lss) [(.hid 1 true []), (.hid 4 true [])]
      (.ite (.bin .lss) [(.hid 1 true []), (.int .i64 30)]
        (.ask (.idxA 1) [(.hid 0 false []), (.hid 1 true [])] (.ip [(.hid 5 true [])])
          (.ask (.bin .and) [(.hid 5 true []), (.int .i64 63)] (.hid 6 true [])
            (.ite (.bin .eql) [(.hid 2 true []), (.int .i64 (-1))]
              (.ite (.bin .eql) [(.hid 3 true []), (.int .i64 0)]
                (.ite (.bin .geq) [(.hid 6 true []), (.hid 3 true [])]
                  (.ret (.bool false) [])
                  (.ask (.bin .add) [(.hid 1 true []), (.int .i64 1)] (.hid 7 true [])
                    (.goto 0 [(.hid 0 false []), (.hid 7 true []), (.hid 2 true []), (.hid 3 true [])] [])
                    .fail))
                (.ite (.bin .geq) [(.hid 6 true []), (.hid 3 true [])]
                  (.ret (.bool false) [])
                  (.ask (.bin .add) [(.hid 1 true []), (.int .i64 1)] (.hid 7 true [])
                    (.goto 0 [(.hid 0 false []), (.hid 7 true []), (.hid 2 true []), (.hid 3 true [])] [])
                    .fail)))
              (.ite (.bin .lss) [(.hid 2 true []), (.int .i64 0)]
                (.ite (.bin .geq) [(.hid 6 true []), (.hid 3 true [])]
                  (.ret (.bool false) [])
                  (.ask (.bin .add) [(.hid 1 true []), (.int .i64 1)] (.hid 7 true [])
                    (.goto 0 [(.hid 0 false []), (.hid 7 true []), (.hid 2 true []), (.hid 3 true [])] [])
                    .fail))
                (.ite (.bin .gtr) [(.hid 2 true []), (.int .i64 2147483647)]
                  (.ite (.bin .geq) [(.hid 6 true []), (.hid 3 true [])]
                    (.ret (.bool false) [])
                    (.ask (.bin .add) [(.hid 1 true []), (.int .i64 1)] (.hid 7 true [])
                      (.goto 0 [(.hid 0 false []), (.hid 7 true []), (.hid 2 true []), (.hid 3 true [])] [])
                      .fail))
                  (.ite (.bin .lss) [(.hid 3 true []), (.int .i64 0)]
                    (.ite (.bin .geq) [(.hid 6 true []), (.hid 3 true [])]
                      (.ret (.bool false) [])
                      (.ask (.bin .add) [(.hid 1 true []), (.int .i64 1)] (.hid 7 true [])
                        (.goto 0 [(.hid 0 false []), (.hid 7 true []), (.hid 2 true []), (.hid 3 true [])] [])
                        .fail))
                    (.ite (.bin .eql) [(.hid 2 true []), (.int .i64 2147483647)]
                      (.ite (.bin .geq) [(.hid 6 true []), (.hid 3 true [])]
                        (.ret (.bool false) [])
                        (.ask (.bin .add) [(.hid 1 true []), (.int .i64 1)] (.hid 7 true [])
                          (.goto 0 [(.hid 0 false []), (.hid 7 true []), (.hid 2 true []), (.hid 3 true [])] [])
                          .fail))
                      (.ite (.bin .lss) [(.hid 6 true []), (.hid 3 true [])]
                        (.ask (.bin .geq) [(.hid 6 true []), (.hid 3 true [])] (.bool false)
                          (.ask (.bin .add) [(.hid 1 true []), (.int .i64 1)] (.hid 7 true [])
                            (.goto 0 [(.hid 0 false []), (.hid 7 true []), (.hid 2 true []), (.hid 3 true [])] [])
                            .fail)
                          .fail)
                        (.ask (.bin .add) [(.hid 2 true []), (.int .i64 1)] (.hid 7 true [])
                          (.ite (.bin .geq) [(.hid 6 true []), (.int .i64 0)]
                            (.ite (.bin .eql) [(.hid 6 true []), (.hid 6 true [])]
                              (.ask (.bin .geq) [(.hid 6 true []), (.hid 3 true [])] (.bool true)
                                (.ite (.bin .neq) [(.hid 7 true []), (.hid 7 true [])]
                                  (.ret (.bool false) [])
                                  (.ask (.bin .neq) [(.hid 6 true []), (.hid 6 true [])] (.bool false)
                                    (.ask (.bin .add) [(.hid 1 true []), (.int .i64 1)] (.hid 8 true [])
                                      (.goto 0 [(.hid 0 false []), (.hid 8 true []), (.hid 7 true []), (.hid 6 true [])] [])
                                      .fail)
                                    .fail))
                                .fail)
                              (.ask (.bin .geq) [(.hid 6 true []), (.hid 3 true [])] (.bool true)
                                (.ret (.bool false) [])
                                .fail))
                            (.ask (.bin .geq) [(.hid 6 true []), (.hid 3 true [])] (.bool true)
                              (.ret (.bool false) [])
                              .fail))
                          .fail)))))))
            .fail)
          .fail)
        (.ite (.bin .eql) [(.hid 2 true []), (.int .i64 (-1))]
          (.ite (.bin .eql) [(.hid 3 true []), (.int .i64 0)]
            (.ret (.bool true) [])
            (.ret (.bool true) []))
          (.ite (.bin .lss) [(.hid 2 true []), (.int .i64 0)]
            (.ret (.bool true) [])
            (.ite (.bin .gtr) [(.hid 2 true []), (.int .i64 2147483647)]
              (.ret (.bool true) [])
              (.ite (.bin .lss) [(.hid 3 true []), (.int .i64 0)]
                (.ret (.bool true) [])
                (.ite (.bin .eql) [(.hid 2 true []), (.int .i64 2147483647)]
                  (.ret (.bool true) [])
                  (.ite (.bin .lss) [(.int .i64 99), (.hid 3 true [])]
                    (.ret (.bool true) [])
                    (.ask (.bin .add) [(.hid 2 true []), (.int .i64 1)] (.hid 5 true [])
                      (.ret (.bool true) [])
                      .fail))))))))
      (.ite (.bin .eql) [(.hid 2 true []), (.int .i64 (-1))]
        (.ite (.bin .eql) [(.hid 3 true []), (.int .i64 0)]
          (.ret (.bool true) [])
          (.ret (.bool true) []))
        (.ite (.bin .lss) [(.hid 2 true []), (.int .i64 0)]
          (.ret (.bool true) [])
          (.ite (.bin .gtr) [(.hid 2 true []), (.int .i64 2147483647)]
            (.ret (.bool true) [])
            (.ite (.bin .lss) [(.hid 3 true []), (.int .i64 0)]
              (.ret (.bool true) [])
              (.ite (.bin .eql) [(.hid 2 true []), (.int .i64 2147483647)]
                (.ret (.bool true) [])
                (.ite (.bin .lss) [(.int .i64 99), (.hid 3 true [])]
                  (.ret (.bool true) [])
                  (.ask (.bin .add) [(.hid 2 true []), (.int .i64 1)] (.hid 5 true [])
                    (.ret (.bool true) [])
                    .fail))))))))
    .fail)
def F9n0 : Node := ⟨[0, 1, 0, 1, 1, 1], [[(.hid 0 false []), .top, .top, (.ptr 0 0), (.int .i64 0), (.hid 1 true []), .top, .top], [.top, .top, .top, .top, .top, .top, .top, .top], [.top, .top, .top, .top, .top, .top, .top, .top], [.top, .top, .top, .top, .top, .top, .top, .top], [.top, .top, .top, .top, .top, .top, .top, .top], [.top, .top, .top, .top, .top, .top, .top, .top], [.top, .top, .top, .top, .top, .top, .top, .top], [.top, .top, .top, .top, .top, .top, .top, .top], [.top, .top, .top, .top, .top, .top, .top, .top], [.top, .top, .top, .top, .top, .top, .top, .top], [.top, .top, .top, .top, .top, .top, .top, .top], [.top, .top, .top, .top, .top, .top, .top]], [(.row [(.hid 2 true []), (.hid 3 true []), (.int .i64 0), (.sl 1 0 1 3 none), (.int .i64 2), (.int .i64 0), .snil, .snil, .snil, .snil]), (.row [(.int .i64 1), (.str [97]), (.int .i64 1)])]⟩
def F9t : Tr :=
  (.goto 0 [(.hid 0 false []), (.int .i64 0), (.int .i64 0), (.int .i64 0)] [])
def F9 : Flow := ⟨9, [(.hid 0 false [])], [], F9t, [(F9n0, F9t0)]⟩
theorem F9_ok : F9.check Tryz.prog okZ ext2 40 = true := by kernel_rfl
theorem F9_spec (n : Nat) : SpecB Tryz.prog 9 (F9.spec sp0 n) := flow_ok mixedZ ext2_ok okZ_enters sp0_ok F9_ok rfl n
end Go.Proofs.BoatV
