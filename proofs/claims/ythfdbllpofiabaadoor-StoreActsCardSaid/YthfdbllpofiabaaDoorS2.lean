/- Functions as trees (printed by Drv2.lean through mks.py); that the trees tell what they do. -/
import Derived.Test.YthfdbllpofiabaaDoorS0
namespace Go.Proofs.BoatV
open Go Go.Proofs
set_option maxRecDepth 100000
/-! (*boathouse/objstore.Store).call -/
def F27at : Tr :=
  (.ask (.bin .add) [(.hid 1 true []), (.int .i64 1)] (.hid 2 true [])
    (.ret (.bool false) [(.row [(.hid 0 true []), (.mapv 1), (.chv 2), (.hid 2 true [])]), (.hid 0 []), (.chan 1 [])])
    .fail)
def F27a : Flow := ⟨27, [(.ptr 0 0)], [(.row [(.hid 0 true []), (.mapv 1), (.chv 2), (.hid 1 true [])]), (.hid 0 []), (.chan 1 [])], F27at, []⟩
theorem F27a_ok : F27a.check Tryd.prog okS ext1 40 = true := by kernel_rfl
theorem F27a_spec {sp : Sps} (hsp : sp.ok Tryd.prog) (n : Nat) : SpecB Tryd.prog 27 (F27a.spec sp n) := flow_ok mixedS ext1_ok okS_enters hsp F27a_ok rfl n
/-! (*boathouse/objstore.Store).call -/
def F27bt : Tr :=
  (.ask (.bin .add) [(.hid 1 true []), (.int .i64 1)] (.hid 3 true [])
    (.ask (.bin .sub) [(.hid 2 true []), (.int .i64 1)] (.hid 4 true [])
      (.ite (.bin .gtr) [(.hid 4 true []), (.int .i64 0)]
        (.ret (.bool true) [(.row [(.hid 0 true []), (.mapv 1), (.chv 2), (.hid 3 true [])]), (.hid 0 []), (.chan 1 [(.hid 4 true [])])])
        (.ret (.bool true) [(.row [(.hid 0 true []), (.mapv 1), (.chv 2), (.hid 3 true [])]), (.hid 0 []), (.chan 1 [])]))
      .fail)
    .fail)
def F27b : Flow := ⟨27, [(.ptr 0 0)], [(.row [(.hid 0 true []), (.mapv 1), (.chv 2), (.hid 1 true [])]), (.hid 0 []), (.chan 1 [(.hid 2 true [])])], F27bt, []⟩
theorem F27b_ok : F27b.check Tryd.prog okS ext1 40 = true := by kernel_rfl
theorem F27b_spec {sp : Sps} (hsp : sp.ok Tryd.prog) (n : Nat) : SpecB Tryd.prog 27 (F27b.spec sp n) := flow_ok mixedS ext1_ok okS_enters hsp F27b_ok rfl n
/-! boathouse/objstore.Key -/
def F28t : Tr :=
  (.ask .lenS [(.hid 0 true [])] (.hid 1 true [])
    (.ite (.bin .geq) [(.hid 1 true []), (.int .i64 1)]
      (.ite (.bin .leq) [(.hid 1 true []), (.int .i64 64)]
        (.pcall 38 [] [] (.hid 2 true [])
          (.pcall 37 [(.hid 0 true []), (.hid 2 true [])] [] (.hid 3 true [])
            (.ite (.bin .eql) [(.hid 3 true []), (.str [])]
              (.ret (.bool true) [])
              (.ret (.bool false) []))
            .fail)
          .fail)
        (.ret (.bool false) []))
      (.ret (.bool false) []))
    .fail)
def F28 : Flow := ⟨28, [(.hid 0 true [])], [], F28t, []⟩
theorem F28_ok : F28.check Tryd.prog okS ext1 40 = true := by kernel_rfl
theorem F28_spec {sp : Sps} (hsp : sp.ok Tryd.prog) (n : Nat) : SpecB Tryd.prog 28 (F28.spec sp n) := flow_ok mixedS ext1_ok okS_enters hsp F28_ok rfl n
/-! boathouse/boathouseref0.Decimal -/
def F12t0 : Tr :=
  (.ite (.bin .gtr) [(.hid 1 true []), (.int .u64 0)]
    (.ask (.bin .rem) [(.hid 1 true []), (.int .u64 10)] (.hid 2 true [])
      (.ask (.bin .add) [(.int .u64 48), (.hid 2 true [])] (.hid 3 true [])
        (.ask (.conv .u8) [(.hid 3 true [])] (.hid 4 true [])
          (.ask (.bin .quo) [(.hid 1 true []), (.int .u64 10)] (.hid 5 true [])
            (.goto 1 [(.hid 0 true []), (.hid 5 true []), (.sl 0 0 1 1 (some 1))] [(.row [(.hid 4 true [])])])
            .fail)
          .fail)
        .fail)
      .fail)
    (.ask (.bin .rem) [(.hid 1 true []), (.int .u64 10)] (.hid 2 true [])
      (.ask (.bin .add) [(.int .u64 48), (.hid 2 true [])] (.hid 3 true [])
        (.ask (.conv .u8) [(.hid 3 true [])] (.hid 4 true [])
          (.ask (.bin .quo) [(.hid 1 true []), (.int .u64 10)] (.hid 5 true [])
            (.goto 1 [(.hid 0 true []), (.hid 5 true []), (.sl 0 0 1 1 (some 1))] [(.row [(.hid 4 true [])])])
            .fail)
          .fail)
        .fail)
      .fail))
def F12n0 : Node := ⟨[0, 0, 1, 1, 1, 1], [[(.hid 0 true []), .top, .top, (.hid 1 true []), .snil, .top, .top, .top], [.top, .top, .top, .top, .top, .top, .top, .top], [.top, .top, .top, .top, .top, .top, .top, .top], [.top, .top, .top, .top, .top, .top, .top, .top], [.top, .top, .top, .top, .top]], []⟩
def F12t1 : Tr :=
  (.ite (.bin .gtr) [(.hid 1 true []), (.int .u64 0)]
    (.ask (.bin .rem) [(.hid 1 true []), (.int .u64 10)] (.hid 3 true [])
      (.ask (.bin .add) [(.int .u64 48), (.hid 3 true [])] (.hid 4 true [])
        (.ask (.conv .u8) [(.hid 4 true [])] (.hid 5 true [])
          (.hop (.app 1 1) [(.sl 0 0 1 1 (some 1)), (.hid 2 false [1])] [(.row [(.hid 5 true [])]), (.hid 0 [])] (.hid 6 false [2]) [(.row [(.hid 7 true [])]), (.hid 1 []), (.hid 2 [])]
            (.ask (.bin .quo) [(.hid 1 true []), (.int .u64 10)] (.hid 8 true [])
              (.goto 1 [(.hid 0 true []), (.hid 8 true []), (.hid 6 false [0])] [(.hid 2 [])])
              .fail)
            .fail)
          .fail)
        .fail)
      .fail)
    (.ask .lenA [(.hid 2 false [0])] (.hid 3 true [])
      (.ite (.bin .eql) [(.hid 3 true []), (.int .i64 0)]
        (.ask (.bin .rem) [(.hid 1 true []), (.int .u64 10)] (.hid 4 true [])
          (.ask (.bin .add) [(.int .u64 48), (.hid 4 true [])] (.hid 5 true [])
            (.ask (.conv .u8) [(.hid 5 true [])] (.hid 6 true [])
              (.hop (.app 1 1) [(.sl 0 0 1 1 (some 1)), (.hid 2 false [1])] [(.row [(.hid 6 true [])]), (.hid 0 [])] (.hid 7 false [2]) [(.row [(.hid 8 true [])]), (.hid 1 []), (.hid 2 [])]
                (.ask (.bin .quo) [(.hid 1 true []), (.int .u64 10)] (.hid 9 true [])
                  (.goto 1 [(.hid 0 true []), (.hid 9 true []), (.hid 7 false [0])] [(.hid 2 [])])
                  .fail)
                .fail)
              .fail)
            .fail)
          .fail)
        (.ite (.bin .lss) [(.hid 0 true []), (.int .i64 0)]
          (.hop (.app 1 1) [(.sl 0 0 1 1 (some 1)), (.hid 2 false [1])] [(.row [(.int .u8 45)]), (.hid 0 [])] (.hid 4 false [2]) [(.row [(.int .u8 45)]), (.hid 1 []), (.hid 2 [])]
            (.phop .toS [(.hid 4 false [0])] [(.hid 2 [])] (.hid 5 true [])
              (.ret (.hid 5 true []) [])
              .fail)
            .fail)
          (.phop .toS [(.hid 2 false [0])] [(.hid 0 [])] (.hid 4 true [])
            (.ret (.hid 4 true []) [])
            .fail)))
      .fail))
def F12n1 : Node := ⟨[0, 0, 1, 1, 1, 1], [[(.hid 0 true []), .top, .top, (.hid 1 true []), (.hid 2 false [0]), .top, .top, .top], [.top, .top, .top, .top, .top, .top, .top, .top], [.top, .top, .top, .top, .top, .top, .top, .top], [.top, .top, .top, .top, .top, .top, .top, .top], [.top, .top, .top, .top, .top]], [(.hid 0 [])]⟩
def F12t : Tr :=
  (.ask (.conv .u64) [(.hid 0 true [])] (.hid 1 true [])
    (.ite (.bin .lss) [(.hid 0 true []), (.int .i64 0)]
      (.ask (.bin .add) [(.hid 0 true []), (.int .i64 1)] (.hid 2 true [])
        (.ask (.un .neg) [(.hid 2 true [])] (.hid 3 true [])
          (.ask (.conv .u64) [(.hid 3 true [])] (.hid 4 true [])
            (.ask (.bin .add) [(.hid 4 true []), (.int .u64 1)] (.hid 5 true [])
              (.goto 0 [(.hid 0 true []), (.hid 5 true [])] [])
              .fail)
            .fail)
          .fail)
        .fail)
      (.goto 0 [(.hid 0 true []), (.hid 1 true [])] []))
    .fail)
def F12 : Flow := ⟨12, [(.hid 0 true [])], [], F12t, [(F12n0, F12t0), (F12n1, F12t1)]⟩
theorem F12_ok : F12.check Tryd.prog okS ext1 40 = true := by kernel_rfl
theorem F12_spec {sp : Sps} (hsp : sp.ok Tryd.prog) (n : Nat) : SpecB Tryd.prog 12 (F12.spec sp n) := flow_ok mixedS ext1_ok okS_enters hsp F12_ok rfl n
/-! (*boathouse/objstore.Store).Put -/
def F13t : Tr :=
  (.call 27 [(.ptr 0 0)] [(.row [(.hid 3 true []), (.mapv 1), (.chv 2), (.hid 4 true [])]), (.hid 0 []), (.hid 1 [])] (.bool true) [(.row [(.hid 5 true []), (.mapv 1), (.chv 2), (.hid 6 true [])]), (.hid 2 []), (.hid 3 [])]
    (.ret (.int .i64 104) [(.row [(.hid 5 true []), (.mapv 1), (.chv 2), (.hid 6 true [])]), (.hid 2 []), (.hid 3 [])])
    (.call 27 [(.ptr 0 0)] [(.row [(.hid 3 true []), (.mapv 1), (.chv 2), (.hid 4 true [])]), (.hid 0 []), (.hid 1 [])] (.bool false) [(.row [(.hid 5 true []), (.mapv 1), (.chv 2), (.hid 6 true [])]), (.hid 2 []), (.hid 3 [])]
      (.pite 28 [(.hid 0 true [])] []
        (.ask .lenS [(.hid 1 true [])] (.hid 7 true [])
          (.ite (.bin .gtr) [(.hid 7 true []), (.int .i64 65536)]
            (.ret (.int .i64 100) [(.row [(.hid 5 true []), (.mapv 1), (.chv 2), (.hid 6 true [])]), (.hid 2 []), (.hid 3 [])])
            (.ite (.bin .lss) [(.hid 2 true []), (.int .i64 0)]
              (.ret (.int .i64 100) [(.row [(.hid 5 true []), (.mapv 1), (.chv 2), (.hid 6 true [])]), (.hid 2 []), (.hid 3 [])])
              (.phop (.look true (.agg [(.str []), (.int .i64 0)]) true) [(.mapv 0), (.hid 0 true [])] [(.hid 2 [])] (.tup [(.agg [(.hid 8 true []), (.hid 9 true [])]), (.bool true)])
                (.ret (.int .i64 101) [(.row [(.hid 5 true []), (.mapv 1), (.chv 2), (.hid 6 true [])]), (.hid 2 []), (.hid 3 [])])
                (.phop (.look true (.agg [(.str []), (.int .i64 0)]) true) [(.mapv 0), (.hid 0 true [])] [(.hid 2 [])] (.tup [(.agg [(.hid 8 true []), (.hid 9 true [])]), (.bool false)])
                  (.phop .mlen [(.mapv 0)] [(.hid 2 [])] (.hid 10 true [])
                    (.ite (.bin .geq) [(.hid 10 true []), (.hid 5 true [])]
                      (.ret (.int .i64 103) [(.row [(.hid 5 true []), (.mapv 1), (.chv 2), (.hid 6 true [])]), (.hid 2 []), (.hid 3 [])])
                      (.hop (.upd true) [(.mapv 0), (.hid 0 true []), (.agg [(.hid 1 true []), (.hid 2 true [])])] [(.hid 2 [])] .undef [(.hid 4 [])]
                        (.ret (.int .i64 0) [(.row [(.hid 5 true []), (.mapv 1), (.chv 2), (.hid 6 true [])]), (.hid 4 []), (.hid 3 [])])
                        .fail))
                    .fail)
                  .fail))))
          .fail)
        (.ret (.int .i64 100) [(.row [(.hid 5 true []), (.mapv 1), (.chv 2), (.hid 6 true [])]), (.hid 2 []), (.hid 3 [])]))
      .fail))
def F13 : Flow := ⟨13, [(.ptr 0 0), (.hid 0 true []), (.hid 1 true []), (.hid 2 true [])], [(.row [(.hid 3 true []), (.mapv 1), (.chv 2), (.hid 4 true [])]), (.hid 0 []), (.hid 1 [])], F13t, []⟩
theorem F13_ok : F13.check Tryd.prog okS ext1 40 = true := by kernel_rfl
theorem F13_spec {sp : Sps} (hsp : sp.ok Tryd.prog) (n : Nat) : SpecB Tryd.prog 13 (F13.spec sp n) := flow_ok mixedS ext1_ok okS_enters hsp F13_ok rfl n
/-! (*boathouse/objstore.Store).Get -/
def F14t : Tr :=
  (.call 27 [(.ptr 0 0)] [(.row [(.hid 1 true []), (.mapv 1), (.chv 2), (.hid 2 true [])]), (.hid 0 []), (.hid 1 [])] (.bool true) [(.row [(.hid 3 true []), (.mapv 1), (.chv 2), (.hid 4 true [])]), (.hid 2 []), (.hid 3 [])]
    (.ret (.tup [(.str []), (.int .i64 104)]) [(.row [(.hid 3 true []), (.mapv 1), (.chv 2), (.hid 4 true [])]), (.hid 2 []), (.hid 3 [])])
    (.call 27 [(.ptr 0 0)] [(.row [(.hid 1 true []), (.mapv 1), (.chv 2), (.hid 2 true [])]), (.hid 0 []), (.hid 1 [])] (.bool false) [(.row [(.hid 3 true []), (.mapv 1), (.chv 2), (.hid 4 true [])]), (.hid 2 []), (.hid 3 [])]
      (.phop (.look true (.agg [(.str []), (.int .i64 0)]) true) [(.mapv 0), (.hid 0 true [])] [(.hid 2 [])] (.tup [(.agg [(.hid 5 true []), (.hid 6 true [])]), (.bool true)])
        (.ret (.tup [(.hid 5 true []), (.int .i64 0)]) [(.row [(.hid 3 true []), (.mapv 1), (.chv 2), (.hid 4 true [])]), (.hid 2 []), (.hid 3 [])])
        (.phop (.look true (.agg [(.str []), (.int .i64 0)]) true) [(.mapv 0), (.hid 0 true [])] [(.hid 2 [])] (.tup [(.agg [(.hid 5 true []), (.hid 6 true [])]), (.bool false)])
          (.ret (.tup [(.str []), (.int .i64 102)]) [(.row [(.hid 3 true []), (.mapv 1), (.chv 2), (.hid 4 true [])]), (.hid 2 []), (.hid 3 [])])
          .fail))
      .fail))
def F14 : Flow := ⟨14, [(.ptr 0 0), (.hid 0 true [])], [(.row [(.hid 1 true []), (.mapv 1), (.chv 2), (.hid 2 true [])]), (.hid 0 []), (.hid 1 [])], F14t, []⟩
theorem F14_ok : F14.check Tryd.prog okS ext1 40 = true := by kernel_rfl
theorem F14_spec {sp : Sps} (hsp : sp.ok Tryd.prog) (n : Nat) : SpecB Tryd.prog 14 (F14.spec sp n) := flow_ok mixedS ext1_ok okS_enters hsp F14_ok rfl n
/-! (*boathouse/objstore.Store).Delete -/
def F20t : Tr :=
  (.call 27 [(.ptr 0 0)] [(.row [(.hid 1 true []), (.mapv 1), (.chv 2), (.hid 2 true [])]), (.hid 0 []), (.hid 1 [])] (.bool true) [(.row [(.hid 3 true []), (.mapv 1), (.chv 2), (.hid 4 true [])]), (.hid 2 []), (.hid 3 [])]
    (.ret (.int .i64 104) [(.row [(.hid 3 true []), (.mapv 1), (.chv 2), (.hid 4 true [])]), (.hid 2 []), (.hid 3 [])])
    (.call 27 [(.ptr 0 0)] [(.row [(.hid 1 true []), (.mapv 1), (.chv 2), (.hid 2 true [])]), (.hid 0 []), (.hid 1 [])] (.bool false) [(.row [(.hid 3 true []), (.mapv 1), (.chv 2), (.hid 4 true [])]), (.hid 2 []), (.hid 3 [])]
      (.phop (.look true (.agg [(.str []), (.int .i64 0)]) true) [(.mapv 0), (.hid 0 true [])] [(.hid 2 [])] (.tup [(.agg [(.hid 5 true []), (.hid 6 true [])]), (.bool true)])
        (.hop (.del true) [(.mapv 0), (.hid 0 true [])] [(.hid 2 [])] (.tup []) [(.hid 4 [])]
          (.ret (.int .i64 0) [(.row [(.hid 3 true []), (.mapv 1), (.chv 2), (.hid 4 true [])]), (.hid 4 []), (.hid 3 [])])
          .fail)
        (.phop (.look true (.agg [(.str []), (.int .i64 0)]) true) [(.mapv 0), (.hid 0 true [])] [(.hid 2 [])] (.tup [(.agg [(.hid 5 true []), (.hid 6 true [])]), (.bool false)])
          (.ret (.int .i64 102) [(.row [(.hid 3 true []), (.mapv 1), (.chv 2), (.hid 4 true [])]), (.hid 2 []), (.hid 3 [])])
          .fail))
      .fail))
def F20 : Flow := ⟨20, [(.ptr 0 0), (.hid 0 true [])], [(.row [(.hid 1 true []), (.mapv 1), (.chv 2), (.hid 2 true [])]), (.hid 0 []), (.hid 1 [])], F20t, []⟩
theorem F20_ok : F20.check Tryd.prog okS ext1 40 = true := by kernel_rfl
theorem F20_spec {sp : Sps} (hsp : sp.ok Tryd.prog) (n : Nat) : SpecB Tryd.prog 20 (F20.spec sp n) := flow_ok mixedS ext1_ok okS_enters hsp F20_ok rfl n
/-! (*boathouse/objstore.Store).Fail -/
def F17at : Tr :=
  (.ite (.bin .lss) [(.hid 0 true []), (.int .i64 0)]
    (.ret (.int .i64 100) [(.row [(.hid 1 true []), (.mapv 1), (.chv 2), (.hid 2 true [])]), (.hid 0 []), (.chan 1 [])])
    (.ite (.bin .gtr) [(.hid 0 true []), (.int .i64 0)]
      (.ret (.int .i64 0) [(.row [(.hid 1 true []), (.mapv 1), (.chv 2), (.hid 2 true [])]), (.hid 0 []), (.chan 1 [(.hid 0 true [])])])
      (.ret (.int .i64 0) [(.row [(.hid 1 true []), (.mapv 1), (.chv 2), (.hid 2 true [])]), (.hid 0 []), (.chan 1 [])])))
def F17a : Flow := ⟨17, [(.ptr 0 0), (.hid 0 true [])], [(.row [(.hid 1 true []), (.mapv 1), (.chv 2), (.hid 2 true [])]), (.hid 0 []), (.chan 1 [])], F17at, []⟩
theorem F17a_ok : F17a.check Tryd.prog okS ext1 40 = true := by kernel_rfl
theorem F17a_spec {sp : Sps} (hsp : sp.ok Tryd.prog) (n : Nat) : SpecB Tryd.prog 17 (F17a.spec sp n) := flow_ok mixedS ext1_ok okS_enters hsp F17a_ok rfl n
/-! (*boathouse/objstore.Store).Fail -/
def F17bt : Tr :=
  (.ite (.bin .lss) [(.hid 0 true []), (.int .i64 0)]
    (.ret (.int .i64 100) [(.row [(.hid 1 true []), (.mapv 1), (.chv 2), (.hid 2 true [])]), (.hid 0 []), (.chan 1 [(.hid 3 true [])])])
    (.ite (.bin .gtr) [(.hid 0 true []), (.int .i64 0)]
      (.ret (.int .i64 0) [(.row [(.hid 1 true []), (.mapv 1), (.chv 2), (.hid 2 true [])]), (.hid 0 []), (.chan 1 [(.hid 0 true [])])])
      (.ret (.int .i64 0) [(.row [(.hid 1 true []), (.mapv 1), (.chv 2), (.hid 2 true [])]), (.hid 0 []), (.chan 1 [])])))
def F17b : Flow := ⟨17, [(.ptr 0 0), (.hid 0 true [])], [(.row [(.hid 1 true []), (.mapv 1), (.chv 2), (.hid 2 true [])]), (.hid 0 []), (.chan 1 [(.hid 3 true [])])], F17bt, []⟩
theorem F17b_ok : F17b.check Tryd.prog okS ext1 40 = true := by kernel_rfl
theorem F17b_spec {sp : Sps} (hsp : sp.ok Tryd.prog) (n : Nat) : SpecB Tryd.prog 17 (F17b.spec sp n) := flow_ok mixedS ext1_ok okS_enters hsp F17b_ok rfl n
/-! (*boathouse/objstore.Store).Calls -/
def F19t : Tr :=
  (.ret (.hid 1 true []) [(.row [(.hid 0 true []), (.mapv 1), (.chv 2), (.hid 1 true [])]), (.hid 0 []), (.hid 1 [])])
def F19 : Flow := ⟨19, [(.ptr 0 0)], [(.row [(.hid 0 true []), (.mapv 1), (.chv 2), (.hid 1 true [])]), (.hid 0 []), (.hid 1 [])], F19t, []⟩
theorem F19_ok : F19.check Tryd.prog okS ext1 40 = true := by kernel_rfl
theorem F19_spec {sp : Sps} (hsp : sp.ok Tryd.prog) (n : Nat) : SpecB Tryd.prog 19 (F19.spec sp n) := flow_ok mixedS ext1_ok okS_enters hsp F19_ok rfl n
/-! (*boathouse/objstore.Store).all -/
def F29t0 : Tr :=
  (.ret .snil [(.row [(.hid 1 true []), (.mapv 1), (.chv 2), (.hid 2 true [])]), (.hid 0 []), (.hid 1 [])])
def F29n0 : Node := ⟨[0, 1, 0, 1, 1], [[(.ptr 0 0), (.hid 0 true []), .top, .top, .top, .snil, .top, .top], [.top, .top, .top, .top, .top, .snil, (.int .i64 0), (.int .i64 0)], [.top, .top, .top, .top, .top, .top, .top, .top], [.top, .top, .top, .top, .top, .top, .top, .top], [.top, .top, .top, .top, .top, .top, .top, .top], [.top, .top, .top]], [(.row [(.hid 1 true []), (.mapv 1), (.chv 2), (.hid 2 true [])]), (.hid 0 []), (.hid 1 [])]⟩
def F29t1 : Tr :=
  (.ite (.bin .lss) [(.hid 3 true []), (.hid 2 true [])]
    (.ask (.idxA 1) [(.hid 1 false [3]), (.hid 3 true [])] (.hid 6 false [3])
      (.phop (.load none) [(.hid 6 false [0])] [(.hid 2 [])] (.hid 7 true [])
        (.pite 41 [(.hid 7 true []), (.hid 0 true [])] []
          (.phop (.look true (.agg [(.str []), (.int .i64 0)]) false) [(.mapv 0), (.hid 7 true [])] [(.hid 0 [])] (.agg [(.hid 8 true []), (.hid 9 true [])])
            (.ask (.bin .add) [(.hid 3 true []), (.int .i64 1)] (.hid 10 true [])
              (.goto 2 [(.hid 0 true []), (.sl 0 0 1 3 none), (.hid 1 false [0]), (.hid 2 true []), (.hid 10 true []), (.hid 4 true []), (.hid 5 true [])] [(.hid 0 []), (.hid 1 []), (.row [(.hid 7 true []), (.hid 8 true []), (.hid 9 true [])]), (.hid 2 [])])
              .fail)
            .fail)
          (.ask (.bin .add) [(.hid 3 true []), (.int .i64 1)] (.hid 8 true [])
            (.goto 1 [(.hid 0 true []), (.hid 1 false [0]), (.hid 2 true []), (.hid 8 true []), (.hid 4 true []), (.hid 5 true [])] [(.hid 0 []), (.hid 1 []), (.hid 2 [])])
            .fail))
        .fail)
      .fail)
    (.ret .snil [(.row [(.hid 4 true []), (.mapv 1), (.chv 2), (.hid 5 true [])]), (.hid 0 []), (.hid 1 [])]))
def F29n1 : Node := ⟨[0, 1, 0, 1, 1], [[(.ptr 0 0), (.hid 0 true []), .top, .top, .top, .snil, .top, .top], [.top, .top, .top, .top, .top, (.hid 1 false [3]), (.hid 2 true []), (.hid 3 true [])], [.top, .top, .top, .top, .top, .top, .top, .top], [.top, .top, .top, .top, .top, .top, .top, .top], [.top, .top, .top, .top, .top, .top, .top, .top], [.top, .top, .top]], [(.row [(.hid 4 true []), (.mapv 1), (.chv 2), (.hid 5 true [])]), (.hid 0 []), (.hid 1 []), (.hid 2 [])]⟩
def F29t2 : Tr :=
  (.ite (.bin .lss) [(.hid 4 true []), (.hid 3 true [])]
    (.ask (.idxA 1) [(.hid 2 false [4]), (.hid 4 true [])] (.hid 7 false [4])
      (.phop (.load none) [(.hid 7 false [0])] [(.hid 3 [])] (.hid 8 true [])
        (.pite 41 [(.hid 8 true []), (.hid 0 true [])] []
          (.phop (.look true (.agg [(.str []), (.int .i64 0)]) false) [(.mapv 0), (.hid 8 true [])] [(.hid 0 [])] (.agg [(.hid 9 true []), (.hid 10 true [])])
            (.hop (.app 3 40) [(.hid 1 false [0]), (.sl 1 0 1 3 (some 1))] [(.hid 2 []), (.row [(.hid 8 true []), (.hid 9 true []), (.hid 10 true [])])] (.hid 11 false [2]) [.dead, (.row [(.hid 12 true []), (.hid 13 true []), (.hid 14 true [])]), (.hid 4 [])]
              (.ask (.bin .add) [(.hid 4 true []), (.int .i64 1)] (.hid 15 true [])
                (.goto 2 [(.hid 0 true []), (.hid 11 false [0]), (.hid 2 false [0]), (.hid 3 true []), (.hid 15 true []), (.hid 5 true []), (.hid 6 true [])] [(.hid 0 []), (.hid 1 []), (.hid 4 []), (.hid 3 [])])
                .fail)
              .fail)
            .fail)
          (.ask (.bin .add) [(.hid 4 true []), (.int .i64 1)] (.hid 9 true [])
            (.goto 2 [(.hid 0 true []), (.hid 1 false [0]), (.hid 2 false [0]), (.hid 3 true []), (.hid 9 true []), (.hid 5 true []), (.hid 6 true [])] [(.hid 0 []), (.hid 1 []), (.hid 2 []), (.hid 3 [])])
            .fail))
        .fail)
      .fail)
    (.ret (.hid 1 false [3]) [(.row [(.hid 5 true []), (.mapv 1), (.chv 2), (.hid 6 true [])]), (.hid 0 []), (.hid 1 []), (.hid 2 [])]))
def F29n2 : Node := ⟨[0, 1, 0, 1, 1], [[(.ptr 0 0), (.hid 0 true []), .top, .top, .top, (.hid 1 false [3]), .top, .top], [.top, .top, .top, .top, .top, (.hid 2 false [4]), (.hid 3 true []), (.hid 4 true [])], [.top, .top, .top, .top, .top, .top, .top, .top], [.top, .top, .top, .top, .top, .top, .top, .top], [.top, .top, .top, .top, .top, .top, .top, .top], [.top, .top, .top]], [(.row [(.hid 5 true []), (.mapv 1), (.chv 2), (.hid 6 true [])]), (.hid 0 []), (.hid 1 []), (.hid 2 []), (.hid 3 [])]⟩
def F29t : Tr :=
  (.call 39 [(.fn 55 [(.ptr 0 0)])] [(.row [(.mapv 1)]), (.hid 0 [])] (.hid 3 false [2]) [(.row [(.mapv 1)]), (.hid 2 []), (.hid 3 [])]
    (.ask .lenA [(.hid 3 false [4])] (.hid 4 true [])
      (.goto 1 [(.hid 0 true []), (.hid 3 false [0]), (.hid 4 true []), (.int .i64 0), (.hid 1 true []), (.hid 2 true [])] [(.hid 2 []), (.hid 1 []), (.hid 3 [])])
      .fail)
    (.call 39 [(.fn 55 [(.ptr 0 0)])] [(.row [(.mapv 1)]), (.hid 0 [])] .snil [(.row [(.mapv 1)]), (.hid 2 [])]
      (.goto 0 [(.hid 0 true []), (.hid 1 true []), (.hid 2 true [])] [(.hid 2 []), (.hid 1 [])])
      .fail))
def F29 : Flow := ⟨29, [(.ptr 0 0), (.hid 0 true [])], [(.row [(.hid 1 true []), (.mapv 1), (.chv 2), (.hid 2 true [])]), (.hid 0 []), (.hid 1 [])], F29t, [(F29n0, F29t0), (F29n1, F29t1), (F29n2, F29t2)]⟩
theorem F29_ok : F29.check Tryd.prog okS ext1 40 = true := by kernel_rfl
theorem F29_spec {sp : Sps} (hsp : sp.ok Tryd.prog) (n : Nat) : SpecB Tryd.prog 29 (F29.spec sp n) := flow_ok mixedS ext1_ok okS_enters hsp F29_ok rfl n
/-! (*boathouse/objstore.Store).owe -/
def F30t : Tr :=
  (.ite (.bin .gtr) [(.hid 0 true []), (.int .i64 0)]
    (.ret (.tup []) [(.row [(.hid 1 true []), (.mapv 1), (.chv 2), (.hid 2 true [])]), (.hid 0 []), (.chan 1 [(.hid 0 true [])])])
    (.ret (.tup []) [(.row [(.hid 1 true []), (.mapv 1), (.chv 2), (.hid 2 true [])]), (.hid 0 []), (.chan 1 [])]))
def F30 : Flow := ⟨30, [(.ptr 0 0), (.hid 0 true [])], [(.row [(.hid 1 true []), (.mapv 1), (.chv 2), (.hid 2 true [])]), (.hid 0 []), (.chan 1 [])], F30t, []⟩
theorem F30_ok : F30.check Tryd.prog okS ext1 40 = true := by kernel_rfl
theorem F30_spec {sp : Sps} (hsp : sp.ok Tryd.prog) (n : Nat) : SpecB Tryd.prog 30 (F30.spec sp n) := flow_ok mixedS ext1_ok okS_enters hsp F30_ok rfl n
/-! (*boathouse/objstore.Store).Copy -/
def F22at : Tr :=
  (.call 31 [(.mapv 0)] [(.hid 0 [])] (.mapv 1) [(.hid 1 []), (.hid 2 [])]
    (.ret (.ptr 3 0) [(.row [(.hid 0 true []), (.mapv 1), (.chv 2), (.hid 1 true [])]), (.hid 1 []), (.chan 1 []), (.row [(.hid 0 true []), (.mapv 4), (.chv 5), (.hid 1 true [])]), (.hid 2 []), (.chan 1 [])])
    .fail)
def F22a : Flow := ⟨22, [(.ptr 0 0)], [(.row [(.hid 0 true []), (.mapv 1), (.chv 2), (.hid 1 true [])]), (.hid 0 []), (.chan 1 [])], F22at, []⟩
theorem F22a_ok : F22a.check Tryd.prog okS ext1 40 = true := by kernel_rfl
theorem F22a_spec {sp : Sps} (hsp : sp.ok Tryd.prog) (n : Nat) : SpecB Tryd.prog 22 (F22a.spec sp n) := flow_ok mixedS ext1_ok okS_enters hsp F22a_ok rfl n
/-! (*boathouse/objstore.Store).Copy -/
def F22bt : Tr :=
  (.call 31 [(.mapv 0)] [(.hid 0 [])] (.mapv 1) [(.hid 1 []), (.hid 2 [])]
    (.call 30 [(.ptr 0 0), (.hid 2 true [])] [(.row [(.hid 0 true []), (.mapv 1), (.chv 2), (.hid 1 true [])]), (.hid 1 []), (.chan 1 [])] (.tup []) [(.row [(.hid 3 true []), (.mapv 1), (.chv 2), (.hid 4 true [])]), (.hid 3 []), (.hid 4 [])]
      (.call 30 [(.ptr 0 0), (.hid 2 true [])] [(.row [(.hid 0 true []), (.mapv 1), (.chv 2), (.hid 1 true [])]), (.hid 2 []), (.chan 1 [])] (.tup []) [(.row [(.hid 5 true []), (.mapv 1), (.chv 2), (.hid 6 true [])]), (.hid 5 []), (.hid 6 [])]
        (.ret (.ptr 3 0) [(.row [(.hid 3 true []), (.mapv 1), (.chv 2), (.hid 4 true [])]), (.hid 3 []), (.hid 4 []), (.row [(.hid 5 true []), (.mapv 4), (.chv 5), (.hid 6 true [])]), (.hid 5 []), (.hid 6 [])])
        .fail)
      .fail)
    .fail)
def F22b : Flow := ⟨22, [(.ptr 0 0)], [(.row [(.hid 0 true []), (.mapv 1), (.chv 2), (.hid 1 true [])]), (.hid 0 []), (.chan 1 [(.hid 2 true [])])], F22bt, []⟩
theorem F22b_ok : F22b.check Tryd.prog okS ext1 40 = true := by kernel_rfl
theorem F22b_spec {sp : Sps} (hsp : sp.ok Tryd.prog) (n : Nat) : SpecB Tryd.prog 22 (F22b.spec sp n) := flow_ok mixedS ext1_ok okS_enters hsp F22b_ok rfl n
/-! strings.HasPrefix -/
def F41t : Tr :=
  (.ask .lenS [(.hid 0 true [])] (.hid 2 true [])
    (.ask .lenS [(.hid 1 true [])] (.hid 3 true [])
      (.ite (.bin .geq) [(.hid 2 true []), (.hid 3 true [])]
        (.ask (.slc none false true false) [(.hid 0 true []), (.hid 3 true [])] (.hid 4 true [])
          (.ite (.bin .eql) [(.hid 4 true []), (.hid 1 true [])]
            (.ret (.bool true) [])
            (.ret (.bool false) []))
          .fail)
        (.ret (.bool false) []))
      .fail)
    .fail)
def F41 : Flow := ⟨41, [(.hid 0 true []), (.hid 1 true [])], [], F41t, []⟩
theorem F41_ok : F41.check Tryd.prog okS ext1 40 = true := by kernel_rfl
theorem F41_spec {sp : Sps} (hsp : sp.ok Tryd.prog) (n : Nat) : SpecB Tryd.prog 41 (F41.spec sp n) := flow_ok mixedS ext1_ok okS_enters hsp F41_ok rfl n
/-! (*boathouse/objstore.Store).All -/
def F18t : Tr :=
  (.call 29 [(.ptr 0 0), (.str [])] [(.row [(.hid 0 true []), (.mapv 1), (.chv 2), (.hid 1 true [])]), (.hid 0 []), (.hid 1 [])] (.hid 2 false [3]) [(.row [(.hid 3 true []), (.mapv 1), (.chv 2), (.hid 4 true [])]), (.hid 2 []), (.hid 3 []), (.hid 4 [])]
    (.ret (.hid 2 false [3]) [(.row [(.hid 3 true []), (.mapv 1), (.chv 2), (.hid 4 true [])]), (.hid 2 []), (.hid 3 []), (.hid 4 [])])
    (.call 29 [(.ptr 0 0), (.str [])] [(.row [(.hid 0 true []), (.mapv 1), (.chv 2), (.hid 1 true [])]), (.hid 0 []), (.hid 1 [])] .snil [(.row [(.hid 2 true []), (.mapv 1), (.chv 2), (.hid 3 true [])]), (.hid 2 []), (.hid 3 [])]
      (.ret .snil [(.row [(.hid 2 true []), (.mapv 1), (.chv 2), (.hid 3 true [])]), (.hid 2 []), (.hid 3 [])])
      .fail))
def F18 : Flow := ⟨18, [(.ptr 0 0)], [(.row [(.hid 0 true []), (.mapv 1), (.chv 2), (.hid 1 true [])]), (.hid 0 []), (.hid 1 [])], F18t, []⟩
theorem F18_ok : F18.check Tryd.prog okS ext1 40 = true := by kernel_rfl
theorem F18_spec {sp : Sps} (hsp : sp.ok Tryd.prog) (n : Nat) : SpecB Tryd.prog 18 (F18.spec sp n) := flow_ok mixedS ext1_ok okS_enters hsp F18_ok rfl n
end Go.Proofs.BoatV
