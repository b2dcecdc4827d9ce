/-
  DERIVED. GIVEN WITH THE SEED: THE CARDS: each row of YthfdbllpofiabaaDoorRows.lean that lists a variable, with what it lists TIED to the program's text (the seventh form; the later family's looks); each row that meets fmt, with fmt's text TOLD by the authors' own Lean function (tested against real Go, not proved from fmt's source: count such statements apart). THE CARD IS WHAT COUNTS. Prove the row's statement (the work); the ties are given (YthfdbllpofiabaaDoorTie.lean); close each card by the builder's one call (the guide's Derived/Test/ToyasCard.lean, 'card_holds'). Laid BY PROGRAM, IN A SANDBOX (cutbox-door.mjs). By AI agents, Wed Nov 11 2026. No macro, syntax, notation, axiom, sorry.
-/
import Derived.Test.YthfdbllpofiabaaDoorRows
import GoSem.ClaimSeven
namespace Go.Proofs.YthfdbllpofiabaaDoor
namespace Rows

/-- THE TIED CARD OF 'boathouselaw1.StoreOnce'. -/
def storeOnceCard : Claim7 := { stood := { row := storeOnceRow, standIns := [], harness := (true, "55ec015352c2fb21551c625fe8a082a0f18104a50ccf20144b057cc3e646e323"), looks := true }, kinds := [], alts := [], laidByText := true, laidKinds := [.data, .pinned], laidTests := true, laidLooks := .later }
def StoreOnceCardSaid : Prop := Claim7.holds Tryd.pinned (.plain (OpenSpec.ofChange storeOnceSpec)) storeOnceCard

/-- THE TIED CARD OF 'boathouselaw1.StoreLists'. -/
def storeListsCard : Claim7 := { stood := { row := storeListsRow, standIns := [], harness := (true, "55ec015352c2fb21551c625fe8a082a0f18104a50ccf20144b057cc3e646e323"), looks := true }, kinds := [], alts := [], laidByText := true, laidKinds := [.data, .pinned], laidTests := true, laidLooks := .later }
def StoreListsCardSaid : Prop := Claim7.holds Tryd.pinned (.plain (OpenSpec.ofChange storeListsSpec)) storeListsCard

/-- THE TIED CARD OF 'boathouselaw1.StoreKeys'. -/
def storeKeysCard : Claim7 := { stood := { row := storeKeysRow, standIns := [], harness := (true, "55ec015352c2fb21551c625fe8a082a0f18104a50ccf20144b057cc3e646e323"), looks := true }, kinds := [], alts := [], laidByText := true, laidKinds := [.data, .pinned], laidTests := true, laidLooks := .later }
def StoreKeysCardSaid : Prop := Claim7.holds Tryd.pinned (.plain (OpenSpec.ofChange storeKeysSpec)) storeKeysCard

/-- THE TIED CARD OF 'boathouselaw1.StoreFails'. -/
def storeFailsCard : Claim7 := { stood := { row := storeFailsRow, standIns := [], harness := (true, "55ec015352c2fb21551c625fe8a082a0f18104a50ccf20144b057cc3e646e323"), looks := true }, kinds := [], alts := [], laidByText := true, laidKinds := [.data, .pinned], laidTests := true, laidLooks := .later }
def StoreFailsCardSaid : Prop := Claim7.holds Tryd.pinned (.plain (OpenSpec.ofChange storeFailsSpec)) storeFailsCard

/-- THE TIED CARD OF 'boathouselaw1.StoreRoom'. -/
def storeRoomCard : Claim7 := { stood := { row := storeRoomRow, standIns := [], harness := (true, "55ec015352c2fb21551c625fe8a082a0f18104a50ccf20144b057cc3e646e323"), looks := true }, kinds := [], alts := [], laidByText := true, laidKinds := [.data, .pinned], laidTests := true, laidLooks := .later }
def StoreRoomCardSaid : Prop := Claim7.holds Tryd.pinned (.plain (OpenSpec.ofChange storeRoomSpec)) storeRoomCard

/-- THE TIED CARD OF 'boathouselaw1.StoreActs'. -/
def storeActsCard : Claim7 := { stood := { row := storeActsRow, standIns := [], harness := (true, "55ec015352c2fb21551c625fe8a082a0f18104a50ccf20144b057cc3e646e323"), looks := true }, kinds := [], alts := [], laidByText := true, laidKinds := [.data, .pinned], laidTests := true, laidLooks := .later }
def StoreActsCardSaid : Prop := Claim7.holds Tryd.pinned (.plain (OpenSpec.ofChange storeActsSpec)) storeActsCard

/-- THE TIED CARD OF 'boathouselaw1.StoreCopies'. -/
def storeCopiesCard : Claim7 := { stood := { row := storeCopiesRow, standIns := [], harness := (true, "55ec015352c2fb21551c625fe8a082a0f18104a50ccf20144b057cc3e646e323"), looks := true }, kinds := [], alts := [], laidByText := true, laidKinds := [.data, .pinned], laidTests := true, laidLooks := .later }
def StoreCopiesCardSaid : Prop := Claim7.holds Tryd.pinned (.plain (OpenSpec.ofChange storeCopiesSpec)) storeCopiesCard

/-- THE SECOND FORM's CARD OF 'boathouselaw1.StoreOnce'. -/
def storeOnceUptoCard : Claim7 := { stood := { row := storeOnceUptoRow, standIns := [], harness := (true, "55ec015352c2fb21551c625fe8a082a0f18104a50ccf20144b057cc3e646e323"), looks := true }, kinds := [], alts := [], laidByText := true, laidKinds := [.data, .pinned], laidTests := true, laidLooks := .later }
def StoreOnceUptoCardSaid : Prop := Claim7.holds Tryd.pinned (.plain (OpenSpec.upto storeOnceSpec)) storeOnceUptoCard

/-- THE SECOND FORM's CARD OF 'boathouselaw1.StoreLists'. -/
def storeListsUptoCard : Claim7 := { stood := { row := storeListsUptoRow, standIns := [], harness := (true, "55ec015352c2fb21551c625fe8a082a0f18104a50ccf20144b057cc3e646e323"), looks := true }, kinds := [], alts := [], laidByText := true, laidKinds := [.data, .pinned], laidTests := true, laidLooks := .later }
def StoreListsUptoCardSaid : Prop := Claim7.holds Tryd.pinned (.plain (OpenSpec.upto storeListsSpec)) storeListsUptoCard

/-- THE SECOND FORM's CARD OF 'boathouselaw1.StoreKeys'. -/
def storeKeysUptoCard : Claim7 := { stood := { row := storeKeysUptoRow, standIns := [], harness := (true, "55ec015352c2fb21551c625fe8a082a0f18104a50ccf20144b057cc3e646e323"), looks := true }, kinds := [], alts := [], laidByText := true, laidKinds := [.data, .pinned], laidTests := true, laidLooks := .later }
def StoreKeysUptoCardSaid : Prop := Claim7.holds Tryd.pinned (.plain (OpenSpec.upto storeKeysSpec)) storeKeysUptoCard

/-- THE SECOND FORM's CARD OF 'boathouselaw1.StoreFails'. -/
def storeFailsUptoCard : Claim7 := { stood := { row := storeFailsUptoRow, standIns := [], harness := (true, "55ec015352c2fb21551c625fe8a082a0f18104a50ccf20144b057cc3e646e323"), looks := true }, kinds := [], alts := [], laidByText := true, laidKinds := [.data, .pinned], laidTests := true, laidLooks := .later }
def StoreFailsUptoCardSaid : Prop := Claim7.holds Tryd.pinned (.plain (OpenSpec.upto storeFailsSpec)) storeFailsUptoCard

/-- THE SECOND FORM's CARD OF 'boathouselaw1.StoreRoom'. -/
def storeRoomUptoCard : Claim7 := { stood := { row := storeRoomUptoRow, standIns := [], harness := (true, "55ec015352c2fb21551c625fe8a082a0f18104a50ccf20144b057cc3e646e323"), looks := true }, kinds := [], alts := [], laidByText := true, laidKinds := [.data, .pinned], laidTests := true, laidLooks := .later }
def StoreRoomUptoCardSaid : Prop := Claim7.holds Tryd.pinned (.plain (OpenSpec.upto storeRoomSpec)) storeRoomUptoCard

/-- THE SECOND FORM's CARD OF 'boathouselaw1.StoreActs'. -/
def storeActsUptoCard : Claim7 := { stood := { row := storeActsUptoRow, standIns := [], harness := (true, "55ec015352c2fb21551c625fe8a082a0f18104a50ccf20144b057cc3e646e323"), looks := true }, kinds := [], alts := [], laidByText := true, laidKinds := [.data, .pinned], laidTests := true, laidLooks := .later }
def StoreActsUptoCardSaid : Prop := Claim7.holds Tryd.pinned (.plain (OpenSpec.upto storeActsSpec)) storeActsUptoCard

/-- THE SECOND FORM's CARD OF 'boathouselaw1.StoreCopies'. -/
def storeCopiesUptoCard : Claim7 := { stood := { row := storeCopiesUptoRow, standIns := [], harness := (true, "55ec015352c2fb21551c625fe8a082a0f18104a50ccf20144b057cc3e646e323"), looks := true }, kinds := [], alts := [], laidByText := true, laidKinds := [.data, .pinned], laidTests := true, laidLooks := .later }
def StoreCopiesUptoCardSaid : Prop := Claim7.holds Tryd.pinned (.plain (OpenSpec.upto storeCopiesSpec)) storeCopiesUptoCard
end Rows
end Go.Proofs.YthfdbllpofiabaaDoor
