/-
  DERIVED. GIVEN WITH THE SEED: THE CARDS: each row of YtkdolbffabmemaaGreatDoorRows.lean that lists a variable, with what it lists TIED to the program's text (the seventh form; the later family's looks); each row that meets fmt, with fmt's text TOLD by the authors' own Lean function (tested against real Go, not proved from fmt's source: count such statements apart). THE CARD IS WHAT COUNTS. Prove the row's statement (the work); the ties are given (YtkdolbffabmemaaGreatDoorTie.lean); close each card by the builder's one call (the guide's Derived/Test/ToyasCard.lean, 'card_holds'). Laid BY PROGRAM, IN A SANDBOX (cutbox-door.mjs). By AI agents, Wed Nov 11 2026. No macro, syntax, notation, axiom, sorry.
-/
import Derived.Test.YtkdolbffabmemaaGreatDoorRows
import GoSem.ClaimSeven
namespace Go.Proofs.YtkdolbffabmemaaGreatDoor
namespace Rows

/-- THE TIED CARD OF 'laws.FnOrderSome'. -/
def fnOrderSomeCard : Claim7 := { stood := { row := fnOrderSomeRow, standIns := [], harness := (true, "b15668c1e4a7df1b217287adaa6977d2f6a7a481d07f5fcacdd06dc025ea4ef9"), looks := false }, kinds := [], alts := [], laidByText := true, laidKinds := [.data], laidTests := true, laidLooks := .later }
def FnOrderSomeCardSaid : Prop := Claim7.holds Tryz.pinned (.plain (OpenSpec.ofChange fnOrderSomeSpec)) fnOrderSomeCard

/-- THE TIED CARD OF 'laws.FnOrderRead'. -/
def fnOrderReadCard : Claim7 := { stood := { row := fnOrderReadRow, standIns := [], harness := (true, "b15668c1e4a7df1b217287adaa6977d2f6a7a481d07f5fcacdd06dc025ea4ef9"), looks := false }, kinds := [], alts := [], laidByText := true, laidKinds := [.data], laidTests := true, laidLooks := .later }
def FnOrderReadCardSaid : Prop := Claim7.holds Tryz.pinned (.plain (OpenSpec.ofChange fnOrderReadSpec)) fnOrderReadCard

/-- THE TIED CARD OF 'laws.FnOrderReader'. -/
def fnOrderReaderCard : Claim7 := { stood := { row := fnOrderReaderRow, standIns := [], harness := (true, "b15668c1e4a7df1b217287adaa6977d2f6a7a481d07f5fcacdd06dc025ea4ef9"), looks := false }, kinds := [], alts := [], laidByText := true, laidKinds := [.data], laidTests := true, laidLooks := .later }
def FnOrderReaderCardSaid : Prop := Claim7.holds Tryz.pinned (.plain (OpenSpec.ofChange fnOrderReaderSpec)) fnOrderReaderCard

/-- THE TIED CARD OF 'laws.FnOrderStore'. -/
def fnOrderStoreCard : Claim7 := { stood := { row := fnOrderStoreRow, standIns := [], harness := (true, "b15668c1e4a7df1b217287adaa6977d2f6a7a481d07f5fcacdd06dc025ea4ef9"), looks := false }, kinds := [], alts := [], laidByText := true, laidKinds := [.data], laidTests := true, laidLooks := .later }
def FnOrderStoreCardSaid : Prop := Claim7.holds Tryz.pinned (.plain (OpenSpec.ofChange fnOrderStoreSpec)) fnOrderStoreCard

/-- THE TIED CARD OF 'laws.FnOrderInside'. -/
def fnOrderInsideCard : Claim7 := { stood := { row := fnOrderInsideRow, standIns := [], harness := (true, "b15668c1e4a7df1b217287adaa6977d2f6a7a481d07f5fcacdd06dc025ea4ef9"), looks := false }, kinds := [], alts := [], laidByText := true, laidKinds := [.data], laidTests := true, laidLooks := .later }
def FnOrderInsideCardSaid : Prop := Claim7.holds Tryz.pinned (.plain (OpenSpec.ofChange fnOrderInsideSpec)) fnOrderInsideCard

/-- THE TIED CARD OF 'laws.FnOrderWall'. -/
def fnOrderWallCard : Claim7 := { stood := { row := fnOrderWallRow, standIns := [], harness := (true, "b15668c1e4a7df1b217287adaa6977d2f6a7a481d07f5fcacdd06dc025ea4ef9"), looks := false }, kinds := [], alts := [], laidByText := true, laidKinds := [.data], laidTests := true, laidLooks := .later }
def FnOrderWallCardSaid : Prop := Claim7.holds Tryz.pinned (.plain (OpenSpec.ofChange fnOrderWallSpec)) fnOrderWallCard

/-- THE TIED CARD OF 'laws.FnOrderWaitWall'. -/
def fnOrderWaitWallCard : Claim7 := { stood := { row := fnOrderWaitWallRow, standIns := [], harness := (true, "b15668c1e4a7df1b217287adaa6977d2f6a7a481d07f5fcacdd06dc025ea4ef9"), looks := false }, kinds := [], alts := [], laidByText := true, laidKinds := [.data], laidTests := true, laidLooks := .later }
def FnOrderWaitWallCardSaid : Prop := Claim7.holds Tryz.pinned (.plain (OpenSpec.ofChange fnOrderWaitWallSpec)) fnOrderWaitWallCard

/-- THE TIED CARD OF 'laws.FnWallAll'. -/
def fnWallAllCard : Claim7 := { stood := { row := fnWallAllRow, standIns := [], harness := (true, "b15668c1e4a7df1b217287adaa6977d2f6a7a481d07f5fcacdd06dc025ea4ef9"), looks := false }, kinds := [], alts := [], laidByText := true, laidKinds := [.data], laidTests := true, laidLooks := .later }
def FnWallAllCardSaid : Prop := Claim7.holds Tryz.pinned (.plain (OpenSpec.ofChange fnWallAllSpec)) fnWallAllCard

/-- THE SECOND FORM's CARD OF 'laws.FnOrderSome'. -/
def fnOrderSomeUptoCard : Claim7 := { stood := { row := fnOrderSomeUptoRow, standIns := [], harness := (true, "b15668c1e4a7df1b217287adaa6977d2f6a7a481d07f5fcacdd06dc025ea4ef9"), looks := false }, kinds := [], alts := [], laidByText := true, laidKinds := [.data], laidTests := true, laidLooks := .later }
def FnOrderSomeUptoCardSaid : Prop := Claim7.holds Tryz.pinned (.plain (OpenSpec.upto fnOrderSomeSpec)) fnOrderSomeUptoCard

/-- THE SECOND FORM's CARD OF 'laws.FnOrderRead'. -/
def fnOrderReadUptoCard : Claim7 := { stood := { row := fnOrderReadUptoRow, standIns := [], harness := (true, "b15668c1e4a7df1b217287adaa6977d2f6a7a481d07f5fcacdd06dc025ea4ef9"), looks := false }, kinds := [], alts := [], laidByText := true, laidKinds := [.data], laidTests := true, laidLooks := .later }
def FnOrderReadUptoCardSaid : Prop := Claim7.holds Tryz.pinned (.plain (OpenSpec.upto fnOrderReadSpec)) fnOrderReadUptoCard

/-- THE SECOND FORM's CARD OF 'laws.FnOrderReader'. -/
def fnOrderReaderUptoCard : Claim7 := { stood := { row := fnOrderReaderUptoRow, standIns := [], harness := (true, "b15668c1e4a7df1b217287adaa6977d2f6a7a481d07f5fcacdd06dc025ea4ef9"), looks := false }, kinds := [], alts := [], laidByText := true, laidKinds := [.data], laidTests := true, laidLooks := .later }
def FnOrderReaderUptoCardSaid : Prop := Claim7.holds Tryz.pinned (.plain (OpenSpec.upto fnOrderReaderSpec)) fnOrderReaderUptoCard

/-- THE SECOND FORM's CARD OF 'laws.FnOrderStore'. -/
def fnOrderStoreUptoCard : Claim7 := { stood := { row := fnOrderStoreUptoRow, standIns := [], harness := (true, "b15668c1e4a7df1b217287adaa6977d2f6a7a481d07f5fcacdd06dc025ea4ef9"), looks := false }, kinds := [], alts := [], laidByText := true, laidKinds := [.data], laidTests := true, laidLooks := .later }
def FnOrderStoreUptoCardSaid : Prop := Claim7.holds Tryz.pinned (.plain (OpenSpec.upto fnOrderStoreSpec)) fnOrderStoreUptoCard

/-- THE SECOND FORM's CARD OF 'laws.FnOrderInside'. -/
def fnOrderInsideUptoCard : Claim7 := { stood := { row := fnOrderInsideUptoRow, standIns := [], harness := (true, "b15668c1e4a7df1b217287adaa6977d2f6a7a481d07f5fcacdd06dc025ea4ef9"), looks := false }, kinds := [], alts := [], laidByText := true, laidKinds := [.data], laidTests := true, laidLooks := .later }
def FnOrderInsideUptoCardSaid : Prop := Claim7.holds Tryz.pinned (.plain (OpenSpec.upto fnOrderInsideSpec)) fnOrderInsideUptoCard

/-- THE SECOND FORM's CARD OF 'laws.FnOrderWall'. -/
def fnOrderWallUptoCard : Claim7 := { stood := { row := fnOrderWallUptoRow, standIns := [], harness := (true, "b15668c1e4a7df1b217287adaa6977d2f6a7a481d07f5fcacdd06dc025ea4ef9"), looks := false }, kinds := [], alts := [], laidByText := true, laidKinds := [.data], laidTests := true, laidLooks := .later }
def FnOrderWallUptoCardSaid : Prop := Claim7.holds Tryz.pinned (.plain (OpenSpec.upto fnOrderWallSpec)) fnOrderWallUptoCard

/-- THE SECOND FORM's CARD OF 'laws.FnOrderWaitWall'. -/
def fnOrderWaitWallUptoCard : Claim7 := { stood := { row := fnOrderWaitWallUptoRow, standIns := [], harness := (true, "b15668c1e4a7df1b217287adaa6977d2f6a7a481d07f5fcacdd06dc025ea4ef9"), looks := false }, kinds := [], alts := [], laidByText := true, laidKinds := [.data], laidTests := true, laidLooks := .later }
def FnOrderWaitWallUptoCardSaid : Prop := Claim7.holds Tryz.pinned (.plain (OpenSpec.upto fnOrderWaitWallSpec)) fnOrderWaitWallUptoCard

/-- THE SECOND FORM's CARD OF 'laws.FnWallAll'. -/
def fnWallAllUptoCard : Claim7 := { stood := { row := fnWallAllUptoRow, standIns := [], harness := (true, "b15668c1e4a7df1b217287adaa6977d2f6a7a481d07f5fcacdd06dc025ea4ef9"), looks := false }, kinds := [], alts := [], laidByText := true, laidKinds := [.data], laidTests := true, laidLooks := .later }
def FnWallAllUptoCardSaid : Prop := Claim7.holds Tryz.pinned (.plain (OpenSpec.upto fnWallAllSpec)) fnWallAllUptoCard
end Rows
end Go.Proofs.YtkdolbffabmemaaGreatDoor
