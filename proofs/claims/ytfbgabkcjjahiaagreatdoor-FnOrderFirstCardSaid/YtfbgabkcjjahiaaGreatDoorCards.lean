/-
  DERIVED. GIVEN WITH THE SEED: THE CARDS: each row of YtfbgabkcjjahiaaGreatDoorRows.lean that lists a variable, with what it lists TIED to the program's text (the seventh form; the later family's looks); each row that meets fmt, with fmt's text TOLD by the authors' own Lean function (tested against real Go, not proved from fmt's source: count such statements apart). THE CARD IS WHAT COUNTS. Prove the row's statement (the work); the ties are given (YtfbgabkcjjahiaaGreatDoorTie.lean); close each card by the builder's one call (the guide's Derived/Test/ToyasCard.lean, 'card_holds'). Laid BY PROGRAM, IN A SANDBOX (cutbox-door.mjs). By AI agents, Wed Nov 11 2026. No macro, syntax, notation, axiom, sorry.
-/
import Derived.Test.YtfbgabkcjjahiaaGreatDoorRows
import GoSem.ClaimSeven
namespace Go.Proofs.YtfbgabkcjjahiaaGreatDoor
namespace Rows

/-- THE TIED CARD OF 'laws.FnWhyExec'. -/
def fnWhyExecCard : Claim7 := { stood := { row := fnWhyExecRow, standIns := [], harness := (true, "63026032c1be4f38b2c0172c8419e79a660c07238917744a6992e0ef3d979d92"), looks := false }, kinds := [], alts := [], laidByText := true, laidKinds := [.data], laidTests := true, laidLooks := .later }
def FnWhyExecCardSaid : Prop := Claim7.holds Tryz.pinned (.plain (OpenSpec.ofChange fnWhyExecSpec)) fnWhyExecCard

/-- THE TIED CARD OF 'laws.FnWhyExecFirst'. -/
def fnWhyExecFirstCard : Claim7 := { stood := { row := fnWhyExecFirstRow, standIns := [], harness := (true, "63026032c1be4f38b2c0172c8419e79a660c07238917744a6992e0ef3d979d92"), looks := false }, kinds := [], alts := [], laidByText := true, laidKinds := [.data], laidTests := true, laidLooks := .later }
def FnWhyExecFirstCardSaid : Prop := Claim7.holds Tryz.pinned (.plain (OpenSpec.ofChange fnWhyExecFirstSpec)) fnWhyExecFirstCard

/-- THE TIED CARD OF 'laws.FnWhyLine'. -/
def fnWhyLineCard : Claim7 := { stood := { row := fnWhyLineRow, standIns := [], harness := (true, "63026032c1be4f38b2c0172c8419e79a660c07238917744a6992e0ef3d979d92"), looks := false }, kinds := [], alts := [], laidByText := true, laidKinds := [.data], laidTests := true, laidLooks := .later }
def FnWhyLineCardSaid : Prop := Claim7.holds Tryz.pinned (.plain (OpenSpec.ofChange fnWhyLineSpec)) fnWhyLineCard

/-- THE TIED CARD OF 'laws.FnOrderSeen'. -/
def fnOrderSeenCard : Claim7 := { stood := { row := fnOrderSeenRow, standIns := [], harness := (true, "63026032c1be4f38b2c0172c8419e79a660c07238917744a6992e0ef3d979d92"), looks := false }, kinds := [], alts := [], laidByText := true, laidKinds := [.data], laidTests := true, laidLooks := .later }
def FnOrderSeenCardSaid : Prop := Claim7.holds Tryz.pinned (.plain (OpenSpec.ofChange fnOrderSeenSpec)) fnOrderSeenCard

/-- THE TIED CARD OF 'laws.FnOrderMore'. -/
def fnOrderMoreCard : Claim7 := { stood := { row := fnOrderMoreRow, standIns := [], harness := (true, "63026032c1be4f38b2c0172c8419e79a660c07238917744a6992e0ef3d979d92"), looks := false }, kinds := [], alts := [], laidByText := true, laidKinds := [.data], laidTests := true, laidLooks := .later }
def FnOrderMoreCardSaid : Prop := Claim7.holds Tryz.pinned (.plain (OpenSpec.ofChange fnOrderMoreSpec)) fnOrderMoreCard

/-- THE TIED CARD OF 'laws.FnWhyOrder'. -/
def fnWhyOrderCard : Claim7 := { stood := { row := fnWhyOrderRow, standIns := [], harness := (true, "63026032c1be4f38b2c0172c8419e79a660c07238917744a6992e0ef3d979d92"), looks := false }, kinds := [], alts := [], laidByText := true, laidKinds := [.data], laidTests := true, laidLooks := .later }
def FnWhyOrderCardSaid : Prop := Claim7.holds Tryz.pinned (.plain (OpenSpec.ofChange fnWhyOrderSpec)) fnWhyOrderCard

/-- THE TIED CARD OF 'laws.FnOrderOne'. -/
def fnOrderOneCard : Claim7 := { stood := { row := fnOrderOneRow, standIns := [], harness := (true, "63026032c1be4f38b2c0172c8419e79a660c07238917744a6992e0ef3d979d92"), looks := false }, kinds := [], alts := [], laidByText := true, laidKinds := [.data], laidTests := true, laidLooks := .later }
def FnOrderOneCardSaid : Prop := Claim7.holds Tryz.pinned (.plain (OpenSpec.ofChange fnOrderOneSpec)) fnOrderOneCard

/-- THE TIED CARD OF 'laws.FnOrderFirst'. -/
def fnOrderFirstCard : Claim7 := { stood := { row := fnOrderFirstRow, standIns := [], harness := (true, "63026032c1be4f38b2c0172c8419e79a660c07238917744a6992e0ef3d979d92"), looks := false }, kinds := [], alts := [], laidByText := true, laidKinds := [.data], laidTests := true, laidLooks := .later }
def FnOrderFirstCardSaid : Prop := Claim7.holds Tryz.pinned (.plain (OpenSpec.ofChange fnOrderFirstSpec)) fnOrderFirstCard

/-- THE TIED CARD OF 'laws.FnOrderAlone'. -/
def fnOrderAloneCard : Claim7 := { stood := { row := fnOrderAloneRow, standIns := [], harness := (true, "63026032c1be4f38b2c0172c8419e79a660c07238917744a6992e0ef3d979d92"), looks := false }, kinds := [], alts := [], laidByText := true, laidKinds := [.data], laidTests := true, laidLooks := .later }
def FnOrderAloneCardSaid : Prop := Claim7.holds Tryz.pinned (.plain (OpenSpec.ofChange fnOrderAloneSpec)) fnOrderAloneCard

/-- THE TIED CARD OF 'laws.FnOrderIdle'. -/
def fnOrderIdleCard : Claim7 := { stood := { row := fnOrderIdleRow, standIns := [], harness := (true, "63026032c1be4f38b2c0172c8419e79a660c07238917744a6992e0ef3d979d92"), looks := false }, kinds := [], alts := [], laidByText := true, laidKinds := [.data], laidTests := true, laidLooks := .later }
def FnOrderIdleCardSaid : Prop := Claim7.holds Tryz.pinned (.plain (OpenSpec.ofChange fnOrderIdleSpec)) fnOrderIdleCard

/-- THE TIED CARD OF 'laws.FnOrderTake'. -/
def fnOrderTakeCard : Claim7 := { stood := { row := fnOrderTakeRow, standIns := [], harness := (true, "63026032c1be4f38b2c0172c8419e79a660c07238917744a6992e0ef3d979d92"), looks := false }, kinds := [], alts := [], laidByText := true, laidKinds := [.data], laidTests := true, laidLooks := .later }
def FnOrderTakeCardSaid : Prop := Claim7.holds Tryz.pinned (.plain (OpenSpec.ofChange fnOrderTakeSpec)) fnOrderTakeCard

/-- THE TIED CARD OF 'laws.FnOrderGive'. -/
def fnOrderGiveCard : Claim7 := { stood := { row := fnOrderGiveRow, standIns := [], harness := (true, "63026032c1be4f38b2c0172c8419e79a660c07238917744a6992e0ef3d979d92"), looks := false }, kinds := [], alts := [], laidByText := true, laidKinds := [.data], laidTests := true, laidLooks := .later }
def FnOrderGiveCardSaid : Prop := Claim7.holds Tryz.pinned (.plain (OpenSpec.ofChange fnOrderGiveSpec)) fnOrderGiveCard

/-- THE SECOND FORM's CARD OF 'laws.FnWhyExec'. -/
def fnWhyExecUptoCard : Claim7 := { stood := { row := fnWhyExecUptoRow, standIns := [], harness := (true, "63026032c1be4f38b2c0172c8419e79a660c07238917744a6992e0ef3d979d92"), looks := false }, kinds := [], alts := [], laidByText := true, laidKinds := [.data], laidTests := true, laidLooks := .later }
def FnWhyExecUptoCardSaid : Prop := Claim7.holds Tryz.pinned (.plain (OpenSpec.upto fnWhyExecSpec)) fnWhyExecUptoCard

/-- THE SECOND FORM's CARD OF 'laws.FnWhyExecFirst'. -/
def fnWhyExecFirstUptoCard : Claim7 := { stood := { row := fnWhyExecFirstUptoRow, standIns := [], harness := (true, "63026032c1be4f38b2c0172c8419e79a660c07238917744a6992e0ef3d979d92"), looks := false }, kinds := [], alts := [], laidByText := true, laidKinds := [.data], laidTests := true, laidLooks := .later }
def FnWhyExecFirstUptoCardSaid : Prop := Claim7.holds Tryz.pinned (.plain (OpenSpec.upto fnWhyExecFirstSpec)) fnWhyExecFirstUptoCard

/-- THE SECOND FORM's CARD OF 'laws.FnWhyLine'. -/
def fnWhyLineUptoCard : Claim7 := { stood := { row := fnWhyLineUptoRow, standIns := [], harness := (true, "63026032c1be4f38b2c0172c8419e79a660c07238917744a6992e0ef3d979d92"), looks := false }, kinds := [], alts := [], laidByText := true, laidKinds := [.data], laidTests := true, laidLooks := .later }
def FnWhyLineUptoCardSaid : Prop := Claim7.holds Tryz.pinned (.plain (OpenSpec.upto fnWhyLineSpec)) fnWhyLineUptoCard

/-- THE SECOND FORM's CARD OF 'laws.FnOrderSeen'. -/
def fnOrderSeenUptoCard : Claim7 := { stood := { row := fnOrderSeenUptoRow, standIns := [], harness := (true, "63026032c1be4f38b2c0172c8419e79a660c07238917744a6992e0ef3d979d92"), looks := false }, kinds := [], alts := [], laidByText := true, laidKinds := [.data], laidTests := true, laidLooks := .later }
def FnOrderSeenUptoCardSaid : Prop := Claim7.holds Tryz.pinned (.plain (OpenSpec.upto fnOrderSeenSpec)) fnOrderSeenUptoCard

/-- THE SECOND FORM's CARD OF 'laws.FnOrderMore'. -/
def fnOrderMoreUptoCard : Claim7 := { stood := { row := fnOrderMoreUptoRow, standIns := [], harness := (true, "63026032c1be4f38b2c0172c8419e79a660c07238917744a6992e0ef3d979d92"), looks := false }, kinds := [], alts := [], laidByText := true, laidKinds := [.data], laidTests := true, laidLooks := .later }
def FnOrderMoreUptoCardSaid : Prop := Claim7.holds Tryz.pinned (.plain (OpenSpec.upto fnOrderMoreSpec)) fnOrderMoreUptoCard

/-- THE SECOND FORM's CARD OF 'laws.FnWhyOrder'. -/
def fnWhyOrderUptoCard : Claim7 := { stood := { row := fnWhyOrderUptoRow, standIns := [], harness := (true, "63026032c1be4f38b2c0172c8419e79a660c07238917744a6992e0ef3d979d92"), looks := false }, kinds := [], alts := [], laidByText := true, laidKinds := [.data], laidTests := true, laidLooks := .later }
def FnWhyOrderUptoCardSaid : Prop := Claim7.holds Tryz.pinned (.plain (OpenSpec.upto fnWhyOrderSpec)) fnWhyOrderUptoCard

/-- THE SECOND FORM's CARD OF 'laws.FnOrderOne'. -/
def fnOrderOneUptoCard : Claim7 := { stood := { row := fnOrderOneUptoRow, standIns := [], harness := (true, "63026032c1be4f38b2c0172c8419e79a660c07238917744a6992e0ef3d979d92"), looks := false }, kinds := [], alts := [], laidByText := true, laidKinds := [.data], laidTests := true, laidLooks := .later }
def FnOrderOneUptoCardSaid : Prop := Claim7.holds Tryz.pinned (.plain (OpenSpec.upto fnOrderOneSpec)) fnOrderOneUptoCard

/-- THE SECOND FORM's CARD OF 'laws.FnOrderFirst'. -/
def fnOrderFirstUptoCard : Claim7 := { stood := { row := fnOrderFirstUptoRow, standIns := [], harness := (true, "63026032c1be4f38b2c0172c8419e79a660c07238917744a6992e0ef3d979d92"), looks := false }, kinds := [], alts := [], laidByText := true, laidKinds := [.data], laidTests := true, laidLooks := .later }
def FnOrderFirstUptoCardSaid : Prop := Claim7.holds Tryz.pinned (.plain (OpenSpec.upto fnOrderFirstSpec)) fnOrderFirstUptoCard

/-- THE SECOND FORM's CARD OF 'laws.FnOrderAlone'. -/
def fnOrderAloneUptoCard : Claim7 := { stood := { row := fnOrderAloneUptoRow, standIns := [], harness := (true, "63026032c1be4f38b2c0172c8419e79a660c07238917744a6992e0ef3d979d92"), looks := false }, kinds := [], alts := [], laidByText := true, laidKinds := [.data], laidTests := true, laidLooks := .later }
def FnOrderAloneUptoCardSaid : Prop := Claim7.holds Tryz.pinned (.plain (OpenSpec.upto fnOrderAloneSpec)) fnOrderAloneUptoCard

/-- THE SECOND FORM's CARD OF 'laws.FnOrderIdle'. -/
def fnOrderIdleUptoCard : Claim7 := { stood := { row := fnOrderIdleUptoRow, standIns := [], harness := (true, "63026032c1be4f38b2c0172c8419e79a660c07238917744a6992e0ef3d979d92"), looks := false }, kinds := [], alts := [], laidByText := true, laidKinds := [.data], laidTests := true, laidLooks := .later }
def FnOrderIdleUptoCardSaid : Prop := Claim7.holds Tryz.pinned (.plain (OpenSpec.upto fnOrderIdleSpec)) fnOrderIdleUptoCard

/-- THE SECOND FORM's CARD OF 'laws.FnOrderTake'. -/
def fnOrderTakeUptoCard : Claim7 := { stood := { row := fnOrderTakeUptoRow, standIns := [], harness := (true, "63026032c1be4f38b2c0172c8419e79a660c07238917744a6992e0ef3d979d92"), looks := false }, kinds := [], alts := [], laidByText := true, laidKinds := [.data], laidTests := true, laidLooks := .later }
def FnOrderTakeUptoCardSaid : Prop := Claim7.holds Tryz.pinned (.plain (OpenSpec.upto fnOrderTakeSpec)) fnOrderTakeUptoCard

/-- THE SECOND FORM's CARD OF 'laws.FnOrderGive'. -/
def fnOrderGiveUptoCard : Claim7 := { stood := { row := fnOrderGiveUptoRow, standIns := [], harness := (true, "63026032c1be4f38b2c0172c8419e79a660c07238917744a6992e0ef3d979d92"), looks := false }, kinds := [], alts := [], laidByText := true, laidKinds := [.data], laidTests := true, laidLooks := .later }
def FnOrderGiveUptoCardSaid : Prop := Claim7.holds Tryz.pinned (.plain (OpenSpec.upto fnOrderGiveSpec)) fnOrderGiveUptoCard
end Rows
end Go.Proofs.YtfbgabkcjjahiaaGreatDoor
