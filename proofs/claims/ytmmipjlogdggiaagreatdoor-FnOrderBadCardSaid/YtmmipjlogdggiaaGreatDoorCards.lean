/-
  DERIVED. GIVEN WITH THE SEED: THE CARDS: each row of YtmmipjlogdggiaaGreatDoorRows.lean that lists a variable, with what it lists TIED to the program's text (the seventh form; the later family's looks); each row that meets fmt, with fmt's text TOLD by the authors' own Lean function (tested against real Go, not proved from fmt's source: count such statements apart). THE CARD IS WHAT COUNTS. Prove the row's statement (the work); the ties are given (YtmmipjlogdggiaaGreatDoorTie.lean); close each card by the builder's one call (the guide's Derived/Test/ToyasCard.lean, 'card_holds'). Laid BY PROGRAM, IN A SANDBOX (cutbox-door.mjs). By AI agents, Wed Nov 11 2026. No macro, syntax, notation, axiom, sorry.
-/
import Derived.Test.YtmmipjlogdggiaaGreatDoorRows
import GoSem.ClaimSeven
namespace Go.Proofs.YtmmipjlogdggiaaGreatDoor
namespace Rows

/-- THE TIED CARD OF 'laws.FnOrderBad'. -/
def fnOrderBadCard : Claim7 := { stood := { row := fnOrderBadRow, standIns := [], harness := (true, "f87129a62c09dae7914b6f9f3877dbe0f6e84a7aff0bb2196f31ebd0b8e158a3"), looks := false }, kinds := [], alts := [], laidByText := true, laidKinds := [.data], laidTests := true, laidLooks := .later }
def FnOrderBadCardSaid : Prop := Claim7.holds Tryz.pinned (.plain (OpenSpec.ofChange fnOrderBadSpec)) fnOrderBadCard

/-- THE SECOND FORM's CARD OF 'laws.FnOrderBad'. -/
def fnOrderBadUptoCard : Claim7 := { stood := { row := fnOrderBadUptoRow, standIns := [], harness := (true, "f87129a62c09dae7914b6f9f3877dbe0f6e84a7aff0bb2196f31ebd0b8e158a3"), looks := false }, kinds := [], alts := [], laidByText := true, laidKinds := [.data], laidTests := true, laidLooks := .later }
def FnOrderBadUptoCardSaid : Prop := Claim7.holds Tryz.pinned (.plain (OpenSpec.upto fnOrderBadSpec)) fnOrderBadUptoCard
end Rows
end Go.Proofs.YtmmipjlogdggiaaGreatDoor
