/-
  DERIVED. GIVEN WITH THE SEED: THE CARDS: each row of YtfdbminedccccaaGreatDoorRows.lean that lists a variable, with what it lists TIED to the program's text (the seventh form; the later family's looks); each row that meets fmt, with fmt's text TOLD by the authors' own Lean function (tested against real Go, not proved from fmt's source: count such statements apart). THE CARD IS WHAT COUNTS. Prove the row's statement (the work); the ties are given (YtfdbminedccccaaGreatDoorTie.lean); close each card by the builder's one call (the guide's Derived/Test/ToyasCard.lean, 'card_holds'). Laid BY PROGRAM, IN A SANDBOX (cutbox-door.mjs). By AI agents, Wed Nov 11 2026. No macro, syntax, notation, axiom, sorry.
-/
import Derived.Test.YtfdbminedccccaaGreatDoorRows
import GoSem.ClaimSeven
namespace Go.Proofs.YtfdbminedccccaaGreatDoor
namespace Rows

/-- THE TIED CARD OF 'laws.FnOrderHolds'. -/
def fnOrderHoldsCard : Claim7 := { stood := { row := fnOrderHoldsRow, standIns := [], harness := (true, "1c34f09b672b071cf64912d765f60c012050ed4c552e62ec46122149c3bab587"), looks := false }, kinds := [], alts := [], laidByText := true, laidKinds := [.data], laidTests := true, laidLooks := .later }
def FnOrderHoldsCardSaid : Prop := Claim7.holds Tryz.pinned (.plain (OpenSpec.ofChange fnOrderHoldsSpec)) fnOrderHoldsCard

/-- THE TIED CARD OF 'laws.FnOrderRing'. -/
def fnOrderRingCard : Claim7 := { stood := { row := fnOrderRingRow, standIns := [], harness := (true, "1c34f09b672b071cf64912d765f60c012050ed4c552e62ec46122149c3bab587"), looks := false }, kinds := [], alts := [], laidByText := true, laidKinds := [.data], laidTests := true, laidLooks := .later }
def FnOrderRingCardSaid : Prop := Claim7.holds Tryz.pinned (.plain (OpenSpec.ofChange fnOrderRingSpec)) fnOrderRingCard

/-- THE TIED CARD OF 'laws.FnOrderRingNot'. -/
def fnOrderRingNotCard : Claim7 := { stood := { row := fnOrderRingNotRow, standIns := [], harness := (true, "1c34f09b672b071cf64912d765f60c012050ed4c552e62ec46122149c3bab587"), looks := false }, kinds := [], alts := [], laidByText := true, laidKinds := [.data], laidTests := true, laidLooks := .later }
def FnOrderRingNotCardSaid : Prop := Claim7.holds Tryz.pinned (.plain (OpenSpec.ofChange fnOrderRingNotSpec)) fnOrderRingNotCard

/-- THE TIED CARD OF 'laws.FnOrderLine'. -/
def fnOrderLineCard : Claim7 := { stood := { row := fnOrderLineRow, standIns := [], harness := (true, "1c34f09b672b071cf64912d765f60c012050ed4c552e62ec46122149c3bab587"), looks := false }, kinds := [], alts := [], laidByText := true, laidKinds := [.data], laidTests := true, laidLooks := .later }
def FnOrderLineCardSaid : Prop := Claim7.holds Tryz.pinned (.plain (OpenSpec.ofChange fnOrderLineSpec)) fnOrderLineCard

/-- THE TIED CARD OF 'laws.FnOrderLineHolds'. -/
def fnOrderLineHoldsCard : Claim7 := { stood := { row := fnOrderLineHoldsRow, standIns := [], harness := (true, "1c34f09b672b071cf64912d765f60c012050ed4c552e62ec46122149c3bab587"), looks := false }, kinds := [], alts := [], laidByText := true, laidKinds := [.data], laidTests := true, laidLooks := .later }
def FnOrderLineHoldsCardSaid : Prop := Claim7.holds Tryz.pinned (.plain (OpenSpec.ofChange fnOrderLineHoldsSpec)) fnOrderLineHoldsCard

/-- THE TIED CARD OF 'laws.FnOrderLineWait'. -/
def fnOrderLineWaitCard : Claim7 := { stood := { row := fnOrderLineWaitRow, standIns := [], harness := (true, "1c34f09b672b071cf64912d765f60c012050ed4c552e62ec46122149c3bab587"), looks := false }, kinds := [], alts := [], laidByText := true, laidKinds := [.data], laidTests := true, laidLooks := .later }
def FnOrderLineWaitCardSaid : Prop := Claim7.holds Tryz.pinned (.plain (OpenSpec.ofChange fnOrderLineWaitSpec)) fnOrderLineWaitCard

/-- THE SECOND FORM's CARD OF 'laws.FnOrderHolds'. -/
def fnOrderHoldsUptoCard : Claim7 := { stood := { row := fnOrderHoldsUptoRow, standIns := [], harness := (true, "1c34f09b672b071cf64912d765f60c012050ed4c552e62ec46122149c3bab587"), looks := false }, kinds := [], alts := [], laidByText := true, laidKinds := [.data], laidTests := true, laidLooks := .later }
def FnOrderHoldsUptoCardSaid : Prop := Claim7.holds Tryz.pinned (.plain (OpenSpec.upto fnOrderHoldsSpec)) fnOrderHoldsUptoCard

/-- THE SECOND FORM's CARD OF 'laws.FnOrderRing'. -/
def fnOrderRingUptoCard : Claim7 := { stood := { row := fnOrderRingUptoRow, standIns := [], harness := (true, "1c34f09b672b071cf64912d765f60c012050ed4c552e62ec46122149c3bab587"), looks := false }, kinds := [], alts := [], laidByText := true, laidKinds := [.data], laidTests := true, laidLooks := .later }
def FnOrderRingUptoCardSaid : Prop := Claim7.holds Tryz.pinned (.plain (OpenSpec.upto fnOrderRingSpec)) fnOrderRingUptoCard

/-- THE SECOND FORM's CARD OF 'laws.FnOrderRingNot'. -/
def fnOrderRingNotUptoCard : Claim7 := { stood := { row := fnOrderRingNotUptoRow, standIns := [], harness := (true, "1c34f09b672b071cf64912d765f60c012050ed4c552e62ec46122149c3bab587"), looks := false }, kinds := [], alts := [], laidByText := true, laidKinds := [.data], laidTests := true, laidLooks := .later }
def FnOrderRingNotUptoCardSaid : Prop := Claim7.holds Tryz.pinned (.plain (OpenSpec.upto fnOrderRingNotSpec)) fnOrderRingNotUptoCard

/-- THE SECOND FORM's CARD OF 'laws.FnOrderLine'. -/
def fnOrderLineUptoCard : Claim7 := { stood := { row := fnOrderLineUptoRow, standIns := [], harness := (true, "1c34f09b672b071cf64912d765f60c012050ed4c552e62ec46122149c3bab587"), looks := false }, kinds := [], alts := [], laidByText := true, laidKinds := [.data], laidTests := true, laidLooks := .later }
def FnOrderLineUptoCardSaid : Prop := Claim7.holds Tryz.pinned (.plain (OpenSpec.upto fnOrderLineSpec)) fnOrderLineUptoCard

/-- THE SECOND FORM's CARD OF 'laws.FnOrderLineHolds'. -/
def fnOrderLineHoldsUptoCard : Claim7 := { stood := { row := fnOrderLineHoldsUptoRow, standIns := [], harness := (true, "1c34f09b672b071cf64912d765f60c012050ed4c552e62ec46122149c3bab587"), looks := false }, kinds := [], alts := [], laidByText := true, laidKinds := [.data], laidTests := true, laidLooks := .later }
def FnOrderLineHoldsUptoCardSaid : Prop := Claim7.holds Tryz.pinned (.plain (OpenSpec.upto fnOrderLineHoldsSpec)) fnOrderLineHoldsUptoCard

/-- THE SECOND FORM's CARD OF 'laws.FnOrderLineWait'. -/
def fnOrderLineWaitUptoCard : Claim7 := { stood := { row := fnOrderLineWaitUptoRow, standIns := [], harness := (true, "1c34f09b672b071cf64912d765f60c012050ed4c552e62ec46122149c3bab587"), looks := false }, kinds := [], alts := [], laidByText := true, laidKinds := [.data], laidTests := true, laidLooks := .later }
def FnOrderLineWaitUptoCardSaid : Prop := Claim7.holds Tryz.pinned (.plain (OpenSpec.upto fnOrderLineWaitSpec)) fnOrderLineWaitUptoCard
end Rows
end Go.Proofs.YtfdbminedccccaaGreatDoor
