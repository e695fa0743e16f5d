/-
  DERIVED. GIVEN WITH THE SEED: THE CARDS: each row of YtnabgijdbcdpmaaDoorRows.lean that lists a variable, with what it lists TIED to the program's text (the seventh form; the later family's looks); each row that meets fmt, with fmt's text TOLD by the authors' own Lean function (tested against real Go, not proved from fmt's source: count such statements apart). THE CARD IS WHAT COUNTS. Prove the row's statement (the work); the ties are given (YtnabgijdbcdpmaaDoorTie.lean); close each card by the builder's one call (the guide's Derived/Test/ToyasCard.lean, 'card_holds'). Laid BY PROGRAM, IN A SANDBOX (cutbox-door.mjs). By AI agents, Wed Nov 11 2026. No macro, syntax, notation, axiom, sorry.
-/
import Derived.Test.YtnabgijdbcdpmaaDoorRows
import GoSem.ClaimSeven
namespace Go.Proofs.YtnabgijdbcdpmaaDoor
namespace Rows

/-- THE TIED CARD OF 'newswirelaw29.RightsMatchesReference'. -/
def rightsMatchesReferenceCard : Claim7 := { stood := { row := rightsMatchesReferenceRow, standIns := [], harness := (true, "c882bbf18fe2638fa03ec3f0946baf73ba33234a0127255e741620561da83a79"), looks := false }, kinds := [], alts := [], laidByText := true, laidKinds := [.funcs], laidTests := true, laidLooks := .later }
def RightsMatchesReferenceCardSaid : Prop := Claim7.holds Tryd.pinned (.plain (OpenSpec.ofChange rightsMatchesReferenceSpec)) rightsMatchesReferenceCard

/-- THE TIED CARD OF 'newswirelaw29.RightsLawful'. -/
def rightsLawfulCard : Claim7 := { stood := { row := rightsLawfulRow, standIns := [], harness := (true, "c882bbf18fe2638fa03ec3f0946baf73ba33234a0127255e741620561da83a79"), looks := false }, kinds := [], alts := [], laidByText := true, laidKinds := [.funcs], laidTests := true, laidLooks := .later }
def RightsLawfulCardSaid : Prop := Claim7.holds Tryd.pinned (.plain (OpenSpec.ofChange rightsLawfulSpec)) rightsLawfulCard

/-- THE TIED CARD OF 'newswirelaw29.RightsCore'. -/
def rightsCoreCard : Claim7 := { stood := { row := rightsCoreRow, standIns := [], harness := (true, "c882bbf18fe2638fa03ec3f0946baf73ba33234a0127255e741620561da83a79"), looks := false }, kinds := [], alts := [], laidByText := true, laidKinds := [.funcs], laidTests := true, laidLooks := .later }
def RightsCoreCardSaid : Prop := Claim7.holds Tryd.pinned (.plain (OpenSpec.ofChange rightsCoreSpec)) rightsCoreCard

/-- THE TIED CARD OF 'newswirelaw29.RightsClauses'. -/
def rightsClausesCard : Claim7 := { stood := { row := rightsClausesRow, standIns := [], harness := (true, "c882bbf18fe2638fa03ec3f0946baf73ba33234a0127255e741620561da83a79"), looks := false }, kinds := [], alts := [], laidByText := true, laidKinds := [.funcs], laidTests := true, laidLooks := .later }
def RightsClausesCardSaid : Prop := Claim7.holds Tryd.pinned (.plain (OpenSpec.ofChange rightsClausesSpec)) rightsClausesCard

/-- THE TIED CARD OF 'newswirelaw29.RightsUses'. -/
def rightsUsesCard : Claim7 := { stood := { row := rightsUsesRow, standIns := [], harness := (true, "c882bbf18fe2638fa03ec3f0946baf73ba33234a0127255e741620561da83a79"), looks := false }, kinds := [], alts := [], laidByText := true, laidKinds := [.funcs], laidTests := true, laidLooks := .later }
def RightsUsesCardSaid : Prop := Claim7.holds Tryd.pinned (.plain (OpenSpec.ofChange rightsUsesSpec)) rightsUsesCard

/-- THE TIED CARD OF 'newswirelaw29.RightsOrder'. -/
def rightsOrderCard : Claim7 := { stood := { row := rightsOrderRow, standIns := [], harness := (true, "c882bbf18fe2638fa03ec3f0946baf73ba33234a0127255e741620561da83a79"), looks := false }, kinds := [], alts := [], laidByText := true, laidKinds := [.funcs], laidTests := true, laidLooks := .later }
def RightsOrderCardSaid : Prop := Claim7.holds Tryd.pinned (.plain (OpenSpec.ofChange rightsOrderSpec)) rightsOrderCard

/-- THE SECOND FORM's CARD OF 'newswirelaw29.RightsMatchesReference'. -/
def rightsMatchesReferenceUptoCard : Claim7 := { stood := { row := rightsMatchesReferenceUptoRow, standIns := [], harness := (true, "c882bbf18fe2638fa03ec3f0946baf73ba33234a0127255e741620561da83a79"), looks := false }, kinds := [], alts := [], laidByText := true, laidKinds := [.funcs], laidTests := true, laidLooks := .later }
def RightsMatchesReferenceUptoCardSaid : Prop := Claim7.holds Tryd.pinned (.plain (OpenSpec.upto rightsMatchesReferenceSpec)) rightsMatchesReferenceUptoCard

/-- THE SECOND FORM's CARD OF 'newswirelaw29.RightsLawful'. -/
def rightsLawfulUptoCard : Claim7 := { stood := { row := rightsLawfulUptoRow, standIns := [], harness := (true, "c882bbf18fe2638fa03ec3f0946baf73ba33234a0127255e741620561da83a79"), looks := false }, kinds := [], alts := [], laidByText := true, laidKinds := [.funcs], laidTests := true, laidLooks := .later }
def RightsLawfulUptoCardSaid : Prop := Claim7.holds Tryd.pinned (.plain (OpenSpec.upto rightsLawfulSpec)) rightsLawfulUptoCard

/-- THE SECOND FORM's CARD OF 'newswirelaw29.RightsCore'. -/
def rightsCoreUptoCard : Claim7 := { stood := { row := rightsCoreUptoRow, standIns := [], harness := (true, "c882bbf18fe2638fa03ec3f0946baf73ba33234a0127255e741620561da83a79"), looks := false }, kinds := [], alts := [], laidByText := true, laidKinds := [.funcs], laidTests := true, laidLooks := .later }
def RightsCoreUptoCardSaid : Prop := Claim7.holds Tryd.pinned (.plain (OpenSpec.upto rightsCoreSpec)) rightsCoreUptoCard

/-- THE SECOND FORM's CARD OF 'newswirelaw29.RightsClauses'. -/
def rightsClausesUptoCard : Claim7 := { stood := { row := rightsClausesUptoRow, standIns := [], harness := (true, "c882bbf18fe2638fa03ec3f0946baf73ba33234a0127255e741620561da83a79"), looks := false }, kinds := [], alts := [], laidByText := true, laidKinds := [.funcs], laidTests := true, laidLooks := .later }
def RightsClausesUptoCardSaid : Prop := Claim7.holds Tryd.pinned (.plain (OpenSpec.upto rightsClausesSpec)) rightsClausesUptoCard

/-- THE SECOND FORM's CARD OF 'newswirelaw29.RightsUses'. -/
def rightsUsesUptoCard : Claim7 := { stood := { row := rightsUsesUptoRow, standIns := [], harness := (true, "c882bbf18fe2638fa03ec3f0946baf73ba33234a0127255e741620561da83a79"), looks := false }, kinds := [], alts := [], laidByText := true, laidKinds := [.funcs], laidTests := true, laidLooks := .later }
def RightsUsesUptoCardSaid : Prop := Claim7.holds Tryd.pinned (.plain (OpenSpec.upto rightsUsesSpec)) rightsUsesUptoCard

/-- THE SECOND FORM's CARD OF 'newswirelaw29.RightsOrder'. -/
def rightsOrderUptoCard : Claim7 := { stood := { row := rightsOrderUptoRow, standIns := [], harness := (true, "c882bbf18fe2638fa03ec3f0946baf73ba33234a0127255e741620561da83a79"), looks := false }, kinds := [], alts := [], laidByText := true, laidKinds := [.funcs], laidTests := true, laidLooks := .later }
def RightsOrderUptoCardSaid : Prop := Claim7.holds Tryd.pinned (.plain (OpenSpec.upto rightsOrderSpec)) rightsOrderUptoCard
end Rows
end Go.Proofs.YtnabgijdbcdpmaaDoor
