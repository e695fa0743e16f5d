/-
  DERIVED. GIVEN WITH THE SEED: THE CARDS: each row of YticngcjfofcoiaaDoorRows.lean that lists a variable, with what it lists TIED to the program's text (the seventh form; the later family's looks); each row that meets fmt, with fmt's text TOLD by the authors' own Lean function (tested against real Go, not proved from fmt's source: count such statements apart). THE CARD IS WHAT COUNTS. Prove the row's statement (the work); the ties are given (YticngcjfofcoiaaDoorTie.lean); close each card by the builder's one call (the guide's Derived/Test/ToyasCard.lean, 'card_holds'). Laid BY PROGRAM, IN A SANDBOX (cutbox-door.mjs). By AI agents, Wed Nov 11 2026. No macro, syntax, notation, axiom, sorry.
-/
import Derived.Test.YticngcjfofcoiaaDoorRows
import GoSem.ClaimSeven
namespace Go.Proofs.YticngcjfofcoiaaDoor
namespace Rows

/-- THE TIED CARD OF 'newswirelaw07.SourceNamed'. -/
def sourceNamedCard : Claim7 := { stood := { row := sourceNamedRow, standIns := [], harness := (true, "7838f62e2ed57ecadac96af0966ffd77ea4ac844051a92e71076f4b4feea820e"), looks := false }, kinds := [], alts := [], laidByText := true, laidKinds := [.data], laidTests := true, laidLooks := .later }
def SourceNamedCardSaid : Prop := Claim7.holds Tryd.pinned (.plain (OpenSpec.ofChange sourceNamedSpec)) sourceNamedCard

/-- THE TIED CARD OF 'newswirelaw07.SourceCircles'. -/
def sourceCirclesCard : Claim7 := { stood := { row := sourceCirclesRow, standIns := [], harness := (true, "7838f62e2ed57ecadac96af0966ffd77ea4ac844051a92e71076f4b4feea820e"), looks := false }, kinds := [], alts := [], laidByText := true, laidKinds := [.data], laidTests := true, laidLooks := .later }
def SourceCirclesCardSaid : Prop := Claim7.holds Tryd.pinned (.plain (OpenSpec.ofChange sourceCirclesSpec)) sourceCirclesCard

/-- THE TIED CARD OF 'newswirelaw07.SourceMatchesReference'. -/
def sourceMatchesReferenceCard : Claim7 := { stood := { row := sourceMatchesReferenceRow, standIns := [], harness := (true, "7838f62e2ed57ecadac96af0966ffd77ea4ac844051a92e71076f4b4feea820e"), looks := false }, kinds := [], alts := [], laidByText := true, laidKinds := [.data], laidTests := true, laidLooks := .later }
def SourceMatchesReferenceCardSaid : Prop := Claim7.holds Tryd.pinned (.plain (OpenSpec.ofChange sourceMatchesReferenceSpec)) sourceMatchesReferenceCard

/-- THE TIED CARD OF 'newswirelaw07.SourceCertified'. -/
def sourceCertifiedCard : Claim7 := { stood := { row := sourceCertifiedRow, standIns := [], harness := (true, "7838f62e2ed57ecadac96af0966ffd77ea4ac844051a92e71076f4b4feea820e"), looks := false }, kinds := [], alts := [], laidByText := true, laidKinds := [.data], laidTests := true, laidLooks := .later }
def SourceCertifiedCardSaid : Prop := Claim7.holds Tryd.pinned (.plain (OpenSpec.ofChange sourceCertifiedSpec)) sourceCertifiedCard

/-- THE TIED CARD OF 'newswirelaw07.SourceCopies'. -/
def sourceCopiesCard : Claim7 := { stood := { row := sourceCopiesRow, standIns := [], harness := (true, "7838f62e2ed57ecadac96af0966ffd77ea4ac844051a92e71076f4b4feea820e"), looks := false }, kinds := [], alts := [], laidByText := true, laidKinds := [.data], laidTests := true, laidLooks := .later }
def SourceCopiesCardSaid : Prop := Claim7.holds Tryd.pinned (.plain (OpenSpec.ofChange sourceCopiesSpec)) sourceCopiesCard

/-- THE TIED CARD OF 'newswirelaw07.SourceMonotone'. -/
def sourceMonotoneCard : Claim7 := { stood := { row := sourceMonotoneRow, standIns := [], harness := (true, "7838f62e2ed57ecadac96af0966ffd77ea4ac844051a92e71076f4b4feea820e"), looks := false }, kinds := [], alts := [], laidByText := true, laidKinds := [.data], laidTests := true, laidLooks := .later }
def SourceMonotoneCardSaid : Prop := Claim7.holds Tryd.pinned (.plain (OpenSpec.ofChange sourceMonotoneSpec)) sourceMonotoneCard

/-- THE TIED CARD OF 'newswirelaw07.SourceCut'. -/
def sourceCutCard : Claim7 := { stood := { row := sourceCutRow, standIns := [], harness := (true, "7838f62e2ed57ecadac96af0966ffd77ea4ac844051a92e71076f4b4feea820e"), looks := false }, kinds := [], alts := [], laidByText := true, laidKinds := [.data], laidTests := true, laidLooks := .later }
def SourceCutCardSaid : Prop := Claim7.holds Tryd.pinned (.plain (OpenSpec.ofChange sourceCutSpec)) sourceCutCard

/-- THE SECOND FORM's CARD OF 'newswirelaw07.SourceNamed'. -/
def sourceNamedUptoCard : Claim7 := { stood := { row := sourceNamedUptoRow, standIns := [], harness := (true, "7838f62e2ed57ecadac96af0966ffd77ea4ac844051a92e71076f4b4feea820e"), looks := false }, kinds := [], alts := [], laidByText := true, laidKinds := [.data], laidTests := true, laidLooks := .later }
def SourceNamedUptoCardSaid : Prop := Claim7.holds Tryd.pinned (.plain (OpenSpec.upto sourceNamedSpec)) sourceNamedUptoCard

/-- THE SECOND FORM's CARD OF 'newswirelaw07.SourceCircles'. -/
def sourceCirclesUptoCard : Claim7 := { stood := { row := sourceCirclesUptoRow, standIns := [], harness := (true, "7838f62e2ed57ecadac96af0966ffd77ea4ac844051a92e71076f4b4feea820e"), looks := false }, kinds := [], alts := [], laidByText := true, laidKinds := [.data], laidTests := true, laidLooks := .later }
def SourceCirclesUptoCardSaid : Prop := Claim7.holds Tryd.pinned (.plain (OpenSpec.upto sourceCirclesSpec)) sourceCirclesUptoCard

/-- THE SECOND FORM's CARD OF 'newswirelaw07.SourceMatchesReference'. -/
def sourceMatchesReferenceUptoCard : Claim7 := { stood := { row := sourceMatchesReferenceUptoRow, standIns := [], harness := (true, "7838f62e2ed57ecadac96af0966ffd77ea4ac844051a92e71076f4b4feea820e"), looks := false }, kinds := [], alts := [], laidByText := true, laidKinds := [.data], laidTests := true, laidLooks := .later }
def SourceMatchesReferenceUptoCardSaid : Prop := Claim7.holds Tryd.pinned (.plain (OpenSpec.upto sourceMatchesReferenceSpec)) sourceMatchesReferenceUptoCard

/-- THE SECOND FORM's CARD OF 'newswirelaw07.SourceCertified'. -/
def sourceCertifiedUptoCard : Claim7 := { stood := { row := sourceCertifiedUptoRow, standIns := [], harness := (true, "7838f62e2ed57ecadac96af0966ffd77ea4ac844051a92e71076f4b4feea820e"), looks := false }, kinds := [], alts := [], laidByText := true, laidKinds := [.data], laidTests := true, laidLooks := .later }
def SourceCertifiedUptoCardSaid : Prop := Claim7.holds Tryd.pinned (.plain (OpenSpec.upto sourceCertifiedSpec)) sourceCertifiedUptoCard

/-- THE SECOND FORM's CARD OF 'newswirelaw07.SourceCopies'. -/
def sourceCopiesUptoCard : Claim7 := { stood := { row := sourceCopiesUptoRow, standIns := [], harness := (true, "7838f62e2ed57ecadac96af0966ffd77ea4ac844051a92e71076f4b4feea820e"), looks := false }, kinds := [], alts := [], laidByText := true, laidKinds := [.data], laidTests := true, laidLooks := .later }
def SourceCopiesUptoCardSaid : Prop := Claim7.holds Tryd.pinned (.plain (OpenSpec.upto sourceCopiesSpec)) sourceCopiesUptoCard

/-- THE SECOND FORM's CARD OF 'newswirelaw07.SourceMonotone'. -/
def sourceMonotoneUptoCard : Claim7 := { stood := { row := sourceMonotoneUptoRow, standIns := [], harness := (true, "7838f62e2ed57ecadac96af0966ffd77ea4ac844051a92e71076f4b4feea820e"), looks := false }, kinds := [], alts := [], laidByText := true, laidKinds := [.data], laidTests := true, laidLooks := .later }
def SourceMonotoneUptoCardSaid : Prop := Claim7.holds Tryd.pinned (.plain (OpenSpec.upto sourceMonotoneSpec)) sourceMonotoneUptoCard

/-- THE SECOND FORM's CARD OF 'newswirelaw07.SourceCut'. -/
def sourceCutUptoCard : Claim7 := { stood := { row := sourceCutUptoRow, standIns := [], harness := (true, "7838f62e2ed57ecadac96af0966ffd77ea4ac844051a92e71076f4b4feea820e"), looks := false }, kinds := [], alts := [], laidByText := true, laidKinds := [.data], laidTests := true, laidLooks := .later }
def SourceCutUptoCardSaid : Prop := Claim7.holds Tryd.pinned (.plain (OpenSpec.upto sourceCutSpec)) sourceCutUptoCard
end Rows
end Go.Proofs.YticngcjfofcoiaaDoor
