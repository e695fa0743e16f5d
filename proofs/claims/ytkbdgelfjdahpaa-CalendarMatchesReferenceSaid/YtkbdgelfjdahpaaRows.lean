/-
  No cell of these rows narrows 'for every input' (looked for: loops, veiled, ifaces, maps, wideKeys, modest, calm, conditions, laid).
  DERIVED. THE GIVEN ROWS OF THIS SEAT. 6 by the template 'for every input the law returns true; each argument reads behind the call as it read before'; 0 by the template 'total and deterministic' (their statements: YtkbdgelfjdahpaaTotals.lean).
  GIVEN WITH THE SEED: the statements are not yours to turn. If you find one false, say at which input.
  Laid BY PROGRAM, IN A SANDBOX (cutbox-rows.mjs): the forced cells as the released guide's own fill.sh prints them over the translation ac1e04d8706c9cb2… (all of the seat's roots in one cut). By AI agents, Wed Nov 11 2026. No macro, syntax, notation, axiom, sorry.
-/
import Derived.Test.YtkbdgelfjdahpaaChecked
import GoSem.Claim
import GoSem.ClaimJoined
import GoSem.ClaimMapViews
import Derived.JoinedTies
import Derived.KernelRfl
namespace Go.Proofs.Ytkbdgelfjdahpaa
/- THE CELL 'sum', in the pinned program and in every row, IS THE sha256 OF THE DUMP (.gsa) THAT YtkbdgelfjdahpaaProg.lean LOADS. Nothing in Lean hashes anything: it is a label: what it is worth is what the hold of that sum in a sandbox is worth. -/
noncomputable def Try.pinned : Pinned := { name := "ytkbdgelfjdahpaa", sum := "ac1e04d8706c9cb21464d25e85f5c0fd67136d47b0dfd17b2c8a4045d1d40e91", checked := Try.checked }
namespace Rows
def none {H : Type} : Left H := { results := [], args := [] }

/-- 'newswirelaw06.CalendarMatchesReference': WHATEVER THE INPUT: true; the input reads as it did. -/
def calendarMatchesReferenceSpec : ChangeSpec := { name := "calendarMatchesReference", fn := fun _ => fun
  | [d1, d2, d3, d4, d5, d6, d7] => { results := [.lit (.bool true)], args := [d1, d2, d3, d4, d5, d6, d7] }
  | _ => none }
def calendarMatchesReferenceRow : OpenClaim := { program := "ytkbdgelfjdahpaa", sum := "ac1e04d8706c9cb21464d25e85f5c0fd67136d47b0dfd17b2c8a4045d1d40e91", func := "newswire/newswirelaw06.CalendarMatchesReference", spec := "calendarMatchesReference", unfollowed := true, recurses := true, apart := false }
def CalendarMatchesReferenceSaid : Prop := calendarMatchesReferenceRow.holds Try.pinned (OpenSpec.ofChange calendarMatchesReferenceSpec)

/-- ITS FALSE NEIGHBOUR: 'it returns false'. Refute it at one input. -/
def calendarMatchesReferenceWrong : ChangeSpec := { name := "calendarMatchesReference", fn := fun _ => fun
  | [d1, d2, d3, d4, d5, d6, d7] => { results := [.lit (.bool false)], args := [d1, d2, d3, d4, d5, d6, d7] }
  | _ => none }
def CalendarMatchesReferenceWrongFalsely : Prop := calendarMatchesReferenceRow.holds Try.pinned (OpenSpec.ofChange calendarMatchesReferenceWrong)

/-- 'newswirelaw06.CalendarThereAndBack': WHATEVER THE INPUT: true; the input reads as it did. -/
def calendarThereAndBackSpec : ChangeSpec := { name := "calendarThereAndBack", fn := fun _ => fun
  | [d1, d2, d3, d4, d5] => { results := [.lit (.bool true)], args := [d1, d2, d3, d4, d5] }
  | _ => none }
def calendarThereAndBackRow : OpenClaim := { program := "ytkbdgelfjdahpaa", sum := "ac1e04d8706c9cb21464d25e85f5c0fd67136d47b0dfd17b2c8a4045d1d40e91", func := "newswire/newswirelaw06.CalendarThereAndBack", spec := "calendarThereAndBack", unfollowed := true, recurses := true, apart := false }
def CalendarThereAndBackSaid : Prop := calendarThereAndBackRow.holds Try.pinned (OpenSpec.ofChange calendarThereAndBackSpec)

/-- ITS FALSE NEIGHBOUR: 'it returns false'. Refute it at one input. -/
def calendarThereAndBackWrong : ChangeSpec := { name := "calendarThereAndBack", fn := fun _ => fun
  | [d1, d2, d3, d4, d5] => { results := [.lit (.bool false)], args := [d1, d2, d3, d4, d5] }
  | _ => none }
def CalendarThereAndBackWrongFalsely : Prop := calendarThereAndBackRow.holds Try.pinned (OpenSpec.ofChange calendarThereAndBackWrong)

/-- 'newswirelaw06.CalendarOrder': WHATEVER THE INPUT: true; the input reads as it did. -/
def calendarOrderSpec : ChangeSpec := { name := "calendarOrder", fn := fun _ => fun
  | [d1, d2, d3, d4] => { results := [.lit (.bool true)], args := [d1, d2, d3, d4] }
  | _ => none }
def calendarOrderRow : OpenClaim := { program := "ytkbdgelfjdahpaa", sum := "ac1e04d8706c9cb21464d25e85f5c0fd67136d47b0dfd17b2c8a4045d1d40e91", func := "newswire/newswirelaw06.CalendarOrder", spec := "calendarOrder", unfollowed := true, recurses := true, apart := false }
def CalendarOrderSaid : Prop := calendarOrderRow.holds Try.pinned (OpenSpec.ofChange calendarOrderSpec)

/-- ITS FALSE NEIGHBOUR: 'it returns false'. Refute it at one input. -/
def calendarOrderWrong : ChangeSpec := { name := "calendarOrder", fn := fun _ => fun
  | [d1, d2, d3, d4] => { results := [.lit (.bool false)], args := [d1, d2, d3, d4] }
  | _ => none }
def CalendarOrderWrongFalsely : Prop := calendarOrderRow.holds Try.pinned (OpenSpec.ofChange calendarOrderWrong)

/-- 'newswirelaw06.CalendarNext': WHATEVER THE INPUT: true; the input reads as it did. -/
def calendarNextSpec : ChangeSpec := { name := "calendarNext", fn := fun _ => fun
  | [d1, d2] => { results := [.lit (.bool true)], args := [d1, d2] }
  | _ => none }
def calendarNextRow : OpenClaim := { program := "ytkbdgelfjdahpaa", sum := "ac1e04d8706c9cb21464d25e85f5c0fd67136d47b0dfd17b2c8a4045d1d40e91", func := "newswire/newswirelaw06.CalendarNext", spec := "calendarNext", unfollowed := true, recurses := true, apart := false }
def CalendarNextSaid : Prop := calendarNextRow.holds Try.pinned (OpenSpec.ofChange calendarNextSpec)

/-- ITS FALSE NEIGHBOUR: 'it returns false'. Refute it at one input. -/
def calendarNextWrong : ChangeSpec := { name := "calendarNext", fn := fun _ => fun
  | [d1, d2] => { results := [.lit (.bool false)], args := [d1, d2] }
  | _ => none }
def CalendarNextWrongFalsely : Prop := calendarNextRow.holds Try.pinned (OpenSpec.ofChange calendarNextWrong)

/-- 'newswirelaw06.CalendarOffsets': WHATEVER THE INPUT: true; the input reads as it did. -/
def calendarOffsetsSpec : ChangeSpec := { name := "calendarOffsets", fn := fun _ => fun
  | [d1, d2, d3] => { results := [.lit (.bool true)], args := [d1, d2, d3] }
  | _ => none }
def calendarOffsetsRow : OpenClaim := { program := "ytkbdgelfjdahpaa", sum := "ac1e04d8706c9cb21464d25e85f5c0fd67136d47b0dfd17b2c8a4045d1d40e91", func := "newswire/newswirelaw06.CalendarOffsets", spec := "calendarOffsets", unfollowed := true, recurses := true, apart := false }
def CalendarOffsetsSaid : Prop := calendarOffsetsRow.holds Try.pinned (OpenSpec.ofChange calendarOffsetsSpec)

/-- ITS FALSE NEIGHBOUR: 'it returns false'. Refute it at one input. -/
def calendarOffsetsWrong : ChangeSpec := { name := "calendarOffsets", fn := fun _ => fun
  | [d1, d2, d3] => { results := [.lit (.bool false)], args := [d1, d2, d3] }
  | _ => none }
def CalendarOffsetsWrongFalsely : Prop := calendarOffsetsRow.holds Try.pinned (OpenSpec.ofChange calendarOffsetsWrong)

/-- 'newswirelaw06.CalendarYears': WHATEVER THE INPUT: true; the input reads as it did. -/
def calendarYearsSpec : ChangeSpec := { name := "calendarYears", fn := fun _ => fun
  | [d] => { results := [.lit (.bool true)], args := [d] }
  | _ => none }
def calendarYearsRow : OpenClaim := { program := "ytkbdgelfjdahpaa", sum := "ac1e04d8706c9cb21464d25e85f5c0fd67136d47b0dfd17b2c8a4045d1d40e91", func := "newswire/newswirelaw06.CalendarYears", spec := "calendarYears", unfollowed := true, recurses := true, apart := false }
def CalendarYearsSaid : Prop := calendarYearsRow.holds Try.pinned (OpenSpec.ofChange calendarYearsSpec)

/-- ITS FALSE NEIGHBOUR: 'it returns false'. Refute it at one input. -/
def calendarYearsWrong : ChangeSpec := { name := "calendarYears", fn := fun _ => fun
  | [d] => { results := [.lit (.bool false)], args := [d] }
  | _ => none }
def CalendarYearsWrongFalsely : Prop := calendarYearsRow.holds Try.pinned (OpenSpec.ofChange calendarYearsWrong)

/- THE SECOND FORM. 'bulk': how many values and letters a reading holds, each counted each time it is reached (what is shared counts as often as it is met; a slice's spare places count too). A statement '..UptoSaid' is the law's where the arguments, and the package variables that the reading takes, are together of bulk at most 1048576: NARROWER than '..Said'. Prove '..Said' where nothing that the law and all that it calls make is longer than what came in: it says more and counts as full. Else prove '..UptoSaid'. A law counts once. -/
mutual
def uptoBulk {H : Type} : DataW H → Nat
  | .lit (.string bytes) => bytes.length + 1
  | .lit _ => 1
  | .nil => 1
  | .ptr d => uptoBulk d + 1
  | .slice elems spare => uptoBulkAll elems + uptoBulkAll spare + 1
  | .agg parts => uptoBulkAll parts + 1
  | .iface _ d => uptoBulk d + 1
  | .map entries => uptoBulkEntries entries + 1
  | .held _ => 1
def uptoBulkAll {H : Type} : List (DataW H) → Nat
  | [] => 0
  | d :: r => uptoBulk d + uptoBulkAll r
def uptoBulkEntries {H : Type} : List (Lit × DataW H) → Nat
  | [] => 0
  | x :: r => uptoBulkEntry x + uptoBulkEntries r
def uptoBulkEntry {H : Type} : Lit × DataW H → Nat
  | (.string bytes, d) => bytes.length + uptoBulk d + 1
  | (_, d) => uptoBulk d + 1
 end
def uptoSmall : (H : Type) → List (DataW H) → Bool := fun _ ds => decide (uptoBulkAll ds ≤ 1048576)
def OpenSpec.upto (s : _root_.Go.ChangeSpec) : _root_.Go.OpenSpec := { _root_.Go.OpenSpec.ofChange s with cond := some uptoSmall }

/-- 'newswirelaw06.CalendarMatchesReference', WHERE WHAT IT READS IS OF BULK AT MOST 1048576: true; the input reads as it did. -/
def calendarMatchesReferenceUptoRow : OpenClaim := { program := "ytkbdgelfjdahpaa", sum := "ac1e04d8706c9cb21464d25e85f5c0fd67136d47b0dfd17b2c8a4045d1d40e91", func := "newswire/newswirelaw06.CalendarMatchesReference", spec := "calendarMatchesReference", unfollowed := true, recurses := true, apart := false, narrowed := true }
def CalendarMatchesReferenceUptoSaid : Prop := calendarMatchesReferenceUptoRow.holds Try.pinned (OpenSpec.upto calendarMatchesReferenceSpec)

/-- 'newswirelaw06.CalendarThereAndBack', WHERE WHAT IT READS IS OF BULK AT MOST 1048576: true; the input reads as it did. -/
def calendarThereAndBackUptoRow : OpenClaim := { program := "ytkbdgelfjdahpaa", sum := "ac1e04d8706c9cb21464d25e85f5c0fd67136d47b0dfd17b2c8a4045d1d40e91", func := "newswire/newswirelaw06.CalendarThereAndBack", spec := "calendarThereAndBack", unfollowed := true, recurses := true, apart := false, narrowed := true }
def CalendarThereAndBackUptoSaid : Prop := calendarThereAndBackUptoRow.holds Try.pinned (OpenSpec.upto calendarThereAndBackSpec)

/-- 'newswirelaw06.CalendarOrder', WHERE WHAT IT READS IS OF BULK AT MOST 1048576: true; the input reads as it did. -/
def calendarOrderUptoRow : OpenClaim := { program := "ytkbdgelfjdahpaa", sum := "ac1e04d8706c9cb21464d25e85f5c0fd67136d47b0dfd17b2c8a4045d1d40e91", func := "newswire/newswirelaw06.CalendarOrder", spec := "calendarOrder", unfollowed := true, recurses := true, apart := false, narrowed := true }
def CalendarOrderUptoSaid : Prop := calendarOrderUptoRow.holds Try.pinned (OpenSpec.upto calendarOrderSpec)

/-- 'newswirelaw06.CalendarNext', WHERE WHAT IT READS IS OF BULK AT MOST 1048576: true; the input reads as it did. -/
def calendarNextUptoRow : OpenClaim := { program := "ytkbdgelfjdahpaa", sum := "ac1e04d8706c9cb21464d25e85f5c0fd67136d47b0dfd17b2c8a4045d1d40e91", func := "newswire/newswirelaw06.CalendarNext", spec := "calendarNext", unfollowed := true, recurses := true, apart := false, narrowed := true }
def CalendarNextUptoSaid : Prop := calendarNextUptoRow.holds Try.pinned (OpenSpec.upto calendarNextSpec)

/-- 'newswirelaw06.CalendarOffsets', WHERE WHAT IT READS IS OF BULK AT MOST 1048576: true; the input reads as it did. -/
def calendarOffsetsUptoRow : OpenClaim := { program := "ytkbdgelfjdahpaa", sum := "ac1e04d8706c9cb21464d25e85f5c0fd67136d47b0dfd17b2c8a4045d1d40e91", func := "newswire/newswirelaw06.CalendarOffsets", spec := "calendarOffsets", unfollowed := true, recurses := true, apart := false, narrowed := true }
def CalendarOffsetsUptoSaid : Prop := calendarOffsetsUptoRow.holds Try.pinned (OpenSpec.upto calendarOffsetsSpec)

/-- 'newswirelaw06.CalendarYears', WHERE WHAT IT READS IS OF BULK AT MOST 1048576: true; the input reads as it did. -/
def calendarYearsUptoRow : OpenClaim := { program := "ytkbdgelfjdahpaa", sum := "ac1e04d8706c9cb21464d25e85f5c0fd67136d47b0dfd17b2c8a4045d1d40e91", func := "newswire/newswirelaw06.CalendarYears", spec := "calendarYears", unfollowed := true, recurses := true, apart := false, narrowed := true }
def CalendarYearsUptoSaid : Prop := calendarYearsUptoRow.holds Try.pinned (OpenSpec.upto calendarYearsSpec)

end Rows
end Go.Proofs.Ytkbdgelfjdahpaa
