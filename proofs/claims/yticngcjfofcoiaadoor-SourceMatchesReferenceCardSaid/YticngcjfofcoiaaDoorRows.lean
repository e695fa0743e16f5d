/-
  NARROWER THAN 'FOR EVERY INPUT', by the rows' own cells (each row's printed sentence says how): SourceNamed: laid · SourceCircles: laid · SourceMatchesReference: laid · SourceCertified: laid · SourceCopies: laid · SourceMonotone: laid · SourceCut: laid.
  DERIVED. THE GIVEN ROWS OF THIS SEAT. 7 by the template 'for every input the law returns true; each argument reads behind the call as it read before'; 0 by the template 'total and deterministic' (their statements: YticngcjfofcoiaaDoorTotals.lean).
  GIVEN WITH THE SEED: the statements are not yours to turn. If you find one false, say at which input.
  Laid BY PROGRAM, IN A SANDBOX (cutbox-rows.mjs): the forced cells as the released guide's own fill.sh prints them over the translation 4e534e4f55a061c2… (all of the seat's roots in one cut). By AI agents, Wed Nov 11 2026. No macro, syntax, notation, axiom, sorry.
-/
import Derived.Test.YticngcjfofcoiaaDoorChecked
import GoSem.Claim
import GoSem.ClaimJoined
import GoSem.ClaimMapViews
import Derived.JoinedTies
import Derived.KernelRfl
namespace Go.Proofs.YticngcjfofcoiaaDoor
/- THE CELL 'sum', in the pinned program and in every row, IS THE sha256 OF THE DUMP (.gsa) THAT YticngcjfofcoiaaDoorProg.lean LOADS. Nothing in Lean hashes anything: it is a label: what it is worth is what the hold of that sum in a sandbox is worth. -/
noncomputable def Tryd.pinned : Pinned := { name := "yticngcjfofcoiaadoor", sum := "4e534e4f55a061c2b8d5f11a40537274ca68dee299a5472ffa044f248632b483", checked := Tryd.checked }
namespace Rows
def none {H : Type} : Left H := { results := [], args := [] }

/- WHAT THE LISTED PACKAGE-LEVEL VARIABLES READ AS WHEN THE CALL BEGINS. Each datum BY PROGRAM (the guide's laid-datum.mjs) off the statement by which the dump's own 'gosem.cut.vars' lays the variable. In a bare row this is a premise. The card (YticngcjfofcoiaaDoorCards.lean) ties it to the program's text. -/
def laid_math_bits_deBruijn32tab {H : Type} : DataW H := .agg [.lit (.int .u8 0), .lit (.int .u8 1), .lit (.int .u8 28), .lit (.int .u8 2), .lit (.int .u8 29), .lit (.int .u8 14), .lit (.int .u8 24), .lit (.int .u8 3), .lit (.int .u8 30), .lit (.int .u8 22), .lit (.int .u8 20), .lit (.int .u8 15), .lit (.int .u8 25), .lit (.int .u8 17), .lit (.int .u8 4), .lit (.int .u8 8), .lit (.int .u8 31), .lit (.int .u8 27), .lit (.int .u8 13), .lit (.int .u8 23), .lit (.int .u8 21), .lit (.int .u8 19), .lit (.int .u8 16), .lit (.int .u8 7), .lit (.int .u8 26), .lit (.int .u8 12), .lit (.int .u8 18), .lit (.int .u8 6), .lit (.int .u8 11), .lit (.int .u8 5), .lit (.int .u8 10), .lit (.int .u8 9)]

/-- 'newswirelaw07.SourceNamed': WHATEVER THE INPUT: true; the input reads as it did. -/
def sourceNamedSpec : ChangeSpec := { name := "sourceNamed", fn := fun _ => fun
  | [d1, d2] => { results := [.lit (.bool true)], args := [d1, d2] }
  | _ => none }
def sourceNamedRow : OpenClaim := { program := "yticngcjfofcoiaadoor", sum := "4e534e4f55a061c2b8d5f11a40537274ca68dee299a5472ffa044f248632b483", func := "newswire/newswirelaw07.SourceNamed", spec := "sourceNamed", unfollowed := true, recurses := true, named := ["math/bits.deBruijn32tab"], apart := false, laid := [("math/bits.deBruijn32tab", laid_math_bits_deBruijn32tab)] }
def SourceNamedSaid : Prop := sourceNamedRow.holds Tryd.pinned (OpenSpec.ofChange sourceNamedSpec)

/-- ITS FALSE NEIGHBOUR: 'it returns false'. Refute it at one input. -/
def sourceNamedWrong : ChangeSpec := { name := "sourceNamed", fn := fun _ => fun
  | [d1, d2] => { results := [.lit (.bool false)], args := [d1, d2] }
  | _ => none }
def SourceNamedWrongFalsely : Prop := sourceNamedRow.holds Tryd.pinned (OpenSpec.ofChange sourceNamedWrong)

/-- 'newswirelaw07.SourceCircles': WHATEVER THE INPUT: true; the input reads as it did. -/
def sourceCirclesSpec : ChangeSpec := { name := "sourceCircles", fn := fun _ => fun
  | [d1, d2] => { results := [.lit (.bool true)], args := [d1, d2] }
  | _ => none }
def sourceCirclesRow : OpenClaim := { program := "yticngcjfofcoiaadoor", sum := "4e534e4f55a061c2b8d5f11a40537274ca68dee299a5472ffa044f248632b483", func := "newswire/newswirelaw07.SourceCircles", spec := "sourceCircles", unfollowed := true, recurses := true, named := ["math/bits.deBruijn32tab"], apart := false, laid := [("math/bits.deBruijn32tab", laid_math_bits_deBruijn32tab)] }
def SourceCirclesSaid : Prop := sourceCirclesRow.holds Tryd.pinned (OpenSpec.ofChange sourceCirclesSpec)

/-- ITS FALSE NEIGHBOUR: 'it returns false'. Refute it at one input. -/
def sourceCirclesWrong : ChangeSpec := { name := "sourceCircles", fn := fun _ => fun
  | [d1, d2] => { results := [.lit (.bool false)], args := [d1, d2] }
  | _ => none }
def SourceCirclesWrongFalsely : Prop := sourceCirclesRow.holds Tryd.pinned (OpenSpec.ofChange sourceCirclesWrong)

/-- 'newswirelaw07.SourceMatchesReference': WHATEVER THE INPUT: true; the input reads as it did. -/
def sourceMatchesReferenceSpec : ChangeSpec := { name := "sourceMatchesReference", fn := fun _ => fun
  | [d1, d2, d3, d4, d5, d6] => { results := [.lit (.bool true)], args := [d1, d2, d3, d4, d5, d6] }
  | _ => none }
def sourceMatchesReferenceRow : OpenClaim := { program := "yticngcjfofcoiaadoor", sum := "4e534e4f55a061c2b8d5f11a40537274ca68dee299a5472ffa044f248632b483", func := "newswire/newswirelaw07.SourceMatchesReference", spec := "sourceMatchesReference", unfollowed := true, recurses := true, named := ["math/bits.deBruijn32tab"], apart := false, laid := [("math/bits.deBruijn32tab", laid_math_bits_deBruijn32tab)] }
def SourceMatchesReferenceSaid : Prop := sourceMatchesReferenceRow.holds Tryd.pinned (OpenSpec.ofChange sourceMatchesReferenceSpec)

/-- ITS FALSE NEIGHBOUR: 'it returns false'. Refute it at one input. -/
def sourceMatchesReferenceWrong : ChangeSpec := { name := "sourceMatchesReference", fn := fun _ => fun
  | [d1, d2, d3, d4, d5, d6] => { results := [.lit (.bool false)], args := [d1, d2, d3, d4, d5, d6] }
  | _ => none }
def SourceMatchesReferenceWrongFalsely : Prop := sourceMatchesReferenceRow.holds Tryd.pinned (OpenSpec.ofChange sourceMatchesReferenceWrong)

/-- 'newswirelaw07.SourceCertified': WHATEVER THE INPUT: true; the input reads as it did. -/
def sourceCertifiedSpec : ChangeSpec := { name := "sourceCertified", fn := fun _ => fun
  | [d1, d2, d3, d4] => { results := [.lit (.bool true)], args := [d1, d2, d3, d4] }
  | _ => none }
def sourceCertifiedRow : OpenClaim := { program := "yticngcjfofcoiaadoor", sum := "4e534e4f55a061c2b8d5f11a40537274ca68dee299a5472ffa044f248632b483", func := "newswire/newswirelaw07.SourceCertified", spec := "sourceCertified", unfollowed := true, recurses := true, named := ["math/bits.deBruijn32tab"], apart := false, laid := [("math/bits.deBruijn32tab", laid_math_bits_deBruijn32tab)] }
def SourceCertifiedSaid : Prop := sourceCertifiedRow.holds Tryd.pinned (OpenSpec.ofChange sourceCertifiedSpec)

/-- ITS FALSE NEIGHBOUR: 'it returns false'. Refute it at one input. -/
def sourceCertifiedWrong : ChangeSpec := { name := "sourceCertified", fn := fun _ => fun
  | [d1, d2, d3, d4] => { results := [.lit (.bool false)], args := [d1, d2, d3, d4] }
  | _ => none }
def SourceCertifiedWrongFalsely : Prop := sourceCertifiedRow.holds Tryd.pinned (OpenSpec.ofChange sourceCertifiedWrong)

/-- 'newswirelaw07.SourceCopies': WHATEVER THE INPUT: true; the input reads as it did. -/
def sourceCopiesSpec : ChangeSpec := { name := "sourceCopies", fn := fun _ => fun
  | [d1, d2, d3] => { results := [.lit (.bool true)], args := [d1, d2, d3] }
  | _ => none }
def sourceCopiesRow : OpenClaim := { program := "yticngcjfofcoiaadoor", sum := "4e534e4f55a061c2b8d5f11a40537274ca68dee299a5472ffa044f248632b483", func := "newswire/newswirelaw07.SourceCopies", spec := "sourceCopies", unfollowed := true, recurses := true, named := ["math/bits.deBruijn32tab"], apart := false, laid := [("math/bits.deBruijn32tab", laid_math_bits_deBruijn32tab)] }
def SourceCopiesSaid : Prop := sourceCopiesRow.holds Tryd.pinned (OpenSpec.ofChange sourceCopiesSpec)

/-- ITS FALSE NEIGHBOUR: 'it returns false'. Refute it at one input. -/
def sourceCopiesWrong : ChangeSpec := { name := "sourceCopies", fn := fun _ => fun
  | [d1, d2, d3] => { results := [.lit (.bool false)], args := [d1, d2, d3] }
  | _ => none }
def SourceCopiesWrongFalsely : Prop := sourceCopiesRow.holds Tryd.pinned (OpenSpec.ofChange sourceCopiesWrong)

/-- 'newswirelaw07.SourceMonotone': WHATEVER THE INPUT: true; the input reads as it did. -/
def sourceMonotoneSpec : ChangeSpec := { name := "sourceMonotone", fn := fun _ => fun
  | [d1, d2] => { results := [.lit (.bool true)], args := [d1, d2] }
  | _ => none }
def sourceMonotoneRow : OpenClaim := { program := "yticngcjfofcoiaadoor", sum := "4e534e4f55a061c2b8d5f11a40537274ca68dee299a5472ffa044f248632b483", func := "newswire/newswirelaw07.SourceMonotone", spec := "sourceMonotone", unfollowed := true, recurses := true, named := ["math/bits.deBruijn32tab"], apart := false, laid := [("math/bits.deBruijn32tab", laid_math_bits_deBruijn32tab)] }
def SourceMonotoneSaid : Prop := sourceMonotoneRow.holds Tryd.pinned (OpenSpec.ofChange sourceMonotoneSpec)

/-- ITS FALSE NEIGHBOUR: 'it returns false'. Refute it at one input. -/
def sourceMonotoneWrong : ChangeSpec := { name := "sourceMonotone", fn := fun _ => fun
  | [d1, d2] => { results := [.lit (.bool false)], args := [d1, d2] }
  | _ => none }
def SourceMonotoneWrongFalsely : Prop := sourceMonotoneRow.holds Tryd.pinned (OpenSpec.ofChange sourceMonotoneWrong)

/-- 'newswirelaw07.SourceCut': WHATEVER THE INPUT: true; the input reads as it did. -/
def sourceCutSpec : ChangeSpec := { name := "sourceCut", fn := fun _ => fun
  | [d1, d2] => { results := [.lit (.bool true)], args := [d1, d2] }
  | _ => none }
def sourceCutRow : OpenClaim := { program := "yticngcjfofcoiaadoor", sum := "4e534e4f55a061c2b8d5f11a40537274ca68dee299a5472ffa044f248632b483", func := "newswire/newswirelaw07.SourceCut", spec := "sourceCut", unfollowed := true, recurses := true, named := ["math/bits.deBruijn32tab"], apart := false, laid := [("math/bits.deBruijn32tab", laid_math_bits_deBruijn32tab)] }
def SourceCutSaid : Prop := sourceCutRow.holds Tryd.pinned (OpenSpec.ofChange sourceCutSpec)

/-- ITS FALSE NEIGHBOUR: 'it returns false'. Refute it at one input. -/
def sourceCutWrong : ChangeSpec := { name := "sourceCut", fn := fun _ => fun
  | [d1, d2] => { results := [.lit (.bool false)], args := [d1, d2] }
  | _ => none }
def SourceCutWrongFalsely : Prop := sourceCutRow.holds Tryd.pinned (OpenSpec.ofChange sourceCutWrong)

/- THE SECOND FORM. 'bulk': how many values and letters a reading holds, each counted each time it is reached (what is shared counts as often as it is met; a slice's spare places count too). A statement '..UptoSaid' is the law's where the arguments, and the package variables that the reading takes, are together of bulk at most 1048576: NARROWER than '..Said'. Prove '..Said' where nothing that the law and all that it calls make is longer than what came in: it says more and counts as full. Else prove '..UptoSaid'. A law counts once. -/
mutual
def uptoBulk {H : Type} : DataW H → Nat
  | .lit (.string bytes) => bytes.length + 1
  | .lit _ => 1
  | .nil => 1
  | .ptr d => uptoBulk d + 1
  | .slice elems spare => uptoBulkAll elems + uptoBulkAll spare + 1
  | .agg parts => uptoBulkAll parts + 1
  | .iface _ d => uptoBulk d + 1
  | .map entries => uptoBulkEntries entries + 1
  | .held _ => 1
def uptoBulkAll {H : Type} : List (DataW H) → Nat
  | [] => 0
  | d :: r => uptoBulk d + uptoBulkAll r
def uptoBulkEntries {H : Type} : List (Lit × DataW H) → Nat
  | [] => 0
  | x :: r => uptoBulkEntry x + uptoBulkEntries r
def uptoBulkEntry {H : Type} : Lit × DataW H → Nat
  | (.string bytes, d) => bytes.length + uptoBulk d + 1
  | (_, d) => uptoBulk d + 1
 end
def uptoSmall : (H : Type) → List (DataW H) → Bool := fun _ ds => decide (uptoBulkAll ds ≤ 1048576)
def OpenSpec.upto (s : _root_.Go.ChangeSpec) : _root_.Go.OpenSpec := { _root_.Go.OpenSpec.ofChange s with cond := some uptoSmall }

/-- 'newswirelaw07.SourceNamed', WHERE WHAT IT READS IS OF BULK AT MOST 1048576: true; the input reads as it did. -/
def sourceNamedUptoRow : OpenClaim := { program := "yticngcjfofcoiaadoor", sum := "4e534e4f55a061c2b8d5f11a40537274ca68dee299a5472ffa044f248632b483", func := "newswire/newswirelaw07.SourceNamed", spec := "sourceNamed", unfollowed := true, recurses := true, named := ["math/bits.deBruijn32tab"], apart := false, laid := [("math/bits.deBruijn32tab", laid_math_bits_deBruijn32tab)], narrowed := true }
def SourceNamedUptoSaid : Prop := sourceNamedUptoRow.holds Tryd.pinned (OpenSpec.upto sourceNamedSpec)

/-- 'newswirelaw07.SourceCircles', WHERE WHAT IT READS IS OF BULK AT MOST 1048576: true; the input reads as it did. -/
def sourceCirclesUptoRow : OpenClaim := { program := "yticngcjfofcoiaadoor", sum := "4e534e4f55a061c2b8d5f11a40537274ca68dee299a5472ffa044f248632b483", func := "newswire/newswirelaw07.SourceCircles", spec := "sourceCircles", unfollowed := true, recurses := true, named := ["math/bits.deBruijn32tab"], apart := false, laid := [("math/bits.deBruijn32tab", laid_math_bits_deBruijn32tab)], narrowed := true }
def SourceCirclesUptoSaid : Prop := sourceCirclesUptoRow.holds Tryd.pinned (OpenSpec.upto sourceCirclesSpec)

/-- 'newswirelaw07.SourceMatchesReference', WHERE WHAT IT READS IS OF BULK AT MOST 1048576: true; the input reads as it did. -/
def sourceMatchesReferenceUptoRow : OpenClaim := { program := "yticngcjfofcoiaadoor", sum := "4e534e4f55a061c2b8d5f11a40537274ca68dee299a5472ffa044f248632b483", func := "newswire/newswirelaw07.SourceMatchesReference", spec := "sourceMatchesReference", unfollowed := true, recurses := true, named := ["math/bits.deBruijn32tab"], apart := false, laid := [("math/bits.deBruijn32tab", laid_math_bits_deBruijn32tab)], narrowed := true }
def SourceMatchesReferenceUptoSaid : Prop := sourceMatchesReferenceUptoRow.holds Tryd.pinned (OpenSpec.upto sourceMatchesReferenceSpec)

/-- 'newswirelaw07.SourceCertified', WHERE WHAT IT READS IS OF BULK AT MOST 1048576: true; the input reads as it did. -/
def sourceCertifiedUptoRow : OpenClaim := { program := "yticngcjfofcoiaadoor", sum := "4e534e4f55a061c2b8d5f11a40537274ca68dee299a5472ffa044f248632b483", func := "newswire/newswirelaw07.SourceCertified", spec := "sourceCertified", unfollowed := true, recurses := true, named := ["math/bits.deBruijn32tab"], apart := false, laid := [("math/bits.deBruijn32tab", laid_math_bits_deBruijn32tab)], narrowed := true }
def SourceCertifiedUptoSaid : Prop := sourceCertifiedUptoRow.holds Tryd.pinned (OpenSpec.upto sourceCertifiedSpec)

/-- 'newswirelaw07.SourceCopies', WHERE WHAT IT READS IS OF BULK AT MOST 1048576: true; the input reads as it did. -/
def sourceCopiesUptoRow : OpenClaim := { program := "yticngcjfofcoiaadoor", sum := "4e534e4f55a061c2b8d5f11a40537274ca68dee299a5472ffa044f248632b483", func := "newswire/newswirelaw07.SourceCopies", spec := "sourceCopies", unfollowed := true, recurses := true, named := ["math/bits.deBruijn32tab"], apart := false, laid := [("math/bits.deBruijn32tab", laid_math_bits_deBruijn32tab)], narrowed := true }
def SourceCopiesUptoSaid : Prop := sourceCopiesUptoRow.holds Tryd.pinned (OpenSpec.upto sourceCopiesSpec)

/-- 'newswirelaw07.SourceMonotone', WHERE WHAT IT READS IS OF BULK AT MOST 1048576: true; the input reads as it did. -/
def sourceMonotoneUptoRow : OpenClaim := { program := "yticngcjfofcoiaadoor", sum := "4e534e4f55a061c2b8d5f11a40537274ca68dee299a5472ffa044f248632b483", func := "newswire/newswirelaw07.SourceMonotone", spec := "sourceMonotone", unfollowed := true, recurses := true, named := ["math/bits.deBruijn32tab"], apart := false, laid := [("math/bits.deBruijn32tab", laid_math_bits_deBruijn32tab)], narrowed := true }
def SourceMonotoneUptoSaid : Prop := sourceMonotoneUptoRow.holds Tryd.pinned (OpenSpec.upto sourceMonotoneSpec)

/-- 'newswirelaw07.SourceCut', WHERE WHAT IT READS IS OF BULK AT MOST 1048576: true; the input reads as it did. -/
def sourceCutUptoRow : OpenClaim := { program := "yticngcjfofcoiaadoor", sum := "4e534e4f55a061c2b8d5f11a40537274ca68dee299a5472ffa044f248632b483", func := "newswire/newswirelaw07.SourceCut", spec := "sourceCut", unfollowed := true, recurses := true, named := ["math/bits.deBruijn32tab"], apart := false, laid := [("math/bits.deBruijn32tab", laid_math_bits_deBruijn32tab)], narrowed := true }
def SourceCutUptoSaid : Prop := sourceCutUptoRow.holds Tryd.pinned (OpenSpec.upto sourceCutSpec)

end Rows
end Go.Proofs.YticngcjfofcoiaaDoor
