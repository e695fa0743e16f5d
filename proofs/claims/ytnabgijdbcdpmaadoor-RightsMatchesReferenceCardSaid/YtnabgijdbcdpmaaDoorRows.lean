/-
  NARROWER THAN 'FOR EVERY INPUT', by the rows' own cells (each row's printed sentence says how): RightsMatchesReference: laid · RightsLawful: laid · RightsCore: laid · RightsClauses: laid · RightsUses: laid · RightsOrder: laid.
  DERIVED. THE GIVEN ROWS OF THIS SEAT. 6 by the template 'for every input the law returns true; each argument reads behind the call as it read before'; 0 by the template 'total and deterministic' (their statements: YtnabgijdbcdpmaaDoorTotals.lean).
  GIVEN WITH THE SEED: the statements are not yours to turn. If you find one false, say at which input.
  Laid BY PROGRAM, IN A SANDBOX (cutbox-rows.mjs): the forced cells as the released guide's own fill.sh prints them over the translation eef81aa4acd88e3a… (all of the seat's roots in one cut). By AI agents, Wed Nov 11 2026. No macro, syntax, notation, axiom, sorry.
-/
import Derived.Test.YtnabgijdbcdpmaaDoorChecked
import GoSem.Claim
import GoSem.ClaimJoined
import GoSem.ClaimMapViews
import Derived.JoinedTies
import Derived.KernelRfl
namespace Go.Proofs.YtnabgijdbcdpmaaDoor
/- THE CELL 'sum', in the pinned program and in every row, IS THE sha256 OF THE DUMP (.gsa) THAT YtnabgijdbcdpmaaDoorProg.lean LOADS. Nothing in Lean hashes anything: it is a label: what it is worth is what the hold of that sum in a sandbox is worth. -/
noncomputable def Tryd.pinned : Pinned := { name := "ytnabgijdbcdpmaadoor", sum := "eef81aa4acd88e3a5d1595a03bfb144eb043beb52d25e8c7d3338ec3a70be035", checked := Tryd.checked }
namespace Rows
def none {H : Type} : Left H := { results := [], args := [] }

/- WHAT THE LISTED PACKAGE-LEVEL VARIABLES READ AS WHEN THE CALL BEGINS. Each datum BY PROGRAM (the guide's laid-datum.mjs) off the statement by which the dump's own 'gosem.cut.vars' lays the variable. In a bare row this is a premise. The card (YtnabgijdbcdpmaaDoorCards.lean) ties it to the program's text. -/
def laid_newswire_rights_kinds {H : Type} : DataW H := .iface "func table" (.agg [.agg [.nil, .nil], .agg [.iface "func" (.lit (.string [110, 101, 119, 115, 119, 105, 114, 101, 47, 114, 105, 103, 104, 116, 115, 46, 112, 108, 97, 105, 110])), .iface "func" (.lit (.string [110, 101, 119, 115, 119, 105, 114, 101, 47, 114, 105, 103, 104, 116, 115, 46, 107, 105, 110, 100, 115, 36, 49]))], .agg [.iface "func" (.lit (.string [110, 101, 119, 115, 119, 105, 114, 101, 47, 114, 105, 103, 104, 116, 115, 46, 112, 108, 97, 105, 110])), .iface "func" (.lit (.string [110, 101, 119, 115, 119, 105, 114, 101, 47, 114, 105, 103, 104, 116, 115, 46, 107, 105, 110, 100, 115, 36, 50]))], .agg [.iface "func" (.lit (.string [110, 101, 119, 115, 119, 105, 114, 101, 47, 114, 105, 103, 104, 116, 115, 46, 107, 105, 110, 100, 115, 36, 51])), .iface "func" (.lit (.string [110, 101, 119, 115, 119, 105, 114, 101, 47, 114, 105, 103, 104, 116, 115, 46, 107, 105, 110, 100, 115, 36, 52]))], .agg [.iface "func" (.lit (.string [110, 101, 119, 115, 119, 105, 114, 101, 47, 114, 105, 103, 104, 116, 115, 46, 107, 105, 110, 100, 115, 36, 53])), .iface "func" (.lit (.string [110, 101, 119, 115, 119, 105, 114, 101, 47, 114, 105, 103, 104, 116, 115, 46, 107, 105, 110, 100, 115, 36, 54]))]])

/-- 'newswirelaw29.RightsMatchesReference': WHATEVER THE INPUT: true; the input reads as it did. -/
def rightsMatchesReferenceSpec : ChangeSpec := { name := "rightsMatchesReference", fn := fun _ => fun
  | [d1, d2, d3, d4, d5, d6, d7, d8, d9] => { results := [.lit (.bool true)], args := [d1, d2, d3, d4, d5, d6, d7, d8, d9] }
  | _ => none }
def rightsMatchesReferenceRow : OpenClaim := { program := "ytnabgijdbcdpmaadoor", sum := "eef81aa4acd88e3a5d1595a03bfb144eb043beb52d25e8c7d3338ec3a70be035", func := "newswire/newswirelaw29.RightsMatchesReference", spec := "rightsMatchesReference", unfollowed := true, recurses := true, named := ["newswire/rights.kinds"], apart := false, laid := [("newswire/rights.kinds", laid_newswire_rights_kinds)] }
def RightsMatchesReferenceSaid : Prop := rightsMatchesReferenceRow.holds Tryd.pinned (OpenSpec.ofChange rightsMatchesReferenceSpec)

/-- ITS FALSE NEIGHBOUR: 'it returns false'. Refute it at one input. -/
def rightsMatchesReferenceWrong : ChangeSpec := { name := "rightsMatchesReference", fn := fun _ => fun
  | [d1, d2, d3, d4, d5, d6, d7, d8, d9] => { results := [.lit (.bool false)], args := [d1, d2, d3, d4, d5, d6, d7, d8, d9] }
  | _ => none }
def RightsMatchesReferenceWrongFalsely : Prop := rightsMatchesReferenceRow.holds Tryd.pinned (OpenSpec.ofChange rightsMatchesReferenceWrong)

/-- 'newswirelaw29.RightsLawful': WHATEVER THE INPUT: true; the input reads as it did. -/
def rightsLawfulSpec : ChangeSpec := { name := "rightsLawful", fn := fun _ => fun
  | [d1, d2, d3, d4, d5] => { results := [.lit (.bool true)], args := [d1, d2, d3, d4, d5] }
  | _ => none }
def rightsLawfulRow : OpenClaim := { program := "ytnabgijdbcdpmaadoor", sum := "eef81aa4acd88e3a5d1595a03bfb144eb043beb52d25e8c7d3338ec3a70be035", func := "newswire/newswirelaw29.RightsLawful", spec := "rightsLawful", unfollowed := true, recurses := true, named := ["newswire/rights.kinds"], apart := false, laid := [("newswire/rights.kinds", laid_newswire_rights_kinds)] }
def RightsLawfulSaid : Prop := rightsLawfulRow.holds Tryd.pinned (OpenSpec.ofChange rightsLawfulSpec)

/-- ITS FALSE NEIGHBOUR: 'it returns false'. Refute it at one input. -/
def rightsLawfulWrong : ChangeSpec := { name := "rightsLawful", fn := fun _ => fun
  | [d1, d2, d3, d4, d5] => { results := [.lit (.bool false)], args := [d1, d2, d3, d4, d5] }
  | _ => none }
def RightsLawfulWrongFalsely : Prop := rightsLawfulRow.holds Tryd.pinned (OpenSpec.ofChange rightsLawfulWrong)

/-- 'newswirelaw29.RightsCore': WHATEVER THE INPUT: true; the input reads as it did. -/
def rightsCoreSpec : ChangeSpec := { name := "rightsCore", fn := fun _ => fun
  | [d1, d2, d3, d4, d5] => { results := [.lit (.bool true)], args := [d1, d2, d3, d4, d5] }
  | _ => none }
def rightsCoreRow : OpenClaim := { program := "ytnabgijdbcdpmaadoor", sum := "eef81aa4acd88e3a5d1595a03bfb144eb043beb52d25e8c7d3338ec3a70be035", func := "newswire/newswirelaw29.RightsCore", spec := "rightsCore", unfollowed := true, recurses := true, named := ["newswire/rights.kinds"], apart := false, laid := [("newswire/rights.kinds", laid_newswire_rights_kinds)] }
def RightsCoreSaid : Prop := rightsCoreRow.holds Tryd.pinned (OpenSpec.ofChange rightsCoreSpec)

/-- ITS FALSE NEIGHBOUR: 'it returns false'. Refute it at one input. -/
def rightsCoreWrong : ChangeSpec := { name := "rightsCore", fn := fun _ => fun
  | [d1, d2, d3, d4, d5] => { results := [.lit (.bool false)], args := [d1, d2, d3, d4, d5] }
  | _ => none }
def RightsCoreWrongFalsely : Prop := rightsCoreRow.holds Tryd.pinned (OpenSpec.ofChange rightsCoreWrong)

/-- 'newswirelaw29.RightsClauses': WHATEVER THE INPUT: true; the input reads as it did. -/
def rightsClausesSpec : ChangeSpec := { name := "rightsClauses", fn := fun _ => fun
  | [d1, d2, d3, d4, d5, d6] => { results := [.lit (.bool true)], args := [d1, d2, d3, d4, d5, d6] }
  | _ => none }
def rightsClausesRow : OpenClaim := { program := "ytnabgijdbcdpmaadoor", sum := "eef81aa4acd88e3a5d1595a03bfb144eb043beb52d25e8c7d3338ec3a70be035", func := "newswire/newswirelaw29.RightsClauses", spec := "rightsClauses", unfollowed := true, recurses := true, named := ["newswire/rights.kinds"], apart := false, laid := [("newswire/rights.kinds", laid_newswire_rights_kinds)] }
def RightsClausesSaid : Prop := rightsClausesRow.holds Tryd.pinned (OpenSpec.ofChange rightsClausesSpec)

/-- ITS FALSE NEIGHBOUR: 'it returns false'. Refute it at one input. -/
def rightsClausesWrong : ChangeSpec := { name := "rightsClauses", fn := fun _ => fun
  | [d1, d2, d3, d4, d5, d6] => { results := [.lit (.bool false)], args := [d1, d2, d3, d4, d5, d6] }
  | _ => none }
def RightsClausesWrongFalsely : Prop := rightsClausesRow.holds Tryd.pinned (OpenSpec.ofChange rightsClausesWrong)

/-- 'newswirelaw29.RightsUses': WHATEVER THE INPUT: true; the input reads as it did. -/
def rightsUsesSpec : ChangeSpec := { name := "rightsUses", fn := fun _ => fun
  | [d1, d2, d3, d4, d5, d6] => { results := [.lit (.bool true)], args := [d1, d2, d3, d4, d5, d6] }
  | _ => none }
def rightsUsesRow : OpenClaim := { program := "ytnabgijdbcdpmaadoor", sum := "eef81aa4acd88e3a5d1595a03bfb144eb043beb52d25e8c7d3338ec3a70be035", func := "newswire/newswirelaw29.RightsUses", spec := "rightsUses", unfollowed := true, recurses := true, named := ["newswire/rights.kinds"], apart := false, laid := [("newswire/rights.kinds", laid_newswire_rights_kinds)] }
def RightsUsesSaid : Prop := rightsUsesRow.holds Tryd.pinned (OpenSpec.ofChange rightsUsesSpec)

/-- ITS FALSE NEIGHBOUR: 'it returns false'. Refute it at one input. -/
def rightsUsesWrong : ChangeSpec := { name := "rightsUses", fn := fun _ => fun
  | [d1, d2, d3, d4, d5, d6] => { results := [.lit (.bool false)], args := [d1, d2, d3, d4, d5, d6] }
  | _ => none }
def RightsUsesWrongFalsely : Prop := rightsUsesRow.holds Tryd.pinned (OpenSpec.ofChange rightsUsesWrong)

/-- 'newswirelaw29.RightsOrder': WHATEVER THE INPUT: true; the input reads as it did. -/
def rightsOrderSpec : ChangeSpec := { name := "rightsOrder", fn := fun _ => fun
  | [d1, d2, d3, d4, d5, d6] => { results := [.lit (.bool true)], args := [d1, d2, d3, d4, d5, d6] }
  | _ => none }
def rightsOrderRow : OpenClaim := { program := "ytnabgijdbcdpmaadoor", sum := "eef81aa4acd88e3a5d1595a03bfb144eb043beb52d25e8c7d3338ec3a70be035", func := "newswire/newswirelaw29.RightsOrder", spec := "rightsOrder", unfollowed := true, recurses := true, named := ["newswire/rights.kinds"], apart := false, laid := [("newswire/rights.kinds", laid_newswire_rights_kinds)] }
def RightsOrderSaid : Prop := rightsOrderRow.holds Tryd.pinned (OpenSpec.ofChange rightsOrderSpec)

/-- ITS FALSE NEIGHBOUR: 'it returns false'. Refute it at one input. -/
def rightsOrderWrong : ChangeSpec := { name := "rightsOrder", fn := fun _ => fun
  | [d1, d2, d3, d4, d5, d6] => { results := [.lit (.bool false)], args := [d1, d2, d3, d4, d5, d6] }
  | _ => none }
def RightsOrderWrongFalsely : Prop := rightsOrderRow.holds Tryd.pinned (OpenSpec.ofChange rightsOrderWrong)

/- THE SECOND FORM. 'bulk': how many values and letters a reading holds, each counted each time it is reached (what is shared counts as often as it is met; a slice's spare places count too). A statement '..UptoSaid' is the law's where the arguments, and the package variables that the reading takes, are together of bulk at most 1048576: NARROWER than '..Said'. Prove '..Said' where nothing that the law and all that it calls make is longer than what came in: it says more and counts as full. Else prove '..UptoSaid'. A law counts once. -/
mutual
def uptoBulk {H : Type} : DataW H → Nat
  | .lit (.string bytes) => bytes.length + 1
  | .lit _ => 1
  | .nil => 1
  | .ptr d => uptoBulk d + 1
  | .slice elems spare => uptoBulkAll elems + uptoBulkAll spare + 1
  | .agg parts => uptoBulkAll parts + 1
  | .iface _ d => uptoBulk d + 1
  | .map entries => uptoBulkEntries entries + 1
  | .held _ => 1
def uptoBulkAll {H : Type} : List (DataW H) → Nat
  | [] => 0
  | d :: r => uptoBulk d + uptoBulkAll r
def uptoBulkEntries {H : Type} : List (Lit × DataW H) → Nat
  | [] => 0
  | x :: r => uptoBulkEntry x + uptoBulkEntries r
def uptoBulkEntry {H : Type} : Lit × DataW H → Nat
  | (.string bytes, d) => bytes.length + uptoBulk d + 1
  | (_, d) => uptoBulk d + 1
 end
def uptoSmall : (H : Type) → List (DataW H) → Bool := fun _ ds => decide (uptoBulkAll ds ≤ 1048576)
def OpenSpec.upto (s : _root_.Go.ChangeSpec) : _root_.Go.OpenSpec := { _root_.Go.OpenSpec.ofChange s with cond := some uptoSmall }

/-- 'newswirelaw29.RightsMatchesReference', WHERE WHAT IT READS IS OF BULK AT MOST 1048576: true; the input reads as it did. -/
def rightsMatchesReferenceUptoRow : OpenClaim := { program := "ytnabgijdbcdpmaadoor", sum := "eef81aa4acd88e3a5d1595a03bfb144eb043beb52d25e8c7d3338ec3a70be035", func := "newswire/newswirelaw29.RightsMatchesReference", spec := "rightsMatchesReference", unfollowed := true, recurses := true, named := ["newswire/rights.kinds"], apart := false, laid := [("newswire/rights.kinds", laid_newswire_rights_kinds)], narrowed := true }
def RightsMatchesReferenceUptoSaid : Prop := rightsMatchesReferenceUptoRow.holds Tryd.pinned (OpenSpec.upto rightsMatchesReferenceSpec)

/-- 'newswirelaw29.RightsLawful', WHERE WHAT IT READS IS OF BULK AT MOST 1048576: true; the input reads as it did. -/
def rightsLawfulUptoRow : OpenClaim := { program := "ytnabgijdbcdpmaadoor", sum := "eef81aa4acd88e3a5d1595a03bfb144eb043beb52d25e8c7d3338ec3a70be035", func := "newswire/newswirelaw29.RightsLawful", spec := "rightsLawful", unfollowed := true, recurses := true, named := ["newswire/rights.kinds"], apart := false, laid := [("newswire/rights.kinds", laid_newswire_rights_kinds)], narrowed := true }
def RightsLawfulUptoSaid : Prop := rightsLawfulUptoRow.holds Tryd.pinned (OpenSpec.upto rightsLawfulSpec)

/-- 'newswirelaw29.RightsCore', WHERE WHAT IT READS IS OF BULK AT MOST 1048576: true; the input reads as it did. -/
def rightsCoreUptoRow : OpenClaim := { program := "ytnabgijdbcdpmaadoor", sum := "eef81aa4acd88e3a5d1595a03bfb144eb043beb52d25e8c7d3338ec3a70be035", func := "newswire/newswirelaw29.RightsCore", spec := "rightsCore", unfollowed := true, recurses := true, named := ["newswire/rights.kinds"], apart := false, laid := [("newswire/rights.kinds", laid_newswire_rights_kinds)], narrowed := true }
def RightsCoreUptoSaid : Prop := rightsCoreUptoRow.holds Tryd.pinned (OpenSpec.upto rightsCoreSpec)

/-- 'newswirelaw29.RightsClauses', WHERE WHAT IT READS IS OF BULK AT MOST 1048576: true; the input reads as it did. -/
def rightsClausesUptoRow : OpenClaim := { program := "ytnabgijdbcdpmaadoor", sum := "eef81aa4acd88e3a5d1595a03bfb144eb043beb52d25e8c7d3338ec3a70be035", func := "newswire/newswirelaw29.RightsClauses", spec := "rightsClauses", unfollowed := true, recurses := true, named := ["newswire/rights.kinds"], apart := false, laid := [("newswire/rights.kinds", laid_newswire_rights_kinds)], narrowed := true }
def RightsClausesUptoSaid : Prop := rightsClausesUptoRow.holds Tryd.pinned (OpenSpec.upto rightsClausesSpec)

/-- 'newswirelaw29.RightsUses', WHERE WHAT IT READS IS OF BULK AT MOST 1048576: true; the input reads as it did. -/
def rightsUsesUptoRow : OpenClaim := { program := "ytnabgijdbcdpmaadoor", sum := "eef81aa4acd88e3a5d1595a03bfb144eb043beb52d25e8c7d3338ec3a70be035", func := "newswire/newswirelaw29.RightsUses", spec := "rightsUses", unfollowed := true, recurses := true, named := ["newswire/rights.kinds"], apart := false, laid := [("newswire/rights.kinds", laid_newswire_rights_kinds)], narrowed := true }
def RightsUsesUptoSaid : Prop := rightsUsesUptoRow.holds Tryd.pinned (OpenSpec.upto rightsUsesSpec)

/-- 'newswirelaw29.RightsOrder', WHERE WHAT IT READS IS OF BULK AT MOST 1048576: true; the input reads as it did. -/
def rightsOrderUptoRow : OpenClaim := { program := "ytnabgijdbcdpmaadoor", sum := "eef81aa4acd88e3a5d1595a03bfb144eb043beb52d25e8c7d3338ec3a70be035", func := "newswire/newswirelaw29.RightsOrder", spec := "rightsOrder", unfollowed := true, recurses := true, named := ["newswire/rights.kinds"], apart := false, laid := [("newswire/rights.kinds", laid_newswire_rights_kinds)], narrowed := true }
def RightsOrderUptoSaid : Prop := rightsOrderUptoRow.holds Tryd.pinned (OpenSpec.upto rightsOrderSpec)

end Rows
end Go.Proofs.YtnabgijdbcdpmaaDoor
