/- Plain facts of the least ways, as the program finds them. -/
import Derived.Test.YticngcjfofcoiaaDoorFp
import Derived.Test.YticngcjfofcoiaaDoorLi
namespace Go.Proofs.YticngcjfofcoiaaDoor
open Go.RowKit Go.Rg Go.Proofs.YticngcjfofcoiaaDoorW.PrintWords
set_option linter.unusedVariables false
set_option linter.unusedSimpArgs false

def bitsOf (u i : Nat) : Bool := u.testBit i
theorem sub_net (nx : Nat → List Nat) (sd og wo o u : Nat) (v : List Nat) : Flow.sub (netOf nx sd og wo) (fun i => o.testBit i) (Flow.or2 (bitsOf u) (Flow.inL v)) = netOf nx sd o (orL u v ||| wo) := by
  unfold Flow.sub netOf
  congr 1
  funext i
  rw [Nat.testBit_or, orL_bit]
  show (wo.testBit i || (u.testBit i || v.contains i)) = _
  rw [Bool.or_comm]
theorem one_bits (x : Nat) : Flow.one x = fun i => (2 ^ x).testBit i := by
  funext i
  unfold Flow.one
  rw [Nat.testBit_two_pow]
  by_cases h : i = x
  · subst h; simp
  · have : ¬ x = i := fun e => h e.symm
    simp [h, this]
theorem or_bits (og x : Nat) : Flow.or2 (fun i => og.testBit i) (Flow.one x) = fun i => (og ||| 2 ^ x).testBit i := by
  rw [one_bits]
  funext i
  show (og.testBit i || (2 ^ x).testBit i) = _
  rw [Nat.testBit_or]
/-- What the program's can answers. -/
noncomputable def canB (nx : Nat → List Nat) (sd og wo u : Nat) (v : List Nat) (all x : Nat) : Bool :=
  decide (Flow.mc (netOf nx sd (2 ^ x) (orL u v ||| wo)) = 1) && decide (all ≤ Flow.mc (netOf nx sd (og ||| 2 ^ x) (orL u v ||| wo)))
open Classical in
theorem canB_eq (nx : Nat → List Nat) (sd og wo u : Nat) (v : List Nat) (all x : Nat) : decide (Flow.CanP (netOf nx sd og wo) (bitsOf u) v x all) = canB nx sd og wo u v all x := by
  unfold Flow.CanP canB
  rw [one_bits, sub_net, ← one_bits]
  rw [show (netOf nx sd og wo).org = fun i => og.testBit i from rfl, or_bits, sub_net]
  simp
/-- Those that may follow, as a set. -/
def aft (nx : Nat → List Nat) (og : Nat) (v : List Nat) : Nat := match v.getLast? with
  | none => og
  | some x => orL 0 (nx x)
theorem aft_lt {nx : Nat → List Nat} (hn : NxOk nx) {og : Nat} (ho : og < 4096) {v : List Nat} (hv : ∀ x ∈ v, x < 12) : aft nx og v < 4096 := by
  unfold aft
  cases h : v.getLast? with
  | none => exact ho
  | some x => exact orL_lt (by decide) (hn.lt x (hv x (List.mem_of_getLast? h)))
theorem aft_bit (nx : Nat → List Nat) (sd og wo : Nat) (v : List Nat) (i : Nat) : Flow.after (netOf nx sd og wo) v i = (aft nx og v).testBit i := by
  unfold Flow.after aft
  cases h : v.getLast? with
  | none => rfl
  | some x =>
    show (nx x).contains i = _
    rw [orL_bit]
    simp
/-- The test of one that may follow. -/
noncomputable def goodB (nx : Nat → List Nat) (sd og wo u : Nat) (v : List Nat) (all i : Nat) : Bool := !u.testBit i && (!v.contains i && (!wo.testBit i && canB nx sd og wo u v all i))
theorem find_eq (nx : Nat → List Nat) (sd og wo u : Nat) (v : List Nat) (all : Nat) : (List.range 12).find? (Flow.fits (netOf nx sd og wo) (bitsOf u) v all) = (elems (aft nx og v)).find? (goodB nx sd og wo u v all) := by
  unfold elems
  rw [List.find?_filter]
  congr 1
  funext i
  unfold Flow.fits goodB
  rw [aft_bit, canB_eq]
  show ((aft nx og v).testBit i && (!u.testBit i && (!v.contains i && (!wo.testBit i && canB nx sd og wo u v all i)))) = decide ((aft nx og v).testBit i = true ∧ _ = true)
  rw [Bool.decide_and, Bool.decide_eq_true, Bool.decide_eq_true]
/-- The best one so far. -/
noncomputable def bestW (g : Nat → Bool) (v l : List Nat) : List Nat := match l.find? g with
  | none => []
  | some j => v ++ [j]
theorem bestW_no {g : Nat → Bool} {v l : List Nat} {x : Nat} (h : g x = false) : bestW g v (l ++ [x]) = bestW g v l := by
  unfold bestW
  rw [List.find?_append]
  cases l.find? g with
  | none => simp [h]
  | some j => rfl
theorem bestW_new {g : Nat → Bool} {v l : List Nat} {x : Nat} (h : g x = true) (h0 : l.find? g = none) : bestW g v (l ++ [x]) = v ++ [x] := by
  unfold bestW
  rw [List.find?_append, h0]
  simp [h]
theorem bestW_old {g : Nat → Bool} {v l : List Nat} {x j : Nat} (h0 : l.find? g = some j) : bestW g v (l ++ [x]) = v ++ [j] ∧ bestW g v l = v ++ [j] := by
  unfold bestW
  rw [List.find?_append, h0]
  exact ⟨rfl, rfl⟩
theorem lexC_snoc {v : List Int} {x y : Int} (h : y < x) : lexC (v ++ [x]) (v ++ [y]) = 1 := by
  induction v with
  | nil =>
    have : ¬ x < y := by omega
    simp [lexC, this, h]
  | cons a v ih => simp [lexC, ih]
theorem elems_sorted (s : Nat) : (elems s).Pairwise (· < ·) := List.Pairwise.filter _ List.pairwise_lt_range
theorem elems_earlier {s i x j : Nat} {g : Nat → Bool} (hx : (elems s)[i]? = some x) (hj : ((elems s).take i).find? g = some j) : j < x := by
  obtain ⟨hi, e⟩ := List.getElem?_eq_some_iff.1 hx
  have hm : j ∈ (elems s).take i := List.mem_of_find?_eq_some hj
  obtain ⟨k, hk, e2⟩ := List.getElem_of_mem hm
  rw [List.length_take] at hk
  rw [List.getElem_take] at e2
  have := List.pairwise_iff_getElem.1 (elems_sorted s) k i (by omega) hi (by omega)
  omega
end Go.Proofs.YticngcjfofcoiaaDoor
