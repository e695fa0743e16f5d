/- The values of the example. -/
import Derived.Test.YticngcjfofcoiaaDoorEv
namespace Go.Proofs.YticngcjfofcoiaaDoor
open Go.RowKit Go.Rg Go.Proofs.YticngcjfofcoiaaDoorW.PrintWords
set_option linter.unusedVariables false
set_option linter.unusedSimpArgs false

def ex : List Src := [⟨0, 1, []⟩, ⟨1, 2, []⟩, ⟨2, 1, [0]⟩, ⟨3, 1, [0, 1]⟩, ⟨4, 1, [5]⟩, ⟨5, 1, [4]⟩]
def nxT (i : Nat) : List Nat := [[2, 3], [3], [], [], [5], [4]].getD i []
theorem ex_nx : nxL ex = nxT := by
  funext i
  match i with
  | 0 => decide
  | 1 => decide
  | 2 => decide
  | 3 => decide
  | 4 => decide
  | 5 => decide
  | (n + 6) => simp [nxL, ex, addF, upd, nxT]
theorem ex_og : ogL ex = 3 := by decide +kernel
theorem ex_valid : validS ex = true := by decide +kernel
theorem nxT_ok : NxOk nxT := by rw [← ex_nx]; exact valid_nx ex_valid
theorem ex_web (xs : List Int) (wo : Nat) : webOf ex xs wo = netOf nxT (sdL xs) 3 wo := by unfold webOf; rw [ex_nx, ex_og]
theorem ex_cnt {xs : List Int} {wo n : Nat} (hg : givenB ex xs = true) (hw : wo < 4096) (h : mcQ nxT (sdL xs) 3 wo = some n) : cntS ex xs wo = n := by
  unfold cntS
  rw [if_pos hg, ex_web]
  exact mcQ_spec nxT_ok (by decide) hw h
theorem ex_ways {xs : List Int} {wo n : Nat} {ps : List (List Nat)} (hg : givenB ex xs = true) (hw : wo < 4096) (h : mcQ nxT (sdL xs) 3 wo = some n) (h1 : leastQ nxT (sdL xs) 3 wo n 0 = some ps) : waysS ex xs wo = ps := by
  unfold waysS
  rw [if_pos hg, ex_web, mcQ_spec nxT_ok (by decide) hw h]
  exact leastQ_spec nxT_ok (by decide) hw n 0 (by decide) h1
theorem ex_cut {xs : List Int} {wo n d : Nat} (hg : givenB ex xs = true) (hw : wo < 4096) (hd : d < 4096) (h : mcQ nxT (sdL xs) 3 wo = some n) (h1 : firstQ nxT (sdL xs) 3 wo d n = true) : cutS ex xs wo = elems d := by
  unfold cutS
  rw [if_pos hg, ex_web]
  exact firstQ_spec nxT_ok (by decide) hw hd (mcQ_spec nxT_ok (by decide) hw h) h1
theorem ex_a : cntS ex [2, 3] 0 = 2 ∧ waysS ex [2, 3] 0 = [[0, 2], [1, 3]] ∧ cutS ex [2, 3] 0 = [0, 1] ∧ errS ex [2, 3] = 0 :=
  have hg : givenB ex [2, 3] = true := by decide +kernel
  have hm : mcQ nxT (sdL [2, 3]) 3 0 = some 2 := by decide +kernel
  ⟨ex_cnt hg (by decide) hm, ex_ways hg (by decide) hm (by decide +kernel), (ex_cut hg (by decide) (d := 3) (by decide) hm (by decide +kernel)).trans (by decide), by decide +kernel⟩
theorem ex_b : cntS ex [0, 2] 0 = 1 ∧ waysS ex [0, 2] 0 = [[0]] ∧ cutS ex [0, 2] 0 = [0] ∧ errS ex [0, 2] = 0 :=
  have hg : givenB ex [0, 2] = true := by decide +kernel
  have hm : mcQ nxT (sdL [0, 2]) 3 0 = some 1 := by decide +kernel
  ⟨ex_cnt hg (by decide) hm, ex_ways hg (by decide) hm (by decide +kernel), (ex_cut hg (by decide) (d := 1) (by decide) hm (by decide +kernel)).trans (by decide), by decide +kernel⟩
theorem ex_c : cntS ex [4, 5] 0 = 0 ∧ errS ex [4, 5] = 0 :=
  have hg : givenB ex [4, 5] = true := by decide +kernel
  ⟨ex_cnt hg (by decide) (by decide +kernel), by decide +kernel⟩
theorem ex_wo : woL ex = 2 := by decide +kernel
theorem ex_d : cntS ex [2, 3] 2 = 1 :=
  have hg : givenB ex [2, 3] = true := by decide +kernel
  ex_cnt hg (by decide) (by decide +kernel)
theorem ex_e : errS ex [6] = 70 := by decide +kernel
theorem ex_from {x o r : Nat} (ho : 2 ^ o < 4096) (h : rq nxT (2 ^ o) 0 = some r) : fromB ex x o = r.testBit x := by
  unfold fromB
  rw [ex_nx]
  exact rch_spec nxT_ok 0 ho (by decide) h x
theorem ex_org3 : orgL ex 3 = [0, 1] := by
  unfold orgL
  rw [if_pos (by decide +kernel), ex_og, show elems 3 = [0, 1] by decide, show (3 : Int).toNat = 3 from rfl]
  rw [List.filter_cons, ex_from (r := 13) (by decide) (by decide +kernel), List.filter_cons, ex_from (r := 10) (by decide) (by decide +kernel)]
  rfl
theorem ex_org4 : orgL ex 4 = [] := by
  unfold orgL
  rw [if_pos (by decide +kernel), ex_og, show elems 3 = [0, 1] by decide, show (4 : Int).toNat = 4 from rfl]
  rw [List.filter_cons, ex_from (r := 13) (by decide) (by decide +kernel), List.filter_cons, ex_from (r := 10) (by decide) (by decide +kernel)]
  rfl
theorem ex_orgE : orgE ex 3 = 0 ∧ orgE ex 4 = 0 := by decide +kernel
theorem ex_find : fndS ex 3 = some ⟨3, 1, [0, 1]⟩ ∧ fndS ex 7 = none := by decide +kernel
theorem ex_dead : deadB ex [2, 3] [0, 1] = true := by
  unfold deadB
  rw [ex_nx, ex_og, decide_eq_true_eq, set_rch nxT_ok (sdL [2, 3]) (by decide) (by decide) (r := 0) (by decide +kernel)]
  rfl
theorem ex_check : checkB ex [2, 3] 2 [[0, 2], [1, 3]] [0, 1] = true := by
  unfold checkB
  rw [ex_dead]
  decide +kernel
theorem ex_check2 : checkB ex [2, 3] 1 [[0]] [0] = false := by
  unfold checkB
  rw [show waysB ex [2, 3] [[0]] = false by decide +kernel]
  simp
theorem ex_same : decide (ex = ex) = true ∧ decide (ex = ex.take 3) = false := by decide +kernel
end Go.Proofs.YticngcjfofcoiaaDoor
