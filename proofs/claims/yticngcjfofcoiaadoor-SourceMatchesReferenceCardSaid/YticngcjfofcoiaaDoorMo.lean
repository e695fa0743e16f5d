/- The contract of most: the least number of a cut. -/
import Derived.Test.YticngcjfofcoiaaDoorFw
namespace Go.Proofs.YticngcjfofcoiaaDoor
open Go.RowKit Go.Rg Go.Proofs.YticngcjfofcoiaaDoorW.PrintWords
set_option linter.unusedVariables false
set_option linter.unusedSimpArgs false
structure NxOk (nx : Nat → List Nat) : Prop where
 lt : ∀ i, i < 12 → ∀ v ∈ nx i, v < 12
 irr : ∀ i, i ∉ nx i
theorem NxOk.fit {nx : Nat → List Nat} (h : NxOk nx) (sd o x : Nat) : Flow.Fit (netOf nx sd o x) :=
 ⟨by show 2 ≤ 12; omega, fun i => by
  show (nx i).contains i = false
  rw [← Bool.not_eq_true]
  intro hc
  exact h.irr i (by simpa using hc)⟩
set_option maxRecDepth 100000 in
theorem most_any (WB : Nat) (nx : Nat → List Nat) (og sd wo o x : Nat) (W : World) (hW : WebX WB nx og sd wo W) (hnx : NxOk nx) (ho : o < 4096) (hx : x < 4096) (hwo : wo < 4096) (hsd : sd < 4096) :
  Calls Tryd.prog 64 #[.pointer (some ⟨WB, 0, none⟩), .int .u16 o, .int .u16 x] W fun e W' => e = .returned (.int .i64 (Flow.mc (netOf nx sd o (x ||| wo)))) ∧ Below W.heap.size W W' := by
 have hC := flow_any WB nx og sd wo o x W hW hnx.lt ho hx hwo hsd
 have HC := Lib.hid hC; clear hC hW
 have HF := Lib.hid (hnx.fit sd o (x ||| wo))
 go_enter Tryd.func64, Tryd.ntmps64
 go_wp2_with fail
 refine HC.out.mono ?_
 rintro e w1 ⟨n, NB, R, rfl, h1, h2, h3, h4⟩
 have HN := Lib.hid (And.intro (Flow.flow_mc HF.out h2 h3) h4); clear h1 h2 h3 h4
 go_wp2_with fail
 go_ret
 exact ⟨ret_int (by rw [HN.out.1]), HN.out.2⟩
end Go.Proofs.YticngcjfofcoiaaDoor
