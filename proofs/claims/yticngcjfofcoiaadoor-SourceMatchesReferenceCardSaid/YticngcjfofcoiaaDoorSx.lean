/- Types of source that the walks meet. -/
import Derived.Test.YticngcjfofcoiaaDoorProg
import Derived.Below
import Derived.Deep.Draws
import Derived.Deep.AppendLies
import Derived.Maps.AppendAt
import Derived.OwnWalk
import Derived.Laws.BytesArg
import Derived.Laws.MakeOwn
import Derived.Laws.OwnMore
import Derived.Deep.OwnRows
import Derived.Tactics
import Derived.Lib.ConvBytes
import Derived.Laws.Slices
import Derived.WalkKit
import Derived.KernelRfl
import Derived.RowKit3
import Derived.Deep.LoopGhost
import Derived.Deep.QuietTactic
import Derived.BigQuiet
import Derived.WideLaws
import Derived.Deep.DeepCutAuto
import Derived.Deep.CutBlock
import Derived.Deep.RegionHeld3
import Derived.Laws.Rows
import Derived.Lib.AppendStr
import Derived.ArgAppend
import Derived.Laws.IdiomCopy
import Derived.OrdersHeld
import Derived.Laws.BitsLemmas
import Derived.RowKit
import Derived.Test.YticngcjfofcoiaaDoorWWords
import Derived.Deep.MidRow
import Derived.Deep.WholeRow
import Derived.WalkLawsBesides
import Derived.WalkSpells
import Derived.Outline
import Derived.Lib.Hide
import Derived.Test.YticngcjfofcoiaaDoorZa
namespace Go.Proofs.YticngcjfofcoiaaDoor
open Go.RowKit Go.Rg Go.Proofs.YticngcjfofcoiaaDoorW.PrintWords
set_option linter.unusedVariables false
set_option linter.unusedSimpArgs false
theorem wrap_in {x : Int} (h0 : -9223372036854775808 ≤ x) (h1 : x ≤ 9223372036854775807) : wrap64 x = x := by unfold wrap64; omega
theorem ret_bool {a b : Bool} (h : a = b) : Ending.returned (.bool a) = .returned (.bool b) := by rw [h]
theorem ret_int {k : IntKind} {a b : Int} (h : a = b) : Ending.returned (.int k a) = .returned (.int k b) := by rw [h]
theorem beqD (a b : Int) : (a == b) = decide (a = b) := by by_cases h : a = b <;> simp [h]
theorem bneD (a b : Int) : (a != b) = decide (a ≠ b) := by by_cases h : a = b <;> simp [h]
theorem meas_up {k N : Nat} (h : k < N) (hw : wrap64 ((k : Int) + 1) = (k : Int) + 1) : N - (intOf (Value.int IntKind.i64 (wrap64 ((k : Int) + 1)))).toNat < N - (intOf (Value.int IntKind.i64 (k : Int))).toNat := by
 rw [hw]
 simp only [intOf]
 omega
theorem wraps_u16 (n : Int) (h₀ : 0 ≤ n) (h₁ : n < 2 ^ 16) : IntKind.u16.wrap n = n := by
 unfold IntKind.wrap
 simp [IntKind.signed, IntKind.bits]
 omega
theorem and_u16 (a b : Nat) (ha : a < 2 ^ 16) (hb : b < 2 ^ 16) : Go.bits .and .u16 (a : Int) (b : Int) = ((a &&& b : Nat) : Int) := (bits_nat .u16 16 (by decide) wraps_u16 a b ha hb).1
theorem or_u16 (a b : Nat) (ha : a < 2 ^ 16) (hb : b < 2 ^ 16) : Go.bits .or .u16 (a : Int) (b : Int) = ((a ||| b : Nat) : Int) := (bits_nat .u16 16 (by decide) wraps_u16 a b ha hb).2
theorem shr_u16 (x k : Nat) (hx : x < 65536) : (Go.bits .and .u16 ((x : Int) / 2 ^ k) 1 == 1) = x.testBit k := by
 have h1 : ((x : Int) / 2 ^ k) = ((x / 2 ^ k : Nat) : Int) := by simp
 have h2 := Nat.div_le_self x (2 ^ k)
 have h3 := and_u16 (x / 2 ^ k) 1 (by omega) (by decide)
 rw [h1, show ((1 : Int)) = ((1 : Nat) : Int) from rfl, h3]
 rw [Nat.testBit_eq_decide_div_mod_eq, Nat.and_one_is_mod]
 rw [beqD]
 exact decide_eq_decide.2 (by omega)
set_option maxRecDepth 100000 in
theorem has_any (s id : Nat) (hs : s < 65536) (hi : id < 16) (w : World) : Calls Tryd.prog 42 #[.int .u16 s, .int .i64 id] w fun e w' => e = .returned (.bool (s.testBit id)) ∧ w' = w := by
 have hi64 : (id : Int) < 64 := by omega
 go_enter Tryd.func42, Tryd.ntmps42
 go_wp2_with fail
 go_ret
 exact ⟨ret_bool (shr_u16 s id hs), rfl⟩
end Go.Proofs.YticngcjfofcoiaaDoor
