/- The contracts of digits, at two and four digits, of the program and of the reference. -/
import Derived.Test.YtkbdgelfjdahpaaRg
import Derived.Test.YtkbdgelfjdahpaaProg
import Derived.KernelRfl
import Derived.WalkLawsBesides
import Derived.WalkSpells
import Derived.Outline
import Derived.Lib.Hide
import Derived.LoopN
import Derived.Laws.BytesArg
namespace Go.Proofs.Ytkbdgelfjdahpaa
open Go.RowKit Go.Rg Go.Shelf
set_option linter.unusedVariables false
set_option linter.unusedSimpArgs false

theorem conv_new (w : World) (xs : List Int) (n : Nat) (hn : xs.length = n) : (convert 48 9 (.slice (some ⟨w.heap.size, 0, none⟩) n n)).run Try.prog (w.alloc (.cells (xs.map (Value.int .u8)).toArray 5)) = .ok (.string (strOfNums xs)) (w.alloc (.cells (xs.map (Value.int .u8)).toArray 5)) :=
  run_convert_bytes_arg _ 48 5 Try.underlying48 Try.underlying5 _ 0 n n xs hn (fun i hi => cell_new (by simp [List.getD, hn, hi])) 9 Try.underlying9

def d2 (n : Int) : List Int := [48 + n / 10 % 10, 48 + n % 10]
def d4 (n : Int) : List Int := [48 + n / 10 / 10 / 10 % 10, 48 + n / 10 / 10 % 10, 48 + n / 10 % 10, 48 + n % 10]

theorem digits2 (n : Int) (w : World) (h0 : 0 ≤ n) (h1 : n ≤ 99999) :
    Calls Try.prog 25 #[.int .i64 n, .int .i64 2] w fun e w' => e = .returned (.string (strOfNums (d2 n))) ∧ Below w.heap.size w w' := by
  have hmk : ∀ w, (Instr.makeSlice 48 (.int .i64 2) (.int .i64 2)).run Try.prog w = .ok (.slice (some ⟨w.heap.size, 0, none⟩) 2 2) (w.alloc (.cells #[.int .u8 0, .int .u8 0] 5)) := fun _ => by kernel_rfl
  have hcv : ∀ x0 x1 : Int, (convert 48 9 (.slice (some ⟨w.heap.size, 0, none⟩) 2 2)).run Try.prog (w.alloc (.cells #[.int .u8 x0, .int .u8 x1] 5)) = .ok (.string (strOfNums [x0, x1])) (w.alloc (.cells #[.int .u8 x0, .int .u8 x1] 5)) := fun x0 x1 => conv_new w [x0, x1] 2 rfl
  go_enter Try.func25, Try.ntmps25
  go_wp2_with fail
  refine wp_loop_rounds 3 ?_
  rw [rounds_succ]
  go_wp2_with fail
  rw [rounds_succ]
  go_wp2_with fail
  rw [rounds_succ]
  go_wp2_with fail
  go_ret
  exact ⟨rfl, (Below.refl _ _).alloc (Nat.le_refl _) _⟩

theorem digits4 (n : Int) (w : World) (h0 : 0 ≤ n) (h1 : n ≤ 99999) :
    Calls Try.prog 25 #[.int .i64 n, .int .i64 4] w fun e w' => e = .returned (.string (strOfNums (d4 n))) ∧ Below w.heap.size w w' := by
  have hmk : ∀ w, (Instr.makeSlice 48 (.int .i64 4) (.int .i64 4)).run Try.prog w = .ok (.slice (some ⟨w.heap.size, 0, none⟩) 4 4) (w.alloc (.cells #[.int .u8 0, .int .u8 0, .int .u8 0, .int .u8 0] 5)) := fun _ => by kernel_rfl
  have hcv : ∀ x0 x1 x2 x3 : Int, (convert 48 9 (.slice (some ⟨w.heap.size, 0, none⟩) 4 4)).run Try.prog (w.alloc (.cells #[.int .u8 x0, .int .u8 x1, .int .u8 x2, .int .u8 x3] 5)) = .ok (.string (strOfNums [x0, x1, x2, x3])) (w.alloc (.cells #[.int .u8 x0, .int .u8 x1, .int .u8 x2, .int .u8 x3] 5)) := fun x0 x1 x2 x3 => conv_new w [x0, x1, x2, x3] 4 rfl
  go_enter Try.func25, Try.ntmps25
  go_wp2_with fail
  refine wp_loop_rounds 5 ?_
  rw [rounds_succ]
  go_wp2_with fail
  rw [rounds_succ]
  go_wp2_with fail
  rw [rounds_succ]
  go_wp2_with fail
  rw [rounds_succ]
  go_wp2_with fail
  rw [rounds_succ]
  go_wp2_with fail
  go_ret
  exact ⟨rfl, (Below.refl _ _).alloc (Nat.le_refl _) _⟩

theorem rdigits2 (n : Int) (w : World) (h0 : 0 ≤ n) (h1 : n ≤ 99999) :
    Calls Try.prog 26 #[.int .i64 n, .int .i64 2] w fun e w' => e = .returned (.string (strOfNums (d2 n))) ∧ Below w.heap.size w w' := by
  have hcv : ∀ (W : World) (g : Nat) (x : Int), W.heap.size = g → (convert 48 9 (.slice (some ⟨g, 0, none⟩) 1 1)).run Try.prog (W.alloc (.cells #[.int .u8 x] 5)) = .ok (.string (strOfNums [x])) (W.alloc (.cells #[.int .u8 x] 5)) := fun W g x hg => by subst hg; exact conv_new W [x] 1 rfl
  go_enter Try.func26, Try.ntmps26
  go_wp2_with fail
  refine wp_loop_rounds 3 ?_
  rw [rounds_succ]
  go_wp2_with fail
  rw [rounds_succ]
  go_wp2_with fail
  rw [rounds_succ]
  go_wp2_with fail
  go_ret
  refine ⟨by rfl, ?_⟩
  exact ((Below.refl _ _).alloc (Nat.le_refl _) _).alloc (by simp <;> omega) _

theorem rdigits4 (n : Int) (w : World) (h0 : 0 ≤ n) (h1 : n ≤ 99999) :
    Calls Try.prog 26 #[.int .i64 n, .int .i64 4] w fun e w' => e = .returned (.string (strOfNums (d4 n))) ∧ Below w.heap.size w w' := by
  have hcv : ∀ (W : World) (g : Nat) (x : Int), W.heap.size = g → (convert 48 9 (.slice (some ⟨g, 0, none⟩) 1 1)).run Try.prog (W.alloc (.cells #[.int .u8 x] 5)) = .ok (.string (strOfNums [x])) (W.alloc (.cells #[.int .u8 x] 5)) := fun W g x hg => by subst hg; exact conv_new W [x] 1 rfl
  go_enter Try.func26, Try.ntmps26
  go_wp2_with fail
  refine wp_loop_rounds 5 ?_
  rw [rounds_succ]
  go_wp2_with fail
  rw [rounds_succ]
  go_wp2_with fail
  rw [rounds_succ]
  go_wp2_with fail
  rw [rounds_succ]
  go_wp2_with fail
  rw [rounds_succ]
  go_wp2_with fail
  go_ret
  refine ⟨by rfl, ?_⟩
  exact ((((Below.refl _ _).alloc (Nat.le_refl _) _).alloc (by simp <;> omega) _).alloc (by simp <;> omega) _).alloc (by simp <;> omega) _

end Go.Proofs.Ytkbdgelfjdahpaa
