/- The contract of before: it tells the earlier of two dates and times. -/
import Derived.Test.YtkbdgelfjdahpaaOffW
namespace Go.Proofs.Ytkbdgelfjdahpaa
open Go.RowKit Go.Rg Go.Shelf
set_option linter.unusedVariables false
set_option linter.unusedSimpArgs false

def lex (x y : Nat → Int) : Nat → Nat → Bool
  | 0, _ => false
  | n + 1, k => if x k = y k then lex x y n (k + 1) else decide (x k < y k)
def five (a0 a1 a2 a3 a4 : Int) : Nat → Int
  | 0 => a0
  | 1 => a1
  | 2 => a2
  | 3 => a3
  | _ => a4
def bef (a0 a1 a2 a3 a4 b0 b1 b2 b3 b4 : Int) : Bool := lex (five a0 a1 a2 a3 a4) (five b0 b1 b2 b3 b4) 5 0
theorem five_at (a0 a1 a2 a3 a4 : Int) (k : Nat) (h : k < 5) : (#[Value.int .i64 a0, .int .i64 a1, .int .i64 a2, .int .i64 a3, .int .i64 a4] : Array Value)[k]? = some (.int .i64 (five a0 a1 a2 a3 a4 k)) := by
  have : k = 0 ∨ k = 1 ∨ k = 2 ∨ k = 3 ∨ k = 4 := by omega
  rcases this with rfl | rfl | rfl | rfl | rfl <;> rfl

set_option maxRecDepth 100000 in
set_option maxHeartbeats 4000000 in
theorem before_any (a0 a1 a2 a3 a4 a5 b0 b1 b2 b3 b4 b5 : Int) (w : World) :
    Calls Try.prog 21 #[.agg #[.int .i64 a0, .int .i64 a1, .int .i64 a2, .int .i64 a3, .int .i64 a4, .int .i64 a5], .agg #[.int .i64 b0, .int .i64 b1, .int .i64 b2, .int .i64 b3, .int .i64 b4, .int .i64 b5]] w fun e w' => e = .returned (.bool (bef a0 a1 a2 a3 a4 b0 b1 b2 b3 b4)) ∧ Below w.heap.size w w' := by
  go_enter Try.func21, Try.ntmps21
  go_wp2_with fail
  have kX := heap_old (o := .cells #[.int .i64 b0, .int .i64 b1, .int .i64 b2, .int .i64 b3, .int .i64 b4] 3) (heap_new (o := .cells #[.int .i64 a0, .int .i64 a1, .int .i64 a2, .int .i64 a3, .int .i64 a4] 3) (W := ((w.alloc (.cells #[.int .i64 a0, .int .i64 a1, .int .i64 a2, .int .i64 a3, .int .i64 a4, .int .i64 a5] 23)).alloc (.cells #[.int .i64 b0, .int .i64 b1, .int .i64 b2, .int .i64 b3, .int .i64 b4, .int .i64 b5] 23))) (k := w.heap.size + 1 + 1) (by simp))
  have kY := heap_new (o := .cells #[.int .i64 b0, .int .i64 b1, .int .i64 b2, .int .i64 b3, .int .i64 b4] 3) (W := (((w.alloc (.cells #[.int .i64 a0, .int .i64 a1, .int .i64 a2, .int .i64 a3, .int .i64 a4, .int .i64 a5] 23)).alloc (.cells #[.int .i64 b0, .int .i64 b1, .int .i64 b2, .int .i64 b3, .int .i64 b4, .int .i64 b5] 23))).alloc (.cells #[.int .i64 a0, .int .i64 a1, .int .i64 a2, .int .i64 a3, .int .i64 a4] 3)) (k := w.heap.size + 1 + 1 + 1) (by simp)
  have hB := ((((Below.refl w.heap.size w).alloc (Nat.le_refl _) (.cells #[.int .i64 a0, .int .i64 a1, .int .i64 a2, .int .i64 a3, .int .i64 a4, .int .i64 a5] 23)).alloc (by simp) (.cells #[.int .i64 b0, .int .i64 b1, .int .i64 b2, .int .i64 b3, .int .i64 b4, .int .i64 b5] 23)).alloc (by simp; omega) (.cells #[.int .i64 a0, .int .i64 a1, .int .i64 a2, .int .i64 a3, .int .i64 a4] 3)).alloc (by simp; omega) (.cells #[.int .i64 b0, .int .i64 b1, .int .i64 b2, .int .i64 b3, .int .i64 b4] 3)
  generalize w.heap.size + 1 + 1 + 1 = BY at *
  generalize w.heap.size + 1 + 1 = BX at *
  generalize (((w.alloc (.cells #[.int .i64 a0, .int .i64 a1, .int .i64 a2, .int .i64 a3, .int .i64 a4, .int .i64 a5] 23)).alloc (.cells #[.int .i64 b0, .int .i64 b1, .int .i64 b2, .int .i64 b3, .int .i64 b4, .int .i64 b5] 23)).alloc (.cells #[.int .i64 a0, .int .i64 a1, .int .i64 a2, .int .i64 a3, .int .i64 a4] 3)).alloc (.cells #[.int .i64 b0, .int .i64 b1, .int .i64 b2, .int .i64 b3, .int .i64 b4] 3) = V at *
  generalize hx : five a0 a1 a2 a3 a4 = xs
  generalize hy : five b0 b1 b2 b3 b4 = ys
  go_loopw [7] (fun iv wr => ∃ k : Nat, k ≤ 5 ∧ iv = .int .i64 k ∧ lex xs ys 5 0 = lex xs ys (5 - k) k ∧ Below w.heap.size w wr ∧ wr.heap[BX]? = some (.cells #[.int .i64 a0, .int .i64 a1, .int .i64 a2, .int .i64 a3, .int .i64 a4] 3) ∧ wr.heap[BY]? = some (.cells #[.int .i64 b0, .int .i64 b1, .int .i64 b2, .int .i64 b3, .int .i64 b4] 3)) (fun iv wr => 10 - (intOf iv).toNat)
  case atStart => exact ⟨0, by omega, rfl, rfl, hB, kX, kY⟩
  case round =>
    clear hB kX kY
    obtain ⟨k, hk, rfl, hl, hB, kX, kY⟩ := hrel
    by_cases hk5 : k < 5
    · have hkI : (k : Int) < 5 := by omega
      have ca := five_at a0 a1 a2 a3 a4 k hk5
      have cb := five_at b0 b1 b2 b3 b4 k hk5
      rw [hx] at ca
      rw [hy] at cb
      have cX := cell_ext (cell_of kX ca)
      have cY := cell_ext (cell_of kY cb)
      go_wp2_with fail
      refine region_ext (by kernel_rfl) (by kernel_rfl) ?_
      repeat (go_big_quiet_step (fail))
      refine wpQuiet_nil ?_
      rintro w' ⟨X, rfl⟩
      replace kX := block_ext kX X
      replace kY := block_ext kY X
      replace hB := hB.trans (X.2.below (fun k _ h => h) hB.size)
      obtain ⟨V2, hV2⟩ := X
      dsimp only at kX kY hB ⊢
      clear hV2 cX cY
      have hs : 5 - k = (5 - (k + 1)) + 1 := by omega
      rw [hs] at hl
      have hst : lex xs ys (5 - (k + 1) + 1) k = if xs k = ys k then lex xs ys (5 - (k + 1)) (k + 1) else decide (xs k < ys k) := rfl
      rw [hst] at hl
      by_cases hxy : xs k = ys k
      · have hq : (xs k != ys k) = false := by simp [hxy]
        rw [if_pos hxy] at hl
        go_wp2_with fail
        exact ⟨⟨k + 1, by omega, by go_num, hl, hB, kX, kY⟩, by simp [intOf]; omega⟩
      · have hq : (xs k != ys k) = true := by simp [hxy]
        rw [if_neg hxy] at hl
        have cX := cell_ext (cell_of kX ca)
        have cY := cell_ext (cell_of kY cb)
        go_wp2_with fail
        refine region_ext (by kernel_rfl) (by kernel_rfl) ?_
        repeat (go_big_quiet_step (fail))
        refine wpQuiet_nil ?_
        rintro w' ⟨X, rfl⟩
        replace hB := hB.trans (X.2.below (fun k _ h => h) hB.size)
        obtain ⟨V3, hV3⟩ := X
        dsimp only at hB ⊢
        clear hV3 cX cY
        go_wp2_with fail
        go_ret
        exact ⟨ret_bool (by unfold bef; rw [hx, hy]; exact hl.symm), hB⟩
    · obtain rfl : k = 5 := by omega
      go_wp2_with fail
      go_ret
      exact ⟨ret_bool (by unfold bef; rw [hx, hy]; exact hl.symm), hB⟩
end Go.Proofs.Ytkbdgelfjdahpaa
