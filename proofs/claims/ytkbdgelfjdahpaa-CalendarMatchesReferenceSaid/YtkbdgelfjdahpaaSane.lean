/- The contracts of sane and pick. -/
import Derived.Test.YtkbdgelfjdahpaaRead
import Derived.Test.YtkbdgelfjdahpaaPrint
import Derived.Test.YtkbdgelfjdahpaaMin
namespace Go.Proofs.Ytkbdgelfjdahpaa
open Go.RowKit Go.Rg Go.Shelf
set_option linter.unusedVariables false
set_option linter.unusedSimpArgs false

def pk (c n : Int) : Int := (if c < 0 then -(c + 1) else c) % n
theorem pk_bd (c n : Int) (hn : 0 < n) : 0 ≤ pk c n ∧ pk c n < n := by
  unfold pk; exact ⟨Int.emod_nonneg _ (by omega), Int.emod_lt_of_pos _ hn⟩

theorem pick_any (c n : Int) (w : World) (hc : -9223372036854775808 ≤ c) (hc2 : c ≤ 9223372036854775807) (hn : 0 < n) (hn2 : n ≤ 1000000000) :
    Calls Try.prog 10 #[.int .i64 c, .int .i64 n] w fun e w' => e = .returned (.int .i64 (pk c n)) ∧ w = w' := by
  have hne : (n == 0) = false := by simp; omega
  by_cases h : c < 0
  · have hpk : pk c n = (-(c + 1)) % n := by unfold pk; rw [if_pos h]
    have H := Lib.hid hpk
    clear hpk
    go_enter Try.func10, Try.ntmps10
    go_wp2
    go_ret
    refine ⟨?_, rfl⟩
    rw [H.out, ← Int.tmod_eq_emod_of_nonneg (show 0 ≤ -(c + 1) by omega), Int.neg_tmod]
    rfl
  · have hpk : pk c n = c % n := by unfold pk; rw [if_neg h]
    have H := Lib.hid hpk
    clear hpk
    go_enter Try.func10, Try.ntmps10
    go_wp2
    go_ret
    exact ⟨by rw [H.out]; rfl, rfl⟩

theorem s_parts1 (w : World) : Calls Try.prog 11 #[.int .i64 0, .int .i64 0] w fun e w' => e = .returned (.tuple #[civil 2000 1 1 0 0 5, .int .i64 0]) ∧ Below w.heap.size w w' := by
  have := parts_yes 0 0 12 w (by decide) (by decide) (by decide +kernel) (by decide +kernel)
  rw [show (my 12) = 2000 by decide, show mm 12 = 1 by decide, show (0 + 0 + 525600) / 1440 - before 12 + 1 = (1 : Int) by decide +kernel] at this
  exact this
theorem s_parts2 (w : World) : Calls Try.prog 11 #[.int .i64 0, .int .i64 (-60)] w fun e w' => e = .returned (.tuple #[civil 1999 12 31 23 0 4, .int .i64 0]) ∧ Below w.heap.size w w' := by
  have := parts_yes 0 (-60) 11 w (by decide) (by decide) (by decide +kernel) (by decide +kernel)
  rw [show (my 11) = 1999 by decide, show mm 11 = 12 by decide, show (0 + -60 + 525600) / 1440 - before 11 + 1 = (31 : Int) by decide +kernel] at this
  exact this
theorem s_print (w : World) : Calls Try.prog 13 #[.int .i64 84960, .int .i64 60] w fun e w' => e = .returned (.tuple #[.string ⟨#[50, 48, 48, 48, 45, 48, 50, 45, 50, 57]⟩, .string ⟨#[48, 49, 58, 48, 48]⟩, .int .i64 0]) ∧ Below w.heap.size w w' := by
  have := print_yes 84960 60 13 w (by decide) (by decide) (by decide +kernel) (by decide +kernel)
  rw [show strOfNums (dateL (my 13) (mm 13) ((84960 + 60 + 525600) / 1440 - before 13 + 1)) = ⟨#[50, 48, 48, 48, 45, 48, 50, 45, 50, 57]⟩ by decide +kernel, show strOfNums (clockL ((84960 + 60 + 525600) % 1440 / 60) ((84960 + 60 + 525600) % 60)) = ⟨#[48, 49, 58, 48, 48]⟩ by decide +kernel] at this
  exact this
theorem s_minute (w : World) : Calls Try.prog 15 #[.agg #[.int .i64 2000, .int .i64 1, .int .i64 2, .int .i64 0, .int .i64 1, .int .i64 6], .int .i64 0] w fun e w' => e = .returned (.tuple #[.int .i64 1441, .int .i64 0]) ∧ Below w.heap.size w w' := by
  have := minute_any 2000 1 2 0 1 6 0 w
  rw [show minRes 2000 1 2 0 1 6 0 = .tuple #[.int .i64 1441, .int .i64 0] by
    unfold minRes; rw [if_pos (by decide +kernel), show atN 2000 1 2 0 1 0 = 1441 by decide +kernel]] at this
  exact this

theorem s_read1 (w : World) : Calls Try.prog 17 #[.string ⟨#[50, 48, 48, 48, 45, 48, 50, 45, 50, 57]⟩, .string ⟨#[48, 49, 58, 48, 48]⟩, .int .i64 60] w fun e w' => e = .returned (.tuple #[.int .i64 84960, .int .i64 0]) ∧ Below w.heap.size w w' := by
  have := read_any ⟨#[50, 48, 48, 48, 45, 48, 50, 45, 50, 57]⟩ ⟨#[48, 49, 58, 48, 48]⟩ 60 w (by decide) (by decide)
  rw [show readRes ⟨#[50, 48, 48, 48, 45, 48, 50, 45, 50, 57]⟩ ⟨#[48, 49, 58, 48, 48]⟩ 60 = .tuple #[.int .i64 84960, .int .i64 0] by
    unfold readRes
    rw [if_pos ⟨by decide, by decide, by unfold wf; decide +kernel, by decide +kernel, by decide +kernel⟩]
    rw [show atN (n4 (joined ⟨#[50, 48, 48, 48, 45, 48, 50, 45, 50, 57]⟩ ⟨#[48, 49, 58, 48, 48]⟩) 0) (n2 (joined ⟨#[50, 48, 48, 48, 45, 48, 50, 45, 50, 57]⟩ ⟨#[48, 49, 58, 48, 48]⟩) 5) (n2 (joined ⟨#[50, 48, 48, 48, 45, 48, 50, 45, 50, 57]⟩ ⟨#[48, 49, 58, 48, 48]⟩) 8) (n2 (joined ⟨#[50, 48, 48, 48, 45, 48, 50, 45, 50, 57]⟩ ⟨#[48, 49, 58, 48, 48]⟩) 11) (n2 (joined ⟨#[50, 48, 48, 48, 45, 48, 50, 45, 50, 57]⟩ ⟨#[48, 49, 58, 48, 48]⟩) 14) 60 = 84960 by decide +kernel]] at this
  exact this
theorem s_read2 (w : World) : Calls Try.prog 17 #[.string ⟨#[50, 48, 48, 48, 45, 48, 50, 45, 51, 48]⟩, .string ⟨#[48, 48, 58, 48, 48]⟩, .int .i64 0] w fun e w' => e = .returned (.tuple #[.int .i64 0, .int .i64 60]) ∧ Below w.heap.size w w' := by
  have := read_any ⟨#[50, 48, 48, 48, 45, 48, 50, 45, 51, 48]⟩ ⟨#[48, 48, 58, 48, 48]⟩ 0 w (by decide) (by decide)
  rw [show readRes ⟨#[50, 48, 48, 48, 45, 48, 50, 45, 51, 48]⟩ ⟨#[48, 48, 58, 48, 48]⟩ 0 = .tuple #[.int .i64 0, .int .i64 60] by
    unfold readRes
    rw [if_neg (fun h => absurd h.2.2.2.1 (by decide +kernel))]] at this
  exact this
theorem s_read3 (w : World) : Calls Try.prog 17 #[.string ⟨#[49, 57, 57, 57, 45, 49, 50, 45, 51, 49]⟩, .string ⟨#[50, 51, 58, 53, 57]⟩, .int .i64 0] w fun e w' => e = .returned (.tuple #[.int .i64 0, .int .i64 60]) ∧ Below w.heap.size w w' := by
  have := read_any ⟨#[49, 57, 57, 57, 45, 49, 50, 45, 51, 49]⟩ ⟨#[50, 51, 58, 53, 57]⟩ 0 w (by decide) (by decide)
  rw [show readRes ⟨#[49, 57, 57, 57, 45, 49, 50, 45, 51, 49]⟩ ⟨#[50, 51, 58, 53, 57]⟩ 0 = .tuple #[.int .i64 0, .int .i64 60] by
    unfold readRes
    rw [if_neg (fun h => absurd h.2.2.2.2 (by decide +kernel))]] at this
  exact this

set_option maxRecDepth 100000 in
set_option maxHeartbeats 2000000 in
theorem sane_any (w : World) : Calls Try.prog 9 #[] w fun e w' => e = .returned (.bool true) ∧ Below w.heap.size w w' := by
  go_enter Try.func9, Try.ntmps9
  go_wp2_with fail
  refine (s_parts1 _).mono ?_
  rintro e w1 ⟨rfl, hb1⟩
  unfold civil
  go_wp2_with fail
  have hB := hb1.alloc hb1.size (.cells #[.int .i64 2000, .int .i64 1, .int .i64 1, .int .i64 0, .int .i64 0, .int .i64 5] 23)
  have kA := heap_new (o := .cells #[.int .i64 2000, .int .i64 1, .int .i64 1, .int .i64 0, .int .i64 0, .int .i64 5] 23) (W := w1) rfl
  generalize w1.heap.size = B1 at *
  generalize w1.alloc (.cells #[.int .i64 2000, .int .i64 1, .int .i64 1, .int .i64 0, .int .i64 0, .int .i64 5] 23) = V1 at *
  clear hb1
  refine (s_parts2 _).mono ?_
  rintro e w2 ⟨rfl, hb⟩
  unfold civil
  replace kA := (hb.block _ (Array.getElem?_eq_some_iff.1 kA).1).trans kA
  replace hB := hB.trans (hb.mono hB.size)
  clear hb
  go_wp2_with fail
  replace kA := heap_old (o := .cells #[.int .i64 1999, .int .i64 12, .int .i64 31, .int .i64 23, .int .i64 0, .int .i64 4] 23) kA
  replace hB := hB.alloc hB.size (.cells #[.int .i64 1999, .int .i64 12, .int .i64 31, .int .i64 23, .int .i64 0, .int .i64 4] 23)
  have kB := heap_new (o := .cells #[.int .i64 1999, .int .i64 12, .int .i64 31, .int .i64 23, .int .i64 0, .int .i64 4] 23) (W := w2) rfl
  generalize w2.heap.size = B2 at *
  generalize w2.alloc (.cells #[.int .i64 1999, .int .i64 12, .int .i64 31, .int .i64 23, .int .i64 0, .int .i64 4] 23) = V2 at *
  refine (s_print _).mono ?_
  rintro e u0 ⟨rfl, hb⟩
  replace kA := (hb.block _ (Array.getElem?_eq_some_iff.1 kA).1).trans kA
  replace kB := (hb.block _ (Array.getElem?_eq_some_iff.1 kB).1).trans kB
  replace hB := hB.trans (hb.mono hB.size)
  clear hb
  go_wp2_with fail
  refine (s_read1 _).mono ?_
  rintro e u1 ⟨rfl, hb⟩
  replace kA := (hb.block _ (Array.getElem?_eq_some_iff.1 kA).1).trans kA
  replace kB := (hb.block _ (Array.getElem?_eq_some_iff.1 kB).1).trans kB
  replace hB := hB.trans (hb.mono hB.size)
  clear hb
  go_wp2_with fail
  refine (s_read2 _).mono ?_
  rintro e u2 ⟨rfl, hb⟩
  replace kA := (hb.block _ (Array.getElem?_eq_some_iff.1 kA).1).trans kA
  replace kB := (hb.block _ (Array.getElem?_eq_some_iff.1 kB).1).trans kB
  replace hB := hB.trans (hb.mono hB.size)
  clear hb
  go_wp2_with fail
  refine (s_read3 _).mono ?_
  rintro e u3 ⟨rfl, hb⟩
  replace kA := (hb.block _ (Array.getElem?_eq_some_iff.1 kA).1).trans kA
  replace kB := (hb.block _ (Array.getElem?_eq_some_iff.1 kB).1).trans kB
  replace hB := hB.trans (hb.mono hB.size)
  clear hb
  go_wp2_with fail
  refine (s_minute _).mono ?_
  rintro e u4 ⟨rfl, hb⟩
  replace kA := (hb.block _ (Array.getElem?_eq_some_iff.1 kA).1).trans kA
  replace kB := (hb.block _ (Array.getElem?_eq_some_iff.1 kB).1).trans kB
  replace hB := hB.trans (hb.mono hB.size)
  clear hb
  have cA := fun o v => cell_of (o := o) (v := v) kA
  have a0 := cA 0 _ rfl
  have a1 := cA 1 _ rfl
  have a2 := cA 2 _ rfl
  have a3 := cA 3 _ rfl
  have a4 := cA 4 _ rfl
  have a5 := cA 5 _ rfl
  have cB := fun o v => cell_of (o := o) (v := v) kB
  have b0 := cB 0 _ rfl
  have b1 := cB 1 _ rfl
  have b2 := cB 2 _ rfl
  have b3 := cB 3 _ rfl
  have b4 := cB 4 _ rfl
  have b5 := cB 5 _ rfl
  clear cA cB kA kB
  go_wp2_with fail
  clear a0 a1 a2 a3 a4 a5 b0 b1 b2 b3 b4 b5
  refine (days_any 1900 2 _).mono ?_
  rintro e x0 ⟨rfl, hb⟩
  rw [show days 1900 2 = 28 by decide +kernel]
  replace hB := hB.trans (hb.mono hB.size)
  clear hb
  go_wp2_with fail
  refine (days_any 2000 2 _).mono ?_
  rintro e x1 ⟨rfl, hb⟩
  rw [show days 2000 2 = 29 by decide +kernel]
  replace hB := hB.trans (hb.mono hB.size)
  clear hb
  go_wp2_with fail
  refine (days_any 2001 13 _).mono ?_
  rintro e x2 ⟨rfl, hb⟩
  rw [show days 2001 13 = 0 by decide +kernel]
  replace hB := hB.trans (hb.mono hB.size)
  clear hb
  go_wp2_with fail
  go_ret
  exact ⟨rfl, hB⟩
end Go.Proofs.Ytkbdgelfjdahpaa
