/- The reference's Minute refuses what is no date and time. -/
import Derived.Test.YtkbdgelfjdahpaaRparts
import Derived.Test.YtkbdgelfjdahpaaMin
namespace Go.Proofs.Ytkbdgelfjdahpaa
open Go.RowKit Go.Rg Go.Shelf
set_option linter.unusedVariables false
set_option linter.unusedSimpArgs false

set_option maxRecDepth 100000 in
set_option maxHeartbeats 2000000 in
theorem rmin_bad6 (y m d h mi wd o : Int) (w : World) (n0 : 1999 ≤ y) (n1 : y ≤ 2200) (n2 : 1 ≤ m) (n3 : m ≤ 12) (n4 : 1 ≤ d) (n5 : d ≤ days y m) (c6 : h < 0) :
    Calls Try.prog 16 #[civil y m d h mi wd, .int .i64 o] w fun e w' => e = .returned (.tuple #[.int .i64 0, .int .i64 60]) ∧ Below w.heap.size w w' := by
  unfold civil
  have t0 : decide (y < 1999) = false := by simp; omega
  have t1 : decide (2200 < y) = false := by simp; omega
  have t2 : decide (m < 1) = false := by simp; omega
  have t3 : decide (12 < m) = false := by simp; omega
  have t4 : decide (d < 1) = false := by simp; omega
  have t5 : decide (days y m < d) = false := by simp; omega
  go_enter Try.func16, Try.ntmps16
  go_wp2_with fail
  have hb0 := heap_new (o := .cells #[.int .i64 y, .int .i64 m, .int .i64 d, .int .i64 h, .int .i64 mi, .int .i64 wd] 23) (W := w) rfl
  have hB := (Below.refl w.heap.size w).alloc (Nat.le_refl _) (.cells #[.int .i64 y, .int .i64 m, .int .i64 d, .int .i64 h, .int .i64 mi, .int .i64 wd] 23)
  generalize w.alloc (.cells #[.int .i64 y, .int .i64 m, .int .i64 d, .int .i64 h, .int .i64 mi, .int .i64 wd] 23) = W0 at hb0 hB ⊢
  have e0 := cell_ext (cell_of (o := 0) hb0 rfl)
  have e1 := cell_ext (cell_of (o := 1) hb0 rfl)
  have e2 := cell_ext (cell_of (o := 2) hb0 rfl)
  have e3 := cell_ext (cell_of (o := 3) hb0 rfl)
  have e4 := cell_ext (cell_of (o := 4) hb0 rfl)
  refine region_ext (by kernel_rfl) (by kernel_rfl) ?_
  repeat (go_big_quiet_step ((go_at_call 20; with_reducible exact call_ext (rdays_any _ _ _))))
  refine wpQuiet_nil ?_
  rintro W' ⟨⟨W1, hF1⟩, rfl⟩
  clear e0 e1 e2 e3 e4
  go_wp2_with fail
  go_ret2
  exact ⟨rfl, hB.trans (hF1.below (fun k _ h => h) hB.size)⟩

set_option maxRecDepth 100000 in
set_option maxHeartbeats 2000000 in
theorem rmin_bad7 (y m d h mi wd o : Int) (w : World) (n0 : 1999 ≤ y) (n1 : y ≤ 2200) (n2 : 1 ≤ m) (n3 : m ≤ 12) (n4 : 1 ≤ d) (n5 : d ≤ days y m) (n6 : 0 ≤ h) (c7 : 23 < h) :
    Calls Try.prog 16 #[civil y m d h mi wd, .int .i64 o] w fun e w' => e = .returned (.tuple #[.int .i64 0, .int .i64 60]) ∧ Below w.heap.size w w' := by
  unfold civil
  have t0 : decide (y < 1999) = false := by simp; omega
  have t1 : decide (2200 < y) = false := by simp; omega
  have t2 : decide (m < 1) = false := by simp; omega
  have t3 : decide (12 < m) = false := by simp; omega
  have t4 : decide (d < 1) = false := by simp; omega
  have t5 : decide (days y m < d) = false := by simp; omega
  have t6 : decide (h < 0) = false := by simp; omega
  go_enter Try.func16, Try.ntmps16
  go_wp2_with fail
  have hb0 := heap_new (o := .cells #[.int .i64 y, .int .i64 m, .int .i64 d, .int .i64 h, .int .i64 mi, .int .i64 wd] 23) (W := w) rfl
  have hB := (Below.refl w.heap.size w).alloc (Nat.le_refl _) (.cells #[.int .i64 y, .int .i64 m, .int .i64 d, .int .i64 h, .int .i64 mi, .int .i64 wd] 23)
  generalize w.alloc (.cells #[.int .i64 y, .int .i64 m, .int .i64 d, .int .i64 h, .int .i64 mi, .int .i64 wd] 23) = W0 at hb0 hB ⊢
  have e0 := cell_ext (cell_of (o := 0) hb0 rfl)
  have e1 := cell_ext (cell_of (o := 1) hb0 rfl)
  have e2 := cell_ext (cell_of (o := 2) hb0 rfl)
  have e3 := cell_ext (cell_of (o := 3) hb0 rfl)
  have e4 := cell_ext (cell_of (o := 4) hb0 rfl)
  refine region_ext (by kernel_rfl) (by kernel_rfl) ?_
  repeat (go_big_quiet_step ((go_at_call 20; with_reducible exact call_ext (rdays_any _ _ _))))
  refine wpQuiet_nil ?_
  rintro W' ⟨⟨W1, hF1⟩, rfl⟩
  clear e0 e1 e2 e3 e4
  go_wp2_with fail
  go_ret2
  exact ⟨rfl, hB.trans (hF1.below (fun k _ h => h) hB.size)⟩

set_option maxRecDepth 100000 in
set_option maxHeartbeats 2000000 in
theorem rmin_bad8 (y m d h mi wd o : Int) (w : World) (n0 : 1999 ≤ y) (n1 : y ≤ 2200) (n2 : 1 ≤ m) (n3 : m ≤ 12) (n4 : 1 ≤ d) (n5 : d ≤ days y m) (n6 : 0 ≤ h) (n7 : h ≤ 23) (c8 : mi < 0) :
    Calls Try.prog 16 #[civil y m d h mi wd, .int .i64 o] w fun e w' => e = .returned (.tuple #[.int .i64 0, .int .i64 60]) ∧ Below w.heap.size w w' := by
  unfold civil
  have t0 : decide (y < 1999) = false := by simp; omega
  have t1 : decide (2200 < y) = false := by simp; omega
  have t2 : decide (m < 1) = false := by simp; omega
  have t3 : decide (12 < m) = false := by simp; omega
  have t4 : decide (d < 1) = false := by simp; omega
  have t5 : decide (days y m < d) = false := by simp; omega
  have t6 : decide (h < 0) = false := by simp; omega
  have t7 : decide (23 < h) = false := by simp; omega
  go_enter Try.func16, Try.ntmps16
  go_wp2_with fail
  have hb0 := heap_new (o := .cells #[.int .i64 y, .int .i64 m, .int .i64 d, .int .i64 h, .int .i64 mi, .int .i64 wd] 23) (W := w) rfl
  have hB := (Below.refl w.heap.size w).alloc (Nat.le_refl _) (.cells #[.int .i64 y, .int .i64 m, .int .i64 d, .int .i64 h, .int .i64 mi, .int .i64 wd] 23)
  generalize w.alloc (.cells #[.int .i64 y, .int .i64 m, .int .i64 d, .int .i64 h, .int .i64 mi, .int .i64 wd] 23) = W0 at hb0 hB ⊢
  have e0 := cell_ext (cell_of (o := 0) hb0 rfl)
  have e1 := cell_ext (cell_of (o := 1) hb0 rfl)
  have e2 := cell_ext (cell_of (o := 2) hb0 rfl)
  have e3 := cell_ext (cell_of (o := 3) hb0 rfl)
  have e4 := cell_ext (cell_of (o := 4) hb0 rfl)
  refine region_ext (by kernel_rfl) (by kernel_rfl) ?_
  repeat (go_big_quiet_step ((go_at_call 20; with_reducible exact call_ext (rdays_any _ _ _))))
  refine wpQuiet_nil ?_
  rintro W' ⟨⟨W1, hF1⟩, rfl⟩
  clear e0 e1 e2 e3 e4
  go_wp2_with fail
  go_ret2
  exact ⟨rfl, hB.trans (hF1.below (fun k _ h => h) hB.size)⟩

set_option maxRecDepth 100000 in
set_option maxHeartbeats 2000000 in
theorem rmin_bad9 (y m d h mi wd o : Int) (w : World) (n0 : 1999 ≤ y) (n1 : y ≤ 2200) (n2 : 1 ≤ m) (n3 : m ≤ 12) (n4 : 1 ≤ d) (n5 : d ≤ days y m) (n6 : 0 ≤ h) (n7 : h ≤ 23) (n8 : 0 ≤ mi) (c9 : 59 < mi) :
    Calls Try.prog 16 #[civil y m d h mi wd, .int .i64 o] w fun e w' => e = .returned (.tuple #[.int .i64 0, .int .i64 60]) ∧ Below w.heap.size w w' := by
  unfold civil
  have t0 : decide (y < 1999) = false := by simp; omega
  have t1 : decide (2200 < y) = false := by simp; omega
  have t2 : decide (m < 1) = false := by simp; omega
  have t3 : decide (12 < m) = false := by simp; omega
  have t4 : decide (d < 1) = false := by simp; omega
  have t5 : decide (days y m < d) = false := by simp; omega
  have t6 : decide (h < 0) = false := by simp; omega
  have t7 : decide (23 < h) = false := by simp; omega
  have t8 : decide (mi < 0) = false := by simp; omega
  go_enter Try.func16, Try.ntmps16
  go_wp2_with fail
  have hb0 := heap_new (o := .cells #[.int .i64 y, .int .i64 m, .int .i64 d, .int .i64 h, .int .i64 mi, .int .i64 wd] 23) (W := w) rfl
  have hB := (Below.refl w.heap.size w).alloc (Nat.le_refl _) (.cells #[.int .i64 y, .int .i64 m, .int .i64 d, .int .i64 h, .int .i64 mi, .int .i64 wd] 23)
  generalize w.alloc (.cells #[.int .i64 y, .int .i64 m, .int .i64 d, .int .i64 h, .int .i64 mi, .int .i64 wd] 23) = W0 at hb0 hB ⊢
  have e0 := cell_ext (cell_of (o := 0) hb0 rfl)
  have e1 := cell_ext (cell_of (o := 1) hb0 rfl)
  have e2 := cell_ext (cell_of (o := 2) hb0 rfl)
  have e3 := cell_ext (cell_of (o := 3) hb0 rfl)
  have e4 := cell_ext (cell_of (o := 4) hb0 rfl)
  refine region_ext (by kernel_rfl) (by kernel_rfl) ?_
  repeat (go_big_quiet_step ((go_at_call 20; with_reducible exact call_ext (rdays_any _ _ _))))
  refine wpQuiet_nil ?_
  rintro W' ⟨⟨W1, hF1⟩, rfl⟩
  clear e0 e1 e2 e3 e4
  go_wp2_with fail
  go_ret2
  exact ⟨rfl, hB.trans (hF1.below (fun k _ h => h) hB.size)⟩

set_option maxRecDepth 100000 in
set_option maxHeartbeats 2000000 in
theorem rmin_bad10 (y m d h mi wd o : Int) (w : World) (n0 : 1999 ≤ y) (n1 : y ≤ 2200) (n2 : 1 ≤ m) (n3 : m ≤ 12) (n4 : 1 ≤ d) (n5 : d ≤ days y m) (n6 : 0 ≤ h) (n7 : h ≤ 23) (n8 : 0 ≤ mi) (n9 : mi ≤ 59) (c10 : o < -840) :
    Calls Try.prog 16 #[civil y m d h mi wd, .int .i64 o] w fun e w' => e = .returned (.tuple #[.int .i64 0, .int .i64 60]) ∧ Below w.heap.size w w' := by
  unfold civil
  have t0 : decide (y < 1999) = false := by simp; omega
  have t1 : decide (2200 < y) = false := by simp; omega
  have t2 : decide (m < 1) = false := by simp; omega
  have t3 : decide (12 < m) = false := by simp; omega
  have t4 : decide (d < 1) = false := by simp; omega
  have t5 : decide (days y m < d) = false := by simp; omega
  have t6 : decide (h < 0) = false := by simp; omega
  have t7 : decide (23 < h) = false := by simp; omega
  have t8 : decide (mi < 0) = false := by simp; omega
  have t9 : decide (59 < mi) = false := by simp; omega
  go_enter Try.func16, Try.ntmps16
  go_wp2_with fail
  have hb0 := heap_new (o := .cells #[.int .i64 y, .int .i64 m, .int .i64 d, .int .i64 h, .int .i64 mi, .int .i64 wd] 23) (W := w) rfl
  have hB := (Below.refl w.heap.size w).alloc (Nat.le_refl _) (.cells #[.int .i64 y, .int .i64 m, .int .i64 d, .int .i64 h, .int .i64 mi, .int .i64 wd] 23)
  generalize w.alloc (.cells #[.int .i64 y, .int .i64 m, .int .i64 d, .int .i64 h, .int .i64 mi, .int .i64 wd] 23) = W0 at hb0 hB ⊢
  have e0 := cell_ext (cell_of (o := 0) hb0 rfl)
  have e1 := cell_ext (cell_of (o := 1) hb0 rfl)
  have e2 := cell_ext (cell_of (o := 2) hb0 rfl)
  have e3 := cell_ext (cell_of (o := 3) hb0 rfl)
  have e4 := cell_ext (cell_of (o := 4) hb0 rfl)
  refine region_ext (by kernel_rfl) (by kernel_rfl) ?_
  repeat (go_big_quiet_step ((go_at_call 20; with_reducible exact call_ext (rdays_any _ _ _))))
  refine wpQuiet_nil ?_
  rintro W' ⟨⟨W1, hF1⟩, rfl⟩
  clear e0 e1 e2 e3 e4
  go_wp2_with fail
  go_ret2
  exact ⟨rfl, hB.trans (hF1.below (fun k _ h => h) hB.size)⟩

set_option maxRecDepth 100000 in
set_option maxHeartbeats 2000000 in
theorem rmin_bad11 (y m d h mi wd o : Int) (w : World) (n0 : 1999 ≤ y) (n1 : y ≤ 2200) (n2 : 1 ≤ m) (n3 : m ≤ 12) (n4 : 1 ≤ d) (n5 : d ≤ days y m) (n6 : 0 ≤ h) (n7 : h ≤ 23) (n8 : 0 ≤ mi) (n9 : mi ≤ 59) (n10 : -840 ≤ o) (c11 : 840 < o) :
    Calls Try.prog 16 #[civil y m d h mi wd, .int .i64 o] w fun e w' => e = .returned (.tuple #[.int .i64 0, .int .i64 60]) ∧ Below w.heap.size w w' := by
  unfold civil
  have t0 : decide (y < 1999) = false := by simp; omega
  have t1 : decide (2200 < y) = false := by simp; omega
  have t2 : decide (m < 1) = false := by simp; omega
  have t3 : decide (12 < m) = false := by simp; omega
  have t4 : decide (d < 1) = false := by simp; omega
  have t5 : decide (days y m < d) = false := by simp; omega
  have t6 : decide (h < 0) = false := by simp; omega
  have t7 : decide (23 < h) = false := by simp; omega
  have t8 : decide (mi < 0) = false := by simp; omega
  have t9 : decide (59 < mi) = false := by simp; omega
  have t10 : decide (o < -840) = false := by simp; omega
  go_enter Try.func16, Try.ntmps16
  go_wp2_with fail
  have hb0 := heap_new (o := .cells #[.int .i64 y, .int .i64 m, .int .i64 d, .int .i64 h, .int .i64 mi, .int .i64 wd] 23) (W := w) rfl
  have hB := (Below.refl w.heap.size w).alloc (Nat.le_refl _) (.cells #[.int .i64 y, .int .i64 m, .int .i64 d, .int .i64 h, .int .i64 mi, .int .i64 wd] 23)
  generalize w.alloc (.cells #[.int .i64 y, .int .i64 m, .int .i64 d, .int .i64 h, .int .i64 mi, .int .i64 wd] 23) = W0 at hb0 hB ⊢
  have e0 := cell_ext (cell_of (o := 0) hb0 rfl)
  have e1 := cell_ext (cell_of (o := 1) hb0 rfl)
  have e2 := cell_ext (cell_of (o := 2) hb0 rfl)
  have e3 := cell_ext (cell_of (o := 3) hb0 rfl)
  have e4 := cell_ext (cell_of (o := 4) hb0 rfl)
  refine region_ext (by kernel_rfl) (by kernel_rfl) ?_
  repeat (go_big_quiet_step ((go_at_call 20; with_reducible exact call_ext (rdays_any _ _ _))))
  refine wpQuiet_nil ?_
  rintro W' ⟨⟨W1, hF1⟩, rfl⟩
  clear e0 e1 e2 e3 e4
  go_wp2_with fail
  go_ret2
  exact ⟨rfl, hB.trans (hF1.below (fun k _ h => h) hB.size)⟩
end Go.Proofs.Ytkbdgelfjdahpaa
