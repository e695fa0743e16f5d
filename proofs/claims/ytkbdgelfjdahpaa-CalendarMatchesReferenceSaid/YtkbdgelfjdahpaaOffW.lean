/- The walk of CalendarOffsets: it returns true at every input. -/
import Derived.Test.YtkbdgelfjdahpaaPlain
namespace Go.Proofs.Ytkbdgelfjdahpaa
open Go.RowKit Go.Rg Go.Shelf
set_option linter.unusedVariables false
set_option linter.unusedSimpArgs false

/-- Parts, by the minute T behind the first of January 1999. -/
theorem parts_at (m o T : Int) (hT : m + o + 525600 = T) (n : Nat) (w : World) (hm : 0 ≤ m ∧ m ≤ 50000000) (ho : -840 ≤ o ∧ o ≤ 840) (hn : n < 1400) (h1 : before n ≤ T / 1440) (h2 : T / 1440 < before (n + 1)) :
    Calls Try.prog 11 #[.int .i64 m, .int .i64 o] w fun e w' => e = .returned (.tuple #[.agg #[.int .i64 (my n), .int .i64 (mm n), .int .i64 (T / 1440 - before n + 1), .int .i64 (T % 1440 / 60), .int .i64 (T % 60), .int .i64 ((T / 1440 + 4) % 7)], .int .i64 0]) ∧ Below w.heap.size w w' := by
  subst hT
  exact parts_yes m o n w (by unfold okB; simp; omega) (by omega) h1 h2

set_option maxRecDepth 100000 in
set_option maxHeartbeats 2000000 in
theorem offsets_any (minute one two : Int) (w : World) (a1 : -9223372036854775808 ≤ minute ∧ minute ≤ 9223372036854775807) (a2 : -9223372036854775808 ≤ one ∧ one ≤ 9223372036854775807) (a3 : -9223372036854775808 ≤ two ∧ two ≤ 9223372036854775807) :
    Calls Try.prog 7 #[.int .i64 minute, .int .i64 one, .int .i64 two] w fun e w' => e = .returned (.bool true) ∧ Below w.heap.size w w' := by
  have p1 := pk_bd minute 49996000 (by omega)
  have p2 := pk_bd one 1681 (by omega)
  have p3 := pk_bd two 1681 (by omega)
  go_enter Try.func7, Try.ntmps7
  go_wp2_with fail
  refine (sane_any _).mono ?_
  rintro e w1 ⟨rfl, hB⟩
  go_wp2_with fail
  refine (pick_any minute 49996000 _ a1.1 a1.2 (by omega) (by omega)).mono ?_
  rintro e w2 ⟨rfl, rfl⟩
  generalize pk minute 49996000 = M at *
  go_wp2_with fail
  refine (pick_any one 1681 _ a2.1 a2.2 (by omega) (by omega)).mono ?_
  rintro e w2 ⟨rfl, rfl⟩
  generalize pk one 1681 = O at *
  go_wp2_with fail
  refine (pick_any two 1681 _ a3.1 a3.2 (by omega) (by omega)).mono ?_
  rintro e w2 ⟨rfl, rfl⟩
  generalize pk two 1681 = P at *
  clear a1 a2 a3
  go_wp2_with fail
  obtain ⟨T, hT⟩ : ∃ T, 2000 + M + (P - 840) + 525600 = T := ⟨_, rfl⟩
  obtain ⟨S, hS⟩ : ∃ S, 2000 + M + (O - 840) + 525600 = S := ⟨_, rfl⟩
  obtain ⟨n, hn, n1, n2⟩ := month_at (T / 1440) (by omega) (by omega)
  obtain ⟨k, hk, k1, k2⟩ := month_at (S / 1440) (by omega) (by omega)
  have cA := parts_at (2000 + M) (P - 840) T hT n w1 (by omega) (by omega) hn n1 n2
  have cB := fun w => parts_at (2000 + M + (P - 840) - (O - 840)) (O - 840) T (by omega) n w (by omega) (by omega) hn n1 n2
  have cC := fun w => parts_at (2000 + M) (O - 840) S hS k w (by omega) (by omega) hk k1 k2
  have hm := back_min T (O - 840) n hn (by omega) (by omega) n1 n2 (by omega)
  rw [show T - (O - 840) - 525600 = 2000 + M + (P - 840) - (O - 840) by omega] at hm
  have cM := fun w => minute_any (my n) (mm n) (T / 1440 - before n + 1) (T % 1440 / 60) (T % 60) ((T / 1440 + 4) % 7) (O - 840) w
  rw [hm] at cM
  have hd : ((T / 1440 + 4) % 7 - (S / 1440 + 4) % 7 + 7) % 7 ≤ 2 ∨ (¬ ((T / 1440 + 4) % 7 - (S / 1440 + 4) % 7 + 7) % 7 ≤ 2 ∧ 5 ≤ ((T / 1440 + 4) % 7 - (S / 1440 + 4) % 7 + 7) % 7) := by omega
  have b1 : 0 ≤ (T / 1440 + 4) % 7 ∧ (T / 1440 + 4) % 7 < 7 := by omega
  have b2 : 0 ≤ (S / 1440 + 4) % 7 ∧ (S / 1440 + 4) % 7 < 7 := by omega
  clear hm
  unfold civil at cM
  generalize my n = y at *
  generalize mm n = mo at *
  generalize T / 1440 - before n + 1 = d at *
  generalize T % 1440 / 60 = h at *
  generalize T % 60 = mi at *
  generalize (T / 1440 + 4) % 7 = wd at *
  generalize my k = y2 at *
  generalize mm k = mo2 at *
  generalize S / 1440 - before k + 1 = d2 at *
  generalize S % 1440 / 60 = h2 at *
  generalize S % 60 = mi2 at *
  generalize (S / 1440 + 4) % 7 = wd2 at *
  clear n1 n2 k1 k2 hn hk hT hS
  go_wp2_with fail
  refine cA.mono ?_
  clear cA
  rintro e w2 ⟨rfl, hb⟩
  replace hB := hB.trans (hb.mono hB.size)
  clear hb
  go_wp2_with fail
  replace hB := hB.alloc hB.size (.cells #[.int .i64 y, .int .i64 mo, .int .i64 d, .int .i64 h, .int .i64 mi, .int .i64 wd] 23)
  have kA := heap_new (o := .cells #[.int .i64 y, .int .i64 mo, .int .i64 d, .int .i64 h, .int .i64 mi, .int .i64 wd] 23) (W := w2) rfl
  generalize w2.heap.size = B1 at *
  generalize w2.alloc (.cells #[.int .i64 y, .int .i64 mo, .int .i64 d, .int .i64 h, .int .i64 mi, .int .i64 wd] 23) = V1 at *
  refine (cB _).mono ?_
  clear cB
  rintro e w3 ⟨rfl, hb⟩
  replace kA := (hb.block _ (Array.getElem?_eq_some_iff.1 kA).1).trans kA
  replace hB := hB.trans (hb.mono hB.size)
  clear hb
  go_wp2_with fail
  replace kA := heap_old (o := .cells #[.int .i64 y, .int .i64 mo, .int .i64 d, .int .i64 h, .int .i64 mi, .int .i64 wd] 23) kA
  replace hB := hB.alloc hB.size (.cells #[.int .i64 y, .int .i64 mo, .int .i64 d, .int .i64 h, .int .i64 mi, .int .i64 wd] 23)
  have kB := heap_new (o := .cells #[.int .i64 y, .int .i64 mo, .int .i64 d, .int .i64 h, .int .i64 mi, .int .i64 wd] 23) (W := w3) rfl
  generalize w3.heap.size = B2 at *
  generalize w3.alloc (.cells #[.int .i64 y, .int .i64 mo, .int .i64 d, .int .i64 h, .int .i64 mi, .int .i64 wd] 23) = V2 at *
  refine (cC _).mono ?_
  clear cC
  rintro e w4 ⟨rfl, hb⟩
  replace kA := (hb.block _ (Array.getElem?_eq_some_iff.1 kA).1).trans kA
  replace kB := (hb.block _ (Array.getElem?_eq_some_iff.1 kB).1).trans kB
  replace hB := hB.trans (hb.mono hB.size)
  clear hb
  replace kA := heap_old (o := .cells #[.int .i64 y2, .int .i64 mo2, .int .i64 d2, .int .i64 h2, .int .i64 mi2, .int .i64 wd2] 23) kA
  replace kB := heap_old (o := .cells #[.int .i64 y2, .int .i64 mo2, .int .i64 d2, .int .i64 h2, .int .i64 mi2, .int .i64 wd2] 23) kB
  replace hB := hB.alloc hB.size (.cells #[.int .i64 y2, .int .i64 mo2, .int .i64 d2, .int .i64 h2, .int .i64 mi2, .int .i64 wd2] 23)
  have kC := heap_new (o := .cells #[.int .i64 y2, .int .i64 mo2, .int .i64 d2, .int .i64 h2, .int .i64 mi2, .int .i64 wd2] 23) (W := w4) rfl
  have a0 := (fun o v => cell_of (o := o) (v := v) kA) 0 _ rfl
  have a1 := (fun o v => cell_of (o := o) (v := v) kA) 1 _ rfl
  have a2 := (fun o v => cell_of (o := o) (v := v) kA) 2 _ rfl
  have a3 := (fun o v => cell_of (o := o) (v := v) kA) 3 _ rfl
  have a4 := (fun o v => cell_of (o := o) (v := v) kA) 4 _ rfl
  have a5 := (fun o v => cell_of (o := o) (v := v) kA) 5 _ rfl
  go_wp2_with fail
  generalize w4.heap.size = B3 at *
  generalize w4.alloc (.cells #[.int .i64 y2, .int .i64 mo2, .int .i64 d2, .int .i64 h2, .int .i64 mi2, .int .i64 wd2] 23) = V3 at *
  refine (cM _).mono ?_
  clear cM a0 a1 a2 a3 a4 a5
  rintro e w5 ⟨rfl, hb⟩
  replace kA := (hb.block _ (Array.getElem?_eq_some_iff.1 kA).1).trans kA
  replace kB := (hb.block _ (Array.getElem?_eq_some_iff.1 kB).1).trans kB
  replace kC := (hb.block _ (Array.getElem?_eq_some_iff.1 kC).1).trans kC
  replace hB := hB.trans (hb.mono hB.size)
  clear hb
  have a0 := (fun o v => cell_of (o := o) (v := v) kA) 0 _ rfl
  have a1 := (fun o v => cell_of (o := o) (v := v) kA) 1 _ rfl
  have a2 := (fun o v => cell_of (o := o) (v := v) kA) 2 _ rfl
  have a3 := (fun o v => cell_of (o := o) (v := v) kA) 3 _ rfl
  have a4 := (fun o v => cell_of (o := o) (v := v) kA) 4 _ rfl
  have a5 := (fun o v => cell_of (o := o) (v := v) kA) 5 _ rfl
  have b0 := (fun o v => cell_of (o := o) (v := v) kB) 0 _ rfl
  have b1 := (fun o v => cell_of (o := o) (v := v) kB) 1 _ rfl
  have b2 := (fun o v => cell_of (o := o) (v := v) kB) 2 _ rfl
  have b3 := (fun o v => cell_of (o := o) (v := v) kB) 3 _ rfl
  have b4 := (fun o v => cell_of (o := o) (v := v) kB) 4 _ rfl
  have b5 := (fun o v => cell_of (o := o) (v := v) kB) 5 _ rfl
  have c5 := (fun o v => cell_of (o := o) (v := v) kC) 5 _ rfl
  clear kA kB kC
  have q1 : (2000 + M + (P - 840) - (O - 840) - (2000 + M) == P - 840 - (O - 840)) = true := by simp; omega
  have hd2 : (wd - wd2) % 7 ≤ 2 ∨ (¬ (wd - wd2) % 7 ≤ 2 ∧ 5 ≤ (wd - wd2) % 7) := by omega
  clear hd
  rcases hd2 with hd | ⟨hd, hd2⟩
  · go_wp2_with fail
    go_ret
    exact ⟨rfl, hB⟩
  · go_wp2_with fail
    go_ret
    exact ⟨rfl, hB⟩
end Go.Proofs.Ytkbdgelfjdahpaa
