/- The walk of CalendarNext: it returns true at every input. -/
import Derived.Test.YtkbdgelfjdahpaaOffW
namespace Go.Proofs.Ytkbdgelfjdahpaa
open Go.RowKit Go.Rg Go.Shelf
set_option linter.unusedVariables false
set_option linter.unusedSimpArgs false

theorem next_month (q : Int) (n : Nat) (hn : n < 1400) (n1 : before n ≤ q) (n2 : q < before (n + 1)) :
    (q - before n + 1 ≠ days (my n) (mm n) ∧ before n ≤ q + 1 ∧ q + 1 < before (n + 1)) ∨
    (q - before n + 1 = days (my n) (mm n) ∧ q + 1 = before (n + 1) ∧ before (n + 1) < before (n + 1 + 1)) := by
  have h1 := before_step n
  have h2 := before_step (n + 1)
  have h3 := days_ge (k := n + 1) (by omega)
  by_cases h : q - before n + 1 = days (my n) (mm n)
  · exact .inr ⟨h, by omega, by omega⟩
  · exact .inl ⟨h, by omega, by omega⟩
theorem my_succ (n : Nat) : (mm n = 12 → my (n + 1) = my n + 1 ∧ mm (n + 1) = 1) ∧ (mm n ≠ 12 → my (n + 1) = my n ∧ mm (n + 1) = mm n + 1) := by
  unfold my mm; omega

/-- Parts of m at o is v. -/
def PartsC (m o : Int) (v : Value) : Prop :=
  ∀ w, Calls Try.prog 11 #[.int .i64 m, .int .i64 o] w fun e w' => e = .returned (.tuple #[v, .int .i64 0]) ∧ Below w.heap.size w w'
def DayCase (y mo d yc moc dc : Int) : Prop :=
  (d = days y mo ∧ mo = 12 ∧ yc = y + 1 ∧ moc = 1 ∧ dc = 1) ∨ (d = days y mo ∧ mo ≠ 12 ∧ y = yc ∧ moc = mo + 1 ∧ dc = 1) ∨ (d ≠ days y mo ∧ y = yc ∧ mo = moc ∧ dc = d + 1)
def NextCase (y mo d h mi wd yc moc dc wdc yb mob db hb mib wdb : Int) : Prop :=
  (mi = 59 ∧ h = 23 ∧ yc = yb ∧ moc = mob ∧ dc = db ∧ hb = 0 ∧ mib = 0 ∧ wdc = wdb) ∨
  (mi = 59 ∧ h ≠ 23 ∧ y = yb ∧ mo = mob ∧ d = db ∧ hb = h + 1 ∧ mib = 0 ∧ wd = wdb) ∨
  (mi ≠ 59 ∧ y = yb ∧ mo = mob ∧ d = db ∧ h = hb ∧ mib = mi + 1 ∧ wd = wdb)

theorem next_plain (m o : Int) (hm : 0 ≤ m ∧ m + 10080 ≤ 50000000) (ho : -840 ≤ o ∧ o ≤ 840) :
    ∃ y mo d h mi wd yc moc dc yb mob db hb mib wdb ye moe de,
      PartsC m o (civil y mo d h mi wd) ∧ PartsC (m + 1) o (civil yb mob db hb mib wdb) ∧ PartsC (m + 1440) o (civil yc moc dc h mi ((wd + 1) % 7)) ∧ PartsC (m + 10080) o (civil ye moe de h mi wd) ∧
      (0 ≤ wd ∧ wd < 7) ∧ (1 ≤ mo ∧ mo ≤ 12) ∧ (0 ≤ h ∧ h ≤ 23) ∧ (0 ≤ mi ∧ mi ≤ 59) ∧ (1 ≤ d ∧ d ≤ 31) ∧ (1999 ≤ y ∧ y ≤ 9999) ∧
      DayCase y mo d yc moc dc ∧ NextCase y mo d h mi wd yc moc dc ((wd + 1) % 7) yb mob db hb mib wdb := by
  obtain ⟨T, hT⟩ : ∃ T, m + o + 525600 = T := ⟨_, rfl⟩
  obtain ⟨n, hn, n1, n2⟩ := month_at (T / 1440) (by omega) (by omega)
  obtain ⟨k, hk, k1, k2⟩ := month_at ((T + 10080) / 1440) (by omega) (by omega)
  have cA : PartsC m o _ := fun w => parts_at m o T hT n w (by omega) ho hn n1 n2
  have cD : PartsC (m + 10080) o _ := fun w => parts_at (m + 10080) o (T + 10080) (by omega) k w (by omega) ho hk k1 k2
  rw [show (T + 10080) % 1440 / 60 = T % 1440 / 60 by omega, show (T + 10080) % 60 = T % 60 by omega, show ((T + 10080) / 1440 + 4) % 7 = (T / 1440 + 4) % 7 by omega] at cD
  have hs := next_month (T / 1440) n hn n1 n2
  have hms := my_succ n
  have hdb := days_bd (my n) (mm n)
  have hdm := before_step n
  have hmm : 1 ≤ mm n ∧ mm n ≤ 12 := by unfold mm; omega
  have hmy : 1999 ≤ my n ∧ my n ≤ 9999 := by unfold my; omega
  have hdd : days (my n) (mm n) ≤ 31 := by
    unfold days; rw [if_pos ⟨by omega, by omega, hmm.1, hmm.2⟩]
    rcases twelve hmm.1 hmm.2 with h | h | h | h | h | h | h | h | h | h | h | h <;> rw [h] <;> simp [mlen] <;> split <;> omega
  have hc : ∃ j, j < 1400 ∧ before j ≤ T / 1440 + 1 ∧ T / 1440 + 1 < before (j + 1) ∧ DayCase (my n) (mm n) (T / 1440 - before n + 1) (my j) (mm j) (T / 1440 + 1 - before j + 1) := by
    rcases hs with ⟨a, b, c⟩ | ⟨a, b, c⟩
    · exact ⟨n, hn, b, c, .inr (.inr ⟨a, rfl, rfl, by omega⟩)⟩
    · have hj : n + 1 < 1400 := by
        have h : (40000 : Int) < before 1400 := by decide +kernel
        have := before_mono (a := 1400) (b := n + 1)
        omega
      by_cases e : mm n = 12
      · exact ⟨n + 1, hj, by omega, by omega, .inl ⟨a, e, (hms.1 e).1, (hms.1 e).2, by omega⟩⟩
      · exact ⟨n + 1, hj, by omega, by omega, .inr (.inl ⟨a, e, (hms.2 e).1.symm, (hms.2 e).2, by omega⟩)⟩
  obtain ⟨j, hj, j1, j2, hday⟩ := hc
  have cC : PartsC (m + 1440) o _ := fun w => parts_at (m + 1440) o (T + 1440) (by omega) j w (by omega) ho hj (by omega) (by omega)
  rw [show (T + 1440) / 1440 = T / 1440 + 1 by omega, show (T + 1440) % 1440 / 60 = T % 1440 / 60 by omega, show (T + 1440) % 60 = T % 60 by omega, show (T / 1440 + 1 + 4) % 7 = ((T / 1440 + 4) % 7 + 1) % 7 by omega] at cC
  have hb : ∃ yb mob db hb mib wdb, PartsC (m + 1) o (civil yb mob db hb mib wdb) ∧ NextCase (my n) (mm n) (T / 1440 - before n + 1) (T % 1440 / 60) (T % 60) ((T / 1440 + 4) % 7) (my j) (mm j) (T / 1440 + 1 - before j + 1) (((T / 1440 + 4) % 7 + 1) % 7) yb mob db hb mib wdb := by
    by_cases e1 : T % 60 = 59
    · by_cases e2 : T % 1440 / 60 = 23
      · have cB : PartsC (m + 1) o _ := fun w => parts_at (m + 1) o (T + 1) (by omega) j w (by omega) ho hj (by omega) (by omega)
        exact ⟨_, _, _, _, _, _, cB, .inl ⟨e1, e2, rfl, rfl, by omega, by omega, by omega, by omega⟩⟩
      · have cB : PartsC (m + 1) o _ := fun w => parts_at (m + 1) o (T + 1) (by omega) n w (by omega) ho hn (by omega) (by omega)
        exact ⟨_, _, _, _, _, _, cB, .inr (.inl ⟨e1, e2, rfl, rfl, by omega, by omega, by omega, by omega⟩)⟩
    · have cB : PartsC (m + 1) o _ := fun w => parts_at (m + 1) o (T + 1) (by omega) n w (by omega) ho hn (by omega) (by omega)
      exact ⟨_, _, _, _, _, _, cB, .inr (.inr ⟨e1, rfl, rfl, by omega, by omega, by omega, by omega⟩)⟩
  obtain ⟨yb, mob, db, hb, mib, wdb, cB, hnext⟩ := hb
  exact ⟨_, _, _, _, _, _, _, _, _, yb, mob, db, hb, mib, wdb, _, _, _, cA, cB, cC, cD, by omega, hmm, by omega, by omega, by omega, hmy, hday, hnext⟩

set_option maxRecDepth 100000 in
set_option maxHeartbeats 8000000 in
theorem next_any (minute offset : Int) (w : World) (a1 : -9223372036854775808 ≤ minute ∧ minute ≤ 9223372036854775807) (a2 : -9223372036854775808 ≤ offset ∧ offset ≤ 9223372036854775807) :
    Calls Try.prog 6 #[.int .i64 minute, .int .i64 offset] w fun e w' => e = .returned (.bool true) ∧ Below w.heap.size w w' := by
  have p1 := pk_bd minute 49989920 (by omega)
  have p2 := pk_bd offset 1681 (by omega)
  go_enter Try.func6, Try.ntmps6
  go_wp2_with fail
  refine (sane_any _).mono ?_
  rintro e w1 ⟨rfl, hB⟩
  go_wp2_with fail
  refine (pick_any minute 49989920 _ a1.1 a1.2 (by omega) (by omega)).mono ?_
  rintro e w2 ⟨rfl, rfl⟩
  generalize pk minute 49989920 = M at *
  go_wp2_with fail
  refine (pick_any offset 1681 _ a2.1 a2.2 (by omega) (by omega)).mono ?_
  rintro e w2 ⟨rfl, rfl⟩
  generalize pk offset 1681 = O at *
  clear a1 a2
  obtain ⟨y, mo, d, h, mi, wd, yc, moc, dc, yb, mob, db, hb, mib, wdb, ye, moe, de, cA, cB, cC, cD, b1, b2, b3, b4, b5, b6, hday, hnext⟩ := next_plain M (O - 840) (by omega) (by omega)
  unfold civil at cA cB cC cD
  go_wp2_with fail
  refine (cA _).mono ?_
  clear cA
  rintro e w2 ⟨rfl, hb⟩
  replace hB := hB.trans (hb.mono hB.size)
  clear hb
  go_wp2_with fail
  replace hB := hB.alloc hB.size (.cells #[.int .i64 y, .int .i64 mo, .int .i64 d, .int .i64 h, .int .i64 mi, .int .i64 wd] 23)
  have kA := heap_new (o := (.cells #[.int .i64 y, .int .i64 mo, .int .i64 d, .int .i64 h, .int .i64 mi, .int .i64 wd] 23)) (W := w2) rfl
  generalize w2.heap.size = BA at *
  generalize w2.alloc (.cells #[.int .i64 y, .int .i64 mo, .int .i64 d, .int .i64 h, .int .i64 mi, .int .i64 wd] 23) = VA at *
  go_wp2_with fail
  refine (cB _).mono ?_
  clear cB
  rintro e w2 ⟨rfl, hb⟩
  replace kA := (hb.block _ (Array.getElem?_eq_some_iff.1 kA).1).trans kA
  replace hB := hB.trans (hb.mono hB.size)
  clear hb
  go_wp2_with fail
  have lAB : BA < w2.heap.size := (Array.getElem?_eq_some_iff.1 kA).1
  have nAB : BA ≠ w2.heap.size := Nat.ne_of_lt lAB
  replace kA := heap_old (o := (.cells #[.int .i64 yb, .int .i64 mob, .int .i64 db, .int .i64 hb, .int .i64 mib, .int .i64 wdb] 23)) kA
  replace hB := hB.alloc hB.size (.cells #[.int .i64 yb, .int .i64 mob, .int .i64 db, .int .i64 hb, .int .i64 mib, .int .i64 wdb] 23)
  have kB := heap_new (o := (.cells #[.int .i64 yb, .int .i64 mob, .int .i64 db, .int .i64 hb, .int .i64 mib, .int .i64 wdb] 23)) (W := w2) rfl
  generalize w2.heap.size = BB at *
  generalize w2.alloc (.cells #[.int .i64 yb, .int .i64 mob, .int .i64 db, .int .i64 hb, .int .i64 mib, .int .i64 wdb] 23) = VB at *
  go_wp2_with fail
  refine (cC _).mono ?_
  clear cC
  rintro e w2 ⟨rfl, hb⟩
  replace kA := (hb.block _ (Array.getElem?_eq_some_iff.1 kA).1).trans kA
  replace kB := (hb.block _ (Array.getElem?_eq_some_iff.1 kB).1).trans kB
  replace hB := hB.trans (hb.mono hB.size)
  clear hb
  go_wp2_with fail
  have lAC : BA < w2.heap.size := (Array.getElem?_eq_some_iff.1 kA).1
  have nAC : BA ≠ w2.heap.size := Nat.ne_of_lt lAC
  replace kA := heap_old (o := (.cells #[.int .i64 yc, .int .i64 moc, .int .i64 dc, .int .i64 h, .int .i64 mi, .int .i64 ((wd + 1) % 7)] 23)) kA
  have lBC : BB < w2.heap.size := (Array.getElem?_eq_some_iff.1 kB).1
  have nBC : BB ≠ w2.heap.size := Nat.ne_of_lt lBC
  replace kB := heap_old (o := (.cells #[.int .i64 yc, .int .i64 moc, .int .i64 dc, .int .i64 h, .int .i64 mi, .int .i64 ((wd + 1) % 7)] 23)) kB
  replace hB := hB.alloc hB.size (.cells #[.int .i64 yc, .int .i64 moc, .int .i64 dc, .int .i64 h, .int .i64 mi, .int .i64 ((wd + 1) % 7)] 23)
  have kC := heap_new (o := (.cells #[.int .i64 yc, .int .i64 moc, .int .i64 dc, .int .i64 h, .int .i64 mi, .int .i64 ((wd + 1) % 7)] 23)) (W := w2) rfl
  generalize w2.heap.size = BC at *
  generalize w2.alloc (.cells #[.int .i64 yc, .int .i64 moc, .int .i64 dc, .int .i64 h, .int .i64 mi, .int .i64 ((wd + 1) % 7)] 23) = VC at *
  go_wp2_with fail
  refine (cD _).mono ?_
  clear cD
  rintro e w2 ⟨rfl, hb⟩
  replace kA := (hb.block _ (Array.getElem?_eq_some_iff.1 kA).1).trans kA
  replace kB := (hb.block _ (Array.getElem?_eq_some_iff.1 kB).1).trans kB
  replace kC := (hb.block _ (Array.getElem?_eq_some_iff.1 kC).1).trans kC
  replace hB := hB.trans (hb.mono hB.size)
  clear hb
  have lAD : BA < w2.heap.size := (Array.getElem?_eq_some_iff.1 kA).1
  have nAD : BA ≠ w2.heap.size := Nat.ne_of_lt lAD
  replace kA := heap_old (o := (.cells #[.int .i64 ye, .int .i64 moe, .int .i64 de, .int .i64 h, .int .i64 mi, .int .i64 wd] 23)) kA
  have lBD : BB < w2.heap.size := (Array.getElem?_eq_some_iff.1 kB).1
  have nBD : BB ≠ w2.heap.size := Nat.ne_of_lt lBD
  replace kB := heap_old (o := (.cells #[.int .i64 ye, .int .i64 moe, .int .i64 de, .int .i64 h, .int .i64 mi, .int .i64 wd] 23)) kB
  have lCD : BC < w2.heap.size := (Array.getElem?_eq_some_iff.1 kC).1
  have nCD : BC ≠ w2.heap.size := Nat.ne_of_lt lCD
  replace kC := heap_old (o := (.cells #[.int .i64 ye, .int .i64 moe, .int .i64 de, .int .i64 h, .int .i64 mi, .int .i64 wd] 23)) kC
  have lE : w.heap.size ≤ w2.heap.size + 1 := Nat.le_succ_of_le hB.size
  replace hB := hB.alloc hB.size (.cells #[.int .i64 ye, .int .i64 moe, .int .i64 de, .int .i64 h, .int .i64 mi, .int .i64 wd] 23)
  have kD := heap_new (o := (.cells #[.int .i64 ye, .int .i64 moe, .int .i64 de, .int .i64 h, .int .i64 mi, .int .i64 wd] 23)) (W := w2) rfl
  have z0 := (fun o v => cell_of (o := o) (v := v) kA) 0 _ rfl
  have z1 := (fun o v => cell_of (o := o) (v := v) kA) 1 _ rfl
  have z2 := (fun o v => cell_of (o := o) (v := v) kA) 2 _ rfl
  have z3 := (fun o v => cell_of (o := o) (v := v) kA) 3 _ rfl
  have z4 := (fun o v => cell_of (o := o) (v := v) kA) 4 _ rfl
  have z5 := (fun o v => cell_of (o := o) (v := v) kA) 5 _ rfl
  have mA : BA ≠ w2.heap.size + 1 := by omega
  have mB : BB ≠ w2.heap.size + 1 := by omega
  have mC : BC ≠ w2.heap.size + 1 := by omega
  have kx := heap_old (o := (.cells #[.int .i64 y, .int .i64 mo, .int .i64 d, .int .i64 h, .int .i64 mi, .int .i64 wd] 23)) kA
  have A0 := (fun o v => cell_of (o := o) (v := v) kx) 0 _ rfl
  have A1 := (fun o v => cell_of (o := o) (v := v) kx) 1 _ rfl
  have A2 := (fun o v => cell_of (o := o) (v := v) kx) 2 _ rfl
  have A3 := (fun o v => cell_of (o := o) (v := v) kx) 3 _ rfl
  have A4 := (fun o v => cell_of (o := o) (v := v) kx) 4 _ rfl
  have A5 := (fun o v => cell_of (o := o) (v := v) kx) 5 _ rfl
  clear kx
  have kx := heap_new (o := (.cells #[.int .i64 y, .int .i64 mo, .int .i64 d, .int .i64 h, .int .i64 mi, .int .i64 wd] 23)) (W := w2.alloc (.cells #[.int .i64 ye, .int .i64 moe, .int .i64 de, .int .i64 h, .int .i64 mi, .int .i64 wd] 23)) (k := w2.heap.size + 1) (by simp)
  have E0 := (fun o v => cell_of (o := o) (v := v) kx) 0 _ rfl
  have E1 := (fun o v => cell_of (o := o) (v := v) kx) 1 _ rfl
  have E2 := (fun o v => cell_of (o := o) (v := v) kx) 2 _ rfl
  have E3 := (fun o v => cell_of (o := o) (v := v) kx) 3 _ rfl
  have E4 := (fun o v => cell_of (o := o) (v := v) kx) 4 _ rfl
  have E5 := (fun o v => cell_of (o := o) (v := v) kx) 5 _ rfl
  clear kx
  go_wp2_with fail
  clear z0 z1 z2 z3 z4 z5 A0 A1 A2 A3 A4 A5 E0 E1 E2 E3 E4 E5
  replace kA := heap_old (o := (.cells #[.int .i64 y, .int .i64 mo, .int .i64 (d + 1), .int .i64 h, .int .i64 mi, .int .i64 ((wd + 1) % 7)] 23)) kA
  replace kB := heap_old (o := (.cells #[.int .i64 y, .int .i64 mo, .int .i64 (d + 1), .int .i64 h, .int .i64 mi, .int .i64 ((wd + 1) % 7)] 23)) kB
  replace kC := heap_old (o := (.cells #[.int .i64 y, .int .i64 mo, .int .i64 (d + 1), .int .i64 h, .int .i64 mi, .int .i64 ((wd + 1) % 7)] 23)) kC
  replace kD := heap_old (o := (.cells #[.int .i64 y, .int .i64 mo, .int .i64 (d + 1), .int .i64 h, .int .i64 mi, .int .i64 ((wd + 1) % 7)] 23)) kD
  have kE := heap_new (o := (.cells #[.int .i64 y, .int .i64 mo, .int .i64 (d + 1), .int .i64 h, .int .i64 mi, .int .i64 ((wd + 1) % 7)] 23)) (W := w2.alloc (.cells #[.int .i64 ye, .int .i64 moe, .int .i64 de, .int .i64 h, .int .i64 mi, .int .i64 wd] 23)) (k := w2.heap.size + 1) (by simp)
  replace hB := hB.alloc hB.size (.cells #[.int .i64 y, .int .i64 mo, .int .i64 (d + 1), .int .i64 h, .int .i64 mi, .int .i64 ((wd + 1) % 7)] 23)
  have mD : w2.heap.size ≠ w2.heap.size + 1 := by omega
  clear lAB lAC lBC lAD lBD lCD
  generalize w2.heap.size + 1 = BE at *
  generalize w2.heap.size = BD at *
  generalize (w2.alloc (.cells #[.int .i64 ye, .int .i64 moe, .int .i64 de, .int .i64 h, .int .i64 mi, .int .i64 wd] 23)).alloc (.cells #[.int .i64 y, .int .i64 mo, .int .i64 (d + 1), .int .i64 h, .int .i64 mi, .int .i64 ((wd + 1) % 7)] 23) = V at *
  have z0 := cell_ext ((fun o v => cell_of (o := o) (v := v) kA) 0 _ rfl)
  have z1 := cell_ext ((fun o v => cell_of (o := o) (v := v) kA) 1 _ rfl)
  have z2 := cell_ext ((fun o v => cell_of (o := o) (v := v) kA) 2 _ rfl)
  have z3 := cell_ext ((fun o v => cell_of (o := o) (v := v) kA) 3 _ rfl)
  have z4 := cell_ext ((fun o v => cell_of (o := o) (v := v) kA) 4 _ rfl)
  have z5 := cell_ext ((fun o v => cell_of (o := o) (v := v) kA) 5 _ rfl)
  refine region_ext (by kernel_rfl) (by kernel_rfl) ?_
  repeat (go_big_quiet_step ((go_at_call 19; with_reducible exact call_ext (days_any _ _ _))))
  refine wpQuiet_nil ?_
  rintro w' ⟨X, rfl⟩
  clear z0 z1 z2 z3 z4 z5
  replace kA := block_ext kA X
  replace kB := block_ext kB X
  replace kC := block_ext kC X
  replace kD := block_ext kD X
  replace kE := block_ext kE X
  replace hB := hB.trans (X.2.below (fun k _ h => h) hB.size)
  obtain ⟨V2, hV2⟩ := X
  dsimp only at kA kB kC kD kE hB ⊢
  clear hV2
  have sA : BA ≠ V2.heap.size := Nat.ne_of_lt (Array.getElem?_eq_some_iff.1 kA).1
  have rA : BE ≠ BA := fun h => mA h.symm
  have tA : V2.heap.size ≠ BA := fun h => sA h.symm
  have sB : BB ≠ V2.heap.size := Nat.ne_of_lt (Array.getElem?_eq_some_iff.1 kB).1
  have rB : BE ≠ BB := fun h => mB h.symm
  have tB : V2.heap.size ≠ BB := fun h => sB h.symm
  have sC : BC ≠ V2.heap.size := Nat.ne_of_lt (Array.getElem?_eq_some_iff.1 kC).1
  have rC : BE ≠ BC := fun h => mC h.symm
  have tC : V2.heap.size ≠ BC := fun h => sC h.symm
  have sD : BD ≠ V2.heap.size := Nat.ne_of_lt (Array.getElem?_eq_some_iff.1 kD).1
  have rD : BE ≠ BD := fun h => mD h.symm
  have tD : V2.heap.size ≠ BD := fun h => sD h.symm
  have sE : BE ≠ V2.heap.size := Nat.ne_of_lt (Array.getElem?_eq_some_iff.1 kE).1
  have tE : V2.heap.size ≠ BE := fun h => sE h.symm
  have A0 := (fun o v => cell_of (o := o) (v := v) kA) 0 _ rfl
  have A1 := (fun o v => cell_of (o := o) (v := v) kA) 1 _ rfl
  have A2 := (fun o v => cell_of (o := o) (v := v) kA) 2 _ rfl
  have A3 := (fun o v => cell_of (o := o) (v := v) kA) 3 _ rfl
  have A4 := (fun o v => cell_of (o := o) (v := v) kA) 4 _ rfl
  have A5 := (fun o v => cell_of (o := o) (v := v) kA) 5 _ rfl
  have E0 := (fun o v => cell_of (o := o) (v := v) kE) 0 _ rfl
  have E1 := (fun o v => cell_of (o := o) (v := v) kE) 1 _ rfl
  have E2 := (fun o v => cell_of (o := o) (v := v) kE) 2 _ rfl
  have E3 := (fun o v => cell_of (o := o) (v := v) kE) 3 _ rfl
  have E4 := (fun o v => cell_of (o := o) (v := v) kE) 4 _ rfl
  have E5 := (fun o v => cell_of (o := o) (v := v) kE) 5 _ rfl
  have fE := fun o => frozen_of (o := o) kE
  have lN : w.heap.size ≤ V2.heap.size := hB.size
  rcases hday with ⟨rfl, rfl, rfl, rfl, rfl⟩ | ⟨rfl, hmo, rfl, rfl, rfl⟩ | ⟨hd, rfl, rfl, rfl⟩
  · skip
    iterate 100 (try (first | go_values | go_skip | go_guarded | go_step | go_upon | (go_back) | (simp only [Int.not_lt, Int.not_le] at *; go_simp) | (go_values <;> (try go_simp)) | (go_ite <;> go_prune <;> (try go_simp)) | (split <;> (first | (rename_i hx; exact (hx _ rfl).elim) | go_prune))))
    clear A0 A1 A2 A3 A4 A5 E0 E1 E2 E3 E4 E5
    replace kA := heap_old (o := .cells #[.int .i64 y, .int .i64 12, .int .i64 (days y 12), .int .i64 h, .int .i64 mi, .int .i64 wd] 23) (heap_set_ne (p := ⟨BE, 0, none⟩) (.int .i64 (y + 1)) mA (heap_set_ne (p := ⟨BE, 1, none⟩) (.int .i64 1) mA (heap_set_ne (p := ⟨BE, 1, none⟩) (.int .i64 13) mA (heap_set_ne (p := ⟨BE, 2, none⟩) (.int .i64 1) mA kA))))
    replace kB := heap_old (o := .cells #[.int .i64 y, .int .i64 12, .int .i64 (days y 12), .int .i64 h, .int .i64 mi, .int .i64 wd] 23) (heap_set_ne (p := ⟨BE, 0, none⟩) (.int .i64 (y + 1)) mB (heap_set_ne (p := ⟨BE, 1, none⟩) (.int .i64 1) mB (heap_set_ne (p := ⟨BE, 1, none⟩) (.int .i64 13) mB (heap_set_ne (p := ⟨BE, 2, none⟩) (.int .i64 1) mB kB))))
    replace kC := heap_old (o := .cells #[.int .i64 y, .int .i64 12, .int .i64 (days y 12), .int .i64 h, .int .i64 mi, .int .i64 wd] 23) (heap_set_ne (p := ⟨BE, 0, none⟩) (.int .i64 (y + 1)) mC (heap_set_ne (p := ⟨BE, 1, none⟩) (.int .i64 1) mC (heap_set_ne (p := ⟨BE, 1, none⟩) (.int .i64 13) mC (heap_set_ne (p := ⟨BE, 2, none⟩) (.int .i64 1) mC kC))))
    replace kD := heap_old (o := .cells #[.int .i64 y, .int .i64 12, .int .i64 (days y 12), .int .i64 h, .int .i64 mi, .int .i64 wd] 23) (heap_set_ne (p := ⟨BE, 0, none⟩) (.int .i64 (y + 1)) mD (heap_set_ne (p := ⟨BE, 1, none⟩) (.int .i64 1) mD (heap_set_ne (p := ⟨BE, 1, none⟩) (.int .i64 13) mD (heap_set_ne (p := ⟨BE, 2, none⟩) (.int .i64 1) mD kD))))
    replace kE := heap_old (o := .cells #[.int .i64 y, .int .i64 12, .int .i64 (days y 12), .int .i64 h, .int .i64 mi, .int .i64 wd] 23) (heap_set (o := 0) (.int .i64 (y + 1)) (heap_set (o := 1) (.int .i64 1) (heap_set (o := 1) (.int .i64 13) (heap_set (o := 2) (.int .i64 1) kE))))
    have kN := heap_new (o := .cells #[.int .i64 y, .int .i64 12, .int .i64 (days y 12), .int .i64 h, .int .i64 mi, .int .i64 wd] 23) (W := ((((V2.setCell ⟨BE, 2, none⟩ (.int .i64 1)).setCell ⟨BE, 1, none⟩ (.int .i64 13)).setCell ⟨BE, 1, none⟩ (.int .i64 1)).setCell ⟨BE, 0, none⟩ (.int .i64 (y + 1)))) (k := V2.heap.size) (by simp [World.setCell])
    replace hB := Below.alloc ((((hB.setCell (p := ⟨BE, 2, none⟩) lE (.int .i64 1)).setCell (p := ⟨BE, 1, none⟩) lE (.int .i64 13)).setCell (p := ⟨BE, 1, none⟩) lE (.int .i64 1)).setCell (p := ⟨BE, 0, none⟩) lE (.int .i64 (y + 1))) (((((hB.setCell (p := ⟨BE, 2, none⟩) lE (.int .i64 1)).setCell (p := ⟨BE, 1, none⟩) lE (.int .i64 13)).setCell (p := ⟨BE, 1, none⟩) lE (.int .i64 1)).setCell (p := ⟨BE, 0, none⟩) lE (.int .i64 (y + 1)))).size (.cells #[.int .i64 y, .int .i64 12, .int .i64 (days y 12), .int .i64 h, .int .i64 mi, .int .i64 wd] 23)
    generalize ((((V2.setCell ⟨BE, 2, none⟩ (.int .i64 1)).setCell ⟨BE, 1, none⟩ (.int .i64 13)).setCell ⟨BE, 1, none⟩ (.int .i64 1)).setCell ⟨BE, 0, none⟩ (.int .i64 (y + 1))).alloc (.cells #[.int .i64 y, .int .i64 12, .int .i64 (days y 12), .int .i64 h, .int .i64 mi, .int .i64 wd] 23) = V3 at *
    generalize V2.heap.size = BN at *
    simp only [List.setIfInBounds_toArray, List.set_cons_zero, List.set_cons_succ] at kE
    have A0 := (fun o v => cell_of (o := o) (v := v) kA) 0 _ rfl
    have A1 := (fun o v => cell_of (o := o) (v := v) kA) 1 _ rfl
    have A2 := (fun o v => cell_of (o := o) (v := v) kA) 2 _ rfl
    have A3 := (fun o v => cell_of (o := o) (v := v) kA) 3 _ rfl
    have A4 := (fun o v => cell_of (o := o) (v := v) kA) 4 _ rfl
    have A5 := (fun o v => cell_of (o := o) (v := v) kA) 5 _ rfl
    have B0 := (fun o v => cell_of (o := o) (v := v) kB) 0 _ rfl
    have B1 := (fun o v => cell_of (o := o) (v := v) kB) 1 _ rfl
    have B2 := (fun o v => cell_of (o := o) (v := v) kB) 2 _ rfl
    have B3 := (fun o v => cell_of (o := o) (v := v) kB) 3 _ rfl
    have B4 := (fun o v => cell_of (o := o) (v := v) kB) 4 _ rfl
    have B5 := (fun o v => cell_of (o := o) (v := v) kB) 5 _ rfl
    have C0 := (fun o v => cell_of (o := o) (v := v) kC) 0 _ rfl
    have C1 := (fun o v => cell_of (o := o) (v := v) kC) 1 _ rfl
    have C2 := (fun o v => cell_of (o := o) (v := v) kC) 2 _ rfl
    have C3 := (fun o v => cell_of (o := o) (v := v) kC) 3 _ rfl
    have C4 := (fun o v => cell_of (o := o) (v := v) kC) 4 _ rfl
    have C5 := (fun o v => cell_of (o := o) (v := v) kC) 5 _ rfl
    have D0 := (fun o v => cell_of (o := o) (v := v) kD) 0 _ rfl
    have D1 := (fun o v => cell_of (o := o) (v := v) kD) 1 _ rfl
    have D2 := (fun o v => cell_of (o := o) (v := v) kD) 2 _ rfl
    have D3 := (fun o v => cell_of (o := o) (v := v) kD) 3 _ rfl
    have D4 := (fun o v => cell_of (o := o) (v := v) kD) 4 _ rfl
    have D5 := (fun o v => cell_of (o := o) (v := v) kD) 5 _ rfl
    have E0 := (fun o v => cell_of (o := o) (v := v) kE) 0 _ rfl
    have E1 := (fun o v => cell_of (o := o) (v := v) kE) 1 _ rfl
    have E2 := (fun o v => cell_of (o := o) (v := v) kE) 2 _ rfl
    have E3 := (fun o v => cell_of (o := o) (v := v) kE) 3 _ rfl
    have E4 := (fun o v => cell_of (o := o) (v := v) kE) 4 _ rfl
    have E5 := (fun o v => cell_of (o := o) (v := v) kE) 5 _ rfl
    have N0 := (fun o v => cell_of (o := o) (v := v) kN) 0 _ rfl
    have N1 := (fun o v => cell_of (o := o) (v := v) kN) 1 _ rfl
    have N2 := (fun o v => cell_of (o := o) (v := v) kN) 2 _ rfl
    have N3 := (fun o v => cell_of (o := o) (v := v) kN) 3 _ rfl
    have N4 := (fun o v => cell_of (o := o) (v := v) kN) 4 _ rfl
    have N5 := (fun o v => cell_of (o := o) (v := v) kN) 5 _ rfl
    have fN := fun o => frozen_of (o := o) kN
    clear fE
    rcases hnext with ⟨rfl, rfl, rfl, rfl, rfl, rfl, rfl, rfl⟩ | ⟨rfl, hh, rfl, rfl, rfl, rfl, rfl, rfl⟩ | ⟨hmi, rfl, rfl, rfl, rfl, rfl, rfl⟩
    · iterate 87 (try (first | go_values | go_skip | go_guarded | go_step | go_upon | (go_back) | (simp only [Int.not_lt, Int.not_le] at *; go_simp) | (go_values <;> (try go_simp)) | (go_ite <;> go_prune <;> (try go_simp)) | (split <;> (first | (rename_i hx; exact (hx _ rfl).elim) | go_prune))))
      replace kA := (heap_set_ne (p := ⟨BN, 5, none⟩) (.int .i64 ((wd + 1) % 7)) sA (heap_set_ne (p := ⟨BN, 4, none⟩) (.int .i64 59) sA (heap_set_ne (p := ⟨BN, 3, none⟩) (.int .i64 23) sA (heap_set_ne (p := ⟨BN, 2, none⟩) (.int .i64 1) sA (heap_set_ne (p := ⟨BN, 1, none⟩) (.int .i64 1) sA (heap_set_ne (p := ⟨BN, 0, none⟩) (.int .i64 (y + 1)) sA (heap_set_ne (p := ⟨BN, 3, none⟩) (.int .i64 24) sA (heap_set_ne (p := ⟨BN, 4, none⟩) (.int .i64 0) sA (heap_set_ne (p := ⟨BN, 4, none⟩) (.int .i64 60) sA kA)))))))))
      replace kB := (heap_set_ne (p := ⟨BN, 5, none⟩) (.int .i64 ((wd + 1) % 7)) sB (heap_set_ne (p := ⟨BN, 4, none⟩) (.int .i64 59) sB (heap_set_ne (p := ⟨BN, 3, none⟩) (.int .i64 23) sB (heap_set_ne (p := ⟨BN, 2, none⟩) (.int .i64 1) sB (heap_set_ne (p := ⟨BN, 1, none⟩) (.int .i64 1) sB (heap_set_ne (p := ⟨BN, 0, none⟩) (.int .i64 (y + 1)) sB (heap_set_ne (p := ⟨BN, 3, none⟩) (.int .i64 24) sB (heap_set_ne (p := ⟨BN, 4, none⟩) (.int .i64 0) sB (heap_set_ne (p := ⟨BN, 4, none⟩) (.int .i64 60) sB kB)))))))))
      replace kC := (heap_set_ne (p := ⟨BN, 5, none⟩) (.int .i64 ((wd + 1) % 7)) sC (heap_set_ne (p := ⟨BN, 4, none⟩) (.int .i64 59) sC (heap_set_ne (p := ⟨BN, 3, none⟩) (.int .i64 23) sC (heap_set_ne (p := ⟨BN, 2, none⟩) (.int .i64 1) sC (heap_set_ne (p := ⟨BN, 1, none⟩) (.int .i64 1) sC (heap_set_ne (p := ⟨BN, 0, none⟩) (.int .i64 (y + 1)) sC (heap_set_ne (p := ⟨BN, 3, none⟩) (.int .i64 24) sC (heap_set_ne (p := ⟨BN, 4, none⟩) (.int .i64 0) sC (heap_set_ne (p := ⟨BN, 4, none⟩) (.int .i64 60) sC kC)))))))))
      replace kD := (heap_set_ne (p := ⟨BN, 5, none⟩) (.int .i64 ((wd + 1) % 7)) sD (heap_set_ne (p := ⟨BN, 4, none⟩) (.int .i64 59) sD (heap_set_ne (p := ⟨BN, 3, none⟩) (.int .i64 23) sD (heap_set_ne (p := ⟨BN, 2, none⟩) (.int .i64 1) sD (heap_set_ne (p := ⟨BN, 1, none⟩) (.int .i64 1) sD (heap_set_ne (p := ⟨BN, 0, none⟩) (.int .i64 (y + 1)) sD (heap_set_ne (p := ⟨BN, 3, none⟩) (.int .i64 24) sD (heap_set_ne (p := ⟨BN, 4, none⟩) (.int .i64 0) sD (heap_set_ne (p := ⟨BN, 4, none⟩) (.int .i64 60) sD kD)))))))))
      replace kE := (heap_set_ne (p := ⟨BN, 5, none⟩) (.int .i64 ((wd + 1) % 7)) sE (heap_set_ne (p := ⟨BN, 4, none⟩) (.int .i64 59) sE (heap_set_ne (p := ⟨BN, 3, none⟩) (.int .i64 23) sE (heap_set_ne (p := ⟨BN, 2, none⟩) (.int .i64 1) sE (heap_set_ne (p := ⟨BN, 1, none⟩) (.int .i64 1) sE (heap_set_ne (p := ⟨BN, 0, none⟩) (.int .i64 (y + 1)) sE (heap_set_ne (p := ⟨BN, 3, none⟩) (.int .i64 24) sE (heap_set_ne (p := ⟨BN, 4, none⟩) (.int .i64 0) sE (heap_set_ne (p := ⟨BN, 4, none⟩) (.int .i64 60) sE kE)))))))))
      replace kN := (heap_set (o := 5) (.int .i64 ((wd + 1) % 7)) (heap_set (o := 4) (.int .i64 59) (heap_set (o := 3) (.int .i64 23) (heap_set (o := 2) (.int .i64 1) (heap_set (o := 1) (.int .i64 1) (heap_set (o := 0) (.int .i64 (y + 1)) (heap_set (o := 3) (.int .i64 24) (heap_set (o := 4) (.int .i64 0) (heap_set (o := 4) (.int .i64 60) kN)))))))))
      simp only [List.setIfInBounds_toArray, List.set_cons_zero, List.set_cons_succ] at kN
      replace hB := (((((((((hB.setCell (p := ⟨BN, 4, none⟩) lN (.int .i64 60)).setCell (p := ⟨BN, 4, none⟩) lN (.int .i64 0)).setCell (p := ⟨BN, 3, none⟩) lN (.int .i64 24)).setCell (p := ⟨BN, 0, none⟩) lN (.int .i64 (y + 1))).setCell (p := ⟨BN, 1, none⟩) lN (.int .i64 1)).setCell (p := ⟨BN, 2, none⟩) lN (.int .i64 1)).setCell (p := ⟨BN, 3, none⟩) lN (.int .i64 23)).setCell (p := ⟨BN, 4, none⟩) lN (.int .i64 59)).setCell (p := ⟨BN, 5, none⟩) lN (.int .i64 ((wd + 1) % 7)))
      generalize (((((((((V3.setCell ⟨BN, 4, none⟩ (.int .i64 60)).setCell ⟨BN, 4, none⟩ (.int .i64 0)).setCell ⟨BN, 3, none⟩ (.int .i64 24)).setCell ⟨BN, 0, none⟩ (.int .i64 (y + 1))).setCell ⟨BN, 1, none⟩ (.int .i64 1)).setCell ⟨BN, 2, none⟩ (.int .i64 1)).setCell ⟨BN, 3, none⟩ (.int .i64 23)).setCell ⟨BN, 4, none⟩ (.int .i64 59)).setCell ⟨BN, 5, none⟩ (.int .i64 ((wd + 1) % 7))) = V4 at *
      clear A0 A1 A2 A3 A4 A5 B0 B1 B2 B3 B4 B5 C0 C1 C2 C3 C4 C5 D0 D1 D2 D3 D4 D5 E0 E1 E2 E3 E4 E5 N0 N1 N2 N3 N4 N5 fN
      have A0 := (fun o v => cell_of (o := o) (v := v) kA) 0 _ rfl
      have A1 := (fun o v => cell_of (o := o) (v := v) kA) 1 _ rfl
      have A2 := (fun o v => cell_of (o := o) (v := v) kA) 2 _ rfl
      have A3 := (fun o v => cell_of (o := o) (v := v) kA) 3 _ rfl
      have A4 := (fun o v => cell_of (o := o) (v := v) kA) 4 _ rfl
      have A5 := (fun o v => cell_of (o := o) (v := v) kA) 5 _ rfl
      have B0 := (fun o v => cell_of (o := o) (v := v) kB) 0 _ rfl
      have B1 := (fun o v => cell_of (o := o) (v := v) kB) 1 _ rfl
      have B2 := (fun o v => cell_of (o := o) (v := v) kB) 2 _ rfl
      have B3 := (fun o v => cell_of (o := o) (v := v) kB) 3 _ rfl
      have B4 := (fun o v => cell_of (o := o) (v := v) kB) 4 _ rfl
      have B5 := (fun o v => cell_of (o := o) (v := v) kB) 5 _ rfl
      have C0 := (fun o v => cell_of (o := o) (v := v) kC) 0 _ rfl
      have C1 := (fun o v => cell_of (o := o) (v := v) kC) 1 _ rfl
      have C2 := (fun o v => cell_of (o := o) (v := v) kC) 2 _ rfl
      have C3 := (fun o v => cell_of (o := o) (v := v) kC) 3 _ rfl
      have C4 := (fun o v => cell_of (o := o) (v := v) kC) 4 _ rfl
      have C5 := (fun o v => cell_of (o := o) (v := v) kC) 5 _ rfl
      have D0 := (fun o v => cell_of (o := o) (v := v) kD) 0 _ rfl
      have D1 := (fun o v => cell_of (o := o) (v := v) kD) 1 _ rfl
      have D2 := (fun o v => cell_of (o := o) (v := v) kD) 2 _ rfl
      have D3 := (fun o v => cell_of (o := o) (v := v) kD) 3 _ rfl
      have D4 := (fun o v => cell_of (o := o) (v := v) kD) 4 _ rfl
      have D5 := (fun o v => cell_of (o := o) (v := v) kD) 5 _ rfl
      have E0 := (fun o v => cell_of (o := o) (v := v) kE) 0 _ rfl
      have E1 := (fun o v => cell_of (o := o) (v := v) kE) 1 _ rfl
      have E2 := (fun o v => cell_of (o := o) (v := v) kE) 2 _ rfl
      have E3 := (fun o v => cell_of (o := o) (v := v) kE) 3 _ rfl
      have E4 := (fun o v => cell_of (o := o) (v := v) kE) 4 _ rfl
      have E5 := (fun o v => cell_of (o := o) (v := v) kE) 5 _ rfl
      have N0 := (fun o v => cell_of (o := o) (v := v) kN) 0 _ rfl
      have N1 := (fun o v => cell_of (o := o) (v := v) kN) 1 _ rfl
      have N2 := (fun o v => cell_of (o := o) (v := v) kN) 2 _ rfl
      have N3 := (fun o v => cell_of (o := o) (v := v) kN) 3 _ rfl
      have N4 := (fun o v => cell_of (o := o) (v := v) kN) 4 _ rfl
      have N5 := (fun o v => cell_of (o := o) (v := v) kN) 5 _ rfl
      have fN := fun o => frozen_of (o := o) kN
      clear kA kB kC kD kE kN
      go_wp2_with fail
      go_ret
      exact ⟨rfl, by repeat (first | exact hB | refine Below.setCell ?_ lN _)⟩
    · have hq3 : (h + 1 == 24) = false := by simp; omega
      clear kA kB kC kD kE kN
      go_wp2_with fail
      go_ret
      exact ⟨rfl, by repeat (first | exact hB | refine Below.setCell ?_ lN _)⟩
    · have hq3 : (mi + 1 == 60) = false := by simp; omega
      have hq4 : (h == 24) = false := by simp; omega
      clear kA kB kC kD kE kN
      go_wp2_with fail
      go_ret
      exact ⟨rfl, by repeat (first | exact hB | refine Below.setCell ?_ lN _)⟩
  · have hq : (mo + 1 == 13) = false := by simp; omega
    iterate 80 (try (first | go_values | go_skip | go_guarded | go_step | go_upon | (go_back) | (simp only [Int.not_lt, Int.not_le] at *; go_simp) | (go_values <;> (try go_simp)) | (go_ite <;> go_prune <;> (try go_simp)) | (split <;> (first | (rename_i hx; exact (hx _ rfl).elim) | go_prune))))
    clear A0 A1 A2 A3 A4 A5 E0 E1 E2 E3 E4 E5
    replace kA := heap_old (o := .cells #[.int .i64 y, .int .i64 mo, .int .i64 (days y mo), .int .i64 h, .int .i64 mi, .int .i64 wd] 23) (heap_set_ne (p := ⟨BE, 1, none⟩) (.int .i64 (mo + 1)) mA (heap_set_ne (p := ⟨BE, 2, none⟩) (.int .i64 1) mA kA))
    replace kB := heap_old (o := .cells #[.int .i64 y, .int .i64 mo, .int .i64 (days y mo), .int .i64 h, .int .i64 mi, .int .i64 wd] 23) (heap_set_ne (p := ⟨BE, 1, none⟩) (.int .i64 (mo + 1)) mB (heap_set_ne (p := ⟨BE, 2, none⟩) (.int .i64 1) mB kB))
    replace kC := heap_old (o := .cells #[.int .i64 y, .int .i64 mo, .int .i64 (days y mo), .int .i64 h, .int .i64 mi, .int .i64 wd] 23) (heap_set_ne (p := ⟨BE, 1, none⟩) (.int .i64 (mo + 1)) mC (heap_set_ne (p := ⟨BE, 2, none⟩) (.int .i64 1) mC kC))
    replace kD := heap_old (o := .cells #[.int .i64 y, .int .i64 mo, .int .i64 (days y mo), .int .i64 h, .int .i64 mi, .int .i64 wd] 23) (heap_set_ne (p := ⟨BE, 1, none⟩) (.int .i64 (mo + 1)) mD (heap_set_ne (p := ⟨BE, 2, none⟩) (.int .i64 1) mD kD))
    replace kE := heap_old (o := .cells #[.int .i64 y, .int .i64 mo, .int .i64 (days y mo), .int .i64 h, .int .i64 mi, .int .i64 wd] 23) (heap_set (o := 1) (.int .i64 (mo + 1)) (heap_set (o := 2) (.int .i64 1) kE))
    have kN := heap_new (o := .cells #[.int .i64 y, .int .i64 mo, .int .i64 (days y mo), .int .i64 h, .int .i64 mi, .int .i64 wd] 23) (W := ((V2.setCell ⟨BE, 2, none⟩ (.int .i64 1)).setCell ⟨BE, 1, none⟩ (.int .i64 (mo + 1)))) (k := V2.heap.size) (by simp [World.setCell])
    replace hB := Below.alloc ((hB.setCell (p := ⟨BE, 2, none⟩) lE (.int .i64 1)).setCell (p := ⟨BE, 1, none⟩) lE (.int .i64 (mo + 1))) (((hB.setCell (p := ⟨BE, 2, none⟩) lE (.int .i64 1)).setCell (p := ⟨BE, 1, none⟩) lE (.int .i64 (mo + 1)))).size (.cells #[.int .i64 y, .int .i64 mo, .int .i64 (days y mo), .int .i64 h, .int .i64 mi, .int .i64 wd] 23)
    generalize ((V2.setCell ⟨BE, 2, none⟩ (.int .i64 1)).setCell ⟨BE, 1, none⟩ (.int .i64 (mo + 1))).alloc (.cells #[.int .i64 y, .int .i64 mo, .int .i64 (days y mo), .int .i64 h, .int .i64 mi, .int .i64 wd] 23) = V3 at *
    generalize V2.heap.size = BN at *
    simp only [List.setIfInBounds_toArray, List.set_cons_zero, List.set_cons_succ] at kE
    have A0 := (fun o v => cell_of (o := o) (v := v) kA) 0 _ rfl
    have A1 := (fun o v => cell_of (o := o) (v := v) kA) 1 _ rfl
    have A2 := (fun o v => cell_of (o := o) (v := v) kA) 2 _ rfl
    have A3 := (fun o v => cell_of (o := o) (v := v) kA) 3 _ rfl
    have A4 := (fun o v => cell_of (o := o) (v := v) kA) 4 _ rfl
    have A5 := (fun o v => cell_of (o := o) (v := v) kA) 5 _ rfl
    have B0 := (fun o v => cell_of (o := o) (v := v) kB) 0 _ rfl
    have B1 := (fun o v => cell_of (o := o) (v := v) kB) 1 _ rfl
    have B2 := (fun o v => cell_of (o := o) (v := v) kB) 2 _ rfl
    have B3 := (fun o v => cell_of (o := o) (v := v) kB) 3 _ rfl
    have B4 := (fun o v => cell_of (o := o) (v := v) kB) 4 _ rfl
    have B5 := (fun o v => cell_of (o := o) (v := v) kB) 5 _ rfl
    have C0 := (fun o v => cell_of (o := o) (v := v) kC) 0 _ rfl
    have C1 := (fun o v => cell_of (o := o) (v := v) kC) 1 _ rfl
    have C2 := (fun o v => cell_of (o := o) (v := v) kC) 2 _ rfl
    have C3 := (fun o v => cell_of (o := o) (v := v) kC) 3 _ rfl
    have C4 := (fun o v => cell_of (o := o) (v := v) kC) 4 _ rfl
    have C5 := (fun o v => cell_of (o := o) (v := v) kC) 5 _ rfl
    have D0 := (fun o v => cell_of (o := o) (v := v) kD) 0 _ rfl
    have D1 := (fun o v => cell_of (o := o) (v := v) kD) 1 _ rfl
    have D2 := (fun o v => cell_of (o := o) (v := v) kD) 2 _ rfl
    have D3 := (fun o v => cell_of (o := o) (v := v) kD) 3 _ rfl
    have D4 := (fun o v => cell_of (o := o) (v := v) kD) 4 _ rfl
    have D5 := (fun o v => cell_of (o := o) (v := v) kD) 5 _ rfl
    have E0 := (fun o v => cell_of (o := o) (v := v) kE) 0 _ rfl
    have E1 := (fun o v => cell_of (o := o) (v := v) kE) 1 _ rfl
    have E2 := (fun o v => cell_of (o := o) (v := v) kE) 2 _ rfl
    have E3 := (fun o v => cell_of (o := o) (v := v) kE) 3 _ rfl
    have E4 := (fun o v => cell_of (o := o) (v := v) kE) 4 _ rfl
    have E5 := (fun o v => cell_of (o := o) (v := v) kE) 5 _ rfl
    have N0 := (fun o v => cell_of (o := o) (v := v) kN) 0 _ rfl
    have N1 := (fun o v => cell_of (o := o) (v := v) kN) 1 _ rfl
    have N2 := (fun o v => cell_of (o := o) (v := v) kN) 2 _ rfl
    have N3 := (fun o v => cell_of (o := o) (v := v) kN) 3 _ rfl
    have N4 := (fun o v => cell_of (o := o) (v := v) kN) 4 _ rfl
    have N5 := (fun o v => cell_of (o := o) (v := v) kN) 5 _ rfl
    have fN := fun o => frozen_of (o := o) kN
    clear fE
    rcases hnext with ⟨rfl, rfl, rfl, rfl, rfl, rfl, rfl, rfl⟩ | ⟨rfl, hh, rfl, rfl, rfl, rfl, rfl, rfl⟩ | ⟨hmi, rfl, rfl, rfl, rfl, rfl, rfl⟩
    · iterate 85 (try (first | go_values | go_skip | go_guarded | go_step | go_upon | (go_back) | (simp only [Int.not_lt, Int.not_le] at *; go_simp) | (go_values <;> (try go_simp)) | (go_ite <;> go_prune <;> (try go_simp)) | (split <;> (first | (rename_i hx; exact (hx _ rfl).elim) | go_prune))))
      replace kA := (heap_set_ne (p := ⟨BN, 5, none⟩) (.int .i64 ((wd + 1) % 7)) sA (heap_set_ne (p := ⟨BN, 4, none⟩) (.int .i64 59) sA (heap_set_ne (p := ⟨BN, 3, none⟩) (.int .i64 23) sA (heap_set_ne (p := ⟨BN, 2, none⟩) (.int .i64 1) sA (heap_set_ne (p := ⟨BN, 1, none⟩) (.int .i64 (mo + 1)) sA (heap_set_ne (p := ⟨BN, 0, none⟩) (.int .i64 y) sA (heap_set_ne (p := ⟨BN, 3, none⟩) (.int .i64 24) sA (heap_set_ne (p := ⟨BN, 4, none⟩) (.int .i64 0) sA (heap_set_ne (p := ⟨BN, 4, none⟩) (.int .i64 60) sA kA)))))))))
      replace kB := (heap_set_ne (p := ⟨BN, 5, none⟩) (.int .i64 ((wd + 1) % 7)) sB (heap_set_ne (p := ⟨BN, 4, none⟩) (.int .i64 59) sB (heap_set_ne (p := ⟨BN, 3, none⟩) (.int .i64 23) sB (heap_set_ne (p := ⟨BN, 2, none⟩) (.int .i64 1) sB (heap_set_ne (p := ⟨BN, 1, none⟩) (.int .i64 (mo + 1)) sB (heap_set_ne (p := ⟨BN, 0, none⟩) (.int .i64 y) sB (heap_set_ne (p := ⟨BN, 3, none⟩) (.int .i64 24) sB (heap_set_ne (p := ⟨BN, 4, none⟩) (.int .i64 0) sB (heap_set_ne (p := ⟨BN, 4, none⟩) (.int .i64 60) sB kB)))))))))
      replace kC := (heap_set_ne (p := ⟨BN, 5, none⟩) (.int .i64 ((wd + 1) % 7)) sC (heap_set_ne (p := ⟨BN, 4, none⟩) (.int .i64 59) sC (heap_set_ne (p := ⟨BN, 3, none⟩) (.int .i64 23) sC (heap_set_ne (p := ⟨BN, 2, none⟩) (.int .i64 1) sC (heap_set_ne (p := ⟨BN, 1, none⟩) (.int .i64 (mo + 1)) sC (heap_set_ne (p := ⟨BN, 0, none⟩) (.int .i64 y) sC (heap_set_ne (p := ⟨BN, 3, none⟩) (.int .i64 24) sC (heap_set_ne (p := ⟨BN, 4, none⟩) (.int .i64 0) sC (heap_set_ne (p := ⟨BN, 4, none⟩) (.int .i64 60) sC kC)))))))))
      replace kD := (heap_set_ne (p := ⟨BN, 5, none⟩) (.int .i64 ((wd + 1) % 7)) sD (heap_set_ne (p := ⟨BN, 4, none⟩) (.int .i64 59) sD (heap_set_ne (p := ⟨BN, 3, none⟩) (.int .i64 23) sD (heap_set_ne (p := ⟨BN, 2, none⟩) (.int .i64 1) sD (heap_set_ne (p := ⟨BN, 1, none⟩) (.int .i64 (mo + 1)) sD (heap_set_ne (p := ⟨BN, 0, none⟩) (.int .i64 y) sD (heap_set_ne (p := ⟨BN, 3, none⟩) (.int .i64 24) sD (heap_set_ne (p := ⟨BN, 4, none⟩) (.int .i64 0) sD (heap_set_ne (p := ⟨BN, 4, none⟩) (.int .i64 60) sD kD)))))))))
      replace kE := (heap_set_ne (p := ⟨BN, 5, none⟩) (.int .i64 ((wd + 1) % 7)) sE (heap_set_ne (p := ⟨BN, 4, none⟩) (.int .i64 59) sE (heap_set_ne (p := ⟨BN, 3, none⟩) (.int .i64 23) sE (heap_set_ne (p := ⟨BN, 2, none⟩) (.int .i64 1) sE (heap_set_ne (p := ⟨BN, 1, none⟩) (.int .i64 (mo + 1)) sE (heap_set_ne (p := ⟨BN, 0, none⟩) (.int .i64 y) sE (heap_set_ne (p := ⟨BN, 3, none⟩) (.int .i64 24) sE (heap_set_ne (p := ⟨BN, 4, none⟩) (.int .i64 0) sE (heap_set_ne (p := ⟨BN, 4, none⟩) (.int .i64 60) sE kE)))))))))
      replace kN := (heap_set (o := 5) (.int .i64 ((wd + 1) % 7)) (heap_set (o := 4) (.int .i64 59) (heap_set (o := 3) (.int .i64 23) (heap_set (o := 2) (.int .i64 1) (heap_set (o := 1) (.int .i64 (mo + 1)) (heap_set (o := 0) (.int .i64 y) (heap_set (o := 3) (.int .i64 24) (heap_set (o := 4) (.int .i64 0) (heap_set (o := 4) (.int .i64 60) kN)))))))))
      simp only [List.setIfInBounds_toArray, List.set_cons_zero, List.set_cons_succ] at kN
      replace hB := (((((((((hB.setCell (p := ⟨BN, 4, none⟩) lN (.int .i64 60)).setCell (p := ⟨BN, 4, none⟩) lN (.int .i64 0)).setCell (p := ⟨BN, 3, none⟩) lN (.int .i64 24)).setCell (p := ⟨BN, 0, none⟩) lN (.int .i64 y)).setCell (p := ⟨BN, 1, none⟩) lN (.int .i64 (mo + 1))).setCell (p := ⟨BN, 2, none⟩) lN (.int .i64 1)).setCell (p := ⟨BN, 3, none⟩) lN (.int .i64 23)).setCell (p := ⟨BN, 4, none⟩) lN (.int .i64 59)).setCell (p := ⟨BN, 5, none⟩) lN (.int .i64 ((wd + 1) % 7)))
      generalize (((((((((V3.setCell ⟨BN, 4, none⟩ (.int .i64 60)).setCell ⟨BN, 4, none⟩ (.int .i64 0)).setCell ⟨BN, 3, none⟩ (.int .i64 24)).setCell ⟨BN, 0, none⟩ (.int .i64 y)).setCell ⟨BN, 1, none⟩ (.int .i64 (mo + 1))).setCell ⟨BN, 2, none⟩ (.int .i64 1)).setCell ⟨BN, 3, none⟩ (.int .i64 23)).setCell ⟨BN, 4, none⟩ (.int .i64 59)).setCell ⟨BN, 5, none⟩ (.int .i64 ((wd + 1) % 7))) = V4 at *
      clear A0 A1 A2 A3 A4 A5 B0 B1 B2 B3 B4 B5 C0 C1 C2 C3 C4 C5 D0 D1 D2 D3 D4 D5 E0 E1 E2 E3 E4 E5 N0 N1 N2 N3 N4 N5 fN
      have A0 := (fun o v => cell_of (o := o) (v := v) kA) 0 _ rfl
      have A1 := (fun o v => cell_of (o := o) (v := v) kA) 1 _ rfl
      have A2 := (fun o v => cell_of (o := o) (v := v) kA) 2 _ rfl
      have A3 := (fun o v => cell_of (o := o) (v := v) kA) 3 _ rfl
      have A4 := (fun o v => cell_of (o := o) (v := v) kA) 4 _ rfl
      have A5 := (fun o v => cell_of (o := o) (v := v) kA) 5 _ rfl
      have B0 := (fun o v => cell_of (o := o) (v := v) kB) 0 _ rfl
      have B1 := (fun o v => cell_of (o := o) (v := v) kB) 1 _ rfl
      have B2 := (fun o v => cell_of (o := o) (v := v) kB) 2 _ rfl
      have B3 := (fun o v => cell_of (o := o) (v := v) kB) 3 _ rfl
      have B4 := (fun o v => cell_of (o := o) (v := v) kB) 4 _ rfl
      have B5 := (fun o v => cell_of (o := o) (v := v) kB) 5 _ rfl
      have C0 := (fun o v => cell_of (o := o) (v := v) kC) 0 _ rfl
      have C1 := (fun o v => cell_of (o := o) (v := v) kC) 1 _ rfl
      have C2 := (fun o v => cell_of (o := o) (v := v) kC) 2 _ rfl
      have C3 := (fun o v => cell_of (o := o) (v := v) kC) 3 _ rfl
      have C4 := (fun o v => cell_of (o := o) (v := v) kC) 4 _ rfl
      have C5 := (fun o v => cell_of (o := o) (v := v) kC) 5 _ rfl
      have D0 := (fun o v => cell_of (o := o) (v := v) kD) 0 _ rfl
      have D1 := (fun o v => cell_of (o := o) (v := v) kD) 1 _ rfl
      have D2 := (fun o v => cell_of (o := o) (v := v) kD) 2 _ rfl
      have D3 := (fun o v => cell_of (o := o) (v := v) kD) 3 _ rfl
      have D4 := (fun o v => cell_of (o := o) (v := v) kD) 4 _ rfl
      have D5 := (fun o v => cell_of (o := o) (v := v) kD) 5 _ rfl
      have E0 := (fun o v => cell_of (o := o) (v := v) kE) 0 _ rfl
      have E1 := (fun o v => cell_of (o := o) (v := v) kE) 1 _ rfl
      have E2 := (fun o v => cell_of (o := o) (v := v) kE) 2 _ rfl
      have E3 := (fun o v => cell_of (o := o) (v := v) kE) 3 _ rfl
      have E4 := (fun o v => cell_of (o := o) (v := v) kE) 4 _ rfl
      have E5 := (fun o v => cell_of (o := o) (v := v) kE) 5 _ rfl
      have N0 := (fun o v => cell_of (o := o) (v := v) kN) 0 _ rfl
      have N1 := (fun o v => cell_of (o := o) (v := v) kN) 1 _ rfl
      have N2 := (fun o v => cell_of (o := o) (v := v) kN) 2 _ rfl
      have N3 := (fun o v => cell_of (o := o) (v := v) kN) 3 _ rfl
      have N4 := (fun o v => cell_of (o := o) (v := v) kN) 4 _ rfl
      have N5 := (fun o v => cell_of (o := o) (v := v) kN) 5 _ rfl
      have fN := fun o => frozen_of (o := o) kN
      clear kA kB kC kD kE kN
      go_wp2_with fail
      go_ret
      exact ⟨rfl, by repeat (first | exact hB | refine Below.setCell ?_ lN _)⟩
    · have hq3 : (h + 1 == 24) = false := by simp; omega
      clear kA kB kC kD kE kN
      go_wp2_with fail
      go_ret
      exact ⟨rfl, by repeat (first | exact hB | refine Below.setCell ?_ lN _)⟩
    · have hq3 : (mi + 1 == 60) = false := by simp; omega
      have hq4 : (h == 24) = false := by simp; omega
      clear kA kB kC kD kE kN
      go_wp2_with fail
      go_ret
      exact ⟨rfl, by repeat (first | exact hB | refine Below.setCell ?_ lN _)⟩
  · have hq : (d == days y mo) = false := by simp [hd]
    have hq2 : (mo == 13) = false := by simp; omega
    iterate 45 (try (first | go_values | go_skip | go_guarded | go_step | go_upon | (go_back) | (simp only [Int.not_lt, Int.not_le] at *; go_simp) | (go_values <;> (try go_simp)) | (go_ite <;> go_prune <;> (try go_simp)) | (split <;> (first | (rename_i hx; exact (hx _ rfl).elim) | go_prune))))
    clear A0 A1 A2 A3 A4 A5 E0 E1 E2 E3 E4 E5
    replace kA := heap_old (o := .cells #[.int .i64 y, .int .i64 mo, .int .i64 d, .int .i64 h, .int .i64 mi, .int .i64 wd] 23) kA
    replace kB := heap_old (o := .cells #[.int .i64 y, .int .i64 mo, .int .i64 d, .int .i64 h, .int .i64 mi, .int .i64 wd] 23) kB
    replace kC := heap_old (o := .cells #[.int .i64 y, .int .i64 mo, .int .i64 d, .int .i64 h, .int .i64 mi, .int .i64 wd] 23) kC
    replace kD := heap_old (o := .cells #[.int .i64 y, .int .i64 mo, .int .i64 d, .int .i64 h, .int .i64 mi, .int .i64 wd] 23) kD
    replace kE := heap_old (o := .cells #[.int .i64 y, .int .i64 mo, .int .i64 d, .int .i64 h, .int .i64 mi, .int .i64 wd] 23) kE
    have kN := heap_new (o := .cells #[.int .i64 y, .int .i64 mo, .int .i64 d, .int .i64 h, .int .i64 mi, .int .i64 wd] 23) (W := V2) (k := V2.heap.size) (by simp [World.setCell])
    replace hB := Below.alloc hB (hB).size (.cells #[.int .i64 y, .int .i64 mo, .int .i64 d, .int .i64 h, .int .i64 mi, .int .i64 wd] 23)
    generalize V2.alloc (.cells #[.int .i64 y, .int .i64 mo, .int .i64 d, .int .i64 h, .int .i64 mi, .int .i64 wd] 23) = V3 at *
    generalize V2.heap.size = BN at *
    have A0 := (fun o v => cell_of (o := o) (v := v) kA) 0 _ rfl
    have A1 := (fun o v => cell_of (o := o) (v := v) kA) 1 _ rfl
    have A2 := (fun o v => cell_of (o := o) (v := v) kA) 2 _ rfl
    have A3 := (fun o v => cell_of (o := o) (v := v) kA) 3 _ rfl
    have A4 := (fun o v => cell_of (o := o) (v := v) kA) 4 _ rfl
    have A5 := (fun o v => cell_of (o := o) (v := v) kA) 5 _ rfl
    have B0 := (fun o v => cell_of (o := o) (v := v) kB) 0 _ rfl
    have B1 := (fun o v => cell_of (o := o) (v := v) kB) 1 _ rfl
    have B2 := (fun o v => cell_of (o := o) (v := v) kB) 2 _ rfl
    have B3 := (fun o v => cell_of (o := o) (v := v) kB) 3 _ rfl
    have B4 := (fun o v => cell_of (o := o) (v := v) kB) 4 _ rfl
    have B5 := (fun o v => cell_of (o := o) (v := v) kB) 5 _ rfl
    have C0 := (fun o v => cell_of (o := o) (v := v) kC) 0 _ rfl
    have C1 := (fun o v => cell_of (o := o) (v := v) kC) 1 _ rfl
    have C2 := (fun o v => cell_of (o := o) (v := v) kC) 2 _ rfl
    have C3 := (fun o v => cell_of (o := o) (v := v) kC) 3 _ rfl
    have C4 := (fun o v => cell_of (o := o) (v := v) kC) 4 _ rfl
    have C5 := (fun o v => cell_of (o := o) (v := v) kC) 5 _ rfl
    have D0 := (fun o v => cell_of (o := o) (v := v) kD) 0 _ rfl
    have D1 := (fun o v => cell_of (o := o) (v := v) kD) 1 _ rfl
    have D2 := (fun o v => cell_of (o := o) (v := v) kD) 2 _ rfl
    have D3 := (fun o v => cell_of (o := o) (v := v) kD) 3 _ rfl
    have D4 := (fun o v => cell_of (o := o) (v := v) kD) 4 _ rfl
    have D5 := (fun o v => cell_of (o := o) (v := v) kD) 5 _ rfl
    have E0 := (fun o v => cell_of (o := o) (v := v) kE) 0 _ rfl
    have E1 := (fun o v => cell_of (o := o) (v := v) kE) 1 _ rfl
    have E2 := (fun o v => cell_of (o := o) (v := v) kE) 2 _ rfl
    have E3 := (fun o v => cell_of (o := o) (v := v) kE) 3 _ rfl
    have E4 := (fun o v => cell_of (o := o) (v := v) kE) 4 _ rfl
    have E5 := (fun o v => cell_of (o := o) (v := v) kE) 5 _ rfl
    have N0 := (fun o v => cell_of (o := o) (v := v) kN) 0 _ rfl
    have N1 := (fun o v => cell_of (o := o) (v := v) kN) 1 _ rfl
    have N2 := (fun o v => cell_of (o := o) (v := v) kN) 2 _ rfl
    have N3 := (fun o v => cell_of (o := o) (v := v) kN) 3 _ rfl
    have N4 := (fun o v => cell_of (o := o) (v := v) kN) 4 _ rfl
    have N5 := (fun o v => cell_of (o := o) (v := v) kN) 5 _ rfl
    have fN := fun o => frozen_of (o := o) kN
    clear fE
    rcases hnext with ⟨rfl, rfl, rfl, rfl, rfl, rfl, rfl, rfl⟩ | ⟨rfl, hh, rfl, rfl, rfl, rfl, rfl, rfl⟩ | ⟨hmi, rfl, rfl, rfl, rfl, rfl, rfl⟩
    · iterate 83 (try (first | go_values | go_skip | go_guarded | go_step | go_upon | (go_back) | (simp only [Int.not_lt, Int.not_le] at *; go_simp) | (go_values <;> (try go_simp)) | (go_ite <;> go_prune <;> (try go_simp)) | (split <;> (first | (rename_i hx; exact (hx _ rfl).elim) | go_prune))))
      replace kA := (heap_set_ne (p := ⟨BN, 5, none⟩) (.int .i64 ((wd + 1) % 7)) sA (heap_set_ne (p := ⟨BN, 4, none⟩) (.int .i64 59) sA (heap_set_ne (p := ⟨BN, 3, none⟩) (.int .i64 23) sA (heap_set_ne (p := ⟨BN, 2, none⟩) (.int .i64 (d + 1)) sA (heap_set_ne (p := ⟨BN, 1, none⟩) (.int .i64 mo) sA (heap_set_ne (p := ⟨BN, 0, none⟩) (.int .i64 y) sA (heap_set_ne (p := ⟨BN, 3, none⟩) (.int .i64 24) sA (heap_set_ne (p := ⟨BN, 4, none⟩) (.int .i64 0) sA (heap_set_ne (p := ⟨BN, 4, none⟩) (.int .i64 60) sA kA)))))))))
      replace kB := (heap_set_ne (p := ⟨BN, 5, none⟩) (.int .i64 ((wd + 1) % 7)) sB (heap_set_ne (p := ⟨BN, 4, none⟩) (.int .i64 59) sB (heap_set_ne (p := ⟨BN, 3, none⟩) (.int .i64 23) sB (heap_set_ne (p := ⟨BN, 2, none⟩) (.int .i64 (d + 1)) sB (heap_set_ne (p := ⟨BN, 1, none⟩) (.int .i64 mo) sB (heap_set_ne (p := ⟨BN, 0, none⟩) (.int .i64 y) sB (heap_set_ne (p := ⟨BN, 3, none⟩) (.int .i64 24) sB (heap_set_ne (p := ⟨BN, 4, none⟩) (.int .i64 0) sB (heap_set_ne (p := ⟨BN, 4, none⟩) (.int .i64 60) sB kB)))))))))
      replace kC := (heap_set_ne (p := ⟨BN, 5, none⟩) (.int .i64 ((wd + 1) % 7)) sC (heap_set_ne (p := ⟨BN, 4, none⟩) (.int .i64 59) sC (heap_set_ne (p := ⟨BN, 3, none⟩) (.int .i64 23) sC (heap_set_ne (p := ⟨BN, 2, none⟩) (.int .i64 (d + 1)) sC (heap_set_ne (p := ⟨BN, 1, none⟩) (.int .i64 mo) sC (heap_set_ne (p := ⟨BN, 0, none⟩) (.int .i64 y) sC (heap_set_ne (p := ⟨BN, 3, none⟩) (.int .i64 24) sC (heap_set_ne (p := ⟨BN, 4, none⟩) (.int .i64 0) sC (heap_set_ne (p := ⟨BN, 4, none⟩) (.int .i64 60) sC kC)))))))))
      replace kD := (heap_set_ne (p := ⟨BN, 5, none⟩) (.int .i64 ((wd + 1) % 7)) sD (heap_set_ne (p := ⟨BN, 4, none⟩) (.int .i64 59) sD (heap_set_ne (p := ⟨BN, 3, none⟩) (.int .i64 23) sD (heap_set_ne (p := ⟨BN, 2, none⟩) (.int .i64 (d + 1)) sD (heap_set_ne (p := ⟨BN, 1, none⟩) (.int .i64 mo) sD (heap_set_ne (p := ⟨BN, 0, none⟩) (.int .i64 y) sD (heap_set_ne (p := ⟨BN, 3, none⟩) (.int .i64 24) sD (heap_set_ne (p := ⟨BN, 4, none⟩) (.int .i64 0) sD (heap_set_ne (p := ⟨BN, 4, none⟩) (.int .i64 60) sD kD)))))))))
      replace kE := (heap_set_ne (p := ⟨BN, 5, none⟩) (.int .i64 ((wd + 1) % 7)) sE (heap_set_ne (p := ⟨BN, 4, none⟩) (.int .i64 59) sE (heap_set_ne (p := ⟨BN, 3, none⟩) (.int .i64 23) sE (heap_set_ne (p := ⟨BN, 2, none⟩) (.int .i64 (d + 1)) sE (heap_set_ne (p := ⟨BN, 1, none⟩) (.int .i64 mo) sE (heap_set_ne (p := ⟨BN, 0, none⟩) (.int .i64 y) sE (heap_set_ne (p := ⟨BN, 3, none⟩) (.int .i64 24) sE (heap_set_ne (p := ⟨BN, 4, none⟩) (.int .i64 0) sE (heap_set_ne (p := ⟨BN, 4, none⟩) (.int .i64 60) sE kE)))))))))
      replace kN := (heap_set (o := 5) (.int .i64 ((wd + 1) % 7)) (heap_set (o := 4) (.int .i64 59) (heap_set (o := 3) (.int .i64 23) (heap_set (o := 2) (.int .i64 (d + 1)) (heap_set (o := 1) (.int .i64 mo) (heap_set (o := 0) (.int .i64 y) (heap_set (o := 3) (.int .i64 24) (heap_set (o := 4) (.int .i64 0) (heap_set (o := 4) (.int .i64 60) kN)))))))))
      simp only [List.setIfInBounds_toArray, List.set_cons_zero, List.set_cons_succ] at kN
      replace hB := (((((((((hB.setCell (p := ⟨BN, 4, none⟩) lN (.int .i64 60)).setCell (p := ⟨BN, 4, none⟩) lN (.int .i64 0)).setCell (p := ⟨BN, 3, none⟩) lN (.int .i64 24)).setCell (p := ⟨BN, 0, none⟩) lN (.int .i64 y)).setCell (p := ⟨BN, 1, none⟩) lN (.int .i64 mo)).setCell (p := ⟨BN, 2, none⟩) lN (.int .i64 (d + 1))).setCell (p := ⟨BN, 3, none⟩) lN (.int .i64 23)).setCell (p := ⟨BN, 4, none⟩) lN (.int .i64 59)).setCell (p := ⟨BN, 5, none⟩) lN (.int .i64 ((wd + 1) % 7)))
      generalize (((((((((V3.setCell ⟨BN, 4, none⟩ (.int .i64 60)).setCell ⟨BN, 4, none⟩ (.int .i64 0)).setCell ⟨BN, 3, none⟩ (.int .i64 24)).setCell ⟨BN, 0, none⟩ (.int .i64 y)).setCell ⟨BN, 1, none⟩ (.int .i64 mo)).setCell ⟨BN, 2, none⟩ (.int .i64 (d + 1))).setCell ⟨BN, 3, none⟩ (.int .i64 23)).setCell ⟨BN, 4, none⟩ (.int .i64 59)).setCell ⟨BN, 5, none⟩ (.int .i64 ((wd + 1) % 7))) = V4 at *
      clear A0 A1 A2 A3 A4 A5 B0 B1 B2 B3 B4 B5 C0 C1 C2 C3 C4 C5 D0 D1 D2 D3 D4 D5 E0 E1 E2 E3 E4 E5 N0 N1 N2 N3 N4 N5 fN
      have A0 := (fun o v => cell_of (o := o) (v := v) kA) 0 _ rfl
      have A1 := (fun o v => cell_of (o := o) (v := v) kA) 1 _ rfl
      have A2 := (fun o v => cell_of (o := o) (v := v) kA) 2 _ rfl
      have A3 := (fun o v => cell_of (o := o) (v := v) kA) 3 _ rfl
      have A4 := (fun o v => cell_of (o := o) (v := v) kA) 4 _ rfl
      have A5 := (fun o v => cell_of (o := o) (v := v) kA) 5 _ rfl
      have B0 := (fun o v => cell_of (o := o) (v := v) kB) 0 _ rfl
      have B1 := (fun o v => cell_of (o := o) (v := v) kB) 1 _ rfl
      have B2 := (fun o v => cell_of (o := o) (v := v) kB) 2 _ rfl
      have B3 := (fun o v => cell_of (o := o) (v := v) kB) 3 _ rfl
      have B4 := (fun o v => cell_of (o := o) (v := v) kB) 4 _ rfl
      have B5 := (fun o v => cell_of (o := o) (v := v) kB) 5 _ rfl
      have C0 := (fun o v => cell_of (o := o) (v := v) kC) 0 _ rfl
      have C1 := (fun o v => cell_of (o := o) (v := v) kC) 1 _ rfl
      have C2 := (fun o v => cell_of (o := o) (v := v) kC) 2 _ rfl
      have C3 := (fun o v => cell_of (o := o) (v := v) kC) 3 _ rfl
      have C4 := (fun o v => cell_of (o := o) (v := v) kC) 4 _ rfl
      have C5 := (fun o v => cell_of (o := o) (v := v) kC) 5 _ rfl
      have D0 := (fun o v => cell_of (o := o) (v := v) kD) 0 _ rfl
      have D1 := (fun o v => cell_of (o := o) (v := v) kD) 1 _ rfl
      have D2 := (fun o v => cell_of (o := o) (v := v) kD) 2 _ rfl
      have D3 := (fun o v => cell_of (o := o) (v := v) kD) 3 _ rfl
      have D4 := (fun o v => cell_of (o := o) (v := v) kD) 4 _ rfl
      have D5 := (fun o v => cell_of (o := o) (v := v) kD) 5 _ rfl
      have E0 := (fun o v => cell_of (o := o) (v := v) kE) 0 _ rfl
      have E1 := (fun o v => cell_of (o := o) (v := v) kE) 1 _ rfl
      have E2 := (fun o v => cell_of (o := o) (v := v) kE) 2 _ rfl
      have E3 := (fun o v => cell_of (o := o) (v := v) kE) 3 _ rfl
      have E4 := (fun o v => cell_of (o := o) (v := v) kE) 4 _ rfl
      have E5 := (fun o v => cell_of (o := o) (v := v) kE) 5 _ rfl
      have N0 := (fun o v => cell_of (o := o) (v := v) kN) 0 _ rfl
      have N1 := (fun o v => cell_of (o := o) (v := v) kN) 1 _ rfl
      have N2 := (fun o v => cell_of (o := o) (v := v) kN) 2 _ rfl
      have N3 := (fun o v => cell_of (o := o) (v := v) kN) 3 _ rfl
      have N4 := (fun o v => cell_of (o := o) (v := v) kN) 4 _ rfl
      have N5 := (fun o v => cell_of (o := o) (v := v) kN) 5 _ rfl
      have fN := fun o => frozen_of (o := o) kN
      clear kA kB kC kD kE kN
      go_wp2_with fail
      go_ret
      exact ⟨rfl, by repeat (first | exact hB | refine Below.setCell ?_ lN _)⟩
    · have hq3 : (h + 1 == 24) = false := by simp; omega
      clear kA kB kC kD kE kN
      go_wp2_with fail
      go_ret
      exact ⟨rfl, by repeat (first | exact hB | refine Below.setCell ?_ lN _)⟩
    · have hq3 : (mi + 1 == 60) = false := by simp; omega
      have hq4 : (h == 24) = false := by simp; omega
      clear kA kB kC kD kE kN
      go_wp2_with fail
      go_ret
      exact ⟨rfl, by repeat (first | exact hB | refine Below.setCell ?_ lN _)⟩
end Go.Proofs.Ytkbdgelfjdahpaa
