/- The walk of CalendarMatchesReference: it returns true at every input. -/
import Derived.Test.YtkbdgelfjdahpaaMatP
namespace Go.Proofs.Ytkbdgelfjdahpaa
open Go.RowKit Go.Rg Go.Shelf
set_option linter.unusedVariables false
set_option linter.unusedSimpArgs false

set_option maxRecDepth 100000 in
set_option maxHeartbeats 16000000 in
theorem mat_any (minute offset c0 c1 c2 c3 c4 c5 year month : Int) (date clock : ByteArray) (w : World) (a1 : -9223372036854775808 ≤ minute ∧ minute ≤ 9223372036854775807) (a2 : -9223372036854775808 ≤ offset ∧ offset ≤ 9223372036854775807) (a3 : -9223372036854775808 ≤ year ∧ year ≤ 9223372036854775807) (a4 : -9223372036854775808 ≤ month ∧ month ≤ 9223372036854775807) :
    Calls Try.prog 3 #[.int .i64 minute, .int .i64 offset, .agg #[.int .i64 c0, .int .i64 c1, .int .i64 c2, .int .i64 c3, .int .i64 c4, .int .i64 c5], .string date, .string clock, .int .i64 year, .int .i64 month] w fun e w' => e = .returned (.bool true) ∧ Below w.heap.size w w' := by
  have p1 := pk_bd minute 50000001 (by omega)
  have p2 := pk_bd offset 1681 (by omega)
  have p3 := pk_bd year 9999 (by omega)
  have p4 := pk_bd month 14 (by omega)
  go_enter Try.func3, Try.ntmps3
  go_wp2_with fail
  have hB := (Below.refl w.heap.size w).alloc (Nat.le_refl _) (.cells #[.int .i64 c0, .int .i64 c1, .int .i64 c2, .int .i64 c3, .int .i64 c4, .int .i64 c5] 23)
  have kC := heap_new (o := .cells #[.int .i64 c0, .int .i64 c1, .int .i64 c2, .int .i64 c3, .int .i64 c4, .int .i64 c5] 23) (W := w) rfl
  generalize w.alloc (.cells #[.int .i64 c0, .int .i64 c1, .int .i64 c2, .int .i64 c3, .int .i64 c4, .int .i64 c5] 23) = V0 at *
  refine (sane_any _).mono ?_
  rintro e w1 ⟨rfl, hb⟩
  replace kC := (hb.block _ (Array.getElem?_eq_some_iff.1 kC).1).trans kC
  replace hB := hB.trans (hb.mono hB.size)
  clear hb
  by_cases hd : (date.size : Int) ≤ 20
  · by_cases ht : (clock.size : Int) ≤ 20
    · skip
      go_wp2_with fail
      refine (pick_any minute 50000001 _ a1.1 a1.2 (by omega) (by omega)).mono ?_
      rintro e w2 ⟨rfl, rfl⟩
      generalize pk minute 50000001 = M at *
      go_wp2_with fail
      refine (pick_any offset 1681 _ a2.1 a2.2 (by omega) (by omega)).mono ?_
      rintro e w2 ⟨rfl, rfl⟩
      generalize pk offset 1681 = O at *
      go_wp2_with fail
      replace kC := heap_old (o := (.cells #[.int .i64 minute, .int .i64 offset, .int .i64 M, .int .i64 (O - 840)] 25)) kC
      have kS := heap_new (o := (.cells #[.int .i64 minute, .int .i64 offset, .int .i64 M, .int .i64 (O - 840)] 25)) (W := w1) rfl
      replace hB := hB.alloc hB.size (.cells #[.int .i64 minute, .int .i64 offset, .int .i64 M, .int .i64 (O - 840)] 25)
      generalize w1.heap.size = BS at *
      generalize w1.alloc (.cells #[.int .i64 minute, .int .i64 offset, .int .i64 M, .int .i64 (O - 840)] 25) = V at *
      obtain ⟨w1, hw1⟩ : ∃ w1, w1 = V := ⟨_, rfl⟩
      subst hw1
      refine wp_loop_rounds 3 ?_
      obtain ⟨y, mo, d, h, mi, wd, e, P, Q, c11, c12, c13, c14⟩ := mat_at (minute) (offset)
      obtain ⟨x, ex, c15, c16⟩ := mat_min c0 c1 c2 c3 c4 c5 (offset)
      obtain ⟨v, ev, c17, c18⟩ := mat_read date clock (offset) (by first | omega | (rw [ByteArray.size_extract]; omega)) (by first | omega | (rw [ByteArray.size_extract]; omega))
      rw [rounds_succ]
      have S0 := (fun o v => cell_of (o := o) (v := v) kS) 0 _ rfl
      have S1 := (fun o v => cell_of (o := o) (v := v) kS) 1 _ rfl
      have S2 := (fun o v => cell_of (o := o) (v := v) kS) 2 _ rfl
      have S3 := (fun o v => cell_of (o := o) (v := v) kS) 3 _ rfl
      go_wp2_with fail
      clear S0 S1 S2 S3
      replace kC := heap_old (o := (.cells #[.int .i64 (minute), .int .i64 (offset)] 25)) kC
      replace kS := heap_old (o := (.cells #[.int .i64 (minute), .int .i64 (offset)] 25)) kS
      have kX := heap_new (o := (.cells #[.int .i64 (minute), .int .i64 (offset)] 25)) (W := w1) rfl
      replace hB := hB.alloc hB.size (.cells #[.int .i64 (minute), .int .i64 (offset)] 25)
      generalize w1.heap.size = BX at *
      generalize w1.alloc (.cells #[.int .i64 (minute), .int .i64 (offset)] 25) = V1 at *
      refine (c11 _).mono ?_
      clear c11
      rintro r w2 ⟨rfl, hb⟩
      replace kC := (hb.block _ (Array.getElem?_eq_some_iff.1 kC).1).trans kC
      replace kS := (hb.block _ (Array.getElem?_eq_some_iff.1 kS).1).trans kS
      replace kX := (hb.block _ (Array.getElem?_eq_some_iff.1 kX).1).trans kX
      replace hB := hB.trans (hb.mono hB.size)
      clear hb
      replace kC := heap_old (o := (.cells #[.int .i64 y, .int .i64 mo, .int .i64 d, .int .i64 h, .int .i64 mi, .int .i64 wd] 23)) kC
      replace kS := heap_old (o := (.cells #[.int .i64 y, .int .i64 mo, .int .i64 d, .int .i64 h, .int .i64 mi, .int .i64 wd] 23)) kS
      replace kX := heap_old (o := (.cells #[.int .i64 y, .int .i64 mo, .int .i64 d, .int .i64 h, .int .i64 mi, .int .i64 wd] 23)) kX
      have kA := heap_new (o := (.cells #[.int .i64 y, .int .i64 mo, .int .i64 d, .int .i64 h, .int .i64 mi, .int .i64 wd] 23)) (W := w2) rfl
      replace hB := hB.alloc hB.size (.cells #[.int .i64 y, .int .i64 mo, .int .i64 d, .int .i64 h, .int .i64 mi, .int .i64 wd] 23)
      have X0 := (fun o v => cell_of (o := o) (v := v) kX) 0 _ rfl
      have X1 := (fun o v => cell_of (o := o) (v := v) kX) 1 _ rfl
      go_wp2_with fail
      clear X0 X1
      generalize w2.heap.size = BA at *
      generalize w2.alloc (.cells #[.int .i64 y, .int .i64 mo, .int .i64 d, .int .i64 h, .int .i64 mi, .int .i64 wd] 23) = V2 at *
      refine (c12 _).mono ?_
      clear c12
      rintro r w3 ⟨rfl, hb⟩
      replace kC := (hb.block _ (Array.getElem?_eq_some_iff.1 kC).1).trans kC
      replace kS := (hb.block _ (Array.getElem?_eq_some_iff.1 kS).1).trans kS
      replace kX := (hb.block _ (Array.getElem?_eq_some_iff.1 kX).1).trans kX
      replace kA := (hb.block _ (Array.getElem?_eq_some_iff.1 kA).1).trans kA
      replace hB := hB.trans (hb.mono hB.size)
      clear hb
      replace kC := heap_old (o := (.cells #[.int .i64 y, .int .i64 mo, .int .i64 d, .int .i64 h, .int .i64 mi, .int .i64 wd] 23)) kC
      replace kS := heap_old (o := (.cells #[.int .i64 y, .int .i64 mo, .int .i64 d, .int .i64 h, .int .i64 mi, .int .i64 wd] 23)) kS
      replace kX := heap_old (o := (.cells #[.int .i64 y, .int .i64 mo, .int .i64 d, .int .i64 h, .int .i64 mi, .int .i64 wd] 23)) kX
      replace kA := heap_old (o := (.cells #[.int .i64 y, .int .i64 mo, .int .i64 d, .int .i64 h, .int .i64 mi, .int .i64 wd] 23)) kA
      have kB := heap_new (o := (.cells #[.int .i64 y, .int .i64 mo, .int .i64 d, .int .i64 h, .int .i64 mi, .int .i64 wd] 23)) (W := w3) rfl
      replace hB := hB.alloc hB.size (.cells #[.int .i64 y, .int .i64 mo, .int .i64 d, .int .i64 h, .int .i64 mi, .int .i64 wd] 23)
      have X0 := (fun o v => cell_of (o := o) (v := v) kX) 0 _ rfl
      have X1 := (fun o v => cell_of (o := o) (v := v) kX) 1 _ rfl
      go_wp2_with fail
      clear X0 X1
      generalize w3.heap.size = BB at *
      generalize w3.alloc (.cells #[.int .i64 y, .int .i64 mo, .int .i64 d, .int .i64 h, .int .i64 mi, .int .i64 wd] 23) = V3 at *
      refine (c13 _).mono ?_
      clear c13
      rintro r w4 ⟨rfl, hb⟩
      replace kC := (hb.block _ (Array.getElem?_eq_some_iff.1 kC).1).trans kC
      replace kS := (hb.block _ (Array.getElem?_eq_some_iff.1 kS).1).trans kS
      replace kX := (hb.block _ (Array.getElem?_eq_some_iff.1 kX).1).trans kX
      replace kA := (hb.block _ (Array.getElem?_eq_some_iff.1 kA).1).trans kA
      replace kB := (hb.block _ (Array.getElem?_eq_some_iff.1 kB).1).trans kB
      replace hB := hB.trans (hb.mono hB.size)
      clear hb
      have X0 := (fun o v => cell_of (o := o) (v := v) kX) 0 _ rfl
      have X1 := (fun o v => cell_of (o := o) (v := v) kX) 1 _ rfl
      go_wp2_with fail
      clear X0 X1
      refine (c14 _).mono ?_
      clear c14
      rintro r w5 ⟨rfl, hb⟩
      replace kC := (hb.block _ (Array.getElem?_eq_some_iff.1 kC).1).trans kC
      replace kS := (hb.block _ (Array.getElem?_eq_some_iff.1 kS).1).trans kS
      replace kX := (hb.block _ (Array.getElem?_eq_some_iff.1 kX).1).trans kX
      replace kA := (hb.block _ (Array.getElem?_eq_some_iff.1 kA).1).trans kA
      replace kB := (hb.block _ (Array.getElem?_eq_some_iff.1 kB).1).trans kB
      replace hB := hB.trans (hb.mono hB.size)
      clear hb
      have X0 := (fun o v => cell_of (o := o) (v := v) kX) 0 _ rfl
      have X1 := (fun o v => cell_of (o := o) (v := v) kX) 1 _ rfl
      have C0 := (fun o v => cell_of (o := o) (v := v) kC) 0 _ rfl
      have C1 := (fun o v => cell_of (o := o) (v := v) kC) 1 _ rfl
      have C2 := (fun o v => cell_of (o := o) (v := v) kC) 2 _ rfl
      have C3 := (fun o v => cell_of (o := o) (v := v) kC) 3 _ rfl
      have C4 := (fun o v => cell_of (o := o) (v := v) kC) 4 _ rfl
      have C5 := (fun o v => cell_of (o := o) (v := v) kC) 5 _ rfl
      go_wp2_with fail
      clear X0 X1
      clear C0 C1 C2 C3 C4 C5
      refine (c15 _).mono ?_
      clear c15
      rintro r w6 ⟨rfl, hb⟩
      replace kC := (hb.block _ (Array.getElem?_eq_some_iff.1 kC).1).trans kC
      replace kS := (hb.block _ (Array.getElem?_eq_some_iff.1 kS).1).trans kS
      replace kX := (hb.block _ (Array.getElem?_eq_some_iff.1 kX).1).trans kX
      replace kA := (hb.block _ (Array.getElem?_eq_some_iff.1 kA).1).trans kA
      replace kB := (hb.block _ (Array.getElem?_eq_some_iff.1 kB).1).trans kB
      replace hB := hB.trans (hb.mono hB.size)
      clear hb
      have X0 := (fun o v => cell_of (o := o) (v := v) kX) 0 _ rfl
      have X1 := (fun o v => cell_of (o := o) (v := v) kX) 1 _ rfl
      have C0 := (fun o v => cell_of (o := o) (v := v) kC) 0 _ rfl
      have C1 := (fun o v => cell_of (o := o) (v := v) kC) 1 _ rfl
      have C2 := (fun o v => cell_of (o := o) (v := v) kC) 2 _ rfl
      have C3 := (fun o v => cell_of (o := o) (v := v) kC) 3 _ rfl
      have C4 := (fun o v => cell_of (o := o) (v := v) kC) 4 _ rfl
      have C5 := (fun o v => cell_of (o := o) (v := v) kC) 5 _ rfl
      go_wp2_with fail
      clear X0 X1
      clear C0 C1 C2 C3 C4 C5
      refine (c16 _).mono ?_
      clear c16
      rintro r w7 ⟨rfl, hb⟩
      replace kC := (hb.block _ (Array.getElem?_eq_some_iff.1 kC).1).trans kC
      replace kS := (hb.block _ (Array.getElem?_eq_some_iff.1 kS).1).trans kS
      replace kX := (hb.block _ (Array.getElem?_eq_some_iff.1 kX).1).trans kX
      replace kA := (hb.block _ (Array.getElem?_eq_some_iff.1 kA).1).trans kA
      replace kB := (hb.block _ (Array.getElem?_eq_some_iff.1 kB).1).trans kB
      replace hB := hB.trans (hb.mono hB.size)
      clear hb
      have X0 := (fun o v => cell_of (o := o) (v := v) kX) 0 _ rfl
      have X1 := (fun o v => cell_of (o := o) (v := v) kX) 1 _ rfl
      go_wp2_with fail
      clear X0 X1
      refine (c17 _).mono ?_
      clear c17
      rintro r w8 ⟨rfl, hb⟩
      replace kC := (hb.block _ (Array.getElem?_eq_some_iff.1 kC).1).trans kC
      replace kS := (hb.block _ (Array.getElem?_eq_some_iff.1 kS).1).trans kS
      replace kX := (hb.block _ (Array.getElem?_eq_some_iff.1 kX).1).trans kX
      replace kA := (hb.block _ (Array.getElem?_eq_some_iff.1 kA).1).trans kA
      replace kB := (hb.block _ (Array.getElem?_eq_some_iff.1 kB).1).trans kB
      replace hB := hB.trans (hb.mono hB.size)
      clear hb
      have X0 := (fun o v => cell_of (o := o) (v := v) kX) 0 _ rfl
      have X1 := (fun o v => cell_of (o := o) (v := v) kX) 1 _ rfl
      go_wp2_with fail
      clear X0 X1
      refine (c18 _).mono ?_
      clear c18
      rintro r w9 ⟨rfl, hb⟩
      replace kC := (hb.block _ (Array.getElem?_eq_some_iff.1 kC).1).trans kC
      replace kS := (hb.block _ (Array.getElem?_eq_some_iff.1 kS).1).trans kS
      replace kX := (hb.block _ (Array.getElem?_eq_some_iff.1 kX).1).trans kX
      replace kA := (hb.block _ (Array.getElem?_eq_some_iff.1 kA).1).trans kA
      replace kB := (hb.block _ (Array.getElem?_eq_some_iff.1 kB).1).trans kB
      replace hB := hB.trans (hb.mono hB.size)
      clear hb
      have A0 := (fun o v => cell_of (o := o) (v := v) kA) 0 _ rfl
      have A1 := (fun o v => cell_of (o := o) (v := v) kA) 1 _ rfl
      have A2 := (fun o v => cell_of (o := o) (v := v) kA) 2 _ rfl
      have A3 := (fun o v => cell_of (o := o) (v := v) kA) 3 _ rfl
      have A4 := (fun o v => cell_of (o := o) (v := v) kA) 4 _ rfl
      have A5 := (fun o v => cell_of (o := o) (v := v) kA) 5 _ rfl
      have B0 := (fun o v => cell_of (o := o) (v := v) kB) 0 _ rfl
      have B1 := (fun o v => cell_of (o := o) (v := v) kB) 1 _ rfl
      have B2 := (fun o v => cell_of (o := o) (v := v) kB) 2 _ rfl
      have B3 := (fun o v => cell_of (o := o) (v := v) kB) 3 _ rfl
      have B4 := (fun o v => cell_of (o := o) (v := v) kB) 4 _ rfl
      have B5 := (fun o v => cell_of (o := o) (v := v) kB) 5 _ rfl
      go_wp2_with fail
      clear A0 A1 A2 A3 A4 A5
      clear B0 B1 B2 B3 B4 B5
      clear kX kA kB
      have hw9 : w9 = w9 := rfl
      clear hw9
      obtain ⟨w1, hw1⟩ : ∃ w1, w1 = w9 := ⟨_, rfl⟩
      subst hw1
      obtain ⟨y, mo, d, h, mi, wd, e, P, Q, c11, c12, c13, c14⟩ := mat_at (M) (O - 840)
      obtain ⟨x, ex, c15, c16⟩ := mat_min c0 c1 c2 c3 c4 c5 (O - 840)
      obtain ⟨v, ev, c17, c18⟩ := mat_read date clock (O - 840) (by first | omega | (rw [ByteArray.size_extract]; omega)) (by first | omega | (rw [ByteArray.size_extract]; omega))
      rw [rounds_succ]
      have S0 := (fun o v => cell_of (o := o) (v := v) kS) 0 _ rfl
      have S1 := (fun o v => cell_of (o := o) (v := v) kS) 1 _ rfl
      have S2 := (fun o v => cell_of (o := o) (v := v) kS) 2 _ rfl
      have S3 := (fun o v => cell_of (o := o) (v := v) kS) 3 _ rfl
      go_wp2_with fail
      clear S0 S1 S2 S3
      replace kC := heap_old (o := (.cells #[.int .i64 (M), .int .i64 (O - 840)] 25)) kC
      replace kS := heap_old (o := (.cells #[.int .i64 (M), .int .i64 (O - 840)] 25)) kS
      have kX := heap_new (o := (.cells #[.int .i64 (M), .int .i64 (O - 840)] 25)) (W := w1) rfl
      replace hB := hB.alloc hB.size (.cells #[.int .i64 (M), .int .i64 (O - 840)] 25)
      generalize w1.heap.size = BX at *
      generalize w1.alloc (.cells #[.int .i64 (M), .int .i64 (O - 840)] 25) = V1 at *
      refine (c11 _).mono ?_
      clear c11
      rintro r w2 ⟨rfl, hb⟩
      replace kC := (hb.block _ (Array.getElem?_eq_some_iff.1 kC).1).trans kC
      replace kS := (hb.block _ (Array.getElem?_eq_some_iff.1 kS).1).trans kS
      replace kX := (hb.block _ (Array.getElem?_eq_some_iff.1 kX).1).trans kX
      replace hB := hB.trans (hb.mono hB.size)
      clear hb
      replace kC := heap_old (o := (.cells #[.int .i64 y, .int .i64 mo, .int .i64 d, .int .i64 h, .int .i64 mi, .int .i64 wd] 23)) kC
      replace kS := heap_old (o := (.cells #[.int .i64 y, .int .i64 mo, .int .i64 d, .int .i64 h, .int .i64 mi, .int .i64 wd] 23)) kS
      replace kX := heap_old (o := (.cells #[.int .i64 y, .int .i64 mo, .int .i64 d, .int .i64 h, .int .i64 mi, .int .i64 wd] 23)) kX
      have kA := heap_new (o := (.cells #[.int .i64 y, .int .i64 mo, .int .i64 d, .int .i64 h, .int .i64 mi, .int .i64 wd] 23)) (W := w2) rfl
      replace hB := hB.alloc hB.size (.cells #[.int .i64 y, .int .i64 mo, .int .i64 d, .int .i64 h, .int .i64 mi, .int .i64 wd] 23)
      have X0 := (fun o v => cell_of (o := o) (v := v) kX) 0 _ rfl
      have X1 := (fun o v => cell_of (o := o) (v := v) kX) 1 _ rfl
      go_wp2_with fail
      clear X0 X1
      generalize w2.heap.size = BA at *
      generalize w2.alloc (.cells #[.int .i64 y, .int .i64 mo, .int .i64 d, .int .i64 h, .int .i64 mi, .int .i64 wd] 23) = V2 at *
      refine (c12 _).mono ?_
      clear c12
      rintro r w3 ⟨rfl, hb⟩
      replace kC := (hb.block _ (Array.getElem?_eq_some_iff.1 kC).1).trans kC
      replace kS := (hb.block _ (Array.getElem?_eq_some_iff.1 kS).1).trans kS
      replace kX := (hb.block _ (Array.getElem?_eq_some_iff.1 kX).1).trans kX
      replace kA := (hb.block _ (Array.getElem?_eq_some_iff.1 kA).1).trans kA
      replace hB := hB.trans (hb.mono hB.size)
      clear hb
      replace kC := heap_old (o := (.cells #[.int .i64 y, .int .i64 mo, .int .i64 d, .int .i64 h, .int .i64 mi, .int .i64 wd] 23)) kC
      replace kS := heap_old (o := (.cells #[.int .i64 y, .int .i64 mo, .int .i64 d, .int .i64 h, .int .i64 mi, .int .i64 wd] 23)) kS
      replace kX := heap_old (o := (.cells #[.int .i64 y, .int .i64 mo, .int .i64 d, .int .i64 h, .int .i64 mi, .int .i64 wd] 23)) kX
      replace kA := heap_old (o := (.cells #[.int .i64 y, .int .i64 mo, .int .i64 d, .int .i64 h, .int .i64 mi, .int .i64 wd] 23)) kA
      have kB := heap_new (o := (.cells #[.int .i64 y, .int .i64 mo, .int .i64 d, .int .i64 h, .int .i64 mi, .int .i64 wd] 23)) (W := w3) rfl
      replace hB := hB.alloc hB.size (.cells #[.int .i64 y, .int .i64 mo, .int .i64 d, .int .i64 h, .int .i64 mi, .int .i64 wd] 23)
      have X0 := (fun o v => cell_of (o := o) (v := v) kX) 0 _ rfl
      have X1 := (fun o v => cell_of (o := o) (v := v) kX) 1 _ rfl
      go_wp2_with fail
      clear X0 X1
      generalize w3.heap.size = BB at *
      generalize w3.alloc (.cells #[.int .i64 y, .int .i64 mo, .int .i64 d, .int .i64 h, .int .i64 mi, .int .i64 wd] 23) = V3 at *
      refine (c13 _).mono ?_
      clear c13
      rintro r w4 ⟨rfl, hb⟩
      replace kC := (hb.block _ (Array.getElem?_eq_some_iff.1 kC).1).trans kC
      replace kS := (hb.block _ (Array.getElem?_eq_some_iff.1 kS).1).trans kS
      replace kX := (hb.block _ (Array.getElem?_eq_some_iff.1 kX).1).trans kX
      replace kA := (hb.block _ (Array.getElem?_eq_some_iff.1 kA).1).trans kA
      replace kB := (hb.block _ (Array.getElem?_eq_some_iff.1 kB).1).trans kB
      replace hB := hB.trans (hb.mono hB.size)
      clear hb
      have X0 := (fun o v => cell_of (o := o) (v := v) kX) 0 _ rfl
      have X1 := (fun o v => cell_of (o := o) (v := v) kX) 1 _ rfl
      go_wp2_with fail
      clear X0 X1
      refine (c14 _).mono ?_
      clear c14
      rintro r w5 ⟨rfl, hb⟩
      replace kC := (hb.block _ (Array.getElem?_eq_some_iff.1 kC).1).trans kC
      replace kS := (hb.block _ (Array.getElem?_eq_some_iff.1 kS).1).trans kS
      replace kX := (hb.block _ (Array.getElem?_eq_some_iff.1 kX).1).trans kX
      replace kA := (hb.block _ (Array.getElem?_eq_some_iff.1 kA).1).trans kA
      replace kB := (hb.block _ (Array.getElem?_eq_some_iff.1 kB).1).trans kB
      replace hB := hB.trans (hb.mono hB.size)
      clear hb
      have X0 := (fun o v => cell_of (o := o) (v := v) kX) 0 _ rfl
      have X1 := (fun o v => cell_of (o := o) (v := v) kX) 1 _ rfl
      have C0 := (fun o v => cell_of (o := o) (v := v) kC) 0 _ rfl
      have C1 := (fun o v => cell_of (o := o) (v := v) kC) 1 _ rfl
      have C2 := (fun o v => cell_of (o := o) (v := v) kC) 2 _ rfl
      have C3 := (fun o v => cell_of (o := o) (v := v) kC) 3 _ rfl
      have C4 := (fun o v => cell_of (o := o) (v := v) kC) 4 _ rfl
      have C5 := (fun o v => cell_of (o := o) (v := v) kC) 5 _ rfl
      go_wp2_with fail
      clear X0 X1
      clear C0 C1 C2 C3 C4 C5
      refine (c15 _).mono ?_
      clear c15
      rintro r w6 ⟨rfl, hb⟩
      replace kC := (hb.block _ (Array.getElem?_eq_some_iff.1 kC).1).trans kC
      replace kS := (hb.block _ (Array.getElem?_eq_some_iff.1 kS).1).trans kS
      replace kX := (hb.block _ (Array.getElem?_eq_some_iff.1 kX).1).trans kX
      replace kA := (hb.block _ (Array.getElem?_eq_some_iff.1 kA).1).trans kA
      replace kB := (hb.block _ (Array.getElem?_eq_some_iff.1 kB).1).trans kB
      replace hB := hB.trans (hb.mono hB.size)
      clear hb
      have X0 := (fun o v => cell_of (o := o) (v := v) kX) 0 _ rfl
      have X1 := (fun o v => cell_of (o := o) (v := v) kX) 1 _ rfl
      have C0 := (fun o v => cell_of (o := o) (v := v) kC) 0 _ rfl
      have C1 := (fun o v => cell_of (o := o) (v := v) kC) 1 _ rfl
      have C2 := (fun o v => cell_of (o := o) (v := v) kC) 2 _ rfl
      have C3 := (fun o v => cell_of (o := o) (v := v) kC) 3 _ rfl
      have C4 := (fun o v => cell_of (o := o) (v := v) kC) 4 _ rfl
      have C5 := (fun o v => cell_of (o := o) (v := v) kC) 5 _ rfl
      go_wp2_with fail
      clear X0 X1
      clear C0 C1 C2 C3 C4 C5
      refine (c16 _).mono ?_
      clear c16
      rintro r w7 ⟨rfl, hb⟩
      replace kC := (hb.block _ (Array.getElem?_eq_some_iff.1 kC).1).trans kC
      replace kS := (hb.block _ (Array.getElem?_eq_some_iff.1 kS).1).trans kS
      replace kX := (hb.block _ (Array.getElem?_eq_some_iff.1 kX).1).trans kX
      replace kA := (hb.block _ (Array.getElem?_eq_some_iff.1 kA).1).trans kA
      replace kB := (hb.block _ (Array.getElem?_eq_some_iff.1 kB).1).trans kB
      replace hB := hB.trans (hb.mono hB.size)
      clear hb
      have X0 := (fun o v => cell_of (o := o) (v := v) kX) 0 _ rfl
      have X1 := (fun o v => cell_of (o := o) (v := v) kX) 1 _ rfl
      go_wp2_with fail
      clear X0 X1
      refine (c17 _).mono ?_
      clear c17
      rintro r w8 ⟨rfl, hb⟩
      replace kC := (hb.block _ (Array.getElem?_eq_some_iff.1 kC).1).trans kC
      replace kS := (hb.block _ (Array.getElem?_eq_some_iff.1 kS).1).trans kS
      replace kX := (hb.block _ (Array.getElem?_eq_some_iff.1 kX).1).trans kX
      replace kA := (hb.block _ (Array.getElem?_eq_some_iff.1 kA).1).trans kA
      replace kB := (hb.block _ (Array.getElem?_eq_some_iff.1 kB).1).trans kB
      replace hB := hB.trans (hb.mono hB.size)
      clear hb
      have X0 := (fun o v => cell_of (o := o) (v := v) kX) 0 _ rfl
      have X1 := (fun o v => cell_of (o := o) (v := v) kX) 1 _ rfl
      go_wp2_with fail
      clear X0 X1
      refine (c18 _).mono ?_
      clear c18
      rintro r w9 ⟨rfl, hb⟩
      replace kC := (hb.block _ (Array.getElem?_eq_some_iff.1 kC).1).trans kC
      replace kS := (hb.block _ (Array.getElem?_eq_some_iff.1 kS).1).trans kS
      replace kX := (hb.block _ (Array.getElem?_eq_some_iff.1 kX).1).trans kX
      replace kA := (hb.block _ (Array.getElem?_eq_some_iff.1 kA).1).trans kA
      replace kB := (hb.block _ (Array.getElem?_eq_some_iff.1 kB).1).trans kB
      replace hB := hB.trans (hb.mono hB.size)
      clear hb
      have A0 := (fun o v => cell_of (o := o) (v := v) kA) 0 _ rfl
      have A1 := (fun o v => cell_of (o := o) (v := v) kA) 1 _ rfl
      have A2 := (fun o v => cell_of (o := o) (v := v) kA) 2 _ rfl
      have A3 := (fun o v => cell_of (o := o) (v := v) kA) 3 _ rfl
      have A4 := (fun o v => cell_of (o := o) (v := v) kA) 4 _ rfl
      have A5 := (fun o v => cell_of (o := o) (v := v) kA) 5 _ rfl
      have B0 := (fun o v => cell_of (o := o) (v := v) kB) 0 _ rfl
      have B1 := (fun o v => cell_of (o := o) (v := v) kB) 1 _ rfl
      have B2 := (fun o v => cell_of (o := o) (v := v) kB) 2 _ rfl
      have B3 := (fun o v => cell_of (o := o) (v := v) kB) 3 _ rfl
      have B4 := (fun o v => cell_of (o := o) (v := v) kB) 4 _ rfl
      have B5 := (fun o v => cell_of (o := o) (v := v) kB) 5 _ rfl
      go_wp2_with fail
      clear A0 A1 A2 A3 A4 A5
      clear B0 B1 B2 B3 B4 B5
      clear kX kA kB
      have hw9 : w9 = w9 := rfl
      clear hw9
      rw [rounds_succ]
      clear kS kC
      go_wp2_with fail
      refine (days_any _ _ _).mono ?_
      rintro r w2 ⟨rfl, hb⟩
      replace hB := hB.trans (hb.mono hB.size)
      clear hb
      go_wp2_with fail
      refine (rdays_any _ _ _).mono ?_
      rintro r w3 ⟨rfl, hb⟩
      replace hB := hB.trans (hb.mono hB.size)
      clear hb
      go_wp2_with fail
      refine (pick_any year 9999 _ a3.1 a3.2 (by omega) (by omega)).mono ?_
      rintro e w4 ⟨rfl, rfl⟩
      go_wp2_with fail
      refine (pick_any month 14 _ a4.1 a4.2 (by omega) (by omega)).mono ?_
      rintro e w4 ⟨rfl, rfl⟩
      go_wp2_with fail
      refine (days_any _ _ _).mono ?_
      rintro r w5 ⟨rfl, hb⟩
      replace hB := hB.trans (hb.mono hB.size)
      clear hb
      go_wp2_with fail
      refine (pick_any year 9999 _ a3.1 a3.2 (by omega) (by omega)).mono ?_
      rintro e w6 ⟨rfl, rfl⟩
      go_wp2_with fail
      refine (pick_any month 14 _ a4.1 a4.2 (by omega) (by omega)).mono ?_
      rintro e w6 ⟨rfl, rfl⟩
      go_wp2_with fail
      refine (rdays_any _ _ _).mono ?_
      rintro r w7 ⟨rfl, hb⟩
      replace hB := hB.trans (hb.mono hB.size)
      clear hb
      go_wp2_with fail
      go_ret
      exact ⟨rfl, hB⟩
    · replace ht : (20 : Int) < clock.size := by omega
      go_wp2_with fail
      refine (pick_any minute 50000001 _ a1.1 a1.2 (by omega) (by omega)).mono ?_
      rintro e w2 ⟨rfl, rfl⟩
      generalize pk minute 50000001 = M at *
      go_wp2_with fail
      refine (pick_any offset 1681 _ a2.1 a2.2 (by omega) (by omega)).mono ?_
      rintro e w2 ⟨rfl, rfl⟩
      generalize pk offset 1681 = O at *
      go_wp2_with fail
      replace kC := heap_old (o := (.cells #[.int .i64 minute, .int .i64 offset, .int .i64 M, .int .i64 (O - 840)] 25)) kC
      have kS := heap_new (o := (.cells #[.int .i64 minute, .int .i64 offset, .int .i64 M, .int .i64 (O - 840)] 25)) (W := w1) rfl
      replace hB := hB.alloc hB.size (.cells #[.int .i64 minute, .int .i64 offset, .int .i64 M, .int .i64 (O - 840)] 25)
      generalize w1.heap.size = BS at *
      generalize w1.alloc (.cells #[.int .i64 minute, .int .i64 offset, .int .i64 M, .int .i64 (O - 840)] 25) = V at *
      obtain ⟨w1, hw1⟩ : ∃ w1, w1 = V := ⟨_, rfl⟩
      subst hw1
      refine wp_loop_rounds 3 ?_
      obtain ⟨y, mo, d, h, mi, wd, e, P, Q, c11, c12, c13, c14⟩ := mat_at (minute) (offset)
      obtain ⟨x, ex, c15, c16⟩ := mat_min c0 c1 c2 c3 c4 c5 (offset)
      obtain ⟨v, ev, c17, c18⟩ := mat_read date (clock.extract 0 20) (offset) (by first | omega | (rw [ByteArray.size_extract]; omega)) (by first | omega | (rw [ByteArray.size_extract]; omega))
      rw [rounds_succ]
      have S0 := (fun o v => cell_of (o := o) (v := v) kS) 0 _ rfl
      have S1 := (fun o v => cell_of (o := o) (v := v) kS) 1 _ rfl
      have S2 := (fun o v => cell_of (o := o) (v := v) kS) 2 _ rfl
      have S3 := (fun o v => cell_of (o := o) (v := v) kS) 3 _ rfl
      go_wp2_with fail
      clear S0 S1 S2 S3
      replace kC := heap_old (o := (.cells #[.int .i64 (minute), .int .i64 (offset)] 25)) kC
      replace kS := heap_old (o := (.cells #[.int .i64 (minute), .int .i64 (offset)] 25)) kS
      have kX := heap_new (o := (.cells #[.int .i64 (minute), .int .i64 (offset)] 25)) (W := w1) rfl
      replace hB := hB.alloc hB.size (.cells #[.int .i64 (minute), .int .i64 (offset)] 25)
      generalize w1.heap.size = BX at *
      generalize w1.alloc (.cells #[.int .i64 (minute), .int .i64 (offset)] 25) = V1 at *
      refine (c11 _).mono ?_
      clear c11
      rintro r w2 ⟨rfl, hb⟩
      replace kC := (hb.block _ (Array.getElem?_eq_some_iff.1 kC).1).trans kC
      replace kS := (hb.block _ (Array.getElem?_eq_some_iff.1 kS).1).trans kS
      replace kX := (hb.block _ (Array.getElem?_eq_some_iff.1 kX).1).trans kX
      replace hB := hB.trans (hb.mono hB.size)
      clear hb
      replace kC := heap_old (o := (.cells #[.int .i64 y, .int .i64 mo, .int .i64 d, .int .i64 h, .int .i64 mi, .int .i64 wd] 23)) kC
      replace kS := heap_old (o := (.cells #[.int .i64 y, .int .i64 mo, .int .i64 d, .int .i64 h, .int .i64 mi, .int .i64 wd] 23)) kS
      replace kX := heap_old (o := (.cells #[.int .i64 y, .int .i64 mo, .int .i64 d, .int .i64 h, .int .i64 mi, .int .i64 wd] 23)) kX
      have kA := heap_new (o := (.cells #[.int .i64 y, .int .i64 mo, .int .i64 d, .int .i64 h, .int .i64 mi, .int .i64 wd] 23)) (W := w2) rfl
      replace hB := hB.alloc hB.size (.cells #[.int .i64 y, .int .i64 mo, .int .i64 d, .int .i64 h, .int .i64 mi, .int .i64 wd] 23)
      have X0 := (fun o v => cell_of (o := o) (v := v) kX) 0 _ rfl
      have X1 := (fun o v => cell_of (o := o) (v := v) kX) 1 _ rfl
      go_wp2_with fail
      clear X0 X1
      generalize w2.heap.size = BA at *
      generalize w2.alloc (.cells #[.int .i64 y, .int .i64 mo, .int .i64 d, .int .i64 h, .int .i64 mi, .int .i64 wd] 23) = V2 at *
      refine (c12 _).mono ?_
      clear c12
      rintro r w3 ⟨rfl, hb⟩
      replace kC := (hb.block _ (Array.getElem?_eq_some_iff.1 kC).1).trans kC
      replace kS := (hb.block _ (Array.getElem?_eq_some_iff.1 kS).1).trans kS
      replace kX := (hb.block _ (Array.getElem?_eq_some_iff.1 kX).1).trans kX
      replace kA := (hb.block _ (Array.getElem?_eq_some_iff.1 kA).1).trans kA
      replace hB := hB.trans (hb.mono hB.size)
      clear hb
      replace kC := heap_old (o := (.cells #[.int .i64 y, .int .i64 mo, .int .i64 d, .int .i64 h, .int .i64 mi, .int .i64 wd] 23)) kC
      replace kS := heap_old (o := (.cells #[.int .i64 y, .int .i64 mo, .int .i64 d, .int .i64 h, .int .i64 mi, .int .i64 wd] 23)) kS
      replace kX := heap_old (o := (.cells #[.int .i64 y, .int .i64 mo, .int .i64 d, .int .i64 h, .int .i64 mi, .int .i64 wd] 23)) kX
      replace kA := heap_old (o := (.cells #[.int .i64 y, .int .i64 mo, .int .i64 d, .int .i64 h, .int .i64 mi, .int .i64 wd] 23)) kA
      have kB := heap_new (o := (.cells #[.int .i64 y, .int .i64 mo, .int .i64 d, .int .i64 h, .int .i64 mi, .int .i64 wd] 23)) (W := w3) rfl
      replace hB := hB.alloc hB.size (.cells #[.int .i64 y, .int .i64 mo, .int .i64 d, .int .i64 h, .int .i64 mi, .int .i64 wd] 23)
      have X0 := (fun o v => cell_of (o := o) (v := v) kX) 0 _ rfl
      have X1 := (fun o v => cell_of (o := o) (v := v) kX) 1 _ rfl
      go_wp2_with fail
      clear X0 X1
      generalize w3.heap.size = BB at *
      generalize w3.alloc (.cells #[.int .i64 y, .int .i64 mo, .int .i64 d, .int .i64 h, .int .i64 mi, .int .i64 wd] 23) = V3 at *
      refine (c13 _).mono ?_
      clear c13
      rintro r w4 ⟨rfl, hb⟩
      replace kC := (hb.block _ (Array.getElem?_eq_some_iff.1 kC).1).trans kC
      replace kS := (hb.block _ (Array.getElem?_eq_some_iff.1 kS).1).trans kS
      replace kX := (hb.block _ (Array.getElem?_eq_some_iff.1 kX).1).trans kX
      replace kA := (hb.block _ (Array.getElem?_eq_some_iff.1 kA).1).trans kA
      replace kB := (hb.block _ (Array.getElem?_eq_some_iff.1 kB).1).trans kB
      replace hB := hB.trans (hb.mono hB.size)
      clear hb
      have X0 := (fun o v => cell_of (o := o) (v := v) kX) 0 _ rfl
      have X1 := (fun o v => cell_of (o := o) (v := v) kX) 1 _ rfl
      go_wp2_with fail
      clear X0 X1
      refine (c14 _).mono ?_
      clear c14
      rintro r w5 ⟨rfl, hb⟩
      replace kC := (hb.block _ (Array.getElem?_eq_some_iff.1 kC).1).trans kC
      replace kS := (hb.block _ (Array.getElem?_eq_some_iff.1 kS).1).trans kS
      replace kX := (hb.block _ (Array.getElem?_eq_some_iff.1 kX).1).trans kX
      replace kA := (hb.block _ (Array.getElem?_eq_some_iff.1 kA).1).trans kA
      replace kB := (hb.block _ (Array.getElem?_eq_some_iff.1 kB).1).trans kB
      replace hB := hB.trans (hb.mono hB.size)
      clear hb
      have X0 := (fun o v => cell_of (o := o) (v := v) kX) 0 _ rfl
      have X1 := (fun o v => cell_of (o := o) (v := v) kX) 1 _ rfl
      have C0 := (fun o v => cell_of (o := o) (v := v) kC) 0 _ rfl
      have C1 := (fun o v => cell_of (o := o) (v := v) kC) 1 _ rfl
      have C2 := (fun o v => cell_of (o := o) (v := v) kC) 2 _ rfl
      have C3 := (fun o v => cell_of (o := o) (v := v) kC) 3 _ rfl
      have C4 := (fun o v => cell_of (o := o) (v := v) kC) 4 _ rfl
      have C5 := (fun o v => cell_of (o := o) (v := v) kC) 5 _ rfl
      go_wp2_with fail
      clear X0 X1
      clear C0 C1 C2 C3 C4 C5
      refine (c15 _).mono ?_
      clear c15
      rintro r w6 ⟨rfl, hb⟩
      replace kC := (hb.block _ (Array.getElem?_eq_some_iff.1 kC).1).trans kC
      replace kS := (hb.block _ (Array.getElem?_eq_some_iff.1 kS).1).trans kS
      replace kX := (hb.block _ (Array.getElem?_eq_some_iff.1 kX).1).trans kX
      replace kA := (hb.block _ (Array.getElem?_eq_some_iff.1 kA).1).trans kA
      replace kB := (hb.block _ (Array.getElem?_eq_some_iff.1 kB).1).trans kB
      replace hB := hB.trans (hb.mono hB.size)
      clear hb
      have X0 := (fun o v => cell_of (o := o) (v := v) kX) 0 _ rfl
      have X1 := (fun o v => cell_of (o := o) (v := v) kX) 1 _ rfl
      have C0 := (fun o v => cell_of (o := o) (v := v) kC) 0 _ rfl
      have C1 := (fun o v => cell_of (o := o) (v := v) kC) 1 _ rfl
      have C2 := (fun o v => cell_of (o := o) (v := v) kC) 2 _ rfl
      have C3 := (fun o v => cell_of (o := o) (v := v) kC) 3 _ rfl
      have C4 := (fun o v => cell_of (o := o) (v := v) kC) 4 _ rfl
      have C5 := (fun o v => cell_of (o := o) (v := v) kC) 5 _ rfl
      go_wp2_with fail
      clear X0 X1
      clear C0 C1 C2 C3 C4 C5
      refine (c16 _).mono ?_
      clear c16
      rintro r w7 ⟨rfl, hb⟩
      replace kC := (hb.block _ (Array.getElem?_eq_some_iff.1 kC).1).trans kC
      replace kS := (hb.block _ (Array.getElem?_eq_some_iff.1 kS).1).trans kS
      replace kX := (hb.block _ (Array.getElem?_eq_some_iff.1 kX).1).trans kX
      replace kA := (hb.block _ (Array.getElem?_eq_some_iff.1 kA).1).trans kA
      replace kB := (hb.block _ (Array.getElem?_eq_some_iff.1 kB).1).trans kB
      replace hB := hB.trans (hb.mono hB.size)
      clear hb
      have X0 := (fun o v => cell_of (o := o) (v := v) kX) 0 _ rfl
      have X1 := (fun o v => cell_of (o := o) (v := v) kX) 1 _ rfl
      go_wp2_with fail
      clear X0 X1
      refine (c17 _).mono ?_
      clear c17
      rintro r w8 ⟨rfl, hb⟩
      replace kC := (hb.block _ (Array.getElem?_eq_some_iff.1 kC).1).trans kC
      replace kS := (hb.block _ (Array.getElem?_eq_some_iff.1 kS).1).trans kS
      replace kX := (hb.block _ (Array.getElem?_eq_some_iff.1 kX).1).trans kX
      replace kA := (hb.block _ (Array.getElem?_eq_some_iff.1 kA).1).trans kA
      replace kB := (hb.block _ (Array.getElem?_eq_some_iff.1 kB).1).trans kB
      replace hB := hB.trans (hb.mono hB.size)
      clear hb
      have X0 := (fun o v => cell_of (o := o) (v := v) kX) 0 _ rfl
      have X1 := (fun o v => cell_of (o := o) (v := v) kX) 1 _ rfl
      go_wp2_with fail
      clear X0 X1
      refine (c18 _).mono ?_
      clear c18
      rintro r w9 ⟨rfl, hb⟩
      replace kC := (hb.block _ (Array.getElem?_eq_some_iff.1 kC).1).trans kC
      replace kS := (hb.block _ (Array.getElem?_eq_some_iff.1 kS).1).trans kS
      replace kX := (hb.block _ (Array.getElem?_eq_some_iff.1 kX).1).trans kX
      replace kA := (hb.block _ (Array.getElem?_eq_some_iff.1 kA).1).trans kA
      replace kB := (hb.block _ (Array.getElem?_eq_some_iff.1 kB).1).trans kB
      replace hB := hB.trans (hb.mono hB.size)
      clear hb
      have A0 := (fun o v => cell_of (o := o) (v := v) kA) 0 _ rfl
      have A1 := (fun o v => cell_of (o := o) (v := v) kA) 1 _ rfl
      have A2 := (fun o v => cell_of (o := o) (v := v) kA) 2 _ rfl
      have A3 := (fun o v => cell_of (o := o) (v := v) kA) 3 _ rfl
      have A4 := (fun o v => cell_of (o := o) (v := v) kA) 4 _ rfl
      have A5 := (fun o v => cell_of (o := o) (v := v) kA) 5 _ rfl
      have B0 := (fun o v => cell_of (o := o) (v := v) kB) 0 _ rfl
      have B1 := (fun o v => cell_of (o := o) (v := v) kB) 1 _ rfl
      have B2 := (fun o v => cell_of (o := o) (v := v) kB) 2 _ rfl
      have B3 := (fun o v => cell_of (o := o) (v := v) kB) 3 _ rfl
      have B4 := (fun o v => cell_of (o := o) (v := v) kB) 4 _ rfl
      have B5 := (fun o v => cell_of (o := o) (v := v) kB) 5 _ rfl
      go_wp2_with fail
      clear A0 A1 A2 A3 A4 A5
      clear B0 B1 B2 B3 B4 B5
      clear kX kA kB
      have hw9 : w9 = w9 := rfl
      clear hw9
      obtain ⟨w1, hw1⟩ : ∃ w1, w1 = w9 := ⟨_, rfl⟩
      subst hw1
      obtain ⟨y, mo, d, h, mi, wd, e, P, Q, c11, c12, c13, c14⟩ := mat_at (M) (O - 840)
      obtain ⟨x, ex, c15, c16⟩ := mat_min c0 c1 c2 c3 c4 c5 (O - 840)
      obtain ⟨v, ev, c17, c18⟩ := mat_read date (clock.extract 0 20) (O - 840) (by first | omega | (rw [ByteArray.size_extract]; omega)) (by first | omega | (rw [ByteArray.size_extract]; omega))
      rw [rounds_succ]
      have S0 := (fun o v => cell_of (o := o) (v := v) kS) 0 _ rfl
      have S1 := (fun o v => cell_of (o := o) (v := v) kS) 1 _ rfl
      have S2 := (fun o v => cell_of (o := o) (v := v) kS) 2 _ rfl
      have S3 := (fun o v => cell_of (o := o) (v := v) kS) 3 _ rfl
      go_wp2_with fail
      clear S0 S1 S2 S3
      replace kC := heap_old (o := (.cells #[.int .i64 (M), .int .i64 (O - 840)] 25)) kC
      replace kS := heap_old (o := (.cells #[.int .i64 (M), .int .i64 (O - 840)] 25)) kS
      have kX := heap_new (o := (.cells #[.int .i64 (M), .int .i64 (O - 840)] 25)) (W := w1) rfl
      replace hB := hB.alloc hB.size (.cells #[.int .i64 (M), .int .i64 (O - 840)] 25)
      generalize w1.heap.size = BX at *
      generalize w1.alloc (.cells #[.int .i64 (M), .int .i64 (O - 840)] 25) = V1 at *
      refine (c11 _).mono ?_
      clear c11
      rintro r w2 ⟨rfl, hb⟩
      replace kC := (hb.block _ (Array.getElem?_eq_some_iff.1 kC).1).trans kC
      replace kS := (hb.block _ (Array.getElem?_eq_some_iff.1 kS).1).trans kS
      replace kX := (hb.block _ (Array.getElem?_eq_some_iff.1 kX).1).trans kX
      replace hB := hB.trans (hb.mono hB.size)
      clear hb
      replace kC := heap_old (o := (.cells #[.int .i64 y, .int .i64 mo, .int .i64 d, .int .i64 h, .int .i64 mi, .int .i64 wd] 23)) kC
      replace kS := heap_old (o := (.cells #[.int .i64 y, .int .i64 mo, .int .i64 d, .int .i64 h, .int .i64 mi, .int .i64 wd] 23)) kS
      replace kX := heap_old (o := (.cells #[.int .i64 y, .int .i64 mo, .int .i64 d, .int .i64 h, .int .i64 mi, .int .i64 wd] 23)) kX
      have kA := heap_new (o := (.cells #[.int .i64 y, .int .i64 mo, .int .i64 d, .int .i64 h, .int .i64 mi, .int .i64 wd] 23)) (W := w2) rfl
      replace hB := hB.alloc hB.size (.cells #[.int .i64 y, .int .i64 mo, .int .i64 d, .int .i64 h, .int .i64 mi, .int .i64 wd] 23)
      have X0 := (fun o v => cell_of (o := o) (v := v) kX) 0 _ rfl
      have X1 := (fun o v => cell_of (o := o) (v := v) kX) 1 _ rfl
      go_wp2_with fail
      clear X0 X1
      generalize w2.heap.size = BA at *
      generalize w2.alloc (.cells #[.int .i64 y, .int .i64 mo, .int .i64 d, .int .i64 h, .int .i64 mi, .int .i64 wd] 23) = V2 at *
      refine (c12 _).mono ?_
      clear c12
      rintro r w3 ⟨rfl, hb⟩
      replace kC := (hb.block _ (Array.getElem?_eq_some_iff.1 kC).1).trans kC
      replace kS := (hb.block _ (Array.getElem?_eq_some_iff.1 kS).1).trans kS
      replace kX := (hb.block _ (Array.getElem?_eq_some_iff.1 kX).1).trans kX
      replace kA := (hb.block _ (Array.getElem?_eq_some_iff.1 kA).1).trans kA
      replace hB := hB.trans (hb.mono hB.size)
      clear hb
      replace kC := heap_old (o := (.cells #[.int .i64 y, .int .i64 mo, .int .i64 d, .int .i64 h, .int .i64 mi, .int .i64 wd] 23)) kC
      replace kS := heap_old (o := (.cells #[.int .i64 y, .int .i64 mo, .int .i64 d, .int .i64 h, .int .i64 mi, .int .i64 wd] 23)) kS
      replace kX := heap_old (o := (.cells #[.int .i64 y, .int .i64 mo, .int .i64 d, .int .i64 h, .int .i64 mi, .int .i64 wd] 23)) kX
      replace kA := heap_old (o := (.cells #[.int .i64 y, .int .i64 mo, .int .i64 d, .int .i64 h, .int .i64 mi, .int .i64 wd] 23)) kA
      have kB := heap_new (o := (.cells #[.int .i64 y, .int .i64 mo, .int .i64 d, .int .i64 h, .int .i64 mi, .int .i64 wd] 23)) (W := w3) rfl
      replace hB := hB.alloc hB.size (.cells #[.int .i64 y, .int .i64 mo, .int .i64 d, .int .i64 h, .int .i64 mi, .int .i64 wd] 23)
      have X0 := (fun o v => cell_of (o := o) (v := v) kX) 0 _ rfl
      have X1 := (fun o v => cell_of (o := o) (v := v) kX) 1 _ rfl
      go_wp2_with fail
      clear X0 X1
      generalize w3.heap.size = BB at *
      generalize w3.alloc (.cells #[.int .i64 y, .int .i64 mo, .int .i64 d, .int .i64 h, .int .i64 mi, .int .i64 wd] 23) = V3 at *
      refine (c13 _).mono ?_
      clear c13
      rintro r w4 ⟨rfl, hb⟩
      replace kC := (hb.block _ (Array.getElem?_eq_some_iff.1 kC).1).trans kC
      replace kS := (hb.block _ (Array.getElem?_eq_some_iff.1 kS).1).trans kS
      replace kX := (hb.block _ (Array.getElem?_eq_some_iff.1 kX).1).trans kX
      replace kA := (hb.block _ (Array.getElem?_eq_some_iff.1 kA).1).trans kA
      replace kB := (hb.block _ (Array.getElem?_eq_some_iff.1 kB).1).trans kB
      replace hB := hB.trans (hb.mono hB.size)
      clear hb
      have X0 := (fun o v => cell_of (o := o) (v := v) kX) 0 _ rfl
      have X1 := (fun o v => cell_of (o := o) (v := v) kX) 1 _ rfl
      go_wp2_with fail
      clear X0 X1
      refine (c14 _).mono ?_
      clear c14
      rintro r w5 ⟨rfl, hb⟩
      replace kC := (hb.block _ (Array.getElem?_eq_some_iff.1 kC).1).trans kC
      replace kS := (hb.block _ (Array.getElem?_eq_some_iff.1 kS).1).trans kS
      replace kX := (hb.block _ (Array.getElem?_eq_some_iff.1 kX).1).trans kX
      replace kA := (hb.block _ (Array.getElem?_eq_some_iff.1 kA).1).trans kA
      replace kB := (hb.block _ (Array.getElem?_eq_some_iff.1 kB).1).trans kB
      replace hB := hB.trans (hb.mono hB.size)
      clear hb
      have X0 := (fun o v => cell_of (o := o) (v := v) kX) 0 _ rfl
      have X1 := (fun o v => cell_of (o := o) (v := v) kX) 1 _ rfl
      have C0 := (fun o v => cell_of (o := o) (v := v) kC) 0 _ rfl
      have C1 := (fun o v => cell_of (o := o) (v := v) kC) 1 _ rfl
      have C2 := (fun o v => cell_of (o := o) (v := v) kC) 2 _ rfl
      have C3 := (fun o v => cell_of (o := o) (v := v) kC) 3 _ rfl
      have C4 := (fun o v => cell_of (o := o) (v := v) kC) 4 _ rfl
      have C5 := (fun o v => cell_of (o := o) (v := v) kC) 5 _ rfl
      go_wp2_with fail
      clear X0 X1
      clear C0 C1 C2 C3 C4 C5
      refine (c15 _).mono ?_
      clear c15
      rintro r w6 ⟨rfl, hb⟩
      replace kC := (hb.block _ (Array.getElem?_eq_some_iff.1 kC).1).trans kC
      replace kS := (hb.block _ (Array.getElem?_eq_some_iff.1 kS).1).trans kS
      replace kX := (hb.block _ (Array.getElem?_eq_some_iff.1 kX).1).trans kX
      replace kA := (hb.block _ (Array.getElem?_eq_some_iff.1 kA).1).trans kA
      replace kB := (hb.block _ (Array.getElem?_eq_some_iff.1 kB).1).trans kB
      replace hB := hB.trans (hb.mono hB.size)
      clear hb
      have X0 := (fun o v => cell_of (o := o) (v := v) kX) 0 _ rfl
      have X1 := (fun o v => cell_of (o := o) (v := v) kX) 1 _ rfl
      have C0 := (fun o v => cell_of (o := o) (v := v) kC) 0 _ rfl
      have C1 := (fun o v => cell_of (o := o) (v := v) kC) 1 _ rfl
      have C2 := (fun o v => cell_of (o := o) (v := v) kC) 2 _ rfl
      have C3 := (fun o v => cell_of (o := o) (v := v) kC) 3 _ rfl
      have C4 := (fun o v => cell_of (o := o) (v := v) kC) 4 _ rfl
      have C5 := (fun o v => cell_of (o := o) (v := v) kC) 5 _ rfl
      go_wp2_with fail
      clear X0 X1
      clear C0 C1 C2 C3 C4 C5
      refine (c16 _).mono ?_
      clear c16
      rintro r w7 ⟨rfl, hb⟩
      replace kC := (hb.block _ (Array.getElem?_eq_some_iff.1 kC).1).trans kC
      replace kS := (hb.block _ (Array.getElem?_eq_some_iff.1 kS).1).trans kS
      replace kX := (hb.block _ (Array.getElem?_eq_some_iff.1 kX).1).trans kX
      replace kA := (hb.block _ (Array.getElem?_eq_some_iff.1 kA).1).trans kA
      replace kB := (hb.block _ (Array.getElem?_eq_some_iff.1 kB).1).trans kB
      replace hB := hB.trans (hb.mono hB.size)
      clear hb
      have X0 := (fun o v => cell_of (o := o) (v := v) kX) 0 _ rfl
      have X1 := (fun o v => cell_of (o := o) (v := v) kX) 1 _ rfl
      go_wp2_with fail
      clear X0 X1
      refine (c17 _).mono ?_
      clear c17
      rintro r w8 ⟨rfl, hb⟩
      replace kC := (hb.block _ (Array.getElem?_eq_some_iff.1 kC).1).trans kC
      replace kS := (hb.block _ (Array.getElem?_eq_some_iff.1 kS).1).trans kS
      replace kX := (hb.block _ (Array.getElem?_eq_some_iff.1 kX).1).trans kX
      replace kA := (hb.block _ (Array.getElem?_eq_some_iff.1 kA).1).trans kA
      replace kB := (hb.block _ (Array.getElem?_eq_some_iff.1 kB).1).trans kB
      replace hB := hB.trans (hb.mono hB.size)
      clear hb
      have X0 := (fun o v => cell_of (o := o) (v := v) kX) 0 _ rfl
      have X1 := (fun o v => cell_of (o := o) (v := v) kX) 1 _ rfl
      go_wp2_with fail
      clear X0 X1
      refine (c18 _).mono ?_
      clear c18
      rintro r w9 ⟨rfl, hb⟩
      replace kC := (hb.block _ (Array.getElem?_eq_some_iff.1 kC).1).trans kC
      replace kS := (hb.block _ (Array.getElem?_eq_some_iff.1 kS).1).trans kS
      replace kX := (hb.block _ (Array.getElem?_eq_some_iff.1 kX).1).trans kX
      replace kA := (hb.block _ (Array.getElem?_eq_some_iff.1 kA).1).trans kA
      replace kB := (hb.block _ (Array.getElem?_eq_some_iff.1 kB).1).trans kB
      replace hB := hB.trans (hb.mono hB.size)
      clear hb
      have A0 := (fun o v => cell_of (o := o) (v := v) kA) 0 _ rfl
      have A1 := (fun o v => cell_of (o := o) (v := v) kA) 1 _ rfl
      have A2 := (fun o v => cell_of (o := o) (v := v) kA) 2 _ rfl
      have A3 := (fun o v => cell_of (o := o) (v := v) kA) 3 _ rfl
      have A4 := (fun o v => cell_of (o := o) (v := v) kA) 4 _ rfl
      have A5 := (fun o v => cell_of (o := o) (v := v) kA) 5 _ rfl
      have B0 := (fun o v => cell_of (o := o) (v := v) kB) 0 _ rfl
      have B1 := (fun o v => cell_of (o := o) (v := v) kB) 1 _ rfl
      have B2 := (fun o v => cell_of (o := o) (v := v) kB) 2 _ rfl
      have B3 := (fun o v => cell_of (o := o) (v := v) kB) 3 _ rfl
      have B4 := (fun o v => cell_of (o := o) (v := v) kB) 4 _ rfl
      have B5 := (fun o v => cell_of (o := o) (v := v) kB) 5 _ rfl
      go_wp2_with fail
      clear A0 A1 A2 A3 A4 A5
      clear B0 B1 B2 B3 B4 B5
      clear kX kA kB
      have hw9 : w9 = w9 := rfl
      clear hw9
      rw [rounds_succ]
      clear kS kC
      go_wp2_with fail
      refine (days_any _ _ _).mono ?_
      rintro r w2 ⟨rfl, hb⟩
      replace hB := hB.trans (hb.mono hB.size)
      clear hb
      go_wp2_with fail
      refine (rdays_any _ _ _).mono ?_
      rintro r w3 ⟨rfl, hb⟩
      replace hB := hB.trans (hb.mono hB.size)
      clear hb
      go_wp2_with fail
      refine (pick_any year 9999 _ a3.1 a3.2 (by omega) (by omega)).mono ?_
      rintro e w4 ⟨rfl, rfl⟩
      go_wp2_with fail
      refine (pick_any month 14 _ a4.1 a4.2 (by omega) (by omega)).mono ?_
      rintro e w4 ⟨rfl, rfl⟩
      go_wp2_with fail
      refine (days_any _ _ _).mono ?_
      rintro r w5 ⟨rfl, hb⟩
      replace hB := hB.trans (hb.mono hB.size)
      clear hb
      go_wp2_with fail
      refine (pick_any year 9999 _ a3.1 a3.2 (by omega) (by omega)).mono ?_
      rintro e w6 ⟨rfl, rfl⟩
      go_wp2_with fail
      refine (pick_any month 14 _ a4.1 a4.2 (by omega) (by omega)).mono ?_
      rintro e w6 ⟨rfl, rfl⟩
      go_wp2_with fail
      refine (rdays_any _ _ _).mono ?_
      rintro r w7 ⟨rfl, hb⟩
      replace hB := hB.trans (hb.mono hB.size)
      clear hb
      go_wp2_with fail
      go_ret
      exact ⟨rfl, hB⟩
  · replace hd : (20 : Int) < date.size := by omega
    by_cases ht : (clock.size : Int) ≤ 20
    · skip
      go_wp2_with fail
      refine (pick_any minute 50000001 _ a1.1 a1.2 (by omega) (by omega)).mono ?_
      rintro e w2 ⟨rfl, rfl⟩
      generalize pk minute 50000001 = M at *
      go_wp2_with fail
      refine (pick_any offset 1681 _ a2.1 a2.2 (by omega) (by omega)).mono ?_
      rintro e w2 ⟨rfl, rfl⟩
      generalize pk offset 1681 = O at *
      go_wp2_with fail
      replace kC := heap_old (o := (.cells #[.int .i64 minute, .int .i64 offset, .int .i64 M, .int .i64 (O - 840)] 25)) kC
      have kS := heap_new (o := (.cells #[.int .i64 minute, .int .i64 offset, .int .i64 M, .int .i64 (O - 840)] 25)) (W := w1) rfl
      replace hB := hB.alloc hB.size (.cells #[.int .i64 minute, .int .i64 offset, .int .i64 M, .int .i64 (O - 840)] 25)
      generalize w1.heap.size = BS at *
      generalize w1.alloc (.cells #[.int .i64 minute, .int .i64 offset, .int .i64 M, .int .i64 (O - 840)] 25) = V at *
      obtain ⟨w1, hw1⟩ : ∃ w1, w1 = V := ⟨_, rfl⟩
      subst hw1
      refine wp_loop_rounds 3 ?_
      obtain ⟨y, mo, d, h, mi, wd, e, P, Q, c11, c12, c13, c14⟩ := mat_at (minute) (offset)
      obtain ⟨x, ex, c15, c16⟩ := mat_min c0 c1 c2 c3 c4 c5 (offset)
      obtain ⟨v, ev, c17, c18⟩ := mat_read (date.extract 0 20) clock (offset) (by first | omega | (rw [ByteArray.size_extract]; omega)) (by first | omega | (rw [ByteArray.size_extract]; omega))
      rw [rounds_succ]
      have S0 := (fun o v => cell_of (o := o) (v := v) kS) 0 _ rfl
      have S1 := (fun o v => cell_of (o := o) (v := v) kS) 1 _ rfl
      have S2 := (fun o v => cell_of (o := o) (v := v) kS) 2 _ rfl
      have S3 := (fun o v => cell_of (o := o) (v := v) kS) 3 _ rfl
      go_wp2_with fail
      clear S0 S1 S2 S3
      replace kC := heap_old (o := (.cells #[.int .i64 (minute), .int .i64 (offset)] 25)) kC
      replace kS := heap_old (o := (.cells #[.int .i64 (minute), .int .i64 (offset)] 25)) kS
      have kX := heap_new (o := (.cells #[.int .i64 (minute), .int .i64 (offset)] 25)) (W := w1) rfl
      replace hB := hB.alloc hB.size (.cells #[.int .i64 (minute), .int .i64 (offset)] 25)
      generalize w1.heap.size = BX at *
      generalize w1.alloc (.cells #[.int .i64 (minute), .int .i64 (offset)] 25) = V1 at *
      refine (c11 _).mono ?_
      clear c11
      rintro r w2 ⟨rfl, hb⟩
      replace kC := (hb.block _ (Array.getElem?_eq_some_iff.1 kC).1).trans kC
      replace kS := (hb.block _ (Array.getElem?_eq_some_iff.1 kS).1).trans kS
      replace kX := (hb.block _ (Array.getElem?_eq_some_iff.1 kX).1).trans kX
      replace hB := hB.trans (hb.mono hB.size)
      clear hb
      replace kC := heap_old (o := (.cells #[.int .i64 y, .int .i64 mo, .int .i64 d, .int .i64 h, .int .i64 mi, .int .i64 wd] 23)) kC
      replace kS := heap_old (o := (.cells #[.int .i64 y, .int .i64 mo, .int .i64 d, .int .i64 h, .int .i64 mi, .int .i64 wd] 23)) kS
      replace kX := heap_old (o := (.cells #[.int .i64 y, .int .i64 mo, .int .i64 d, .int .i64 h, .int .i64 mi, .int .i64 wd] 23)) kX
      have kA := heap_new (o := (.cells #[.int .i64 y, .int .i64 mo, .int .i64 d, .int .i64 h, .int .i64 mi, .int .i64 wd] 23)) (W := w2) rfl
      replace hB := hB.alloc hB.size (.cells #[.int .i64 y, .int .i64 mo, .int .i64 d, .int .i64 h, .int .i64 mi, .int .i64 wd] 23)
      have X0 := (fun o v => cell_of (o := o) (v := v) kX) 0 _ rfl
      have X1 := (fun o v => cell_of (o := o) (v := v) kX) 1 _ rfl
      go_wp2_with fail
      clear X0 X1
      generalize w2.heap.size = BA at *
      generalize w2.alloc (.cells #[.int .i64 y, .int .i64 mo, .int .i64 d, .int .i64 h, .int .i64 mi, .int .i64 wd] 23) = V2 at *
      refine (c12 _).mono ?_
      clear c12
      rintro r w3 ⟨rfl, hb⟩
      replace kC := (hb.block _ (Array.getElem?_eq_some_iff.1 kC).1).trans kC
      replace kS := (hb.block _ (Array.getElem?_eq_some_iff.1 kS).1).trans kS
      replace kX := (hb.block _ (Array.getElem?_eq_some_iff.1 kX).1).trans kX
      replace kA := (hb.block _ (Array.getElem?_eq_some_iff.1 kA).1).trans kA
      replace hB := hB.trans (hb.mono hB.size)
      clear hb
      replace kC := heap_old (o := (.cells #[.int .i64 y, .int .i64 mo, .int .i64 d, .int .i64 h, .int .i64 mi, .int .i64 wd] 23)) kC
      replace kS := heap_old (o := (.cells #[.int .i64 y, .int .i64 mo, .int .i64 d, .int .i64 h, .int .i64 mi, .int .i64 wd] 23)) kS
      replace kX := heap_old (o := (.cells #[.int .i64 y, .int .i64 mo, .int .i64 d, .int .i64 h, .int .i64 mi, .int .i64 wd] 23)) kX
      replace kA := heap_old (o := (.cells #[.int .i64 y, .int .i64 mo, .int .i64 d, .int .i64 h, .int .i64 mi, .int .i64 wd] 23)) kA
      have kB := heap_new (o := (.cells #[.int .i64 y, .int .i64 mo, .int .i64 d, .int .i64 h, .int .i64 mi, .int .i64 wd] 23)) (W := w3) rfl
      replace hB := hB.alloc hB.size (.cells #[.int .i64 y, .int .i64 mo, .int .i64 d, .int .i64 h, .int .i64 mi, .int .i64 wd] 23)
      have X0 := (fun o v => cell_of (o := o) (v := v) kX) 0 _ rfl
      have X1 := (fun o v => cell_of (o := o) (v := v) kX) 1 _ rfl
      go_wp2_with fail
      clear X0 X1
      generalize w3.heap.size = BB at *
      generalize w3.alloc (.cells #[.int .i64 y, .int .i64 mo, .int .i64 d, .int .i64 h, .int .i64 mi, .int .i64 wd] 23) = V3 at *
      refine (c13 _).mono ?_
      clear c13
      rintro r w4 ⟨rfl, hb⟩
      replace kC := (hb.block _ (Array.getElem?_eq_some_iff.1 kC).1).trans kC
      replace kS := (hb.block _ (Array.getElem?_eq_some_iff.1 kS).1).trans kS
      replace kX := (hb.block _ (Array.getElem?_eq_some_iff.1 kX).1).trans kX
      replace kA := (hb.block _ (Array.getElem?_eq_some_iff.1 kA).1).trans kA
      replace kB := (hb.block _ (Array.getElem?_eq_some_iff.1 kB).1).trans kB
      replace hB := hB.trans (hb.mono hB.size)
      clear hb
      have X0 := (fun o v => cell_of (o := o) (v := v) kX) 0 _ rfl
      have X1 := (fun o v => cell_of (o := o) (v := v) kX) 1 _ rfl
      go_wp2_with fail
      clear X0 X1
      refine (c14 _).mono ?_
      clear c14
      rintro r w5 ⟨rfl, hb⟩
      replace kC := (hb.block _ (Array.getElem?_eq_some_iff.1 kC).1).trans kC
      replace kS := (hb.block _ (Array.getElem?_eq_some_iff.1 kS).1).trans kS
      replace kX := (hb.block _ (Array.getElem?_eq_some_iff.1 kX).1).trans kX
      replace kA := (hb.block _ (Array.getElem?_eq_some_iff.1 kA).1).trans kA
      replace kB := (hb.block _ (Array.getElem?_eq_some_iff.1 kB).1).trans kB
      replace hB := hB.trans (hb.mono hB.size)
      clear hb
      have X0 := (fun o v => cell_of (o := o) (v := v) kX) 0 _ rfl
      have X1 := (fun o v => cell_of (o := o) (v := v) kX) 1 _ rfl
      have C0 := (fun o v => cell_of (o := o) (v := v) kC) 0 _ rfl
      have C1 := (fun o v => cell_of (o := o) (v := v) kC) 1 _ rfl
      have C2 := (fun o v => cell_of (o := o) (v := v) kC) 2 _ rfl
      have C3 := (fun o v => cell_of (o := o) (v := v) kC) 3 _ rfl
      have C4 := (fun o v => cell_of (o := o) (v := v) kC) 4 _ rfl
      have C5 := (fun o v => cell_of (o := o) (v := v) kC) 5 _ rfl
      go_wp2_with fail
      clear X0 X1
      clear C0 C1 C2 C3 C4 C5
      refine (c15 _).mono ?_
      clear c15
      rintro r w6 ⟨rfl, hb⟩
      replace kC := (hb.block _ (Array.getElem?_eq_some_iff.1 kC).1).trans kC
      replace kS := (hb.block _ (Array.getElem?_eq_some_iff.1 kS).1).trans kS
      replace kX := (hb.block _ (Array.getElem?_eq_some_iff.1 kX).1).trans kX
      replace kA := (hb.block _ (Array.getElem?_eq_some_iff.1 kA).1).trans kA
      replace kB := (hb.block _ (Array.getElem?_eq_some_iff.1 kB).1).trans kB
      replace hB := hB.trans (hb.mono hB.size)
      clear hb
      have X0 := (fun o v => cell_of (o := o) (v := v) kX) 0 _ rfl
      have X1 := (fun o v => cell_of (o := o) (v := v) kX) 1 _ rfl
      have C0 := (fun o v => cell_of (o := o) (v := v) kC) 0 _ rfl
      have C1 := (fun o v => cell_of (o := o) (v := v) kC) 1 _ rfl
      have C2 := (fun o v => cell_of (o := o) (v := v) kC) 2 _ rfl
      have C3 := (fun o v => cell_of (o := o) (v := v) kC) 3 _ rfl
      have C4 := (fun o v => cell_of (o := o) (v := v) kC) 4 _ rfl
      have C5 := (fun o v => cell_of (o := o) (v := v) kC) 5 _ rfl
      go_wp2_with fail
      clear X0 X1
      clear C0 C1 C2 C3 C4 C5
      refine (c16 _).mono ?_
      clear c16
      rintro r w7 ⟨rfl, hb⟩
      replace kC := (hb.block _ (Array.getElem?_eq_some_iff.1 kC).1).trans kC
      replace kS := (hb.block _ (Array.getElem?_eq_some_iff.1 kS).1).trans kS
      replace kX := (hb.block _ (Array.getElem?_eq_some_iff.1 kX).1).trans kX
      replace kA := (hb.block _ (Array.getElem?_eq_some_iff.1 kA).1).trans kA
      replace kB := (hb.block _ (Array.getElem?_eq_some_iff.1 kB).1).trans kB
      replace hB := hB.trans (hb.mono hB.size)
      clear hb
      have X0 := (fun o v => cell_of (o := o) (v := v) kX) 0 _ rfl
      have X1 := (fun o v => cell_of (o := o) (v := v) kX) 1 _ rfl
      go_wp2_with fail
      clear X0 X1
      refine (c17 _).mono ?_
      clear c17
      rintro r w8 ⟨rfl, hb⟩
      replace kC := (hb.block _ (Array.getElem?_eq_some_iff.1 kC).1).trans kC
      replace kS := (hb.block _ (Array.getElem?_eq_some_iff.1 kS).1).trans kS
      replace kX := (hb.block _ (Array.getElem?_eq_some_iff.1 kX).1).trans kX
      replace kA := (hb.block _ (Array.getElem?_eq_some_iff.1 kA).1).trans kA
      replace kB := (hb.block _ (Array.getElem?_eq_some_iff.1 kB).1).trans kB
      replace hB := hB.trans (hb.mono hB.size)
      clear hb
      have X0 := (fun o v => cell_of (o := o) (v := v) kX) 0 _ rfl
      have X1 := (fun o v => cell_of (o := o) (v := v) kX) 1 _ rfl
      go_wp2_with fail
      clear X0 X1
      refine (c18 _).mono ?_
      clear c18
      rintro r w9 ⟨rfl, hb⟩
      replace kC := (hb.block _ (Array.getElem?_eq_some_iff.1 kC).1).trans kC
      replace kS := (hb.block _ (Array.getElem?_eq_some_iff.1 kS).1).trans kS
      replace kX := (hb.block _ (Array.getElem?_eq_some_iff.1 kX).1).trans kX
      replace kA := (hb.block _ (Array.getElem?_eq_some_iff.1 kA).1).trans kA
      replace kB := (hb.block _ (Array.getElem?_eq_some_iff.1 kB).1).trans kB
      replace hB := hB.trans (hb.mono hB.size)
      clear hb
      have A0 := (fun o v => cell_of (o := o) (v := v) kA) 0 _ rfl
      have A1 := (fun o v => cell_of (o := o) (v := v) kA) 1 _ rfl
      have A2 := (fun o v => cell_of (o := o) (v := v) kA) 2 _ rfl
      have A3 := (fun o v => cell_of (o := o) (v := v) kA) 3 _ rfl
      have A4 := (fun o v => cell_of (o := o) (v := v) kA) 4 _ rfl
      have A5 := (fun o v => cell_of (o := o) (v := v) kA) 5 _ rfl
      have B0 := (fun o v => cell_of (o := o) (v := v) kB) 0 _ rfl
      have B1 := (fun o v => cell_of (o := o) (v := v) kB) 1 _ rfl
      have B2 := (fun o v => cell_of (o := o) (v := v) kB) 2 _ rfl
      have B3 := (fun o v => cell_of (o := o) (v := v) kB) 3 _ rfl
      have B4 := (fun o v => cell_of (o := o) (v := v) kB) 4 _ rfl
      have B5 := (fun o v => cell_of (o := o) (v := v) kB) 5 _ rfl
      go_wp2_with fail
      clear A0 A1 A2 A3 A4 A5
      clear B0 B1 B2 B3 B4 B5
      clear kX kA kB
      have hw9 : w9 = w9 := rfl
      clear hw9
      obtain ⟨w1, hw1⟩ : ∃ w1, w1 = w9 := ⟨_, rfl⟩
      subst hw1
      obtain ⟨y, mo, d, h, mi, wd, e, P, Q, c11, c12, c13, c14⟩ := mat_at (M) (O - 840)
      obtain ⟨x, ex, c15, c16⟩ := mat_min c0 c1 c2 c3 c4 c5 (O - 840)
      obtain ⟨v, ev, c17, c18⟩ := mat_read (date.extract 0 20) clock (O - 840) (by first | omega | (rw [ByteArray.size_extract]; omega)) (by first | omega | (rw [ByteArray.size_extract]; omega))
      rw [rounds_succ]
      have S0 := (fun o v => cell_of (o := o) (v := v) kS) 0 _ rfl
      have S1 := (fun o v => cell_of (o := o) (v := v) kS) 1 _ rfl
      have S2 := (fun o v => cell_of (o := o) (v := v) kS) 2 _ rfl
      have S3 := (fun o v => cell_of (o := o) (v := v) kS) 3 _ rfl
      go_wp2_with fail
      clear S0 S1 S2 S3
      replace kC := heap_old (o := (.cells #[.int .i64 (M), .int .i64 (O - 840)] 25)) kC
      replace kS := heap_old (o := (.cells #[.int .i64 (M), .int .i64 (O - 840)] 25)) kS
      have kX := heap_new (o := (.cells #[.int .i64 (M), .int .i64 (O - 840)] 25)) (W := w1) rfl
      replace hB := hB.alloc hB.size (.cells #[.int .i64 (M), .int .i64 (O - 840)] 25)
      generalize w1.heap.size = BX at *
      generalize w1.alloc (.cells #[.int .i64 (M), .int .i64 (O - 840)] 25) = V1 at *
      refine (c11 _).mono ?_
      clear c11
      rintro r w2 ⟨rfl, hb⟩
      replace kC := (hb.block _ (Array.getElem?_eq_some_iff.1 kC).1).trans kC
      replace kS := (hb.block _ (Array.getElem?_eq_some_iff.1 kS).1).trans kS
      replace kX := (hb.block _ (Array.getElem?_eq_some_iff.1 kX).1).trans kX
      replace hB := hB.trans (hb.mono hB.size)
      clear hb
      replace kC := heap_old (o := (.cells #[.int .i64 y, .int .i64 mo, .int .i64 d, .int .i64 h, .int .i64 mi, .int .i64 wd] 23)) kC
      replace kS := heap_old (o := (.cells #[.int .i64 y, .int .i64 mo, .int .i64 d, .int .i64 h, .int .i64 mi, .int .i64 wd] 23)) kS
      replace kX := heap_old (o := (.cells #[.int .i64 y, .int .i64 mo, .int .i64 d, .int .i64 h, .int .i64 mi, .int .i64 wd] 23)) kX
      have kA := heap_new (o := (.cells #[.int .i64 y, .int .i64 mo, .int .i64 d, .int .i64 h, .int .i64 mi, .int .i64 wd] 23)) (W := w2) rfl
      replace hB := hB.alloc hB.size (.cells #[.int .i64 y, .int .i64 mo, .int .i64 d, .int .i64 h, .int .i64 mi, .int .i64 wd] 23)
      have X0 := (fun o v => cell_of (o := o) (v := v) kX) 0 _ rfl
      have X1 := (fun o v => cell_of (o := o) (v := v) kX) 1 _ rfl
      go_wp2_with fail
      clear X0 X1
      generalize w2.heap.size = BA at *
      generalize w2.alloc (.cells #[.int .i64 y, .int .i64 mo, .int .i64 d, .int .i64 h, .int .i64 mi, .int .i64 wd] 23) = V2 at *
      refine (c12 _).mono ?_
      clear c12
      rintro r w3 ⟨rfl, hb⟩
      replace kC := (hb.block _ (Array.getElem?_eq_some_iff.1 kC).1).trans kC
      replace kS := (hb.block _ (Array.getElem?_eq_some_iff.1 kS).1).trans kS
      replace kX := (hb.block _ (Array.getElem?_eq_some_iff.1 kX).1).trans kX
      replace kA := (hb.block _ (Array.getElem?_eq_some_iff.1 kA).1).trans kA
      replace hB := hB.trans (hb.mono hB.size)
      clear hb
      replace kC := heap_old (o := (.cells #[.int .i64 y, .int .i64 mo, .int .i64 d, .int .i64 h, .int .i64 mi, .int .i64 wd] 23)) kC
      replace kS := heap_old (o := (.cells #[.int .i64 y, .int .i64 mo, .int .i64 d, .int .i64 h, .int .i64 mi, .int .i64 wd] 23)) kS
      replace kX := heap_old (o := (.cells #[.int .i64 y, .int .i64 mo, .int .i64 d, .int .i64 h, .int .i64 mi, .int .i64 wd] 23)) kX
      replace kA := heap_old (o := (.cells #[.int .i64 y, .int .i64 mo, .int .i64 d, .int .i64 h, .int .i64 mi, .int .i64 wd] 23)) kA
      have kB := heap_new (o := (.cells #[.int .i64 y, .int .i64 mo, .int .i64 d, .int .i64 h, .int .i64 mi, .int .i64 wd] 23)) (W := w3) rfl
      replace hB := hB.alloc hB.size (.cells #[.int .i64 y, .int .i64 mo, .int .i64 d, .int .i64 h, .int .i64 mi, .int .i64 wd] 23)
      have X0 := (fun o v => cell_of (o := o) (v := v) kX) 0 _ rfl
      have X1 := (fun o v => cell_of (o := o) (v := v) kX) 1 _ rfl
      go_wp2_with fail
      clear X0 X1
      generalize w3.heap.size = BB at *
      generalize w3.alloc (.cells #[.int .i64 y, .int .i64 mo, .int .i64 d, .int .i64 h, .int .i64 mi, .int .i64 wd] 23) = V3 at *
      refine (c13 _).mono ?_
      clear c13
      rintro r w4 ⟨rfl, hb⟩
      replace kC := (hb.block _ (Array.getElem?_eq_some_iff.1 kC).1).trans kC
      replace kS := (hb.block _ (Array.getElem?_eq_some_iff.1 kS).1).trans kS
      replace kX := (hb.block _ (Array.getElem?_eq_some_iff.1 kX).1).trans kX
      replace kA := (hb.block _ (Array.getElem?_eq_some_iff.1 kA).1).trans kA
      replace kB := (hb.block _ (Array.getElem?_eq_some_iff.1 kB).1).trans kB
      replace hB := hB.trans (hb.mono hB.size)
      clear hb
      have X0 := (fun o v => cell_of (o := o) (v := v) kX) 0 _ rfl
      have X1 := (fun o v => cell_of (o := o) (v := v) kX) 1 _ rfl
      go_wp2_with fail
      clear X0 X1
      refine (c14 _).mono ?_
      clear c14
      rintro r w5 ⟨rfl, hb⟩
      replace kC := (hb.block _ (Array.getElem?_eq_some_iff.1 kC).1).trans kC
      replace kS := (hb.block _ (Array.getElem?_eq_some_iff.1 kS).1).trans kS
      replace kX := (hb.block _ (Array.getElem?_eq_some_iff.1 kX).1).trans kX
      replace kA := (hb.block _ (Array.getElem?_eq_some_iff.1 kA).1).trans kA
      replace kB := (hb.block _ (Array.getElem?_eq_some_iff.1 kB).1).trans kB
      replace hB := hB.trans (hb.mono hB.size)
      clear hb
      have X0 := (fun o v => cell_of (o := o) (v := v) kX) 0 _ rfl
      have X1 := (fun o v => cell_of (o := o) (v := v) kX) 1 _ rfl
      have C0 := (fun o v => cell_of (o := o) (v := v) kC) 0 _ rfl
      have C1 := (fun o v => cell_of (o := o) (v := v) kC) 1 _ rfl
      have C2 := (fun o v => cell_of (o := o) (v := v) kC) 2 _ rfl
      have C3 := (fun o v => cell_of (o := o) (v := v) kC) 3 _ rfl
      have C4 := (fun o v => cell_of (o := o) (v := v) kC) 4 _ rfl
      have C5 := (fun o v => cell_of (o := o) (v := v) kC) 5 _ rfl
      go_wp2_with fail
      clear X0 X1
      clear C0 C1 C2 C3 C4 C5
      refine (c15 _).mono ?_
      clear c15
      rintro r w6 ⟨rfl, hb⟩
      replace kC := (hb.block _ (Array.getElem?_eq_some_iff.1 kC).1).trans kC
      replace kS := (hb.block _ (Array.getElem?_eq_some_iff.1 kS).1).trans kS
      replace kX := (hb.block _ (Array.getElem?_eq_some_iff.1 kX).1).trans kX
      replace kA := (hb.block _ (Array.getElem?_eq_some_iff.1 kA).1).trans kA
      replace kB := (hb.block _ (Array.getElem?_eq_some_iff.1 kB).1).trans kB
      replace hB := hB.trans (hb.mono hB.size)
      clear hb
      have X0 := (fun o v => cell_of (o := o) (v := v) kX) 0 _ rfl
      have X1 := (fun o v => cell_of (o := o) (v := v) kX) 1 _ rfl
      have C0 := (fun o v => cell_of (o := o) (v := v) kC) 0 _ rfl
      have C1 := (fun o v => cell_of (o := o) (v := v) kC) 1 _ rfl
      have C2 := (fun o v => cell_of (o := o) (v := v) kC) 2 _ rfl
      have C3 := (fun o v => cell_of (o := o) (v := v) kC) 3 _ rfl
      have C4 := (fun o v => cell_of (o := o) (v := v) kC) 4 _ rfl
      have C5 := (fun o v => cell_of (o := o) (v := v) kC) 5 _ rfl
      go_wp2_with fail
      clear X0 X1
      clear C0 C1 C2 C3 C4 C5
      refine (c16 _).mono ?_
      clear c16
      rintro r w7 ⟨rfl, hb⟩
      replace kC := (hb.block _ (Array.getElem?_eq_some_iff.1 kC).1).trans kC
      replace kS := (hb.block _ (Array.getElem?_eq_some_iff.1 kS).1).trans kS
      replace kX := (hb.block _ (Array.getElem?_eq_some_iff.1 kX).1).trans kX
      replace kA := (hb.block _ (Array.getElem?_eq_some_iff.1 kA).1).trans kA
      replace kB := (hb.block _ (Array.getElem?_eq_some_iff.1 kB).1).trans kB
      replace hB := hB.trans (hb.mono hB.size)
      clear hb
      have X0 := (fun o v => cell_of (o := o) (v := v) kX) 0 _ rfl
      have X1 := (fun o v => cell_of (o := o) (v := v) kX) 1 _ rfl
      go_wp2_with fail
      clear X0 X1
      refine (c17 _).mono ?_
      clear c17
      rintro r w8 ⟨rfl, hb⟩
      replace kC := (hb.block _ (Array.getElem?_eq_some_iff.1 kC).1).trans kC
      replace kS := (hb.block _ (Array.getElem?_eq_some_iff.1 kS).1).trans kS
      replace kX := (hb.block _ (Array.getElem?_eq_some_iff.1 kX).1).trans kX
      replace kA := (hb.block _ (Array.getElem?_eq_some_iff.1 kA).1).trans kA
      replace kB := (hb.block _ (Array.getElem?_eq_some_iff.1 kB).1).trans kB
      replace hB := hB.trans (hb.mono hB.size)
      clear hb
      have X0 := (fun o v => cell_of (o := o) (v := v) kX) 0 _ rfl
      have X1 := (fun o v => cell_of (o := o) (v := v) kX) 1 _ rfl
      go_wp2_with fail
      clear X0 X1
      refine (c18 _).mono ?_
      clear c18
      rintro r w9 ⟨rfl, hb⟩
      replace kC := (hb.block _ (Array.getElem?_eq_some_iff.1 kC).1).trans kC
      replace kS := (hb.block _ (Array.getElem?_eq_some_iff.1 kS).1).trans kS
      replace kX := (hb.block _ (Array.getElem?_eq_some_iff.1 kX).1).trans kX
      replace kA := (hb.block _ (Array.getElem?_eq_some_iff.1 kA).1).trans kA
      replace kB := (hb.block _ (Array.getElem?_eq_some_iff.1 kB).1).trans kB
      replace hB := hB.trans (hb.mono hB.size)
      clear hb
      have A0 := (fun o v => cell_of (o := o) (v := v) kA) 0 _ rfl
      have A1 := (fun o v => cell_of (o := o) (v := v) kA) 1 _ rfl
      have A2 := (fun o v => cell_of (o := o) (v := v) kA) 2 _ rfl
      have A3 := (fun o v => cell_of (o := o) (v := v) kA) 3 _ rfl
      have A4 := (fun o v => cell_of (o := o) (v := v) kA) 4 _ rfl
      have A5 := (fun o v => cell_of (o := o) (v := v) kA) 5 _ rfl
      have B0 := (fun o v => cell_of (o := o) (v := v) kB) 0 _ rfl
      have B1 := (fun o v => cell_of (o := o) (v := v) kB) 1 _ rfl
      have B2 := (fun o v => cell_of (o := o) (v := v) kB) 2 _ rfl
      have B3 := (fun o v => cell_of (o := o) (v := v) kB) 3 _ rfl
      have B4 := (fun o v => cell_of (o := o) (v := v) kB) 4 _ rfl
      have B5 := (fun o v => cell_of (o := o) (v := v) kB) 5 _ rfl
      go_wp2_with fail
      clear A0 A1 A2 A3 A4 A5
      clear B0 B1 B2 B3 B4 B5
      clear kX kA kB
      have hw9 : w9 = w9 := rfl
      clear hw9
      rw [rounds_succ]
      clear kS kC
      go_wp2_with fail
      refine (days_any _ _ _).mono ?_
      rintro r w2 ⟨rfl, hb⟩
      replace hB := hB.trans (hb.mono hB.size)
      clear hb
      go_wp2_with fail
      refine (rdays_any _ _ _).mono ?_
      rintro r w3 ⟨rfl, hb⟩
      replace hB := hB.trans (hb.mono hB.size)
      clear hb
      go_wp2_with fail
      refine (pick_any year 9999 _ a3.1 a3.2 (by omega) (by omega)).mono ?_
      rintro e w4 ⟨rfl, rfl⟩
      go_wp2_with fail
      refine (pick_any month 14 _ a4.1 a4.2 (by omega) (by omega)).mono ?_
      rintro e w4 ⟨rfl, rfl⟩
      go_wp2_with fail
      refine (days_any _ _ _).mono ?_
      rintro r w5 ⟨rfl, hb⟩
      replace hB := hB.trans (hb.mono hB.size)
      clear hb
      go_wp2_with fail
      refine (pick_any year 9999 _ a3.1 a3.2 (by omega) (by omega)).mono ?_
      rintro e w6 ⟨rfl, rfl⟩
      go_wp2_with fail
      refine (pick_any month 14 _ a4.1 a4.2 (by omega) (by omega)).mono ?_
      rintro e w6 ⟨rfl, rfl⟩
      go_wp2_with fail
      refine (rdays_any _ _ _).mono ?_
      rintro r w7 ⟨rfl, hb⟩
      replace hB := hB.trans (hb.mono hB.size)
      clear hb
      go_wp2_with fail
      go_ret
      exact ⟨rfl, hB⟩
    · replace ht : (20 : Int) < clock.size := by omega
      go_wp2_with fail
      refine (pick_any minute 50000001 _ a1.1 a1.2 (by omega) (by omega)).mono ?_
      rintro e w2 ⟨rfl, rfl⟩
      generalize pk minute 50000001 = M at *
      go_wp2_with fail
      refine (pick_any offset 1681 _ a2.1 a2.2 (by omega) (by omega)).mono ?_
      rintro e w2 ⟨rfl, rfl⟩
      generalize pk offset 1681 = O at *
      go_wp2_with fail
      replace kC := heap_old (o := (.cells #[.int .i64 minute, .int .i64 offset, .int .i64 M, .int .i64 (O - 840)] 25)) kC
      have kS := heap_new (o := (.cells #[.int .i64 minute, .int .i64 offset, .int .i64 M, .int .i64 (O - 840)] 25)) (W := w1) rfl
      replace hB := hB.alloc hB.size (.cells #[.int .i64 minute, .int .i64 offset, .int .i64 M, .int .i64 (O - 840)] 25)
      generalize w1.heap.size = BS at *
      generalize w1.alloc (.cells #[.int .i64 minute, .int .i64 offset, .int .i64 M, .int .i64 (O - 840)] 25) = V at *
      obtain ⟨w1, hw1⟩ : ∃ w1, w1 = V := ⟨_, rfl⟩
      subst hw1
      refine wp_loop_rounds 3 ?_
      obtain ⟨y, mo, d, h, mi, wd, e, P, Q, c11, c12, c13, c14⟩ := mat_at (minute) (offset)
      obtain ⟨x, ex, c15, c16⟩ := mat_min c0 c1 c2 c3 c4 c5 (offset)
      obtain ⟨v, ev, c17, c18⟩ := mat_read (date.extract 0 20) (clock.extract 0 20) (offset) (by first | omega | (rw [ByteArray.size_extract]; omega)) (by first | omega | (rw [ByteArray.size_extract]; omega))
      rw [rounds_succ]
      have S0 := (fun o v => cell_of (o := o) (v := v) kS) 0 _ rfl
      have S1 := (fun o v => cell_of (o := o) (v := v) kS) 1 _ rfl
      have S2 := (fun o v => cell_of (o := o) (v := v) kS) 2 _ rfl
      have S3 := (fun o v => cell_of (o := o) (v := v) kS) 3 _ rfl
      go_wp2_with fail
      clear S0 S1 S2 S3
      replace kC := heap_old (o := (.cells #[.int .i64 (minute), .int .i64 (offset)] 25)) kC
      replace kS := heap_old (o := (.cells #[.int .i64 (minute), .int .i64 (offset)] 25)) kS
      have kX := heap_new (o := (.cells #[.int .i64 (minute), .int .i64 (offset)] 25)) (W := w1) rfl
      replace hB := hB.alloc hB.size (.cells #[.int .i64 (minute), .int .i64 (offset)] 25)
      generalize w1.heap.size = BX at *
      generalize w1.alloc (.cells #[.int .i64 (minute), .int .i64 (offset)] 25) = V1 at *
      refine (c11 _).mono ?_
      clear c11
      rintro r w2 ⟨rfl, hb⟩
      replace kC := (hb.block _ (Array.getElem?_eq_some_iff.1 kC).1).trans kC
      replace kS := (hb.block _ (Array.getElem?_eq_some_iff.1 kS).1).trans kS
      replace kX := (hb.block _ (Array.getElem?_eq_some_iff.1 kX).1).trans kX
      replace hB := hB.trans (hb.mono hB.size)
      clear hb
      replace kC := heap_old (o := (.cells #[.int .i64 y, .int .i64 mo, .int .i64 d, .int .i64 h, .int .i64 mi, .int .i64 wd] 23)) kC
      replace kS := heap_old (o := (.cells #[.int .i64 y, .int .i64 mo, .int .i64 d, .int .i64 h, .int .i64 mi, .int .i64 wd] 23)) kS
      replace kX := heap_old (o := (.cells #[.int .i64 y, .int .i64 mo, .int .i64 d, .int .i64 h, .int .i64 mi, .int .i64 wd] 23)) kX
      have kA := heap_new (o := (.cells #[.int .i64 y, .int .i64 mo, .int .i64 d, .int .i64 h, .int .i64 mi, .int .i64 wd] 23)) (W := w2) rfl
      replace hB := hB.alloc hB.size (.cells #[.int .i64 y, .int .i64 mo, .int .i64 d, .int .i64 h, .int .i64 mi, .int .i64 wd] 23)
      have X0 := (fun o v => cell_of (o := o) (v := v) kX) 0 _ rfl
      have X1 := (fun o v => cell_of (o := o) (v := v) kX) 1 _ rfl
      go_wp2_with fail
      clear X0 X1
      generalize w2.heap.size = BA at *
      generalize w2.alloc (.cells #[.int .i64 y, .int .i64 mo, .int .i64 d, .int .i64 h, .int .i64 mi, .int .i64 wd] 23) = V2 at *
      refine (c12 _).mono ?_
      clear c12
      rintro r w3 ⟨rfl, hb⟩
      replace kC := (hb.block _ (Array.getElem?_eq_some_iff.1 kC).1).trans kC
      replace kS := (hb.block _ (Array.getElem?_eq_some_iff.1 kS).1).trans kS
      replace kX := (hb.block _ (Array.getElem?_eq_some_iff.1 kX).1).trans kX
      replace kA := (hb.block _ (Array.getElem?_eq_some_iff.1 kA).1).trans kA
      replace hB := hB.trans (hb.mono hB.size)
      clear hb
      replace kC := heap_old (o := (.cells #[.int .i64 y, .int .i64 mo, .int .i64 d, .int .i64 h, .int .i64 mi, .int .i64 wd] 23)) kC
      replace kS := heap_old (o := (.cells #[.int .i64 y, .int .i64 mo, .int .i64 d, .int .i64 h, .int .i64 mi, .int .i64 wd] 23)) kS
      replace kX := heap_old (o := (.cells #[.int .i64 y, .int .i64 mo, .int .i64 d, .int .i64 h, .int .i64 mi, .int .i64 wd] 23)) kX
      replace kA := heap_old (o := (.cells #[.int .i64 y, .int .i64 mo, .int .i64 d, .int .i64 h, .int .i64 mi, .int .i64 wd] 23)) kA
      have kB := heap_new (o := (.cells #[.int .i64 y, .int .i64 mo, .int .i64 d, .int .i64 h, .int .i64 mi, .int .i64 wd] 23)) (W := w3) rfl
      replace hB := hB.alloc hB.size (.cells #[.int .i64 y, .int .i64 mo, .int .i64 d, .int .i64 h, .int .i64 mi, .int .i64 wd] 23)
      have X0 := (fun o v => cell_of (o := o) (v := v) kX) 0 _ rfl
      have X1 := (fun o v => cell_of (o := o) (v := v) kX) 1 _ rfl
      go_wp2_with fail
      clear X0 X1
      generalize w3.heap.size = BB at *
      generalize w3.alloc (.cells #[.int .i64 y, .int .i64 mo, .int .i64 d, .int .i64 h, .int .i64 mi, .int .i64 wd] 23) = V3 at *
      refine (c13 _).mono ?_
      clear c13
      rintro r w4 ⟨rfl, hb⟩
      replace kC := (hb.block _ (Array.getElem?_eq_some_iff.1 kC).1).trans kC
      replace kS := (hb.block _ (Array.getElem?_eq_some_iff.1 kS).1).trans kS
      replace kX := (hb.block _ (Array.getElem?_eq_some_iff.1 kX).1).trans kX
      replace kA := (hb.block _ (Array.getElem?_eq_some_iff.1 kA).1).trans kA
      replace kB := (hb.block _ (Array.getElem?_eq_some_iff.1 kB).1).trans kB
      replace hB := hB.trans (hb.mono hB.size)
      clear hb
      have X0 := (fun o v => cell_of (o := o) (v := v) kX) 0 _ rfl
      have X1 := (fun o v => cell_of (o := o) (v := v) kX) 1 _ rfl
      go_wp2_with fail
      clear X0 X1
      refine (c14 _).mono ?_
      clear c14
      rintro r w5 ⟨rfl, hb⟩
      replace kC := (hb.block _ (Array.getElem?_eq_some_iff.1 kC).1).trans kC
      replace kS := (hb.block _ (Array.getElem?_eq_some_iff.1 kS).1).trans kS
      replace kX := (hb.block _ (Array.getElem?_eq_some_iff.1 kX).1).trans kX
      replace kA := (hb.block _ (Array.getElem?_eq_some_iff.1 kA).1).trans kA
      replace kB := (hb.block _ (Array.getElem?_eq_some_iff.1 kB).1).trans kB
      replace hB := hB.trans (hb.mono hB.size)
      clear hb
      have X0 := (fun o v => cell_of (o := o) (v := v) kX) 0 _ rfl
      have X1 := (fun o v => cell_of (o := o) (v := v) kX) 1 _ rfl
      have C0 := (fun o v => cell_of (o := o) (v := v) kC) 0 _ rfl
      have C1 := (fun o v => cell_of (o := o) (v := v) kC) 1 _ rfl
      have C2 := (fun o v => cell_of (o := o) (v := v) kC) 2 _ rfl
      have C3 := (fun o v => cell_of (o := o) (v := v) kC) 3 _ rfl
      have C4 := (fun o v => cell_of (o := o) (v := v) kC) 4 _ rfl
      have C5 := (fun o v => cell_of (o := o) (v := v) kC) 5 _ rfl
      go_wp2_with fail
      clear X0 X1
      clear C0 C1 C2 C3 C4 C5
      refine (c15 _).mono ?_
      clear c15
      rintro r w6 ⟨rfl, hb⟩
      replace kC := (hb.block _ (Array.getElem?_eq_some_iff.1 kC).1).trans kC
      replace kS := (hb.block _ (Array.getElem?_eq_some_iff.1 kS).1).trans kS
      replace kX := (hb.block _ (Array.getElem?_eq_some_iff.1 kX).1).trans kX
      replace kA := (hb.block _ (Array.getElem?_eq_some_iff.1 kA).1).trans kA
      replace kB := (hb.block _ (Array.getElem?_eq_some_iff.1 kB).1).trans kB
      replace hB := hB.trans (hb.mono hB.size)
      clear hb
      have X0 := (fun o v => cell_of (o := o) (v := v) kX) 0 _ rfl
      have X1 := (fun o v => cell_of (o := o) (v := v) kX) 1 _ rfl
      have C0 := (fun o v => cell_of (o := o) (v := v) kC) 0 _ rfl
      have C1 := (fun o v => cell_of (o := o) (v := v) kC) 1 _ rfl
      have C2 := (fun o v => cell_of (o := o) (v := v) kC) 2 _ rfl
      have C3 := (fun o v => cell_of (o := o) (v := v) kC) 3 _ rfl
      have C4 := (fun o v => cell_of (o := o) (v := v) kC) 4 _ rfl
      have C5 := (fun o v => cell_of (o := o) (v := v) kC) 5 _ rfl
      go_wp2_with fail
      clear X0 X1
      clear C0 C1 C2 C3 C4 C5
      refine (c16 _).mono ?_
      clear c16
      rintro r w7 ⟨rfl, hb⟩
      replace kC := (hb.block _ (Array.getElem?_eq_some_iff.1 kC).1).trans kC
      replace kS := (hb.block _ (Array.getElem?_eq_some_iff.1 kS).1).trans kS
      replace kX := (hb.block _ (Array.getElem?_eq_some_iff.1 kX).1).trans kX
      replace kA := (hb.block _ (Array.getElem?_eq_some_iff.1 kA).1).trans kA
      replace kB := (hb.block _ (Array.getElem?_eq_some_iff.1 kB).1).trans kB
      replace hB := hB.trans (hb.mono hB.size)
      clear hb
      have X0 := (fun o v => cell_of (o := o) (v := v) kX) 0 _ rfl
      have X1 := (fun o v => cell_of (o := o) (v := v) kX) 1 _ rfl
      go_wp2_with fail
      clear X0 X1
      refine (c17 _).mono ?_
      clear c17
      rintro r w8 ⟨rfl, hb⟩
      replace kC := (hb.block _ (Array.getElem?_eq_some_iff.1 kC).1).trans kC
      replace kS := (hb.block _ (Array.getElem?_eq_some_iff.1 kS).1).trans kS
      replace kX := (hb.block _ (Array.getElem?_eq_some_iff.1 kX).1).trans kX
      replace kA := (hb.block _ (Array.getElem?_eq_some_iff.1 kA).1).trans kA
      replace kB := (hb.block _ (Array.getElem?_eq_some_iff.1 kB).1).trans kB
      replace hB := hB.trans (hb.mono hB.size)
      clear hb
      have X0 := (fun o v => cell_of (o := o) (v := v) kX) 0 _ rfl
      have X1 := (fun o v => cell_of (o := o) (v := v) kX) 1 _ rfl
      go_wp2_with fail
      clear X0 X1
      refine (c18 _).mono ?_
      clear c18
      rintro r w9 ⟨rfl, hb⟩
      replace kC := (hb.block _ (Array.getElem?_eq_some_iff.1 kC).1).trans kC
      replace kS := (hb.block _ (Array.getElem?_eq_some_iff.1 kS).1).trans kS
      replace kX := (hb.block _ (Array.getElem?_eq_some_iff.1 kX).1).trans kX
      replace kA := (hb.block _ (Array.getElem?_eq_some_iff.1 kA).1).trans kA
      replace kB := (hb.block _ (Array.getElem?_eq_some_iff.1 kB).1).trans kB
      replace hB := hB.trans (hb.mono hB.size)
      clear hb
      have A0 := (fun o v => cell_of (o := o) (v := v) kA) 0 _ rfl
      have A1 := (fun o v => cell_of (o := o) (v := v) kA) 1 _ rfl
      have A2 := (fun o v => cell_of (o := o) (v := v) kA) 2 _ rfl
      have A3 := (fun o v => cell_of (o := o) (v := v) kA) 3 _ rfl
      have A4 := (fun o v => cell_of (o := o) (v := v) kA) 4 _ rfl
      have A5 := (fun o v => cell_of (o := o) (v := v) kA) 5 _ rfl
      have B0 := (fun o v => cell_of (o := o) (v := v) kB) 0 _ rfl
      have B1 := (fun o v => cell_of (o := o) (v := v) kB) 1 _ rfl
      have B2 := (fun o v => cell_of (o := o) (v := v) kB) 2 _ rfl
      have B3 := (fun o v => cell_of (o := o) (v := v) kB) 3 _ rfl
      have B4 := (fun o v => cell_of (o := o) (v := v) kB) 4 _ rfl
      have B5 := (fun o v => cell_of (o := o) (v := v) kB) 5 _ rfl
      go_wp2_with fail
      clear A0 A1 A2 A3 A4 A5
      clear B0 B1 B2 B3 B4 B5
      clear kX kA kB
      have hw9 : w9 = w9 := rfl
      clear hw9
      obtain ⟨w1, hw1⟩ : ∃ w1, w1 = w9 := ⟨_, rfl⟩
      subst hw1
      obtain ⟨y, mo, d, h, mi, wd, e, P, Q, c11, c12, c13, c14⟩ := mat_at (M) (O - 840)
      obtain ⟨x, ex, c15, c16⟩ := mat_min c0 c1 c2 c3 c4 c5 (O - 840)
      obtain ⟨v, ev, c17, c18⟩ := mat_read (date.extract 0 20) (clock.extract 0 20) (O - 840) (by first | omega | (rw [ByteArray.size_extract]; omega)) (by first | omega | (rw [ByteArray.size_extract]; omega))
      rw [rounds_succ]
      have S0 := (fun o v => cell_of (o := o) (v := v) kS) 0 _ rfl
      have S1 := (fun o v => cell_of (o := o) (v := v) kS) 1 _ rfl
      have S2 := (fun o v => cell_of (o := o) (v := v) kS) 2 _ rfl
      have S3 := (fun o v => cell_of (o := o) (v := v) kS) 3 _ rfl
      go_wp2_with fail
      clear S0 S1 S2 S3
      replace kC := heap_old (o := (.cells #[.int .i64 (M), .int .i64 (O - 840)] 25)) kC
      replace kS := heap_old (o := (.cells #[.int .i64 (M), .int .i64 (O - 840)] 25)) kS
      have kX := heap_new (o := (.cells #[.int .i64 (M), .int .i64 (O - 840)] 25)) (W := w1) rfl
      replace hB := hB.alloc hB.size (.cells #[.int .i64 (M), .int .i64 (O - 840)] 25)
      generalize w1.heap.size = BX at *
      generalize w1.alloc (.cells #[.int .i64 (M), .int .i64 (O - 840)] 25) = V1 at *
      refine (c11 _).mono ?_
      clear c11
      rintro r w2 ⟨rfl, hb⟩
      replace kC := (hb.block _ (Array.getElem?_eq_some_iff.1 kC).1).trans kC
      replace kS := (hb.block _ (Array.getElem?_eq_some_iff.1 kS).1).trans kS
      replace kX := (hb.block _ (Array.getElem?_eq_some_iff.1 kX).1).trans kX
      replace hB := hB.trans (hb.mono hB.size)
      clear hb
      replace kC := heap_old (o := (.cells #[.int .i64 y, .int .i64 mo, .int .i64 d, .int .i64 h, .int .i64 mi, .int .i64 wd] 23)) kC
      replace kS := heap_old (o := (.cells #[.int .i64 y, .int .i64 mo, .int .i64 d, .int .i64 h, .int .i64 mi, .int .i64 wd] 23)) kS
      replace kX := heap_old (o := (.cells #[.int .i64 y, .int .i64 mo, .int .i64 d, .int .i64 h, .int .i64 mi, .int .i64 wd] 23)) kX
      have kA := heap_new (o := (.cells #[.int .i64 y, .int .i64 mo, .int .i64 d, .int .i64 h, .int .i64 mi, .int .i64 wd] 23)) (W := w2) rfl
      replace hB := hB.alloc hB.size (.cells #[.int .i64 y, .int .i64 mo, .int .i64 d, .int .i64 h, .int .i64 mi, .int .i64 wd] 23)
      have X0 := (fun o v => cell_of (o := o) (v := v) kX) 0 _ rfl
      have X1 := (fun o v => cell_of (o := o) (v := v) kX) 1 _ rfl
      go_wp2_with fail
      clear X0 X1
      generalize w2.heap.size = BA at *
      generalize w2.alloc (.cells #[.int .i64 y, .int .i64 mo, .int .i64 d, .int .i64 h, .int .i64 mi, .int .i64 wd] 23) = V2 at *
      refine (c12 _).mono ?_
      clear c12
      rintro r w3 ⟨rfl, hb⟩
      replace kC := (hb.block _ (Array.getElem?_eq_some_iff.1 kC).1).trans kC
      replace kS := (hb.block _ (Array.getElem?_eq_some_iff.1 kS).1).trans kS
      replace kX := (hb.block _ (Array.getElem?_eq_some_iff.1 kX).1).trans kX
      replace kA := (hb.block _ (Array.getElem?_eq_some_iff.1 kA).1).trans kA
      replace hB := hB.trans (hb.mono hB.size)
      clear hb
      replace kC := heap_old (o := (.cells #[.int .i64 y, .int .i64 mo, .int .i64 d, .int .i64 h, .int .i64 mi, .int .i64 wd] 23)) kC
      replace kS := heap_old (o := (.cells #[.int .i64 y, .int .i64 mo, .int .i64 d, .int .i64 h, .int .i64 mi, .int .i64 wd] 23)) kS
      replace kX := heap_old (o := (.cells #[.int .i64 y, .int .i64 mo, .int .i64 d, .int .i64 h, .int .i64 mi, .int .i64 wd] 23)) kX
      replace kA := heap_old (o := (.cells #[.int .i64 y, .int .i64 mo, .int .i64 d, .int .i64 h, .int .i64 mi, .int .i64 wd] 23)) kA
      have kB := heap_new (o := (.cells #[.int .i64 y, .int .i64 mo, .int .i64 d, .int .i64 h, .int .i64 mi, .int .i64 wd] 23)) (W := w3) rfl
      replace hB := hB.alloc hB.size (.cells #[.int .i64 y, .int .i64 mo, .int .i64 d, .int .i64 h, .int .i64 mi, .int .i64 wd] 23)
      have X0 := (fun o v => cell_of (o := o) (v := v) kX) 0 _ rfl
      have X1 := (fun o v => cell_of (o := o) (v := v) kX) 1 _ rfl
      go_wp2_with fail
      clear X0 X1
      generalize w3.heap.size = BB at *
      generalize w3.alloc (.cells #[.int .i64 y, .int .i64 mo, .int .i64 d, .int .i64 h, .int .i64 mi, .int .i64 wd] 23) = V3 at *
      refine (c13 _).mono ?_
      clear c13
      rintro r w4 ⟨rfl, hb⟩
      replace kC := (hb.block _ (Array.getElem?_eq_some_iff.1 kC).1).trans kC
      replace kS := (hb.block _ (Array.getElem?_eq_some_iff.1 kS).1).trans kS
      replace kX := (hb.block _ (Array.getElem?_eq_some_iff.1 kX).1).trans kX
      replace kA := (hb.block _ (Array.getElem?_eq_some_iff.1 kA).1).trans kA
      replace kB := (hb.block _ (Array.getElem?_eq_some_iff.1 kB).1).trans kB
      replace hB := hB.trans (hb.mono hB.size)
      clear hb
      have X0 := (fun o v => cell_of (o := o) (v := v) kX) 0 _ rfl
      have X1 := (fun o v => cell_of (o := o) (v := v) kX) 1 _ rfl
      go_wp2_with fail
      clear X0 X1
      refine (c14 _).mono ?_
      clear c14
      rintro r w5 ⟨rfl, hb⟩
      replace kC := (hb.block _ (Array.getElem?_eq_some_iff.1 kC).1).trans kC
      replace kS := (hb.block _ (Array.getElem?_eq_some_iff.1 kS).1).trans kS
      replace kX := (hb.block _ (Array.getElem?_eq_some_iff.1 kX).1).trans kX
      replace kA := (hb.block _ (Array.getElem?_eq_some_iff.1 kA).1).trans kA
      replace kB := (hb.block _ (Array.getElem?_eq_some_iff.1 kB).1).trans kB
      replace hB := hB.trans (hb.mono hB.size)
      clear hb
      have X0 := (fun o v => cell_of (o := o) (v := v) kX) 0 _ rfl
      have X1 := (fun o v => cell_of (o := o) (v := v) kX) 1 _ rfl
      have C0 := (fun o v => cell_of (o := o) (v := v) kC) 0 _ rfl
      have C1 := (fun o v => cell_of (o := o) (v := v) kC) 1 _ rfl
      have C2 := (fun o v => cell_of (o := o) (v := v) kC) 2 _ rfl
      have C3 := (fun o v => cell_of (o := o) (v := v) kC) 3 _ rfl
      have C4 := (fun o v => cell_of (o := o) (v := v) kC) 4 _ rfl
      have C5 := (fun o v => cell_of (o := o) (v := v) kC) 5 _ rfl
      go_wp2_with fail
      clear X0 X1
      clear C0 C1 C2 C3 C4 C5
      refine (c15 _).mono ?_
      clear c15
      rintro r w6 ⟨rfl, hb⟩
      replace kC := (hb.block _ (Array.getElem?_eq_some_iff.1 kC).1).trans kC
      replace kS := (hb.block _ (Array.getElem?_eq_some_iff.1 kS).1).trans kS
      replace kX := (hb.block _ (Array.getElem?_eq_some_iff.1 kX).1).trans kX
      replace kA := (hb.block _ (Array.getElem?_eq_some_iff.1 kA).1).trans kA
      replace kB := (hb.block _ (Array.getElem?_eq_some_iff.1 kB).1).trans kB
      replace hB := hB.trans (hb.mono hB.size)
      clear hb
      have X0 := (fun o v => cell_of (o := o) (v := v) kX) 0 _ rfl
      have X1 := (fun o v => cell_of (o := o) (v := v) kX) 1 _ rfl
      have C0 := (fun o v => cell_of (o := o) (v := v) kC) 0 _ rfl
      have C1 := (fun o v => cell_of (o := o) (v := v) kC) 1 _ rfl
      have C2 := (fun o v => cell_of (o := o) (v := v) kC) 2 _ rfl
      have C3 := (fun o v => cell_of (o := o) (v := v) kC) 3 _ rfl
      have C4 := (fun o v => cell_of (o := o) (v := v) kC) 4 _ rfl
      have C5 := (fun o v => cell_of (o := o) (v := v) kC) 5 _ rfl
      go_wp2_with fail
      clear X0 X1
      clear C0 C1 C2 C3 C4 C5
      refine (c16 _).mono ?_
      clear c16
      rintro r w7 ⟨rfl, hb⟩
      replace kC := (hb.block _ (Array.getElem?_eq_some_iff.1 kC).1).trans kC
      replace kS := (hb.block _ (Array.getElem?_eq_some_iff.1 kS).1).trans kS
      replace kX := (hb.block _ (Array.getElem?_eq_some_iff.1 kX).1).trans kX
      replace kA := (hb.block _ (Array.getElem?_eq_some_iff.1 kA).1).trans kA
      replace kB := (hb.block _ (Array.getElem?_eq_some_iff.1 kB).1).trans kB
      replace hB := hB.trans (hb.mono hB.size)
      clear hb
      have X0 := (fun o v => cell_of (o := o) (v := v) kX) 0 _ rfl
      have X1 := (fun o v => cell_of (o := o) (v := v) kX) 1 _ rfl
      go_wp2_with fail
      clear X0 X1
      refine (c17 _).mono ?_
      clear c17
      rintro r w8 ⟨rfl, hb⟩
      replace kC := (hb.block _ (Array.getElem?_eq_some_iff.1 kC).1).trans kC
      replace kS := (hb.block _ (Array.getElem?_eq_some_iff.1 kS).1).trans kS
      replace kX := (hb.block _ (Array.getElem?_eq_some_iff.1 kX).1).trans kX
      replace kA := (hb.block _ (Array.getElem?_eq_some_iff.1 kA).1).trans kA
      replace kB := (hb.block _ (Array.getElem?_eq_some_iff.1 kB).1).trans kB
      replace hB := hB.trans (hb.mono hB.size)
      clear hb
      have X0 := (fun o v => cell_of (o := o) (v := v) kX) 0 _ rfl
      have X1 := (fun o v => cell_of (o := o) (v := v) kX) 1 _ rfl
      go_wp2_with fail
      clear X0 X1
      refine (c18 _).mono ?_
      clear c18
      rintro r w9 ⟨rfl, hb⟩
      replace kC := (hb.block _ (Array.getElem?_eq_some_iff.1 kC).1).trans kC
      replace kS := (hb.block _ (Array.getElem?_eq_some_iff.1 kS).1).trans kS
      replace kX := (hb.block _ (Array.getElem?_eq_some_iff.1 kX).1).trans kX
      replace kA := (hb.block _ (Array.getElem?_eq_some_iff.1 kA).1).trans kA
      replace kB := (hb.block _ (Array.getElem?_eq_some_iff.1 kB).1).trans kB
      replace hB := hB.trans (hb.mono hB.size)
      clear hb
      have A0 := (fun o v => cell_of (o := o) (v := v) kA) 0 _ rfl
      have A1 := (fun o v => cell_of (o := o) (v := v) kA) 1 _ rfl
      have A2 := (fun o v => cell_of (o := o) (v := v) kA) 2 _ rfl
      have A3 := (fun o v => cell_of (o := o) (v := v) kA) 3 _ rfl
      have A4 := (fun o v => cell_of (o := o) (v := v) kA) 4 _ rfl
      have A5 := (fun o v => cell_of (o := o) (v := v) kA) 5 _ rfl
      have B0 := (fun o v => cell_of (o := o) (v := v) kB) 0 _ rfl
      have B1 := (fun o v => cell_of (o := o) (v := v) kB) 1 _ rfl
      have B2 := (fun o v => cell_of (o := o) (v := v) kB) 2 _ rfl
      have B3 := (fun o v => cell_of (o := o) (v := v) kB) 3 _ rfl
      have B4 := (fun o v => cell_of (o := o) (v := v) kB) 4 _ rfl
      have B5 := (fun o v => cell_of (o := o) (v := v) kB) 5 _ rfl
      go_wp2_with fail
      clear A0 A1 A2 A3 A4 A5
      clear B0 B1 B2 B3 B4 B5
      clear kX kA kB
      have hw9 : w9 = w9 := rfl
      clear hw9
      rw [rounds_succ]
      clear kS kC
      go_wp2_with fail
      refine (days_any _ _ _).mono ?_
      rintro r w2 ⟨rfl, hb⟩
      replace hB := hB.trans (hb.mono hB.size)
      clear hb
      go_wp2_with fail
      refine (rdays_any _ _ _).mono ?_
      rintro r w3 ⟨rfl, hb⟩
      replace hB := hB.trans (hb.mono hB.size)
      clear hb
      go_wp2_with fail
      refine (pick_any year 9999 _ a3.1 a3.2 (by omega) (by omega)).mono ?_
      rintro e w4 ⟨rfl, rfl⟩
      go_wp2_with fail
      refine (pick_any month 14 _ a4.1 a4.2 (by omega) (by omega)).mono ?_
      rintro e w4 ⟨rfl, rfl⟩
      go_wp2_with fail
      refine (days_any _ _ _).mono ?_
      rintro r w5 ⟨rfl, hb⟩
      replace hB := hB.trans (hb.mono hB.size)
      clear hb
      go_wp2_with fail
      refine (pick_any year 9999 _ a3.1 a3.2 (by omega) (by omega)).mono ?_
      rintro e w6 ⟨rfl, rfl⟩
      go_wp2_with fail
      refine (pick_any month 14 _ a4.1 a4.2 (by omega) (by omega)).mono ?_
      rintro e w6 ⟨rfl, rfl⟩
      go_wp2_with fail
      refine (rdays_any _ _ _).mono ?_
      rintro r w7 ⟨rfl, hb⟩
      replace hB := hB.trans (hb.mono hB.size)
      clear hb
      go_wp2_with fail
      go_ret
      exact ⟨rfl, hB⟩
end Go.Proofs.Ytkbdgelfjdahpaa
