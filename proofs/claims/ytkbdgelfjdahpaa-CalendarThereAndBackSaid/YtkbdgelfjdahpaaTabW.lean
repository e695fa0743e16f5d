/- The walk of CalendarThereAndBack: it returns true at every input. -/
import Derived.Test.YtkbdgelfjdahpaaTabQ
namespace Go.Proofs.Ytkbdgelfjdahpaa
open Go.RowKit Go.Rg Go.Shelf
set_option linter.unusedVariables false
set_option linter.unusedSimpArgs false

set_option maxRecDepth 100000 in
set_option maxHeartbeats 8000000 in
theorem tab_any (minute offset c0 c1 c2 c3 c4 c5 : Int) (date clock : ByteArray) (w : World) (a1 : -9223372036854775808 ≤ minute ∧ minute ≤ 9223372036854775807) (a2 : -9223372036854775808 ≤ offset ∧ offset ≤ 9223372036854775807) :
    Calls Try.prog 4 #[.int .i64 minute, .int .i64 offset, .agg #[.int .i64 c0, .int .i64 c1, .int .i64 c2, .int .i64 c3, .int .i64 c4, .int .i64 c5], .string date, .string clock] w fun e w' => e = .returned (.bool true) ∧ Below w.heap.size w w' := by
  have p1 := pk_bd minute 50000001 (by omega)
  have p2 := pk_bd offset 1681 (by omega)
  go_enter Try.func4, Try.ntmps4
  go_wp2_with fail
  have hB := (Below.refl w.heap.size w).alloc (Nat.le_refl _) (.cells #[.int .i64 c0, .int .i64 c1, .int .i64 c2, .int .i64 c3, .int .i64 c4, .int .i64 c5] 23)
  have kC := heap_new (o := .cells #[.int .i64 c0, .int .i64 c1, .int .i64 c2, .int .i64 c3, .int .i64 c4, .int .i64 c5] 23) (W := w) rfl
  generalize w.alloc (.cells #[.int .i64 c0, .int .i64 c1, .int .i64 c2, .int .i64 c3, .int .i64 c4, .int .i64 c5] 23) = V0 at *
  refine (sane_any _).mono ?_
  rintro e w1 ⟨rfl, hb⟩
  replace kC := (hb.block _ (Array.getElem?_eq_some_iff.1 kC).1).trans kC
  replace hB := hB.trans (hb.mono hB.size)
  clear hb
  go_wp2_with fail
  refine (pick_any minute 50000001 _ a1.1 a1.2 (by omega) (by omega)).mono ?_
  rintro e w2 ⟨rfl, rfl⟩
  generalize pk minute 50000001 = M at *
  go_wp2_with fail
  refine (pick_any offset 1681 _ a2.1 a2.2 (by omega) (by omega)).mono ?_
  rintro e w2 ⟨rfl, rfl⟩
  generalize pk offset 1681 = O at *
  clear a1 a2
  obtain ⟨y, mo, d, h, mi, wd, P, Q, cA, hM, cP, hR, g1, g2⟩ := tab_there M (O - 840) (by omega) (by omega)
  have cM := fun w => minute_any y mo d h mi wd (O - 840) w
  have cR := fun w => read_any P Q (O - 840) w (by omega) (by omega)
  rw [hM] at cM
  rw [hR] at cR
  clear hM hR
  unfold civil at cA cM
  go_wp2_with fail
  refine (cA _).mono ?_
  clear cA
  rintro e w2 ⟨rfl, hb⟩
  replace kC := (hb.block _ (Array.getElem?_eq_some_iff.1 kC).1).trans kC
  replace hB := hB.trans (hb.mono hB.size)
  clear hb
  replace kC := heap_old (o := .cells #[.int .i64 y, .int .i64 mo, .int .i64 d, .int .i64 h, .int .i64 mi, .int .i64 wd] 23) kC
  have kA := heap_new (o := .cells #[.int .i64 y, .int .i64 mo, .int .i64 d, .int .i64 h, .int .i64 mi, .int .i64 wd] 23) (W := w2) rfl
  replace hB := hB.alloc hB.size (.cells #[.int .i64 y, .int .i64 mo, .int .i64 d, .int .i64 h, .int .i64 mi, .int .i64 wd] 23)
  have A0 := (fun o v => cell_of (o := o) (v := v) kA) 0 _ rfl
  have A1 := (fun o v => cell_of (o := o) (v := v) kA) 1 _ rfl
  have A2 := (fun o v => cell_of (o := o) (v := v) kA) 2 _ rfl
  have A3 := (fun o v => cell_of (o := o) (v := v) kA) 3 _ rfl
  have A4 := (fun o v => cell_of (o := o) (v := v) kA) 4 _ rfl
  have A5 := (fun o v => cell_of (o := o) (v := v) kA) 5 _ rfl
  go_wp2_with fail
  clear A0 A1 A2 A3 A4 A5
  generalize w2.heap.size = BA at *
  generalize w2.alloc (.cells #[.int .i64 y, .int .i64 mo, .int .i64 d, .int .i64 h, .int .i64 mi, .int .i64 wd] 23) = V1 at *
  refine (cM _).mono ?_
  clear cM
  rintro e w3 ⟨rfl, hb⟩
  clear kA
  replace kC := (hb.block _ (Array.getElem?_eq_some_iff.1 kC).1).trans kC
  replace hB := hB.trans (hb.mono hB.size)
  clear hb
  go_wp2_with fail
  refine (cP _).mono ?_
  clear cP
  rintro e w4 ⟨rfl, hb⟩
  replace kC := (hb.block _ (Array.getElem?_eq_some_iff.1 kC).1).trans kC
  replace hB := hB.trans (hb.mono hB.size)
  clear hb
  go_wp2_with fail
  refine (cR _).mono ?_
  clear cR
  rintro e w5 ⟨rfl, hb⟩
  replace kC := (hb.block _ (Array.getElem?_eq_some_iff.1 kC).1).trans kC
  replace hB := hB.trans (hb.mono hB.size)
  clear hb
  have C0 := (fun o v => cell_of (o := o) (v := v) kC) 0 _ rfl
  have C1 := (fun o v => cell_of (o := o) (v := v) kC) 1 _ rfl
  have C2 := (fun o v => cell_of (o := o) (v := v) kC) 2 _ rfl
  have C3 := (fun o v => cell_of (o := o) (v := v) kC) 3 _ rfl
  have C4 := (fun o v => cell_of (o := o) (v := v) kC) 4 _ rfl
  have C5 := (fun o v => cell_of (o := o) (v := v) kC) 5 _ rfl
  go_wp2_with fail
  clear C0 C1 C2 C3 C4 C5
  have cN := fun w => minute_any c0 c1 c2 c3 c4 c5 (O - 840) w
  have hcase := tab_minute c0 c1 c2 c3 c4 c5 (O - 840)
  unfold civil at cN hcase
  refine (cN _).mono ?_
  clear cN
  rintro e w6 ⟨rfl, hb⟩
  replace kC := (hb.block _ (Array.getElem?_eq_some_iff.1 kC).1).trans kC
  replace hB := hB.trans (hb.mono hB.size)
  clear hb
  rcases hcase with hc | ⟨x, hc, cX, hx⟩
  · rw [hc]
    clear hc kC
    by_cases hd : (date.size : Int) ≤ 20
    · by_cases ht : (clock.size : Int) ≤ 20
      · skip
        have cS := fun w => read_any date clock (O - 840) w (by first | omega | (rw [ByteArray.size_extract]; omega)) (by first | omega | (rw [ByteArray.size_extract]; omega))
        have hs := tab_read date clock (O - 840)
        go_wp2_with fail
        skip
        refine (cS _).mono ?_
        clear cS
        rintro e w8 ⟨rfl, hb⟩
        replace hB := hB.trans (hb.mono hB.size)
        clear hb
        rcases hs with hs | ⟨v, hs, cV, z1, z2⟩
        · rw [hs]
          clear hs
          go_wp2_with fail
          go_ret
          exact ⟨rfl, hB⟩
        · rw [hs]
          clear hs
          go_wp2_with fail
          refine (cV _).mono ?_
          clear cV
          rintro e w9 ⟨rfl, hb⟩
          replace hB := hB.trans (hb.mono hB.size)
          clear hb
          go_wp2_with fail
          go_ret
          exact ⟨rfl, hB⟩
      · replace ht : (20 : Int) < clock.size := by omega
        have cS := fun w => read_any date (clock.extract 0 20) (O - 840) w (by first | omega | (rw [ByteArray.size_extract]; omega)) (by first | omega | (rw [ByteArray.size_extract]; omega))
        have hs := tab_read date (clock.extract 0 20) (O - 840)
        go_wp2_with fail
        skip
        refine (cS _).mono ?_
        clear cS
        rintro e w8 ⟨rfl, hb⟩
        replace hB := hB.trans (hb.mono hB.size)
        clear hb
        rcases hs with hs | ⟨v, hs, cV, z1, z2⟩
        · rw [hs]
          clear hs
          go_wp2_with fail
          go_ret
          exact ⟨rfl, hB⟩
        · rw [hs]
          clear hs
          go_wp2_with fail
          refine (cV _).mono ?_
          clear cV
          rintro e w9 ⟨rfl, hb⟩
          replace hB := hB.trans (hb.mono hB.size)
          clear hb
          go_wp2_with fail
          go_ret
          exact ⟨rfl, hB⟩
    · replace hd : (20 : Int) < date.size := by omega
      by_cases ht : (clock.size : Int) ≤ 20
      · skip
        have cS := fun w => read_any (date.extract 0 20) clock (O - 840) w (by first | omega | (rw [ByteArray.size_extract]; omega)) (by first | omega | (rw [ByteArray.size_extract]; omega))
        have hs := tab_read (date.extract 0 20) clock (O - 840)
        go_wp2_with fail
        skip
        refine (cS _).mono ?_
        clear cS
        rintro e w8 ⟨rfl, hb⟩
        replace hB := hB.trans (hb.mono hB.size)
        clear hb
        rcases hs with hs | ⟨v, hs, cV, z1, z2⟩
        · rw [hs]
          clear hs
          go_wp2_with fail
          go_ret
          exact ⟨rfl, hB⟩
        · rw [hs]
          clear hs
          go_wp2_with fail
          refine (cV _).mono ?_
          clear cV
          rintro e w9 ⟨rfl, hb⟩
          replace hB := hB.trans (hb.mono hB.size)
          clear hb
          go_wp2_with fail
          go_ret
          exact ⟨rfl, hB⟩
      · replace ht : (20 : Int) < clock.size := by omega
        have cS := fun w => read_any (date.extract 0 20) (clock.extract 0 20) (O - 840) w (by first | omega | (rw [ByteArray.size_extract]; omega)) (by first | omega | (rw [ByteArray.size_extract]; omega))
        have hs := tab_read (date.extract 0 20) (clock.extract 0 20) (O - 840)
        go_wp2_with fail
        skip
        refine (cS _).mono ?_
        clear cS
        rintro e w8 ⟨rfl, hb⟩
        replace hB := hB.trans (hb.mono hB.size)
        clear hb
        rcases hs with hs | ⟨v, hs, cV, z1, z2⟩
        · rw [hs]
          clear hs
          go_wp2_with fail
          go_ret
          exact ⟨rfl, hB⟩
        · rw [hs]
          clear hs
          go_wp2_with fail
          refine (cV _).mono ?_
          clear cV
          rintro e w9 ⟨rfl, hb⟩
          replace hB := hB.trans (hb.mono hB.size)
          clear hb
          go_wp2_with fail
          go_ret
          exact ⟨rfl, hB⟩
  · rw [hc]
    clear hc
    go_wp2_with fail
    refine (cX _).mono ?_
    clear cX
    rintro e w7 ⟨rfl, hb⟩
    replace kC := (hb.block _ (Array.getElem?_eq_some_iff.1 kC).1).trans kC
    replace hB := hB.trans (hb.mono hB.size)
    clear hb
    replace kC := heap_old (o := .cells #[.int .i64 c0, .int .i64 c1, .int .i64 c2, .int .i64 c3, .int .i64 c4, .int .i64 c5] 23) kC
    have kX := heap_new (o := .cells #[.int .i64 c0, .int .i64 c1, .int .i64 c2, .int .i64 c3, .int .i64 c4, .int .i64 c5] 23) (W := w7) rfl
    replace hB := hB.alloc hB.size (.cells #[.int .i64 c0, .int .i64 c1, .int .i64 c2, .int .i64 c3, .int .i64 c4, .int .i64 c5] 23)
    have C0 := (fun o v => cell_of (o := o) (v := v) kC) 0 _ rfl
    have C1 := (fun o v => cell_of (o := o) (v := v) kC) 1 _ rfl
    have C2 := (fun o v => cell_of (o := o) (v := v) kC) 2 _ rfl
    have C3 := (fun o v => cell_of (o := o) (v := v) kC) 3 _ rfl
    have C4 := (fun o v => cell_of (o := o) (v := v) kC) 4 _ rfl
    have C5 := (fun o v => cell_of (o := o) (v := v) kC) 5 _ rfl
    have X0 := (fun o v => cell_of (o := o) (v := v) kX) 0 _ rfl
    have X1 := (fun o v => cell_of (o := o) (v := v) kX) 1 _ rfl
    have X2 := (fun o v => cell_of (o := o) (v := v) kX) 2 _ rfl
    have X3 := (fun o v => cell_of (o := o) (v := v) kX) 3 _ rfl
    have X4 := (fun o v => cell_of (o := o) (v := v) kX) 4 _ rfl
    have X5 := (fun o v => cell_of (o := o) (v := v) kX) 5 _ rfl
    by_cases hd : (date.size : Int) ≤ 20
    · by_cases ht : (clock.size : Int) ≤ 20
      · skip
        have cS := fun w => read_any date clock (O - 840) w (by first | omega | (rw [ByteArray.size_extract]; omega)) (by first | omega | (rw [ByteArray.size_extract]; omega))
        have hs := tab_read date clock (O - 840)
        go_wp2_with fail
        generalize w7.alloc (.cells #[.int .i64 c0, .int .i64 c1, .int .i64 c2, .int .i64 c3, .int .i64 c4, .int .i64 c5] 23) = V9 at *
        clear C0 C1 C2 C3 C4 C5 X0 X1 X2 X3 X4 X5 kC kX
        refine (cS _).mono ?_
        clear cS
        rintro e w8 ⟨rfl, hb⟩
        replace hB := hB.trans (hb.mono hB.size)
        clear hb
        rcases hs with hs | ⟨v, hs, cV, z1, z2⟩
        · rw [hs]
          clear hs
          go_wp2_with fail
          go_ret
          exact ⟨rfl, hB⟩
        · rw [hs]
          clear hs
          go_wp2_with fail
          refine (cV _).mono ?_
          clear cV
          rintro e w9 ⟨rfl, hb⟩
          replace hB := hB.trans (hb.mono hB.size)
          clear hb
          go_wp2_with fail
          go_ret
          exact ⟨rfl, hB⟩
      · replace ht : (20 : Int) < clock.size := by omega
        have cS := fun w => read_any date (clock.extract 0 20) (O - 840) w (by first | omega | (rw [ByteArray.size_extract]; omega)) (by first | omega | (rw [ByteArray.size_extract]; omega))
        have hs := tab_read date (clock.extract 0 20) (O - 840)
        go_wp2_with fail
        generalize w7.alloc (.cells #[.int .i64 c0, .int .i64 c1, .int .i64 c2, .int .i64 c3, .int .i64 c4, .int .i64 c5] 23) = V9 at *
        clear C0 C1 C2 C3 C4 C5 X0 X1 X2 X3 X4 X5 kC kX
        refine (cS _).mono ?_
        clear cS
        rintro e w8 ⟨rfl, hb⟩
        replace hB := hB.trans (hb.mono hB.size)
        clear hb
        rcases hs with hs | ⟨v, hs, cV, z1, z2⟩
        · rw [hs]
          clear hs
          go_wp2_with fail
          go_ret
          exact ⟨rfl, hB⟩
        · rw [hs]
          clear hs
          go_wp2_with fail
          refine (cV _).mono ?_
          clear cV
          rintro e w9 ⟨rfl, hb⟩
          replace hB := hB.trans (hb.mono hB.size)
          clear hb
          go_wp2_with fail
          go_ret
          exact ⟨rfl, hB⟩
    · replace hd : (20 : Int) < date.size := by omega
      by_cases ht : (clock.size : Int) ≤ 20
      · skip
        have cS := fun w => read_any (date.extract 0 20) clock (O - 840) w (by first | omega | (rw [ByteArray.size_extract]; omega)) (by first | omega | (rw [ByteArray.size_extract]; omega))
        have hs := tab_read (date.extract 0 20) clock (O - 840)
        go_wp2_with fail
        generalize w7.alloc (.cells #[.int .i64 c0, .int .i64 c1, .int .i64 c2, .int .i64 c3, .int .i64 c4, .int .i64 c5] 23) = V9 at *
        clear C0 C1 C2 C3 C4 C5 X0 X1 X2 X3 X4 X5 kC kX
        refine (cS _).mono ?_
        clear cS
        rintro e w8 ⟨rfl, hb⟩
        replace hB := hB.trans (hb.mono hB.size)
        clear hb
        rcases hs with hs | ⟨v, hs, cV, z1, z2⟩
        · rw [hs]
          clear hs
          go_wp2_with fail
          go_ret
          exact ⟨rfl, hB⟩
        · rw [hs]
          clear hs
          go_wp2_with fail
          refine (cV _).mono ?_
          clear cV
          rintro e w9 ⟨rfl, hb⟩
          replace hB := hB.trans (hb.mono hB.size)
          clear hb
          go_wp2_with fail
          go_ret
          exact ⟨rfl, hB⟩
      · replace ht : (20 : Int) < clock.size := by omega
        have cS := fun w => read_any (date.extract 0 20) (clock.extract 0 20) (O - 840) w (by first | omega | (rw [ByteArray.size_extract]; omega)) (by first | omega | (rw [ByteArray.size_extract]; omega))
        have hs := tab_read (date.extract 0 20) (clock.extract 0 20) (O - 840)
        go_wp2_with fail
        generalize w7.alloc (.cells #[.int .i64 c0, .int .i64 c1, .int .i64 c2, .int .i64 c3, .int .i64 c4, .int .i64 c5] 23) = V9 at *
        clear C0 C1 C2 C3 C4 C5 X0 X1 X2 X3 X4 X5 kC kX
        refine (cS _).mono ?_
        clear cS
        rintro e w8 ⟨rfl, hb⟩
        replace hB := hB.trans (hb.mono hB.size)
        clear hb
        rcases hs with hs | ⟨v, hs, cV, z1, z2⟩
        · rw [hs]
          clear hs
          go_wp2_with fail
          go_ret
          exact ⟨rfl, hB⟩
        · rw [hs]
          clear hs
          go_wp2_with fail
          refine (cV _).mono ?_
          clear cV
          rintro e w9 ⟨rfl, hb⟩
          replace hB := hB.trans (hb.mono hB.size)
          clear hb
          go_wp2_with fail
          go_ret
          exact ⟨rfl, hB⟩
end Go.Proofs.Ytkbdgelfjdahpaa
