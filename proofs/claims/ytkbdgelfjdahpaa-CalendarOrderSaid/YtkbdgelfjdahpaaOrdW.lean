/- The walk of CalendarOrder: it returns true at every input. -/
import Derived.Test.YtkbdgelfjdahpaaOrdP
namespace Go.Proofs.Ytkbdgelfjdahpaa
open Go.RowKit Go.Rg Go.Shelf
set_option linter.unusedVariables false
set_option linter.unusedSimpArgs false

set_option maxRecDepth 100000 in
set_option maxHeartbeats 8000000 in
theorem order_any (minute more offset : Int) (near : Bool) (w : World) (a1 : -9223372036854775808 ≤ minute ∧ minute ≤ 9223372036854775807) (a2 : -9223372036854775808 ≤ more ∧ more ≤ 9223372036854775807) (a3 : -9223372036854775808 ≤ offset ∧ offset ≤ 9223372036854775807) :
    Calls Try.prog 5 #[.int .i64 minute, .int .i64 more, .int .i64 offset, .bool near] w fun e w' => e = .returned (.bool true) ∧ Below w.heap.size w w' := by
  have p1 := pk_bd minute 50000000 (by omega)
  have p4 := pk_bd more 3000 (by omega)
  have p3 := pk_bd offset 1681 (by omega)
  go_enter Try.func5, Try.ntmps5
  go_wp2_with fail
  refine (sane_any _).mono ?_
  rintro e w1 ⟨rfl, hB⟩
  go_wp2_with fail
  refine (pick_any minute 50000000 _ a1.1 a1.2 (by omega) (by omega)).mono ?_
  rintro e w2 ⟨rfl, rfl⟩
  generalize pk minute 50000000 = M at *
  have p2 := pk_bd more (50000000 - M) (by omega)
  go_wp2_with fail
  refine (pick_any more (50000000 - M) _ a2.1 a2.2 (by omega) (by omega)).mono ?_
  rintro e w2 ⟨rfl, rfl⟩
  generalize pk more (50000000 - M) = D at *
  cases near
  · skip
    go_wp2_with fail
    refine (pick_any offset 1681 _ a3.1 a3.2 (by omega) (by omega)).mono ?_
    rintro e w2 ⟨rfl, rfl⟩
    generalize pk offset 1681 = O at *
    clear a1 a2 a3
    obtain ⟨y, mo, d, h, mi, wd, yb, mob, db, hb, mib, wdb, P, Q, R, S, cA, cB, cP, cR, f1, f2, f3, g1, g2, g3, g4⟩ := order_plain M (M + 1 + D) (O - 840) (by omega) (by omega) (by omega)
    unfold civil at cA cB
    go_wp2_with fail
    refine (cA _).mono ?_
    clear cA
    rintro e w2 ⟨rfl, hb⟩
    replace hB := hB.trans (hb.mono hB.size)
    clear hb
    go_wp2_with fail
    replace hB := hB.alloc hB.size (.cells #[.int .i64 y, .int .i64 mo, .int .i64 d, .int .i64 h, .int .i64 mi, .int .i64 wd] 23)
    have kA := heap_new (o := .cells #[.int .i64 y, .int .i64 mo, .int .i64 d, .int .i64 h, .int .i64 mi, .int .i64 wd] 23) (W := w2) rfl
    generalize w2.heap.size = BA at *
    generalize w2.alloc (.cells #[.int .i64 y, .int .i64 mo, .int .i64 d, .int .i64 h, .int .i64 mi, .int .i64 wd] 23) = VA at *
    refine (cB _).mono ?_
    clear cB
    rintro e w3 ⟨rfl, hb⟩
    replace kA := (hb.block _ (Array.getElem?_eq_some_iff.1 kA).1).trans kA
    replace hB := hB.trans (hb.mono hB.size)
    clear hb
    go_wp2_with fail
    replace kA := heap_old (o := .cells #[.int .i64 yb, .int .i64 mob, .int .i64 db, .int .i64 hb, .int .i64 mib, .int .i64 wdb] 23) kA
    replace hB := hB.alloc hB.size (.cells #[.int .i64 yb, .int .i64 mob, .int .i64 db, .int .i64 hb, .int .i64 mib, .int .i64 wdb] 23)
    have kB := heap_new (o := .cells #[.int .i64 yb, .int .i64 mob, .int .i64 db, .int .i64 hb, .int .i64 mib, .int .i64 wdb] 23) (W := w3) rfl
    generalize w3.heap.size = BB at *
    generalize w3.alloc (.cells #[.int .i64 yb, .int .i64 mob, .int .i64 db, .int .i64 hb, .int .i64 mib, .int .i64 wdb] 23) = VB at *
    refine (cP _).mono ?_
    clear cP
    rintro e w4 ⟨rfl, hb⟩
    replace kA := (hb.block _ (Array.getElem?_eq_some_iff.1 kA).1).trans kA
    replace kB := (hb.block _ (Array.getElem?_eq_some_iff.1 kB).1).trans kB
    replace hB := hB.trans (hb.mono hB.size)
    clear hb
    go_wp2_with fail
    refine (cR _).mono ?_
    clear cR
    rintro e w5 ⟨rfl, hb⟩
    replace kA := (hb.block _ (Array.getElem?_eq_some_iff.1 kA).1).trans kA
    replace kB := (hb.block _ (Array.getElem?_eq_some_iff.1 kB).1).trans kB
    replace hB := hB.trans (hb.mono hB.size)
    clear hb
    have A0 := (fun o v => cell_of (o := o) (v := v) kA) 0 _ rfl
    have A1 := (fun o v => cell_of (o := o) (v := v) kA) 1 _ rfl
    have A2 := (fun o v => cell_of (o := o) (v := v) kA) 2 _ rfl
    have A3 := (fun o v => cell_of (o := o) (v := v) kA) 3 _ rfl
    have A4 := (fun o v => cell_of (o := o) (v := v) kA) 4 _ rfl
    have A5 := (fun o v => cell_of (o := o) (v := v) kA) 5 _ rfl
    have B0 := (fun o v => cell_of (o := o) (v := v) kB) 0 _ rfl
    have B1 := (fun o v => cell_of (o := o) (v := v) kB) 1 _ rfl
    have B2 := (fun o v => cell_of (o := o) (v := v) kB) 2 _ rfl
    have B3 := (fun o v => cell_of (o := o) (v := v) kB) 3 _ rfl
    have B4 := (fun o v => cell_of (o := o) (v := v) kB) 4 _ rfl
    have B5 := (fun o v => cell_of (o := o) (v := v) kB) 5 _ rfl
    go_wp2_with fail
    clear A0 A1 A2 A3 A4 A5 B0 B1 B2 B3 B4 B5
    refine (before_any y mo d h mi wd yb mob db hb mib wdb _).mono ?_
    rintro e w6 ⟨rfl, hb⟩
    rw [f1]
    replace kA := (hb.block _ (Array.getElem?_eq_some_iff.1 kA).1).trans kA
    replace kB := (hb.block _ (Array.getElem?_eq_some_iff.1 kB).1).trans kB
    replace hB := hB.trans (hb.mono hB.size)
    clear hb
    have A0 := (fun o v => cell_of (o := o) (v := v) kA) 0 _ rfl
    have A1 := (fun o v => cell_of (o := o) (v := v) kA) 1 _ rfl
    have A2 := (fun o v => cell_of (o := o) (v := v) kA) 2 _ rfl
    have A3 := (fun o v => cell_of (o := o) (v := v) kA) 3 _ rfl
    have A4 := (fun o v => cell_of (o := o) (v := v) kA) 4 _ rfl
    have A5 := (fun o v => cell_of (o := o) (v := v) kA) 5 _ rfl
    have B0 := (fun o v => cell_of (o := o) (v := v) kB) 0 _ rfl
    have B1 := (fun o v => cell_of (o := o) (v := v) kB) 1 _ rfl
    have B2 := (fun o v => cell_of (o := o) (v := v) kB) 2 _ rfl
    have B3 := (fun o v => cell_of (o := o) (v := v) kB) 3 _ rfl
    have B4 := (fun o v => cell_of (o := o) (v := v) kB) 4 _ rfl
    have B5 := (fun o v => cell_of (o := o) (v := v) kB) 5 _ rfl
    go_wp2_with fail
    clear A0 A1 A2 A3 A4 A5 B0 B1 B2 B3 B4 B5
    refine (before_any yb mob db hb mib wdb y mo d h mi wd _).mono ?_
    rintro e w7 ⟨rfl, hb⟩
    rw [f2]
    replace hB := hB.trans (hb.mono hB.size)
    clear hb kA kB
    go_wp2_with fail
    go_ret
    exact ⟨rfl, hB⟩
  · go_wp2_with fail
    refine (pick_any more 3000 _ a2.1 a2.2 (by omega) (by omega)).mono ?_
    rintro e w2 ⟨rfl, rfl⟩
    generalize pk more 3000 = D2 at *
    by_cases hmin : M + 1 + D2 < 50000000
    · skip
      go_wp2_with fail
      refine (pick_any offset 1681 _ a3.1 a3.2 (by omega) (by omega)).mono ?_
      rintro e w2 ⟨rfl, rfl⟩
      generalize pk offset 1681 = O at *
      clear a1 a2 a3
      obtain ⟨y, mo, d, h, mi, wd, yb, mob, db, hb, mib, wdb, P, Q, R, S, cA, cB, cP, cR, f1, f2, f3, g1, g2, g3, g4⟩ := order_plain M (M + 1 + D2) (O - 840) (by omega) (by omega) (by omega)
      unfold civil at cA cB
      go_wp2_with fail
      refine (cA _).mono ?_
      clear cA
      rintro e w2 ⟨rfl, hb⟩
      replace hB := hB.trans (hb.mono hB.size)
      clear hb
      go_wp2_with fail
      replace hB := hB.alloc hB.size (.cells #[.int .i64 y, .int .i64 mo, .int .i64 d, .int .i64 h, .int .i64 mi, .int .i64 wd] 23)
      have kA := heap_new (o := .cells #[.int .i64 y, .int .i64 mo, .int .i64 d, .int .i64 h, .int .i64 mi, .int .i64 wd] 23) (W := w2) rfl
      generalize w2.heap.size = BA at *
      generalize w2.alloc (.cells #[.int .i64 y, .int .i64 mo, .int .i64 d, .int .i64 h, .int .i64 mi, .int .i64 wd] 23) = VA at *
      refine (cB _).mono ?_
      clear cB
      rintro e w3 ⟨rfl, hb⟩
      replace kA := (hb.block _ (Array.getElem?_eq_some_iff.1 kA).1).trans kA
      replace hB := hB.trans (hb.mono hB.size)
      clear hb
      go_wp2_with fail
      replace kA := heap_old (o := .cells #[.int .i64 yb, .int .i64 mob, .int .i64 db, .int .i64 hb, .int .i64 mib, .int .i64 wdb] 23) kA
      replace hB := hB.alloc hB.size (.cells #[.int .i64 yb, .int .i64 mob, .int .i64 db, .int .i64 hb, .int .i64 mib, .int .i64 wdb] 23)
      have kB := heap_new (o := .cells #[.int .i64 yb, .int .i64 mob, .int .i64 db, .int .i64 hb, .int .i64 mib, .int .i64 wdb] 23) (W := w3) rfl
      generalize w3.heap.size = BB at *
      generalize w3.alloc (.cells #[.int .i64 yb, .int .i64 mob, .int .i64 db, .int .i64 hb, .int .i64 mib, .int .i64 wdb] 23) = VB at *
      refine (cP _).mono ?_
      clear cP
      rintro e w4 ⟨rfl, hb⟩
      replace kA := (hb.block _ (Array.getElem?_eq_some_iff.1 kA).1).trans kA
      replace kB := (hb.block _ (Array.getElem?_eq_some_iff.1 kB).1).trans kB
      replace hB := hB.trans (hb.mono hB.size)
      clear hb
      go_wp2_with fail
      refine (cR _).mono ?_
      clear cR
      rintro e w5 ⟨rfl, hb⟩
      replace kA := (hb.block _ (Array.getElem?_eq_some_iff.1 kA).1).trans kA
      replace kB := (hb.block _ (Array.getElem?_eq_some_iff.1 kB).1).trans kB
      replace hB := hB.trans (hb.mono hB.size)
      clear hb
      have A0 := (fun o v => cell_of (o := o) (v := v) kA) 0 _ rfl
      have A1 := (fun o v => cell_of (o := o) (v := v) kA) 1 _ rfl
      have A2 := (fun o v => cell_of (o := o) (v := v) kA) 2 _ rfl
      have A3 := (fun o v => cell_of (o := o) (v := v) kA) 3 _ rfl
      have A4 := (fun o v => cell_of (o := o) (v := v) kA) 4 _ rfl
      have A5 := (fun o v => cell_of (o := o) (v := v) kA) 5 _ rfl
      have B0 := (fun o v => cell_of (o := o) (v := v) kB) 0 _ rfl
      have B1 := (fun o v => cell_of (o := o) (v := v) kB) 1 _ rfl
      have B2 := (fun o v => cell_of (o := o) (v := v) kB) 2 _ rfl
      have B3 := (fun o v => cell_of (o := o) (v := v) kB) 3 _ rfl
      have B4 := (fun o v => cell_of (o := o) (v := v) kB) 4 _ rfl
      have B5 := (fun o v => cell_of (o := o) (v := v) kB) 5 _ rfl
      go_wp2_with fail
      clear A0 A1 A2 A3 A4 A5 B0 B1 B2 B3 B4 B5
      refine (before_any y mo d h mi wd yb mob db hb mib wdb _).mono ?_
      rintro e w6 ⟨rfl, hb⟩
      rw [f1]
      replace kA := (hb.block _ (Array.getElem?_eq_some_iff.1 kA).1).trans kA
      replace kB := (hb.block _ (Array.getElem?_eq_some_iff.1 kB).1).trans kB
      replace hB := hB.trans (hb.mono hB.size)
      clear hb
      have A0 := (fun o v => cell_of (o := o) (v := v) kA) 0 _ rfl
      have A1 := (fun o v => cell_of (o := o) (v := v) kA) 1 _ rfl
      have A2 := (fun o v => cell_of (o := o) (v := v) kA) 2 _ rfl
      have A3 := (fun o v => cell_of (o := o) (v := v) kA) 3 _ rfl
      have A4 := (fun o v => cell_of (o := o) (v := v) kA) 4 _ rfl
      have A5 := (fun o v => cell_of (o := o) (v := v) kA) 5 _ rfl
      have B0 := (fun o v => cell_of (o := o) (v := v) kB) 0 _ rfl
      have B1 := (fun o v => cell_of (o := o) (v := v) kB) 1 _ rfl
      have B2 := (fun o v => cell_of (o := o) (v := v) kB) 2 _ rfl
      have B3 := (fun o v => cell_of (o := o) (v := v) kB) 3 _ rfl
      have B4 := (fun o v => cell_of (o := o) (v := v) kB) 4 _ rfl
      have B5 := (fun o v => cell_of (o := o) (v := v) kB) 5 _ rfl
      go_wp2_with fail
      clear A0 A1 A2 A3 A4 A5 B0 B1 B2 B3 B4 B5
      refine (before_any yb mob db hb mib wdb y mo d h mi wd _).mono ?_
      rintro e w7 ⟨rfl, hb⟩
      rw [f2]
      replace hB := hB.trans (hb.mono hB.size)
      clear hb kA kB
      go_wp2_with fail
      go_ret
      exact ⟨rfl, hB⟩
    · skip
      go_wp2_with fail
      refine (pick_any offset 1681 _ a3.1 a3.2 (by omega) (by omega)).mono ?_
      rintro e w2 ⟨rfl, rfl⟩
      generalize pk offset 1681 = O at *
      clear a1 a2 a3
      obtain ⟨y, mo, d, h, mi, wd, yb, mob, db, hb, mib, wdb, P, Q, R, S, cA, cB, cP, cR, f1, f2, f3, g1, g2, g3, g4⟩ := order_plain M (50000000) (O - 840) (by omega) (by omega) (by omega)
      unfold civil at cA cB
      go_wp2_with fail
      refine (cA _).mono ?_
      clear cA
      rintro e w2 ⟨rfl, hb⟩
      replace hB := hB.trans (hb.mono hB.size)
      clear hb
      go_wp2_with fail
      replace hB := hB.alloc hB.size (.cells #[.int .i64 y, .int .i64 mo, .int .i64 d, .int .i64 h, .int .i64 mi, .int .i64 wd] 23)
      have kA := heap_new (o := .cells #[.int .i64 y, .int .i64 mo, .int .i64 d, .int .i64 h, .int .i64 mi, .int .i64 wd] 23) (W := w2) rfl
      generalize w2.heap.size = BA at *
      generalize w2.alloc (.cells #[.int .i64 y, .int .i64 mo, .int .i64 d, .int .i64 h, .int .i64 mi, .int .i64 wd] 23) = VA at *
      refine (cB _).mono ?_
      clear cB
      rintro e w3 ⟨rfl, hb⟩
      replace kA := (hb.block _ (Array.getElem?_eq_some_iff.1 kA).1).trans kA
      replace hB := hB.trans (hb.mono hB.size)
      clear hb
      go_wp2_with fail
      replace kA := heap_old (o := .cells #[.int .i64 yb, .int .i64 mob, .int .i64 db, .int .i64 hb, .int .i64 mib, .int .i64 wdb] 23) kA
      replace hB := hB.alloc hB.size (.cells #[.int .i64 yb, .int .i64 mob, .int .i64 db, .int .i64 hb, .int .i64 mib, .int .i64 wdb] 23)
      have kB := heap_new (o := .cells #[.int .i64 yb, .int .i64 mob, .int .i64 db, .int .i64 hb, .int .i64 mib, .int .i64 wdb] 23) (W := w3) rfl
      generalize w3.heap.size = BB at *
      generalize w3.alloc (.cells #[.int .i64 yb, .int .i64 mob, .int .i64 db, .int .i64 hb, .int .i64 mib, .int .i64 wdb] 23) = VB at *
      refine (cP _).mono ?_
      clear cP
      rintro e w4 ⟨rfl, hb⟩
      replace kA := (hb.block _ (Array.getElem?_eq_some_iff.1 kA).1).trans kA
      replace kB := (hb.block _ (Array.getElem?_eq_some_iff.1 kB).1).trans kB
      replace hB := hB.trans (hb.mono hB.size)
      clear hb
      go_wp2_with fail
      refine (cR _).mono ?_
      clear cR
      rintro e w5 ⟨rfl, hb⟩
      replace kA := (hb.block _ (Array.getElem?_eq_some_iff.1 kA).1).trans kA
      replace kB := (hb.block _ (Array.getElem?_eq_some_iff.1 kB).1).trans kB
      replace hB := hB.trans (hb.mono hB.size)
      clear hb
      have A0 := (fun o v => cell_of (o := o) (v := v) kA) 0 _ rfl
      have A1 := (fun o v => cell_of (o := o) (v := v) kA) 1 _ rfl
      have A2 := (fun o v => cell_of (o := o) (v := v) kA) 2 _ rfl
      have A3 := (fun o v => cell_of (o := o) (v := v) kA) 3 _ rfl
      have A4 := (fun o v => cell_of (o := o) (v := v) kA) 4 _ rfl
      have A5 := (fun o v => cell_of (o := o) (v := v) kA) 5 _ rfl
      have B0 := (fun o v => cell_of (o := o) (v := v) kB) 0 _ rfl
      have B1 := (fun o v => cell_of (o := o) (v := v) kB) 1 _ rfl
      have B2 := (fun o v => cell_of (o := o) (v := v) kB) 2 _ rfl
      have B3 := (fun o v => cell_of (o := o) (v := v) kB) 3 _ rfl
      have B4 := (fun o v => cell_of (o := o) (v := v) kB) 4 _ rfl
      have B5 := (fun o v => cell_of (o := o) (v := v) kB) 5 _ rfl
      go_wp2_with fail
      clear A0 A1 A2 A3 A4 A5 B0 B1 B2 B3 B4 B5
      refine (before_any y mo d h mi wd yb mob db hb mib wdb _).mono ?_
      rintro e w6 ⟨rfl, hb⟩
      rw [f1]
      replace kA := (hb.block _ (Array.getElem?_eq_some_iff.1 kA).1).trans kA
      replace kB := (hb.block _ (Array.getElem?_eq_some_iff.1 kB).1).trans kB
      replace hB := hB.trans (hb.mono hB.size)
      clear hb
      have A0 := (fun o v => cell_of (o := o) (v := v) kA) 0 _ rfl
      have A1 := (fun o v => cell_of (o := o) (v := v) kA) 1 _ rfl
      have A2 := (fun o v => cell_of (o := o) (v := v) kA) 2 _ rfl
      have A3 := (fun o v => cell_of (o := o) (v := v) kA) 3 _ rfl
      have A4 := (fun o v => cell_of (o := o) (v := v) kA) 4 _ rfl
      have A5 := (fun o v => cell_of (o := o) (v := v) kA) 5 _ rfl
      have B0 := (fun o v => cell_of (o := o) (v := v) kB) 0 _ rfl
      have B1 := (fun o v => cell_of (o := o) (v := v) kB) 1 _ rfl
      have B2 := (fun o v => cell_of (o := o) (v := v) kB) 2 _ rfl
      have B3 := (fun o v => cell_of (o := o) (v := v) kB) 3 _ rfl
      have B4 := (fun o v => cell_of (o := o) (v := v) kB) 4 _ rfl
      have B5 := (fun o v => cell_of (o := o) (v := v) kB) 5 _ rfl
      go_wp2_with fail
      clear A0 A1 A2 A3 A4 A5 B0 B1 B2 B3 B4 B5
      refine (before_any yb mob db hb mib wdb y mo d h mi wd _).mono ?_
      rintro e w7 ⟨rfl, hb⟩
      rw [f2]
      replace hB := hB.trans (hb.mono hB.size)
      clear hb kA kB
      go_wp2_with fail
      go_ret
      exact ⟨rfl, hB⟩
end Go.Proofs.Ytkbdgelfjdahpaa
