/- The contract of the reference's Valid. -/
import Derived.Test.YticngcjfofcoiaaDoorRk
namespace Go.Proofs.YticngcjfofcoiaaDoor
open Go.RowKit Go.Rg Go.Proofs.YticngcjfofcoiaaDoorW.PrintWords
set_option linter.unusedVariables false
set_option linter.unusedSimpArgs false
set_option maxRecDepth 100000
theorem y_in {f : List Int} {j : Nat} {y : Int} (hj : j < f.length) (hz : rd f (j : Int) = y) : f.contains y = true := by
 rw [rd_at hj] at hz
 simp only [List.contains_iff_mem]
 rw [← hz]; exact List.getElem_mem hj
theorem noty_succ {f : List Int} {j : Nat} {y z : Int} (hj : j < f.length) (hz : rd f (j : Int) = z) (h : (f.take j).contains y = false) (hzy : ¬ z = y) : (f.take (j + 1)).contains y = false := by
 rw [rd_at hj] at hz
 rw [List.take_succ_eq_append_getElem hj, hz]
 rw [← Bool.not_eq_true, List.contains_iff_mem] at *
 intro hm
 rcases List.mem_append.1 hm with hm | hm
 ·exact h hm
 ·exact hzy (List.mem_singleton.1 hm).symm
set_option maxHeartbeats 4000000 in
theorem rvalid_any (A : Option Addr) (c : Nat) (l : List Src) (w : World) (hr : Kd.C kS w A l.length l) (hl : ∀ s ∈ l, s.frm.length ≤ 1000) :
  Calls Tryd.prog 21 #[.slice A l.length c] w fun e w' => e = .returned (.bool (validS l)) ∧ Below w.heap.size w w' := by
 have hm := max_len hr
 have HR := Lib.hid (And.intro hr hl); clear hr hl
 by_cases h12 : l.length ≤ 12
 ·have hgt : ¬ ((l.length : Int) > 12) := by omega
  go_enter Tryd.func21, Tryd.ntmps21
  go_wp2_with fail
  clear hgt
  go_loopw [3] (fun iv wr => ∃ i : Nat, i ≤ l.length ∧ iv = .int .i64 i ∧ Hid ((List.range i).all (vAt l) = true ∧ Below w.heap.size w wr)) (fun iv wr => l.length - (intOf iv).toNat)
  case atStart => exact ⟨0, Nat.zero_le _, rfl, Lib.hid ⟨rfl, Below.refl _ _⟩⟩
  case round =>
   obtain ⟨i, hi, rfl, HI⟩ := hrel
   by_cases hlt : i < l.length
   ·have hltI : (i : Int) < (l.length : Int) := by omega
    obtain ⟨s, hs⟩ : ∃ s, l[i]? = some s := ⟨l[i], List.getElem?_eq_getElem hlt⟩
    have hC := Kd.C_below HR.out.1 HI.out.2
    obtain ⟨ad, FA, fc, e, x0, x1, x2, hfc, hCf⟩ := at_S hC hs
    cases e
    have hgs : l.getD i s0 = s := by simp [List.getD, hs]
    have hid : idAt l i = s.id := by unfold idAt; rw [hgs]
    have hsl := HR.out.2 s (List.mem_of_getElem? hs)
    have hbA := (Below.refl wr.heap.size wr).alloc (Nat.le_refl _) (.cells #[.int .i64 s.id, .int .i64 s.kind, .slice FA s.frm.length fc] 35)
    have hhA : (wr.alloc (.cells #[.int .i64 s.id, .int .i64 s.kind, .slice FA s.frm.length fc] 35)).heap[wr.heap.size]? = some (.cells #[.int .i64 s.id, .int .i64 s.kind, .slice FA s.frm.length fc] 35) := heap_new rfl
    have d0 := cell_ext (cell_of (o := 0) hhA rfl)
    have d1 := cell_ext (cell_of (o := 1) hhA rfl)
    have d2 := cell_ext (cell_of (o := 2) hhA rfl)
    have HA := Lib.hid (And.intro hhA (And.intro (HI.out.2.trans (hbA.mono HI.out.2.size)) (And.intro (Kd.C_below hC hbA) (Kd.C_below hCf hbA))))
    have HHC := Lib.hid (And.intro hs hsl)
    have hprev : ∀ j, i = j + 1 → ∃ z, idAt l j = z ∧ ∀ X : Ext (wr.alloc (.cells #[.int .i64 s.id, .int .i64 s.kind, .slice FA s.frm.length fc] 35)), X.val.cell? (ad.add (j * 3)) = some (.int .i64 z) := by
     intro j hj
     obtain ⟨p, hp⟩ : ∃ p, l[j]? = some p := ⟨l[j]'(by omega), List.getElem?_eq_getElem (by omega)⟩
     obtain ⟨ad', _, _, e, y0, _, _, _, _⟩ := at_S (Kd.C_below hC hbA) hp
     cases e
     exact ⟨p.id, by unfold idAt; simp [List.getD, hp], cell_ext y0⟩
    clear hhA hbA hC hCf hfc hsl hs
    obtain ⟨k, hk⟩ : ∃ k, s.kind = k := ⟨_, rfl⟩
    obtain ⟨y, hy⟩ : ∃ y, s.id = y := ⟨_, rfl⟩
    have hvh : vHead l i = (decide (0 ≤ y) && (decide (y < 12) && ((decide (i = 0) || decide (idAt l (i - 1) < y)) && (decide (k = 1) || decide (k = 2))))) := by unfold vHead; rw [hid, hgs, hk, hy]
    have hvt : vTail l i = (decide (s.frm.length ≤ 3) && (asrt l s.frm && !s.frm.contains y)) := by unfold vTail; rw [hid, hgs, hy]
    rw [hy] at HA hprev d0 d1 d2 x0
    rw [hk] at HA hprev d0 d1 d2 x1
    have HVT := Lib.hid hvt; clear hvt hid hgs hk
    clear hy
    have HHS := Lib.hid HHC.out; clear HHC
    by_cases c1 : y < 0
    ·have c1d : decide (y < 0) = true := decide_eq_true c1
     have HVF : vHead l i = false := by
      rw [hvh]
      have h : ¬ 0 ≤ y := by omega
      simp [h]
     have HN := Lib.hid (valid_no hlt (vhead_no HVF))
     clear hvh hprev HVF
     go_wp2_with fail
     refine region_ext (by kernel_rfl) (by kernel_rfl) ?_
     repeat (go_big_quiet_step (fail))
     refine wpQuiet_nil ?_
     rintro W' ⟨X, rfl⟩
     go_wp2_with fail
     go_ret
     exact ⟨ret_bool HN.out.symm, HA.out.2.1.trans (X.2.below (fun _ _ h => h) HA.out.2.1.size)⟩
    ·have c1' : 0 ≤ y := by omega
     have c1d : decide (y < 0) = false := decide_eq_false c1
     by_cases c2 : y ≥ 12
     ·have c2d : decide (12 ≤ y) = true := decide_eq_true c2
      have HVF : vHead l i = false := by
       rw [hvh]
       have h : ¬ y < 12 := by omega
       simp [h]
      have HN := Lib.hid (valid_no hlt (vhead_no HVF))
      clear hvh hprev HVF
      go_wp2_with fail
      refine region_ext (by kernel_rfl) (by kernel_rfl) ?_
      repeat (go_big_quiet_step (fail))
      refine wpQuiet_nil ?_
      rintro W' ⟨X, rfl⟩
      go_wp2_with fail
      go_ret
      exact ⟨ret_bool HN.out.symm, HA.out.2.1.trans (X.2.below (fun _ _ h => h) HA.out.2.1.size)⟩
     ·have c2' : y < 12 := by omega
      have c2d : decide (12 ≤ y) = false := decide_eq_false c2
      by_cases h0 : i = 0
      ·have hgt : decide (0 < i) = false := decide_eq_false (by omega)
       have hgt2 : decide ((0 : Int) < (i : Int)) = false := decide_eq_false (by omega)
       have hz0 : decide (i = 0) = true := decide_eq_true h0
       clear h0
       by_cases c5 : k = 1
       ·have c5' : (k != 1) = false := by simp [c5]
        have HVH : vHead l i = true := by
         rw [hvh]
         simp [c1', c2', hz0, c5]
        have HVH := Lib.hid HVH
        clear hvh hprev c5
        have hl3I : ∀ n : Nat, n = s.frm.length → ((n : Int) > 3) = (3 < n) := fun n _ => by simp only [gt_iff_lt, eq_iff_iff]; omega
        clear hl3I
        go_wp2_with fail
        refine region_ext (by kernel_rfl) (by kernel_rfl) ?_
        repeat (go_big_quiet_step (fail))
        refine wpQuiet_nil ?_
        rintro W' ⟨X, rfl⟩
        have hbX := X.2.below (n := (wr.alloc (.cells #[.int .i64 y, .int .i64 k, .slice FA s.frm.length fc] 35)).heap.size) (fun _ _ h => h) (Nat.le_refl _)
        have hhX := (hbX.block _ (Array.getElem?_eq_some_iff.1 HA.out.1).1).trans HA.out.1
        have e0 : X.val.cell? ⟨wr.heap.size, 0, none⟩ = some (.int .i64 y) := cell_of hhX rfl
        have e2 : X.val.cell? ⟨wr.heap.size, 2, none⟩ = some (.slice FA s.frm.length fc) := cell_of hhX rfl
        have hbw := HA.out.2.1.trans (hbX.mono HA.out.2.1.size)
        have has := rasrt_any (some ad) c l FA fc s.frm X.val (Kd.C_below HA.out.2.2.1 hbX) (Kd.C_below HA.out.2.2.2 hbX)
        have HAS := Lib.hid has; clear has
        have HX := Lib.hid (And.intro hhX (And.intro hbw (Kd.C_below HA.out.2.2.2 hbX))); clear hhX hbw hbX d0 d1 d2 x0 x1 x2
        generalize X.val = W5 at *
        by_cases g1 : s.frm.length ≤ 3
        ·have g1I : ¬ ((s.frm.length : Int) > 3) := by omega
         cases hq : asrt l s.frm with
         |false =>
          rw [hq] at HAS
          have HVF : vTail l i = false := by
           rw [HVT.out]
           simp [hq]
          have HN := Lib.hid (valid_no hlt (vtail_no HVF)); clear HVF
          clear g1 hq
          go_wp2_with fail
          refine HAS.out.mono ?_
          rintro e W6 ⟨rfl, hb6⟩
          have HB6 := Lib.hid (HX.out.2.1.trans (hb6.mono HX.out.2.1.size)); clear hb6 HAS e0 e2
          go_wp2_with fail
          go_ret
          exact ⟨ret_bool HN.out.symm, HB6.out⟩
         |true =>
          rw [hq] at HAS
          have HASV := Lib.hid hq
          have H3 := Lib.hid g1
          clear g1 hq
          go_wp2_with fail
          refine HAS.out.mono ?_
          rintro e W6 ⟨rfl, hb6⟩
          have H6 := Lib.hid ((hb6.block _ (Array.getElem?_eq_some_iff.1 HX.out.1).1).trans HX.out.1)
          have HF6 := Lib.hid (Kd.C_below HX.out.2.2 hb6)
          have HB6 := Lib.hid (HX.out.2.1.trans (hb6.mono HX.out.2.1.size)); clear hb6 HAS e0 e2 HX HA
          generalize wr.heap.size = g at *
          go_wp2_with fail
          go_loopw [5] (fun jv W => ∃ j : Nat, j ≤ s.frm.length ∧ jv = .int .i64 j ∧ Hid (Below W6.heap.size W6 W ∧ (s.frm.take j).contains y = false)) (fun jv W => s.frm.length - (intOf jv).toNat)
          case atStart => exact ⟨0, Nat.zero_le _, rfl, Lib.hid ⟨Below.refl _ _, rfl⟩⟩
          case round =>
           obtain ⟨j, hj, rfl, HJ⟩ := hrel
           have hhJ := (HJ.out.1.block _ (Array.getElem?_eq_some_iff.1 H6.out).1).trans H6.out
           have e0 : wr.cell? ⟨g, 0, none⟩ = some (.int .i64 y) := cell_of hhJ rfl
           have e2 : wr.cell? ⟨g, 2, none⟩ = some (.slice FA s.frm.length fc) := cell_of hhJ rfl
           clear hhJ
           by_cases hjl : j < s.frm.length
           ·have hjI2 : (j : Int) < (s.frm.length : Int) := by omega
            obtain ⟨fd, e, hv⟩ := Kd.at_int (Kd.C_below HF6.out HJ.out.1) (j : Int) (by omega) hjI2
            cases e
            simp only [Int.toNat_natCast] at hv
            obtain ⟨zz, hzz⟩ : ∃ zz, rd s.frm (j : Int) = zz := ⟨_, rfl⟩
            rw [hzz] at hv
            have E0 := cell_ext e0
            have E2 := cell_ext e2
            have EV := cell_ext hv
            by_cases hzy : zz = y
            ·have HN := Lib.hid (valid_no hlt (vtail_no (show vTail l i = false by rw [HVT.out, y_in hjl (hzz.trans hzy)]; simp)))
             have hbe : (zz == y) = true := by simp [hzy]
             have hbd : decide (zz = y) = true := decide_eq_true hzy
             clear hzy hzz
             go_wp2_with fail
             refine region_ext (by kernel_rfl) (by kernel_rfl) ?_
             repeat (go_big_quiet_step (fail))
             refine wpQuiet_nil ?_
             rintro W' ⟨X, rfl⟩
             have HBX := Lib.hid (HB6.out.trans ((HJ.out.1.trans (X.2.below (fun _ _ h => h) HJ.out.1.size)).mono HB6.out.size))
             clear E0 E2 EV e0 e2 hv
             go_wp2_with fail
             go_ret
             exact ⟨ret_bool HN.out.symm, HBX.out⟩
            ·have HNY := Lib.hid (noty_succ hjl hzz HJ.out.2 hzy)
             have hbe : (zz == y) = false := by simp [hzy]
             have hbd : decide (zz = y) = false := decide_eq_false hzy
             clear hzy hzz
             go_wp2_with fail
             refine region_ext (by kernel_rfl) (by kernel_rfl) ?_
             repeat (go_big_quiet_step (fail))
             refine wpQuiet_nil ?_
             rintro W' ⟨X, rfl⟩
             have HBX := Lib.hid (HJ.out.1.trans (X.2.below (fun _ _ h => h) HJ.out.1.size))
             clear E0 E2 EV e0 e2 hv
             go_wp2_with fail
             go_roundw
             case rel => exact ⟨j + 1, by omega, by go_num, Lib.hid ⟨HBX.out, HNY.out⟩⟩
             case measure => exact meas_up1 hjl
           ·obtain rfl : j = s.frm.length := by omega
            have hnc := HJ.out.2
            rw [List.take_length] at hnc
            have HN := Lib.hid (upto_succ HI.out.1 (show vAt l i = true by unfold vAt; rw [HVH.out, HVT.out, hnc, HASV.out, decide_eq_true H3.out]; rfl)); clear hnc
            go_wp2_with fail
            go_roundw
            case rel => exact ⟨i + 1, by omega, by go_num, Lib.hid ⟨HN.out, HB6.out.trans (HJ.out.1.mono HB6.out.size)⟩⟩
            case measure => exact meas_up1 hlt
        ·have g1I : (s.frm.length : Int) > 3 := by omega
         have HVF : vTail l i = false := by
          rw [HVT.out]
          simp [g1]
         have HN := Lib.hid (valid_no hlt (vtail_no HVF)); clear HVF
         clear g1
         go_wp2_with fail
         go_ret
         exact ⟨ret_bool HN.out.symm, HX.out.2.1⟩
       ·have c5' : (k != 1) = true := by simp [c5]
        by_cases c6 : k = 2
        ·have c6' : (k != 2) = false := by simp [c6]
         have HVH : vHead l i = true := by
          rw [hvh]
          simp [c1', c2', hz0, c6]
         have HVH := Lib.hid HVH
         clear hvh hprev c6
         have hl3I : ∀ n : Nat, n = s.frm.length → ((n : Int) > 3) = (3 < n) := fun n _ => by simp only [gt_iff_lt, eq_iff_iff]; omega
         clear hl3I
         go_wp2_with fail
         refine region_ext (by kernel_rfl) (by kernel_rfl) ?_
         repeat (go_big_quiet_step (fail))
         refine wpQuiet_nil ?_
         rintro W' ⟨X, rfl⟩
         have hbX := X.2.below (n := (wr.alloc (.cells #[.int .i64 y, .int .i64 k, .slice FA s.frm.length fc] 35)).heap.size) (fun _ _ h => h) (Nat.le_refl _)
         have hhX := (hbX.block _ (Array.getElem?_eq_some_iff.1 HA.out.1).1).trans HA.out.1
         have e0 : X.val.cell? ⟨wr.heap.size, 0, none⟩ = some (.int .i64 y) := cell_of hhX rfl
         have e2 : X.val.cell? ⟨wr.heap.size, 2, none⟩ = some (.slice FA s.frm.length fc) := cell_of hhX rfl
         have hbw := HA.out.2.1.trans (hbX.mono HA.out.2.1.size)
         have has := rasrt_any (some ad) c l FA fc s.frm X.val (Kd.C_below HA.out.2.2.1 hbX) (Kd.C_below HA.out.2.2.2 hbX)
         have HAS := Lib.hid has; clear has
         have HX := Lib.hid (And.intro hhX (And.intro hbw (Kd.C_below HA.out.2.2.2 hbX))); clear hhX hbw hbX d0 d1 d2 x0 x1 x2
         generalize X.val = W5 at *
         by_cases g1 : s.frm.length ≤ 3
         ·have g1I : ¬ ((s.frm.length : Int) > 3) := by omega
          cases hq : asrt l s.frm with
          |false =>
           rw [hq] at HAS
           have HVF : vTail l i = false := by
            rw [HVT.out]
            simp [hq]
           have HN := Lib.hid (valid_no hlt (vtail_no HVF)); clear HVF
           clear g1 hq
           go_wp2_with fail
           refine HAS.out.mono ?_
           rintro e W6 ⟨rfl, hb6⟩
           have HB6 := Lib.hid (HX.out.2.1.trans (hb6.mono HX.out.2.1.size)); clear hb6 HAS e0 e2
           go_wp2_with fail
           go_ret
           exact ⟨ret_bool HN.out.symm, HB6.out⟩
          |true =>
           rw [hq] at HAS
           have HASV := Lib.hid hq
           have H3 := Lib.hid g1
           clear g1 hq
           go_wp2_with fail
           refine HAS.out.mono ?_
           rintro e W6 ⟨rfl, hb6⟩
           have H6 := Lib.hid ((hb6.block _ (Array.getElem?_eq_some_iff.1 HX.out.1).1).trans HX.out.1)
           have HF6 := Lib.hid (Kd.C_below HX.out.2.2 hb6)
           have HB6 := Lib.hid (HX.out.2.1.trans (hb6.mono HX.out.2.1.size)); clear hb6 HAS e0 e2 HX HA
           generalize wr.heap.size = g at *
           go_wp2_with fail
           go_loopw [5] (fun jv W => ∃ j : Nat, j ≤ s.frm.length ∧ jv = .int .i64 j ∧ Hid (Below W6.heap.size W6 W ∧ (s.frm.take j).contains y = false)) (fun jv W => s.frm.length - (intOf jv).toNat)
           case atStart => exact ⟨0, Nat.zero_le _, rfl, Lib.hid ⟨Below.refl _ _, rfl⟩⟩
           case round =>
            obtain ⟨j, hj, rfl, HJ⟩ := hrel
            have hhJ := (HJ.out.1.block _ (Array.getElem?_eq_some_iff.1 H6.out).1).trans H6.out
            have e0 : wr.cell? ⟨g, 0, none⟩ = some (.int .i64 y) := cell_of hhJ rfl
            have e2 : wr.cell? ⟨g, 2, none⟩ = some (.slice FA s.frm.length fc) := cell_of hhJ rfl
            clear hhJ
            by_cases hjl : j < s.frm.length
            ·have hjI2 : (j : Int) < (s.frm.length : Int) := by omega
             obtain ⟨fd, e, hv⟩ := Kd.at_int (Kd.C_below HF6.out HJ.out.1) (j : Int) (by omega) hjI2
             cases e
             simp only [Int.toNat_natCast] at hv
             obtain ⟨zz, hzz⟩ : ∃ zz, rd s.frm (j : Int) = zz := ⟨_, rfl⟩
             rw [hzz] at hv
             have E0 := cell_ext e0
             have E2 := cell_ext e2
             have EV := cell_ext hv
             by_cases hzy : zz = y
             ·have HN := Lib.hid (valid_no hlt (vtail_no (show vTail l i = false by rw [HVT.out, y_in hjl (hzz.trans hzy)]; simp)))
              have hbe : (zz == y) = true := by simp [hzy]
              have hbd : decide (zz = y) = true := decide_eq_true hzy
              clear hzy hzz
              go_wp2_with fail
              refine region_ext (by kernel_rfl) (by kernel_rfl) ?_
              repeat (go_big_quiet_step (fail))
              refine wpQuiet_nil ?_
              rintro W' ⟨X, rfl⟩
              have HBX := Lib.hid (HB6.out.trans ((HJ.out.1.trans (X.2.below (fun _ _ h => h) HJ.out.1.size)).mono HB6.out.size))
              clear E0 E2 EV e0 e2 hv
              go_wp2_with fail
              go_ret
              exact ⟨ret_bool HN.out.symm, HBX.out⟩
             ·have HNY := Lib.hid (noty_succ hjl hzz HJ.out.2 hzy)
              have hbe : (zz == y) = false := by simp [hzy]
              have hbd : decide (zz = y) = false := decide_eq_false hzy
              clear hzy hzz
              go_wp2_with fail
              refine region_ext (by kernel_rfl) (by kernel_rfl) ?_
              repeat (go_big_quiet_step (fail))
              refine wpQuiet_nil ?_
              rintro W' ⟨X, rfl⟩
              have HBX := Lib.hid (HJ.out.1.trans (X.2.below (fun _ _ h => h) HJ.out.1.size))
              clear E0 E2 EV e0 e2 hv
              go_wp2_with fail
              go_roundw
              case rel => exact ⟨j + 1, by omega, by go_num, Lib.hid ⟨HBX.out, HNY.out⟩⟩
              case measure => exact meas_up1 hjl
            ·obtain rfl : j = s.frm.length := by omega
             have hnc := HJ.out.2
             rw [List.take_length] at hnc
             have HN := Lib.hid (upto_succ HI.out.1 (show vAt l i = true by unfold vAt; rw [HVH.out, HVT.out, hnc, HASV.out, decide_eq_true H3.out]; rfl)); clear hnc
             go_wp2_with fail
             go_roundw
             case rel => exact ⟨i + 1, by omega, by go_num, Lib.hid ⟨HN.out, HB6.out.trans (HJ.out.1.mono HB6.out.size)⟩⟩
             case measure => exact meas_up1 hlt
         ·have g1I : (s.frm.length : Int) > 3 := by omega
          have HVF : vTail l i = false := by
           rw [HVT.out]
           simp [g1]
          have HN := Lib.hid (valid_no hlt (vtail_no HVF)); clear HVF
          clear g1
          go_wp2_with fail
          go_ret
          exact ⟨ret_bool HN.out.symm, HX.out.2.1⟩
        ·have c6' : (k != 2) = true := by simp [c6]
         have HVF : vHead l i = false := by
          rw [hvh]
          simp [c5, c6]
         have HN := Lib.hid (valid_no hlt (vhead_no HVF))
         clear hvh hprev HVF
         go_wp2_with fail
         refine region_ext (by kernel_rfl) (by kernel_rfl) ?_
         repeat (go_big_quiet_step (fail))
         refine wpQuiet_nil ?_
         rintro W' ⟨X, rfl⟩
         go_wp2_with fail
         go_ret
         exact ⟨ret_bool HN.out.symm, HA.out.2.1.trans (X.2.below (fun _ _ h => h) HA.out.2.1.size)⟩
      ·obtain ⟨j, hj⟩ : ∃ j, i = j + 1 := ⟨i - 1, by omega⟩
       obtain ⟨z, hz, hzc⟩ := hprev j hj
       rw [show i - 1 = j by omega, hz] at hvh
       have hgt : decide (0 < i) = true := decide_eq_true (by omega)
       have hgt2 : decide ((0 : Int) < (i : Int)) = true := decide_eq_true (by omega)
       have hwj : wrap64 ((i : Int) - 1) = (i : Int) - 1 := by unfold wrap64; omega
       have htn : ((i : Int) - 1).toNat = i - 1 := by omega
       have hjI : ((i : Int) - 1) < (l.length : Int) := by omega
       have hj0 : (0 : Int) ≤ ((i : Int) - 1) := by omega
       have hjn : ¬ ((i : Int) - 1) < (0 : Int) := by omega
       rw [show j = i - 1 by omega] at hzc
       have hz0 : decide (i = 0) = false := decide_eq_false h0
       clear h0 hz hj
       by_cases c4 : z ≥ y
       ·have c4d : decide (y ≤ z) = true := decide_eq_true c4
        have HVF : vHead l i = false := by
         rw [hvh]
         have h : ¬ z < y := by omega
         simp [h, hz0]
        have HN := Lib.hid (valid_no hlt (vhead_no HVF))
        clear hvh hprev HVF
        go_wp2_with fail
        refine region_ext (by kernel_rfl) (by kernel_rfl) ?_
        repeat (go_big_quiet_step (fail))
        refine wpQuiet_nil ?_
        rintro W' ⟨X, rfl⟩
        go_wp2_with fail
        go_ret
        exact ⟨ret_bool HN.out.symm, HA.out.2.1.trans (X.2.below (fun _ _ h => h) HA.out.2.1.size)⟩
       ·have c4' : z < y := by omega
        have c4d : decide (y ≤ z) = false := decide_eq_false c4
        by_cases c5 : k = 1
        ·have c5' : (k != 1) = false := by simp [c5]
         have HVH : vHead l i = true := by
          rw [hvh]
          simp [c1', c2', c4', c5]
         have HVH := Lib.hid HVH
         clear hvh hprev c5
         have hl3I : ∀ n : Nat, n = s.frm.length → ((n : Int) > 3) = (3 < n) := fun n _ => by simp only [gt_iff_lt, eq_iff_iff]; omega
         clear hl3I
         go_wp2_with fail
         refine region_ext (by kernel_rfl) (by kernel_rfl) ?_
         repeat (go_big_quiet_step (fail))
         refine wpQuiet_nil ?_
         rintro W' ⟨X, rfl⟩
         have hbX := X.2.below (n := (wr.alloc (.cells #[.int .i64 y, .int .i64 k, .slice FA s.frm.length fc] 35)).heap.size) (fun _ _ h => h) (Nat.le_refl _)
         have hhX := (hbX.block _ (Array.getElem?_eq_some_iff.1 HA.out.1).1).trans HA.out.1
         have e0 : X.val.cell? ⟨wr.heap.size, 0, none⟩ = some (.int .i64 y) := cell_of hhX rfl
         have e2 : X.val.cell? ⟨wr.heap.size, 2, none⟩ = some (.slice FA s.frm.length fc) := cell_of hhX rfl
         have hbw := HA.out.2.1.trans (hbX.mono HA.out.2.1.size)
         have has := rasrt_any (some ad) c l FA fc s.frm X.val (Kd.C_below HA.out.2.2.1 hbX) (Kd.C_below HA.out.2.2.2 hbX)
         have HAS := Lib.hid has; clear has
         have HX := Lib.hid (And.intro hhX (And.intro hbw (Kd.C_below HA.out.2.2.2 hbX))); clear hhX hbw hbX d0 d1 d2 x0 x1 x2
         generalize X.val = W5 at *
         by_cases g1 : s.frm.length ≤ 3
         ·have g1I : ¬ ((s.frm.length : Int) > 3) := by omega
          cases hq : asrt l s.frm with
          |false =>
           rw [hq] at HAS
           have HVF : vTail l i = false := by
            rw [HVT.out]
            simp [hq]
           have HN := Lib.hid (valid_no hlt (vtail_no HVF)); clear HVF
           clear g1 hq
           go_wp2_with fail
           refine HAS.out.mono ?_
           rintro e W6 ⟨rfl, hb6⟩
           have HB6 := Lib.hid (HX.out.2.1.trans (hb6.mono HX.out.2.1.size)); clear hb6 HAS e0 e2
           go_wp2_with fail
           go_ret
           exact ⟨ret_bool HN.out.symm, HB6.out⟩
          |true =>
           rw [hq] at HAS
           have HASV := Lib.hid hq
           have H3 := Lib.hid g1
           clear g1 hq
           go_wp2_with fail
           refine HAS.out.mono ?_
           rintro e W6 ⟨rfl, hb6⟩
           have H6 := Lib.hid ((hb6.block _ (Array.getElem?_eq_some_iff.1 HX.out.1).1).trans HX.out.1)
           have HF6 := Lib.hid (Kd.C_below HX.out.2.2 hb6)
           have HB6 := Lib.hid (HX.out.2.1.trans (hb6.mono HX.out.2.1.size)); clear hb6 HAS e0 e2 HX HA
           generalize wr.heap.size = g at *
           go_wp2_with fail
           go_loopw [5] (fun jv W => ∃ j : Nat, j ≤ s.frm.length ∧ jv = .int .i64 j ∧ Hid (Below W6.heap.size W6 W ∧ (s.frm.take j).contains y = false)) (fun jv W => s.frm.length - (intOf jv).toNat)
           case atStart => exact ⟨0, Nat.zero_le _, rfl, Lib.hid ⟨Below.refl _ _, rfl⟩⟩
           case round =>
            obtain ⟨j, hj, rfl, HJ⟩ := hrel
            have hhJ := (HJ.out.1.block _ (Array.getElem?_eq_some_iff.1 H6.out).1).trans H6.out
            have e0 : wr.cell? ⟨g, 0, none⟩ = some (.int .i64 y) := cell_of hhJ rfl
            have e2 : wr.cell? ⟨g, 2, none⟩ = some (.slice FA s.frm.length fc) := cell_of hhJ rfl
            clear hhJ
            by_cases hjl : j < s.frm.length
            ·have hjI2 : (j : Int) < (s.frm.length : Int) := by omega
             obtain ⟨fd, e, hv⟩ := Kd.at_int (Kd.C_below HF6.out HJ.out.1) (j : Int) (by omega) hjI2
             cases e
             simp only [Int.toNat_natCast] at hv
             obtain ⟨zz, hzz⟩ : ∃ zz, rd s.frm (j : Int) = zz := ⟨_, rfl⟩
             rw [hzz] at hv
             have E0 := cell_ext e0
             have E2 := cell_ext e2
             have EV := cell_ext hv
             by_cases hzy : zz = y
             ·have HN := Lib.hid (valid_no hlt (vtail_no (show vTail l i = false by rw [HVT.out, y_in hjl (hzz.trans hzy)]; simp)))
              have hbe : (zz == y) = true := by simp [hzy]
              have hbd : decide (zz = y) = true := decide_eq_true hzy
              clear hzy hzz
              go_wp2_with fail
              refine region_ext (by kernel_rfl) (by kernel_rfl) ?_
              repeat (go_big_quiet_step (fail))
              refine wpQuiet_nil ?_
              rintro W' ⟨X, rfl⟩
              have HBX := Lib.hid (HB6.out.trans ((HJ.out.1.trans (X.2.below (fun _ _ h => h) HJ.out.1.size)).mono HB6.out.size))
              clear E0 E2 EV e0 e2 hv
              go_wp2_with fail
              go_ret
              exact ⟨ret_bool HN.out.symm, HBX.out⟩
             ·have HNY := Lib.hid (noty_succ hjl hzz HJ.out.2 hzy)
              have hbe : (zz == y) = false := by simp [hzy]
              have hbd : decide (zz = y) = false := decide_eq_false hzy
              clear hzy hzz
              go_wp2_with fail
              refine region_ext (by kernel_rfl) (by kernel_rfl) ?_
              repeat (go_big_quiet_step (fail))
              refine wpQuiet_nil ?_
              rintro W' ⟨X, rfl⟩
              have HBX := Lib.hid (HJ.out.1.trans (X.2.below (fun _ _ h => h) HJ.out.1.size))
              clear E0 E2 EV e0 e2 hv
              go_wp2_with fail
              go_roundw
              case rel => exact ⟨j + 1, by omega, by go_num, Lib.hid ⟨HBX.out, HNY.out⟩⟩
              case measure => exact meas_up1 hjl
            ·obtain rfl : j = s.frm.length := by omega
             have hnc := HJ.out.2
             rw [List.take_length] at hnc
             have HN := Lib.hid (upto_succ HI.out.1 (show vAt l i = true by unfold vAt; rw [HVH.out, HVT.out, hnc, HASV.out, decide_eq_true H3.out]; rfl)); clear hnc
             go_wp2_with fail
             go_roundw
             case rel => exact ⟨i + 1, by omega, by go_num, Lib.hid ⟨HN.out, HB6.out.trans (HJ.out.1.mono HB6.out.size)⟩⟩
             case measure => exact meas_up1 hlt
         ·have g1I : (s.frm.length : Int) > 3 := by omega
          have HVF : vTail l i = false := by
           rw [HVT.out]
           simp [g1]
          have HN := Lib.hid (valid_no hlt (vtail_no HVF)); clear HVF
          clear g1
          go_wp2_with fail
          go_ret
          exact ⟨ret_bool HN.out.symm, HX.out.2.1⟩
        ·have c5' : (k != 1) = true := by simp [c5]
         by_cases c6 : k = 2
         ·have c6' : (k != 2) = false := by simp [c6]
          have HVH : vHead l i = true := by
           rw [hvh]
           simp [c1', c2', c4', c6]
          have HVH := Lib.hid HVH
          clear hvh hprev c6
          have hl3I : ∀ n : Nat, n = s.frm.length → ((n : Int) > 3) = (3 < n) := fun n _ => by simp only [gt_iff_lt, eq_iff_iff]; omega
          clear hl3I
          go_wp2_with fail
          refine region_ext (by kernel_rfl) (by kernel_rfl) ?_
          repeat (go_big_quiet_step (fail))
          refine wpQuiet_nil ?_
          rintro W' ⟨X, rfl⟩
          have hbX := X.2.below (n := (wr.alloc (.cells #[.int .i64 y, .int .i64 k, .slice FA s.frm.length fc] 35)).heap.size) (fun _ _ h => h) (Nat.le_refl _)
          have hhX := (hbX.block _ (Array.getElem?_eq_some_iff.1 HA.out.1).1).trans HA.out.1
          have e0 : X.val.cell? ⟨wr.heap.size, 0, none⟩ = some (.int .i64 y) := cell_of hhX rfl
          have e2 : X.val.cell? ⟨wr.heap.size, 2, none⟩ = some (.slice FA s.frm.length fc) := cell_of hhX rfl
          have hbw := HA.out.2.1.trans (hbX.mono HA.out.2.1.size)
          have has := rasrt_any (some ad) c l FA fc s.frm X.val (Kd.C_below HA.out.2.2.1 hbX) (Kd.C_below HA.out.2.2.2 hbX)
          have HAS := Lib.hid has; clear has
          have HX := Lib.hid (And.intro hhX (And.intro hbw (Kd.C_below HA.out.2.2.2 hbX))); clear hhX hbw hbX d0 d1 d2 x0 x1 x2
          generalize X.val = W5 at *
          by_cases g1 : s.frm.length ≤ 3
          ·have g1I : ¬ ((s.frm.length : Int) > 3) := by omega
           cases hq : asrt l s.frm with
           |false =>
            rw [hq] at HAS
            have HVF : vTail l i = false := by
             rw [HVT.out]
             simp [hq]
            have HN := Lib.hid (valid_no hlt (vtail_no HVF)); clear HVF
            clear g1 hq
            go_wp2_with fail
            refine HAS.out.mono ?_
            rintro e W6 ⟨rfl, hb6⟩
            have HB6 := Lib.hid (HX.out.2.1.trans (hb6.mono HX.out.2.1.size)); clear hb6 HAS e0 e2
            go_wp2_with fail
            go_ret
            exact ⟨ret_bool HN.out.symm, HB6.out⟩
           |true =>
            rw [hq] at HAS
            have HASV := Lib.hid hq
            have H3 := Lib.hid g1
            clear g1 hq
            go_wp2_with fail
            refine HAS.out.mono ?_
            rintro e W6 ⟨rfl, hb6⟩
            have H6 := Lib.hid ((hb6.block _ (Array.getElem?_eq_some_iff.1 HX.out.1).1).trans HX.out.1)
            have HF6 := Lib.hid (Kd.C_below HX.out.2.2 hb6)
            have HB6 := Lib.hid (HX.out.2.1.trans (hb6.mono HX.out.2.1.size)); clear hb6 HAS e0 e2 HX HA
            generalize wr.heap.size = g at *
            go_wp2_with fail
            go_loopw [5] (fun jv W => ∃ j : Nat, j ≤ s.frm.length ∧ jv = .int .i64 j ∧ Hid (Below W6.heap.size W6 W ∧ (s.frm.take j).contains y = false)) (fun jv W => s.frm.length - (intOf jv).toNat)
            case atStart => exact ⟨0, Nat.zero_le _, rfl, Lib.hid ⟨Below.refl _ _, rfl⟩⟩
            case round =>
             obtain ⟨j, hj, rfl, HJ⟩ := hrel
             have hhJ := (HJ.out.1.block _ (Array.getElem?_eq_some_iff.1 H6.out).1).trans H6.out
             have e0 : wr.cell? ⟨g, 0, none⟩ = some (.int .i64 y) := cell_of hhJ rfl
             have e2 : wr.cell? ⟨g, 2, none⟩ = some (.slice FA s.frm.length fc) := cell_of hhJ rfl
             clear hhJ
             by_cases hjl : j < s.frm.length
             ·have hjI2 : (j : Int) < (s.frm.length : Int) := by omega
              obtain ⟨fd, e, hv⟩ := Kd.at_int (Kd.C_below HF6.out HJ.out.1) (j : Int) (by omega) hjI2
              cases e
              simp only [Int.toNat_natCast] at hv
              obtain ⟨zz, hzz⟩ : ∃ zz, rd s.frm (j : Int) = zz := ⟨_, rfl⟩
              rw [hzz] at hv
              have E0 := cell_ext e0
              have E2 := cell_ext e2
              have EV := cell_ext hv
              by_cases hzy : zz = y
              ·have HN := Lib.hid (valid_no hlt (vtail_no (show vTail l i = false by rw [HVT.out, y_in hjl (hzz.trans hzy)]; simp)))
               have hbe : (zz == y) = true := by simp [hzy]
               have hbd : decide (zz = y) = true := decide_eq_true hzy
               clear hzy hzz
               go_wp2_with fail
               refine region_ext (by kernel_rfl) (by kernel_rfl) ?_
               repeat (go_big_quiet_step (fail))
               refine wpQuiet_nil ?_
               rintro W' ⟨X, rfl⟩
               have HBX := Lib.hid (HB6.out.trans ((HJ.out.1.trans (X.2.below (fun _ _ h => h) HJ.out.1.size)).mono HB6.out.size))
               clear E0 E2 EV e0 e2 hv
               go_wp2_with fail
               go_ret
               exact ⟨ret_bool HN.out.symm, HBX.out⟩
              ·have HNY := Lib.hid (noty_succ hjl hzz HJ.out.2 hzy)
               have hbe : (zz == y) = false := by simp [hzy]
               have hbd : decide (zz = y) = false := decide_eq_false hzy
               clear hzy hzz
               go_wp2_with fail
               refine region_ext (by kernel_rfl) (by kernel_rfl) ?_
               repeat (go_big_quiet_step (fail))
               refine wpQuiet_nil ?_
               rintro W' ⟨X, rfl⟩
               have HBX := Lib.hid (HJ.out.1.trans (X.2.below (fun _ _ h => h) HJ.out.1.size))
               clear E0 E2 EV e0 e2 hv
               go_wp2_with fail
               go_roundw
               case rel => exact ⟨j + 1, by omega, by go_num, Lib.hid ⟨HBX.out, HNY.out⟩⟩
               case measure => exact meas_up1 hjl
             ·obtain rfl : j = s.frm.length := by omega
              have hnc := HJ.out.2
              rw [List.take_length] at hnc
              have HN := Lib.hid (upto_succ HI.out.1 (show vAt l i = true by unfold vAt; rw [HVH.out, HVT.out, hnc, HASV.out, decide_eq_true H3.out]; rfl)); clear hnc
              go_wp2_with fail
              go_roundw
              case rel => exact ⟨i + 1, by omega, by go_num, Lib.hid ⟨HN.out, HB6.out.trans (HJ.out.1.mono HB6.out.size)⟩⟩
              case measure => exact meas_up1 hlt
          ·have g1I : (s.frm.length : Int) > 3 := by omega
           have HVF : vTail l i = false := by
            rw [HVT.out]
            simp [g1]
           have HN := Lib.hid (valid_no hlt (vtail_no HVF)); clear HVF
           clear g1
           go_wp2_with fail
           go_ret
           exact ⟨ret_bool HN.out.symm, HX.out.2.1⟩
         ·have c6' : (k != 2) = true := by simp [c6]
          have HVF : vHead l i = false := by
           rw [hvh]
           simp [c5, c6]
          have HN := Lib.hid (valid_no hlt (vhead_no HVF))
          clear hvh hprev HVF
          go_wp2_with fail
          refine region_ext (by kernel_rfl) (by kernel_rfl) ?_
          repeat (go_big_quiet_step (fail))
          refine wpQuiet_nil ?_
          rintro W' ⟨X, rfl⟩
          go_wp2_with fail
          go_ret
          exact ⟨ret_bool HN.out.symm, HA.out.2.1.trans (X.2.below (fun _ _ h => h) HA.out.2.1.size)⟩
   ·obtain rfl : i = l.length := by omega
    have HN := Lib.hid (show validS l = true by unfold validS; rw [HI.out.1]; simp [h12])
    go_wp2_with fail
    go_ret
    exact ⟨ret_bool HN.out.symm, HI.out.2⟩
 ·have hgt : (l.length : Int) > 12 := by omega
  have HN := Lib.hid (show validS l = false by unfold validS; simp [h12])
  clear h12
  go_enter Tryd.func21, Tryd.ntmps21
  go_wp2_with fail
  go_ret
  exact ⟨ret_bool HN.out.symm, Below.refl _ _⟩
end Go.Proofs.YticngcjfofcoiaaDoor
