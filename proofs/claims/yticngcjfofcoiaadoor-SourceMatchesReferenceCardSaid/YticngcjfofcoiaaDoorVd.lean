/- The contract of Valid. -/
import Derived.Test.YticngcjfofcoiaaDoorZf
namespace Go.Proofs.YticngcjfofcoiaaDoor
open Go.RowKit Go.Rg Go.Proofs.YticngcjfofcoiaaDoorW.PrintWords
set_option linter.unusedVariables false
set_option linter.unusedSimpArgs false
set_option maxRecDepth 100000
def idAt (l : List Src) (i : Nat) : Int := (l.getD i s0).id
def vHead (l : List Src) (i : Nat) : Bool := decide (0 ≤ idAt l i) && (decide (idAt l i < 12) && ((decide (i = 0) || decide (idAt l (i - 1) < idAt l i)) && (decide ((l.getD i s0).kind = 1) || decide ((l.getD i s0).kind = 2))))
def vTail (l : List Src) (i : Nat) : Bool := decide ((l.getD i s0).frm.length ≤ 3) && (asrt l (l.getD i s0).frm && !(l.getD i s0).frm.contains (idAt l i))
def vAt (l : List Src) (i : Nat) : Bool := vHead l i && vTail l i
def validS (l : List Src) : Bool := decide (l.length ≤ 12) && (List.range l.length).all (vAt l)
theorem valid_no {l : List Src} {i : Nat} (hi : i < l.length) (h : vAt l i = false) : validS l = false := by
 unfold validS
 have : (List.range l.length).all (vAt l) = false := by
  rw [List.all_eq_false]
  exact ⟨i, List.mem_range.2 hi, by rw [h]; decide⟩
 rw [this]; simp
theorem vhead_no {l : List Src} {i : Nat} (h : vHead l i = false) : vAt l i = false := by unfold vAt; rw [h]; rfl
theorem vtail_no {l : List Src} {i : Nat} (h : vTail l i = false) : vAt l i = false := by unfold vAt; rw [h]; simp
set_option maxHeartbeats 4000000 in
theorem valid_any (A : Option Addr) (c : Nat) (l : List Src) (w : World) (hr : Kd.C kS w A l.length l) (hl : ∀ s ∈ l, s.frm.length ≤ 1000) :
  Calls Tryd.prog 20 #[.slice A l.length c] w fun e w' => e = .returned (.bool (validS l)) ∧ Below w.heap.size w w' := by
 have hm := max_len hr
 have HR := Lib.hid (And.intro hr hl); clear hr hl
 by_cases h12 : l.length ≤ 12
 ·have hgt : ¬ ((l.length : Int) > 12) := by omega
  go_enter Tryd.func20, Tryd.ntmps20
  go_wp2_with fail
  clear hgt
  go_loopw [10] (fun iv wr => ∃ i : Nat, i ≤ l.length ∧ iv = .int .i64 i ∧ Hid ((List.range i).all (vAt l) = true ∧ Below w.heap.size w wr)) (fun iv wr => l.length - (intOf iv).toNat)
  case atStart => exact ⟨0, Nat.zero_le _, rfl, Lib.hid ⟨rfl, Below.refl _ _⟩⟩
  case round =>
   obtain ⟨i, hi, rfl, HI⟩ := hrel
   by_cases hlt : i < l.length
   ·have hltI : (i : Int) < (l.length : Int) := by omega
    obtain ⟨s, hs⟩ : ∃ s, l[i]? = some s := ⟨l[i], List.getElem?_eq_getElem hlt⟩
    have hC := Kd.C_below HR.out.1 HI.out.2
    obtain ⟨ad, FA, fc, e, x0, x1, x2, hfc, hCf⟩ := at_S hC hs
    cases e
    have hgs : l.getD i s0 = s := by simp [List.getD, hs]
    have hid : idAt l i = s.id := by unfold idAt; rw [hgs]
    have hsl := HR.out.2 s (List.mem_of_getElem? hs)
    have hbA := (Below.refl wr.heap.size wr).alloc (Nat.le_refl _) (.cells #[.int .i64 s.id, .int .i64 s.kind, .slice FA s.frm.length fc] 35)
    have hhA : (wr.alloc (.cells #[.int .i64 s.id, .int .i64 s.kind, .slice FA s.frm.length fc] 35)).heap[wr.heap.size]? = some (.cells #[.int .i64 s.id, .int .i64 s.kind, .slice FA s.frm.length fc] 35) := heap_new rfl
    have d0 := cell_ext (cell_of (o := 0) hhA rfl)
    have d1 := cell_ext (cell_of (o := 1) hhA rfl)
    have d2 := cell_ext (cell_of (o := 2) hhA rfl)
    have HA := Lib.hid (And.intro hhA (And.intro (HI.out.2.trans (hbA.mono HI.out.2.size)) (And.intro (Kd.C_below hC hbA) (Kd.C_below hCf hbA))))
    have HHC := Lib.hid (And.intro hs hsl)
    have hprev : ∀ j, i = j + 1 → ∃ z, idAt l j = z ∧ ∀ X : Ext (wr.alloc (.cells #[.int .i64 s.id, .int .i64 s.kind, .slice FA s.frm.length fc] 35)), X.val.cell? (ad.add (j * 3)) = some (.int .i64 z) := by
     intro j hj
     obtain ⟨p, hp⟩ : ∃ p, l[j]? = some p := ⟨l[j]'(by omega), List.getElem?_eq_getElem (by omega)⟩
     obtain ⟨ad', _, _, e, y0, _, _, _, _⟩ := at_S (Kd.C_below hC hbA) hp
     cases e
     exact ⟨p.id, by unfold idAt; simp [List.getD, hp], cell_ext y0⟩
    clear hhA hbA hC hCf hfc hsl hs
    obtain ⟨k, hk⟩ : ∃ k, s.kind = k := ⟨_, rfl⟩
    obtain ⟨y, hy⟩ : ∃ y, s.id = y := ⟨_, rfl⟩
    have hvh : vHead l i = (decide (0 ≤ y) && (decide (y < 12) && ((decide (i = 0) || decide (idAt l (i - 1) < y)) && (decide (k = 1) || decide (k = 2))))) := by unfold vHead; rw [hid, hgs, hk, hy]
    have hvt : vTail l i = (decide (s.frm.length ≤ 3) && (asrt l s.frm && !s.frm.contains y)) := by unfold vTail; rw [hid, hgs, hy]
    rw [hy] at HA hprev d0 d1 d2 x0
    rw [hk] at HA hprev d0 d1 d2 x1
    have HVT := Lib.hid hvt; clear hvt hid hgs hk
    clear hy
    have HHS := Lib.hid HHC.out; clear HHC
    by_cases c1 : y < 0
    ·have c1d : decide (y < 0) = true := decide_eq_true c1
     have HVF : vHead l i = false := by
      rw [hvh]
      have h : ¬ 0 ≤ y := by omega
      simp [h]
     have HN := Lib.hid (valid_no hlt (vhead_no HVF))
     clear hvh hprev HVF
     go_wp2_with fail
     refine region_ext (by kernel_rfl) (by kernel_rfl) ?_
     repeat (go_big_quiet_step (fail))
     refine wpQuiet_nil ?_
     rintro W' ⟨X, rfl⟩
     go_wp2_with fail
     go_ret
     exact ⟨ret_bool HN.out.symm, HA.out.2.1.trans (X.2.below (fun _ _ h => h) HA.out.2.1.size)⟩
    ·have c1' : 0 ≤ y := by omega
     have c1d : decide (y < 0) = false := decide_eq_false c1
     by_cases c2 : y ≥ 12
     ·have c2d : decide (12 ≤ y) = true := decide_eq_true c2
      have HVF : vHead l i = false := by
       rw [hvh]
       have h : ¬ y < 12 := by omega
       simp [h]
      have HN := Lib.hid (valid_no hlt (vhead_no HVF))
      clear hvh hprev HVF
      go_wp2_with fail
      refine region_ext (by kernel_rfl) (by kernel_rfl) ?_
      repeat (go_big_quiet_step (fail))
      refine wpQuiet_nil ?_
      rintro W' ⟨X, rfl⟩
      go_wp2_with fail
      go_ret
      exact ⟨ret_bool HN.out.symm, HA.out.2.1.trans (X.2.below (fun _ _ h => h) HA.out.2.1.size)⟩
     ·have c2' : y < 12 := by omega
      have c2d : decide (12 ≤ y) = false := decide_eq_false c2
      by_cases h0 : i = 0
      ·have hgt : decide (0 < i) = false := decide_eq_false (by omega)
       have hgt2 : decide ((0 : Int) < (i : Int)) = false := decide_eq_false (by omega)
       have hz0 : decide (i = 0) = true := decide_eq_true h0
       clear h0
       by_cases c5 : k = 1
       ·have c5' : (k != 1) = false := by simp [c5]
        have HVH : vHead l i = true := by
         rw [hvh]
         simp [c1', c2', hz0, c5]
        have HVH := Lib.hid HVH
        clear hvh hprev c5
        have hl3I : ∀ n : Nat, n = s.frm.length → ((n : Int) > 3) = (3 < n) := fun n _ => by simp only [gt_iff_lt, eq_iff_iff]; omega
        clear hl3I
        go_wp2_with fail
        refine region_ext (by kernel_rfl) (by kernel_rfl) ?_
        repeat (go_big_quiet_step (fail))
        refine wpQuiet_nil ?_
        rintro W' ⟨X, rfl⟩
        have hbX := X.2.below (n := (wr.alloc (.cells #[.int .i64 y, .int .i64 k, .slice FA s.frm.length fc] 35)).heap.size) (fun _ _ h => h) (Nat.le_refl _)
        have hhX := (hbX.block _ (Array.getElem?_eq_some_iff.1 HA.out.1).1).trans HA.out.1
        have e0 : X.val.cell? ⟨wr.heap.size, 0, none⟩ = some (.int .i64 y) := cell_of hhX rfl
        have e2 : X.val.cell? ⟨wr.heap.size, 2, none⟩ = some (.slice FA s.frm.length fc) := cell_of hhX rfl
        have hbw := HA.out.2.1.trans (hbX.mono HA.out.2.1.size)
        have has := asrt_any (some ad) c l FA fc s.frm X.val (Kd.C_below HA.out.2.2.1 hbX) HR.out.2 (Kd.C_below HA.out.2.2.2 hbX)
        have HAS := Lib.hid has; clear has
        have HX := Lib.hid (And.intro hhX (And.intro hbw (Kd.C_below HA.out.2.2.2 hbX))); clear hhX hbw hbX d0 d1 d2 x0 x1 x2
        generalize X.val = W5 at *
        by_cases g1 : s.frm.length ≤ 3
        ·have g1I : ¬ ((s.frm.length : Int) > 3) := by omega
         cases hq : asrt l s.frm with
         |false =>
          rw [hq] at HAS
          have HVF : vTail l i = false := by
           rw [HVT.out]
           simp [hq]
          have HN := Lib.hid (valid_no hlt (vtail_no HVF)); clear HVF
          clear g1 hq
          go_wp2_with fail
          refine HAS.out.mono ?_
          rintro e W6 ⟨rfl, hb6⟩
          have HB6 := Lib.hid (HX.out.2.1.trans (hb6.mono HX.out.2.1.size)); clear hb6 HAS e0 e2
          go_wp2_with fail
          go_ret
          exact ⟨ret_bool HN.out.symm, HB6.out⟩
         |true =>
          rw [hq] at HAS
          cases hq2 : s.frm.contains y with
          |true =>
           have HVF : vTail l i = false := by
            rw [HVT.out]
            simp only [hq, hq2]; simp
           have HN := Lib.hid (valid_no hlt (vtail_no HVF)); clear HVF
           clear g1 hq
           go_wp2_with fail
           refine HAS.out.mono ?_
           rintro e W6 ⟨rfl, hb6⟩
           have hh6 := (hb6.block _ (Array.getElem?_eq_some_iff.1 HX.out.1).1).trans HX.out.1
           have e0 : W6.cell? ⟨wr.heap.size, 0, none⟩ = some (.int .i64 y) := cell_of hh6 rfl
           have e2 : W6.cell? ⟨wr.heap.size, 2, none⟩ = some (.slice FA s.frm.length fc) := cell_of hh6 rfl
           have hco := containsI_any FA fc s.frm y W6 (Kd.C_below HX.out.2.2 hb6)
           rw [hq2] at hco
           have HCO := Lib.hid hco
           have HB6 := Lib.hid (HX.out.2.1.trans (hb6.mono HX.out.2.1.size)); clear hb6 HAS hh6 hco hq2
           go_wp2_with fail
           refine HCO.out.mono ?_
           rintro e W7 ⟨rfl, rfl⟩
           go_wp2_with fail
           go_ret
           exact ⟨ret_bool HN.out.symm, HB6.out⟩
          |false =>
           have HVF : vTail l i = true := by
            rw [HVT.out]
            simp only [hq, hq2]
            simp [g1]
           have HN := Lib.hid (upto_succ HI.out.1 (show vAt l i = true by unfold vAt; rw [HVH.out, HVF]; rfl)); clear HVF
           clear g1 hq
           go_wp2_with fail
           refine HAS.out.mono ?_
           rintro e W6 ⟨rfl, hb6⟩
           have hh6 := (hb6.block _ (Array.getElem?_eq_some_iff.1 HX.out.1).1).trans HX.out.1
           have e0 : W6.cell? ⟨wr.heap.size, 0, none⟩ = some (.int .i64 y) := cell_of hh6 rfl
           have e2 : W6.cell? ⟨wr.heap.size, 2, none⟩ = some (.slice FA s.frm.length fc) := cell_of hh6 rfl
           have hco := containsI_any FA fc s.frm y W6 (Kd.C_below HX.out.2.2 hb6)
           rw [hq2] at hco
           have HCO := Lib.hid hco
           have HB6 := Lib.hid (HX.out.2.1.trans (hb6.mono HX.out.2.1.size)); clear hb6 HAS hh6 hco hq2
           go_wp2_with fail
           refine HCO.out.mono ?_
           rintro e W7 ⟨rfl, rfl⟩
           go_wp2_with fail
           go_roundw
           case rel => exact ⟨i + 1, by omega, by go_num, Lib.hid ⟨HN.out, HB6.out⟩⟩
           case measure => exact meas_up1 hlt
        ·have g1I : (s.frm.length : Int) > 3 := by omega
         have HVF : vTail l i = false := by
          rw [HVT.out]
          simp [g1]
         have HN := Lib.hid (valid_no hlt (vtail_no HVF)); clear HVF
         clear g1
         go_wp2_with fail
         go_ret
         exact ⟨ret_bool HN.out.symm, HX.out.2.1⟩
       ·have c5' : (k != 1) = true := by simp [c5]
        by_cases c6 : k = 2
        ·have c6' : (k != 2) = false := by simp [c6]
         have HVH : vHead l i = true := by
          rw [hvh]
          simp [c1', c2', hz0, c6]
         have HVH := Lib.hid HVH
         clear hvh hprev c6
         have hl3I : ∀ n : Nat, n = s.frm.length → ((n : Int) > 3) = (3 < n) := fun n _ => by simp only [gt_iff_lt, eq_iff_iff]; omega
         clear hl3I
         go_wp2_with fail
         refine region_ext (by kernel_rfl) (by kernel_rfl) ?_
         repeat (go_big_quiet_step (fail))
         refine wpQuiet_nil ?_
         rintro W' ⟨X, rfl⟩
         have hbX := X.2.below (n := (wr.alloc (.cells #[.int .i64 y, .int .i64 k, .slice FA s.frm.length fc] 35)).heap.size) (fun _ _ h => h) (Nat.le_refl _)
         have hhX := (hbX.block _ (Array.getElem?_eq_some_iff.1 HA.out.1).1).trans HA.out.1
         have e0 : X.val.cell? ⟨wr.heap.size, 0, none⟩ = some (.int .i64 y) := cell_of hhX rfl
         have e2 : X.val.cell? ⟨wr.heap.size, 2, none⟩ = some (.slice FA s.frm.length fc) := cell_of hhX rfl
         have hbw := HA.out.2.1.trans (hbX.mono HA.out.2.1.size)
         have has := asrt_any (some ad) c l FA fc s.frm X.val (Kd.C_below HA.out.2.2.1 hbX) HR.out.2 (Kd.C_below HA.out.2.2.2 hbX)
         have HAS := Lib.hid has; clear has
         have HX := Lib.hid (And.intro hhX (And.intro hbw (Kd.C_below HA.out.2.2.2 hbX))); clear hhX hbw hbX d0 d1 d2 x0 x1 x2
         generalize X.val = W5 at *
         by_cases g1 : s.frm.length ≤ 3
         ·have g1I : ¬ ((s.frm.length : Int) > 3) := by omega
          cases hq : asrt l s.frm with
          |false =>
           rw [hq] at HAS
           have HVF : vTail l i = false := by
            rw [HVT.out]
            simp [hq]
           have HN := Lib.hid (valid_no hlt (vtail_no HVF)); clear HVF
           clear g1 hq
           go_wp2_with fail
           refine HAS.out.mono ?_
           rintro e W6 ⟨rfl, hb6⟩
           have HB6 := Lib.hid (HX.out.2.1.trans (hb6.mono HX.out.2.1.size)); clear hb6 HAS e0 e2
           go_wp2_with fail
           go_ret
           exact ⟨ret_bool HN.out.symm, HB6.out⟩
          |true =>
           rw [hq] at HAS
           cases hq2 : s.frm.contains y with
           |true =>
            have HVF : vTail l i = false := by
             rw [HVT.out]
             simp only [hq, hq2]; simp
            have HN := Lib.hid (valid_no hlt (vtail_no HVF)); clear HVF
            clear g1 hq
            go_wp2_with fail
            refine HAS.out.mono ?_
            rintro e W6 ⟨rfl, hb6⟩
            have hh6 := (hb6.block _ (Array.getElem?_eq_some_iff.1 HX.out.1).1).trans HX.out.1
            have e0 : W6.cell? ⟨wr.heap.size, 0, none⟩ = some (.int .i64 y) := cell_of hh6 rfl
            have e2 : W6.cell? ⟨wr.heap.size, 2, none⟩ = some (.slice FA s.frm.length fc) := cell_of hh6 rfl
            have hco := containsI_any FA fc s.frm y W6 (Kd.C_below HX.out.2.2 hb6)
            rw [hq2] at hco
            have HCO := Lib.hid hco
            have HB6 := Lib.hid (HX.out.2.1.trans (hb6.mono HX.out.2.1.size)); clear hb6 HAS hh6 hco hq2
            go_wp2_with fail
            refine HCO.out.mono ?_
            rintro e W7 ⟨rfl, rfl⟩
            go_wp2_with fail
            go_ret
            exact ⟨ret_bool HN.out.symm, HB6.out⟩
           |false =>
            have HVF : vTail l i = true := by
             rw [HVT.out]
             simp only [hq, hq2]
             simp [g1]
            have HN := Lib.hid (upto_succ HI.out.1 (show vAt l i = true by unfold vAt; rw [HVH.out, HVF]; rfl)); clear HVF
            clear g1 hq
            go_wp2_with fail
            refine HAS.out.mono ?_
            rintro e W6 ⟨rfl, hb6⟩
            have hh6 := (hb6.block _ (Array.getElem?_eq_some_iff.1 HX.out.1).1).trans HX.out.1
            have e0 : W6.cell? ⟨wr.heap.size, 0, none⟩ = some (.int .i64 y) := cell_of hh6 rfl
            have e2 : W6.cell? ⟨wr.heap.size, 2, none⟩ = some (.slice FA s.frm.length fc) := cell_of hh6 rfl
            have hco := containsI_any FA fc s.frm y W6 (Kd.C_below HX.out.2.2 hb6)
            rw [hq2] at hco
            have HCO := Lib.hid hco
            have HB6 := Lib.hid (HX.out.2.1.trans (hb6.mono HX.out.2.1.size)); clear hb6 HAS hh6 hco hq2
            go_wp2_with fail
            refine HCO.out.mono ?_
            rintro e W7 ⟨rfl, rfl⟩
            go_wp2_with fail
            go_roundw
            case rel => exact ⟨i + 1, by omega, by go_num, Lib.hid ⟨HN.out, HB6.out⟩⟩
            case measure => exact meas_up1 hlt
         ·have g1I : (s.frm.length : Int) > 3 := by omega
          have HVF : vTail l i = false := by
           rw [HVT.out]
           simp [g1]
          have HN := Lib.hid (valid_no hlt (vtail_no HVF)); clear HVF
          clear g1
          go_wp2_with fail
          go_ret
          exact ⟨ret_bool HN.out.symm, HX.out.2.1⟩
        ·have c6' : (k != 2) = true := by simp [c6]
         have HVF : vHead l i = false := by
          rw [hvh]
          simp [c5, c6]
         have HN := Lib.hid (valid_no hlt (vhead_no HVF))
         clear hvh hprev HVF
         go_wp2_with fail
         refine region_ext (by kernel_rfl) (by kernel_rfl) ?_
         repeat (go_big_quiet_step (fail))
         refine wpQuiet_nil ?_
         rintro W' ⟨X, rfl⟩
         go_wp2_with fail
         go_ret
         exact ⟨ret_bool HN.out.symm, HA.out.2.1.trans (X.2.below (fun _ _ h => h) HA.out.2.1.size)⟩
      ·obtain ⟨j, hj⟩ : ∃ j, i = j + 1 := ⟨i - 1, by omega⟩
       obtain ⟨z, hz, hzc⟩ := hprev j hj
       rw [show i - 1 = j by omega, hz] at hvh
       have hgt : decide (0 < i) = true := decide_eq_true (by omega)
       have hgt2 : decide ((0 : Int) < (i : Int)) = true := decide_eq_true (by omega)
       have hwj : wrap64 ((i : Int) - 1) = (i : Int) - 1 := by unfold wrap64; omega
       have htn : ((i : Int) - 1).toNat = i - 1 := by omega
       have hjI : ((i : Int) - 1) < (l.length : Int) := by omega
       have hj0 : (0 : Int) ≤ ((i : Int) - 1) := by omega
       have hjn : ¬ ((i : Int) - 1) < (0 : Int) := by omega
       rw [show j = i - 1 by omega] at hzc
       have hz0 : decide (i = 0) = false := decide_eq_false h0
       clear h0 hz hj
       by_cases c4 : z ≥ y
       ·have c4d : decide (y ≤ z) = true := decide_eq_true c4
        have HVF : vHead l i = false := by
         rw [hvh]
         have h : ¬ z < y := by omega
         simp [h, hz0]
        have HN := Lib.hid (valid_no hlt (vhead_no HVF))
        clear hvh hprev HVF
        go_wp2_with fail
        refine region_ext (by kernel_rfl) (by kernel_rfl) ?_
        repeat (go_big_quiet_step (fail))
        refine wpQuiet_nil ?_
        rintro W' ⟨X, rfl⟩
        go_wp2_with fail
        go_ret
        exact ⟨ret_bool HN.out.symm, HA.out.2.1.trans (X.2.below (fun _ _ h => h) HA.out.2.1.size)⟩
       ·have c4' : z < y := by omega
        have c4d : decide (y ≤ z) = false := decide_eq_false c4
        by_cases c5 : k = 1
        ·have c5' : (k != 1) = false := by simp [c5]
         have HVH : vHead l i = true := by
          rw [hvh]
          simp [c1', c2', c4', c5]
         have HVH := Lib.hid HVH
         clear hvh hprev c5
         have hl3I : ∀ n : Nat, n = s.frm.length → ((n : Int) > 3) = (3 < n) := fun n _ => by simp only [gt_iff_lt, eq_iff_iff]; omega
         clear hl3I
         go_wp2_with fail
         refine region_ext (by kernel_rfl) (by kernel_rfl) ?_
         repeat (go_big_quiet_step (fail))
         refine wpQuiet_nil ?_
         rintro W' ⟨X, rfl⟩
         have hbX := X.2.below (n := (wr.alloc (.cells #[.int .i64 y, .int .i64 k, .slice FA s.frm.length fc] 35)).heap.size) (fun _ _ h => h) (Nat.le_refl _)
         have hhX := (hbX.block _ (Array.getElem?_eq_some_iff.1 HA.out.1).1).trans HA.out.1
         have e0 : X.val.cell? ⟨wr.heap.size, 0, none⟩ = some (.int .i64 y) := cell_of hhX rfl
         have e2 : X.val.cell? ⟨wr.heap.size, 2, none⟩ = some (.slice FA s.frm.length fc) := cell_of hhX rfl
         have hbw := HA.out.2.1.trans (hbX.mono HA.out.2.1.size)
         have has := asrt_any (some ad) c l FA fc s.frm X.val (Kd.C_below HA.out.2.2.1 hbX) HR.out.2 (Kd.C_below HA.out.2.2.2 hbX)
         have HAS := Lib.hid has; clear has
         have HX := Lib.hid (And.intro hhX (And.intro hbw (Kd.C_below HA.out.2.2.2 hbX))); clear hhX hbw hbX d0 d1 d2 x0 x1 x2
         generalize X.val = W5 at *
         by_cases g1 : s.frm.length ≤ 3
         ·have g1I : ¬ ((s.frm.length : Int) > 3) := by omega
          cases hq : asrt l s.frm with
          |false =>
           rw [hq] at HAS
           have HVF : vTail l i = false := by
            rw [HVT.out]
            simp [hq]
           have HN := Lib.hid (valid_no hlt (vtail_no HVF)); clear HVF
           clear g1 hq
           go_wp2_with fail
           refine HAS.out.mono ?_
           rintro e W6 ⟨rfl, hb6⟩
           have HB6 := Lib.hid (HX.out.2.1.trans (hb6.mono HX.out.2.1.size)); clear hb6 HAS e0 e2
           go_wp2_with fail
           go_ret
           exact ⟨ret_bool HN.out.symm, HB6.out⟩
          |true =>
           rw [hq] at HAS
           cases hq2 : s.frm.contains y with
           |true =>
            have HVF : vTail l i = false := by
             rw [HVT.out]
             simp only [hq, hq2]; simp
            have HN := Lib.hid (valid_no hlt (vtail_no HVF)); clear HVF
            clear g1 hq
            go_wp2_with fail
            refine HAS.out.mono ?_
            rintro e W6 ⟨rfl, hb6⟩
            have hh6 := (hb6.block _ (Array.getElem?_eq_some_iff.1 HX.out.1).1).trans HX.out.1
            have e0 : W6.cell? ⟨wr.heap.size, 0, none⟩ = some (.int .i64 y) := cell_of hh6 rfl
            have e2 : W6.cell? ⟨wr.heap.size, 2, none⟩ = some (.slice FA s.frm.length fc) := cell_of hh6 rfl
            have hco := containsI_any FA fc s.frm y W6 (Kd.C_below HX.out.2.2 hb6)
            rw [hq2] at hco
            have HCO := Lib.hid hco
            have HB6 := Lib.hid (HX.out.2.1.trans (hb6.mono HX.out.2.1.size)); clear hb6 HAS hh6 hco hq2
            go_wp2_with fail
            refine HCO.out.mono ?_
            rintro e W7 ⟨rfl, rfl⟩
            go_wp2_with fail
            go_ret
            exact ⟨ret_bool HN.out.symm, HB6.out⟩
           |false =>
            have HVF : vTail l i = true := by
             rw [HVT.out]
             simp only [hq, hq2]
             simp [g1]
            have HN := Lib.hid (upto_succ HI.out.1 (show vAt l i = true by unfold vAt; rw [HVH.out, HVF]; rfl)); clear HVF
            clear g1 hq
            go_wp2_with fail
            refine HAS.out.mono ?_
            rintro e W6 ⟨rfl, hb6⟩
            have hh6 := (hb6.block _ (Array.getElem?_eq_some_iff.1 HX.out.1).1).trans HX.out.1
            have e0 : W6.cell? ⟨wr.heap.size, 0, none⟩ = some (.int .i64 y) := cell_of hh6 rfl
            have e2 : W6.cell? ⟨wr.heap.size, 2, none⟩ = some (.slice FA s.frm.length fc) := cell_of hh6 rfl
            have hco := containsI_any FA fc s.frm y W6 (Kd.C_below HX.out.2.2 hb6)
            rw [hq2] at hco
            have HCO := Lib.hid hco
            have HB6 := Lib.hid (HX.out.2.1.trans (hb6.mono HX.out.2.1.size)); clear hb6 HAS hh6 hco hq2
            go_wp2_with fail
            refine HCO.out.mono ?_
            rintro e W7 ⟨rfl, rfl⟩
            go_wp2_with fail
            go_roundw
            case rel => exact ⟨i + 1, by omega, by go_num, Lib.hid ⟨HN.out, HB6.out⟩⟩
            case measure => exact meas_up1 hlt
         ·have g1I : (s.frm.length : Int) > 3 := by omega
          have HVF : vTail l i = false := by
           rw [HVT.out]
           simp [g1]
          have HN := Lib.hid (valid_no hlt (vtail_no HVF)); clear HVF
          clear g1
          go_wp2_with fail
          go_ret
          exact ⟨ret_bool HN.out.symm, HX.out.2.1⟩
        ·have c5' : (k != 1) = true := by simp [c5]
         by_cases c6 : k = 2
         ·have c6' : (k != 2) = false := by simp [c6]
          have HVH : vHead l i = true := by
           rw [hvh]
           simp [c1', c2', c4', c6]
          have HVH := Lib.hid HVH
          clear hvh hprev c6
          have hl3I : ∀ n : Nat, n = s.frm.length → ((n : Int) > 3) = (3 < n) := fun n _ => by simp only [gt_iff_lt, eq_iff_iff]; omega
          clear hl3I
          go_wp2_with fail
          refine region_ext (by kernel_rfl) (by kernel_rfl) ?_
          repeat (go_big_quiet_step (fail))
          refine wpQuiet_nil ?_
          rintro W' ⟨X, rfl⟩
          have hbX := X.2.below (n := (wr.alloc (.cells #[.int .i64 y, .int .i64 k, .slice FA s.frm.length fc] 35)).heap.size) (fun _ _ h => h) (Nat.le_refl _)
          have hhX := (hbX.block _ (Array.getElem?_eq_some_iff.1 HA.out.1).1).trans HA.out.1
          have e0 : X.val.cell? ⟨wr.heap.size, 0, none⟩ = some (.int .i64 y) := cell_of hhX rfl
          have e2 : X.val.cell? ⟨wr.heap.size, 2, none⟩ = some (.slice FA s.frm.length fc) := cell_of hhX rfl
          have hbw := HA.out.2.1.trans (hbX.mono HA.out.2.1.size)
          have has := asrt_any (some ad) c l FA fc s.frm X.val (Kd.C_below HA.out.2.2.1 hbX) HR.out.2 (Kd.C_below HA.out.2.2.2 hbX)
          have HAS := Lib.hid has; clear has
          have HX := Lib.hid (And.intro hhX (And.intro hbw (Kd.C_below HA.out.2.2.2 hbX))); clear hhX hbw hbX d0 d1 d2 x0 x1 x2
          generalize X.val = W5 at *
          by_cases g1 : s.frm.length ≤ 3
          ·have g1I : ¬ ((s.frm.length : Int) > 3) := by omega
           cases hq : asrt l s.frm with
           |false =>
            rw [hq] at HAS
            have HVF : vTail l i = false := by
             rw [HVT.out]
             simp [hq]
            have HN := Lib.hid (valid_no hlt (vtail_no HVF)); clear HVF
            clear g1 hq
            go_wp2_with fail
            refine HAS.out.mono ?_
            rintro e W6 ⟨rfl, hb6⟩
            have HB6 := Lib.hid (HX.out.2.1.trans (hb6.mono HX.out.2.1.size)); clear hb6 HAS e0 e2
            go_wp2_with fail
            go_ret
            exact ⟨ret_bool HN.out.symm, HB6.out⟩
           |true =>
            rw [hq] at HAS
            cases hq2 : s.frm.contains y with
            |true =>
             have HVF : vTail l i = false := by
              rw [HVT.out]
              simp only [hq, hq2]; simp
             have HN := Lib.hid (valid_no hlt (vtail_no HVF)); clear HVF
             clear g1 hq
             go_wp2_with fail
             refine HAS.out.mono ?_
             rintro e W6 ⟨rfl, hb6⟩
             have hh6 := (hb6.block _ (Array.getElem?_eq_some_iff.1 HX.out.1).1).trans HX.out.1
             have e0 : W6.cell? ⟨wr.heap.size, 0, none⟩ = some (.int .i64 y) := cell_of hh6 rfl
             have e2 : W6.cell? ⟨wr.heap.size, 2, none⟩ = some (.slice FA s.frm.length fc) := cell_of hh6 rfl
             have hco := containsI_any FA fc s.frm y W6 (Kd.C_below HX.out.2.2 hb6)
             rw [hq2] at hco
             have HCO := Lib.hid hco
             have HB6 := Lib.hid (HX.out.2.1.trans (hb6.mono HX.out.2.1.size)); clear hb6 HAS hh6 hco hq2
             go_wp2_with fail
             refine HCO.out.mono ?_
             rintro e W7 ⟨rfl, rfl⟩
             go_wp2_with fail
             go_ret
             exact ⟨ret_bool HN.out.symm, HB6.out⟩
            |false =>
             have HVF : vTail l i = true := by
              rw [HVT.out]
              simp only [hq, hq2]
              simp [g1]
             have HN := Lib.hid (upto_succ HI.out.1 (show vAt l i = true by unfold vAt; rw [HVH.out, HVF]; rfl)); clear HVF
             clear g1 hq
             go_wp2_with fail
             refine HAS.out.mono ?_
             rintro e W6 ⟨rfl, hb6⟩
             have hh6 := (hb6.block _ (Array.getElem?_eq_some_iff.1 HX.out.1).1).trans HX.out.1
             have e0 : W6.cell? ⟨wr.heap.size, 0, none⟩ = some (.int .i64 y) := cell_of hh6 rfl
             have e2 : W6.cell? ⟨wr.heap.size, 2, none⟩ = some (.slice FA s.frm.length fc) := cell_of hh6 rfl
             have hco := containsI_any FA fc s.frm y W6 (Kd.C_below HX.out.2.2 hb6)
             rw [hq2] at hco
             have HCO := Lib.hid hco
             have HB6 := Lib.hid (HX.out.2.1.trans (hb6.mono HX.out.2.1.size)); clear hb6 HAS hh6 hco hq2
             go_wp2_with fail
             refine HCO.out.mono ?_
             rintro e W7 ⟨rfl, rfl⟩
             go_wp2_with fail
             go_roundw
             case rel => exact ⟨i + 1, by omega, by go_num, Lib.hid ⟨HN.out, HB6.out⟩⟩
             case measure => exact meas_up1 hlt
          ·have g1I : (s.frm.length : Int) > 3 := by omega
           have HVF : vTail l i = false := by
            rw [HVT.out]
            simp [g1]
           have HN := Lib.hid (valid_no hlt (vtail_no HVF)); clear HVF
           clear g1
           go_wp2_with fail
           go_ret
           exact ⟨ret_bool HN.out.symm, HX.out.2.1⟩
         ·have c6' : (k != 2) = true := by simp [c6]
          have HVF : vHead l i = false := by
           rw [hvh]
           simp [c5, c6]
          have HN := Lib.hid (valid_no hlt (vhead_no HVF))
          clear hvh hprev HVF
          go_wp2_with fail
          refine region_ext (by kernel_rfl) (by kernel_rfl) ?_
          repeat (go_big_quiet_step (fail))
          refine wpQuiet_nil ?_
          rintro W' ⟨X, rfl⟩
          go_wp2_with fail
          go_ret
          exact ⟨ret_bool HN.out.symm, HA.out.2.1.trans (X.2.below (fun _ _ h => h) HA.out.2.1.size)⟩
   ·obtain rfl : i = l.length := by omega
    have HN := Lib.hid (show validS l = true by unfold validS; rw [HI.out.1]; simp [h12])
    go_wp2_with fail
    go_ret
    exact ⟨ret_bool HN.out.symm, HI.out.2⟩
 ·have hgt : (l.length : Int) > 12 := by omega
  have HN := Lib.hid (show validS l = false by unfold validS; simp [h12])
  clear h12
  go_enter Tryd.func20, Tryd.ntmps20
  go_wp2_with fail
  go_ret
  exact ⟨ret_bool HN.out.symm, Below.refl _ _⟩
end Go.Proofs.YticngcjfofcoiaaDoor
