/- The contract of the reference's Asserting. -/
import Derived.Test.YticngcjfofcoiaaDoorRc
namespace Go.Proofs.YticngcjfofcoiaaDoor
open Go.RowKit Go.Rg Go.Proofs.YticngcjfofcoiaaDoorW.PrintWords
set_option linter.unusedVariables false
set_option linter.unusedSimpArgs false
set_option maxRecDepth 100000
theorem idx_neg (l : List Src) (x : Int) : decide (fIdx (fun s : Src => s.id == x) l < 0) = !(fndS l x).isSome := by
 rcases fIdx_find l x with ⟨h1, h2⟩ | ⟨k, s, h1, h2, h3⟩
 ·rw [h1, h2]; rfl
 ·rw [h2, h3]
  simp
set_option maxHeartbeats 4000000 in
theorem rasrt_any (A : Option Addr) (c : Nat) (l : List Src) (B : Option Addr) (d : Nat) (xs : List Int) (w : World) (hr : Kd.C kS w A l.length l) (hx : (Kd.int .i64).C w B xs.length xs) :
  Calls Tryd.prog 45 #[.slice A l.length c, .slice B xs.length d] w fun e w' => e = .returned (.bool (asrt l xs)) ∧ Below w.heap.size w w' := by
 have hm := max_len hx
 have HR := Lib.hid (And.intro hr hx); clear hr hx
 go_enter Tryd.func45, Tryd.ntmps45
 go_wp2_with fail
 go_loopw [5] (fun iv wr => ∃ i : Nat, i ≤ xs.length ∧ iv = .int .i64 i ∧ Hid ((List.range i).all (okAt l xs) = true ∧ Below w.heap.size w wr)) (fun iv wr => xs.length - (intOf iv).toNat)
 case atStart => exact ⟨0, Nat.zero_le _, rfl, Lib.hid ⟨rfl, Below.refl _ _⟩⟩
 case round =>
  obtain ⟨i, hi, rfl, HI⟩ := hrel
  by_cases hlt : i < xs.length
  ·have hltI : (i : Int) < (xs.length : Int) := by omega
   obtain ⟨ad, e, hy⟩ := Kd.at_int (Kd.C_below HR.out.2 HI.out.2) (i : Int) (by omega) hltI
   cases e
   simp only [Int.toNat_natCast] at hy
   obtain ⟨y, hyv⟩ : ∃ y, rd xs (i : Int) = y := ⟨_, rfl⟩
   rw [hyv] at hy
   have HCX := Lib.hid (fun x : Ext wr => rindex_any A c l y x.val (Kd.C_below (Kd.C_below HR.out.1 HI.out.2) (x.2.below (fun _ _ h => h) (Nat.le_refl _))))
   have hix := idx_neg l y
   obtain ⟨ix, hixe⟩ : ∃ ix, fIdx (fun s : Src => s.id == y) l = ix := ⟨_, rfl⟩
   rw [hixe] at HCX hix
   clear hixe
   have eY := cell_ext hy
   have hokd : okAt l xs i = ((fndS l y).isSome && (decide (i = 0) || decide (rd xs (i - 1 : Nat) < y))) := by unfold okAt; rw [hyv]
   have HOK := Lib.hid hokd; clear hokd hyv
   by_cases h0 : i = 0
   ·subst h0
    have eY : ∀ x : Ext wr, x.val.cell? ad = some (.int .i64 y) := eY
    cases hth : (fndS l y).isSome with
    |false =>
     rw [hth] at hix
     have hix : decide (ix < 0) = true := hix
     have HN := Lib.hid (asrt_no hlt (show okAt l xs 0 = false by rw [HOK.out, hth]; rfl)); clear hth
     go_wp2_with fail
     refine region_ext (by kernel_rfl) (by kernel_rfl) ?_
     repeat (go_big_quiet_step (first | (go_at_call 49; with_reducible exact call_ext (HCX.out _))))
     refine wpQuiet_nil ?_
     rintro W' ⟨X, rfl⟩
     have HB := Lib.hid (HI.out.2.trans (X.2.below (fun _ _ h => h) HI.out.2.size))
     clear eY
     go_wp2_with fail
     go_ret
     exact ⟨ret_bool HN.out.symm, HB.out⟩
    |true =>
     rw [hth] at hix
     have hix : decide (ix < 0) = false := hix
     have HN := Lib.hid (upto_succ HI.out.1 (show okAt l xs 0 = true by rw [HOK.out, hth]; rfl)); clear hth
     go_wp2_with fail
     refine region_ext (by kernel_rfl) (by kernel_rfl) ?_
     repeat (go_big_quiet_step (first | (go_at_call 49; with_reducible exact call_ext (HCX.out _))))
     refine wpQuiet_nil ?_
     rintro W' ⟨X, rfl⟩
     have HB := Lib.hid (HI.out.2.trans (X.2.below (fun _ _ h => h) HI.out.2.size))
     clear eY
     go_wp2_with fail
     go_roundw
     case rel => exact ⟨0 + 1, by omega, by go_num, Lib.hid ⟨HN.out, HB.out⟩⟩
     case measure => exact meas_up1 hlt
   ·obtain ⟨j, hj⟩ : ∃ j, i = j + 1 := ⟨i - 1, by omega⟩
    have hjI : (j : Int) < (xs.length : Int) := by omega
    obtain ⟨ad2, e2, hy2⟩ := Kd.at_int (Kd.C_below HR.out.2 HI.out.2) (j : Int) (by omega) hjI
    cases e2
    simp only [Int.toNat_natCast] at hy2
    obtain ⟨z, hz⟩ : ∃ z, rd xs (j : Int) = z := ⟨_, rfl⟩
    rw [hz] at hy2
    have eZ := cell_ext hy2
    have HOK2 := Lib.hid (show okAt l xs i = ((fndS l y).isSome && decide (z < y)) by
     rw [HOK.out, show ((i - 1 : Nat) : Int) = (j : Int) by omega, hz, decide_eq_false (show ¬ i = 0 by omega)]
     simp)
    have hgt : decide (0 < i) = true := decide_eq_true (by omega)
    have hwj : (i : Int) - 1 = (j : Int) := by omega
    clear hz hj h0
    by_cases hzy : z < y
    ·have hle : decide (y ≤ z) = false := decide_eq_false (by omega)
     have HZY := Lib.hid (decide_eq_true hzy); clear hzy
     cases hth : (fndS l y).isSome with
     |false =>
      rw [hth] at hix
      have hix : decide (ix < 0) = true := hix
      have HN := Lib.hid (asrt_no hlt (show okAt l xs i = false by rw [HOK.out, hth]; rfl)); clear hth
      go_wp2_with fail
      refine region_ext (by kernel_rfl) (by kernel_rfl) ?_
      repeat (go_big_quiet_step (first | (go_at_call 49; with_reducible exact call_ext (HCX.out _))))
      refine wpQuiet_nil ?_
      rintro W' ⟨X, rfl⟩
      have HB := Lib.hid (HI.out.2.trans (X.2.below (fun _ _ h => h) HI.out.2.size))
      clear eY
      go_wp2_with fail
      go_ret
      exact ⟨ret_bool HN.out.symm, HB.out⟩
     |true =>
      rw [hth] at hix
      have hix : decide (ix < 0) = false := hix
      have HN := Lib.hid (upto_succ HI.out.1 (show okAt l xs i = true by rw [HOK2.out, hth, HZY.out]; rfl)); clear hth
      go_wp2_with fail
      refine region_ext (by kernel_rfl) (by kernel_rfl) ?_
      repeat (go_big_quiet_step (first | (go_at_call 49; with_reducible exact call_ext (HCX.out _))))
      refine wpQuiet_nil ?_
      rintro W' ⟨X, rfl⟩
      have HB := Lib.hid (HI.out.2.trans (X.2.below (fun _ _ h => h) HI.out.2.size))
      clear eY
      go_wp2_with fail
      go_roundw
      case rel => exact ⟨i + 1, by omega, by go_num, Lib.hid ⟨HN.out, HB.out⟩⟩
      case measure => exact meas_up1 hlt
    ·have hle : decide (y ≤ z) = true := decide_eq_true (by omega)
     have HN := Lib.hid (asrt_no hlt (show okAt l xs i = false by rw [HOK2.out, decide_eq_false hzy]; simp)); clear hzy
     go_wp2_with fail
     refine region_ext (by kernel_rfl) (by kernel_rfl) ?_
     repeat (go_big_quiet_step (first | (go_at_call 49; with_reducible exact call_ext (HCX.out _))))
     refine wpQuiet_nil ?_
     rintro W' ⟨X, rfl⟩
     have HB := Lib.hid (HI.out.2.trans (X.2.below (fun _ _ h => h) HI.out.2.size))
     clear eY eZ
     go_wp2_with fail
     go_ret
     exact ⟨ret_bool HN.out.symm, HB.out⟩
  ·obtain rfl : i = xs.length := by omega
   go_wp2_with fail
   go_ret
   exact ⟨ret_bool HI.out.1.symm, HI.out.2⟩
end Go.Proofs.YticngcjfofcoiaaDoor
