/- The contract of the reference's way. -/
import Derived.Test.YticngcjfofcoiaaDoorTd
namespace Go.Proofs.YticngcjfofcoiaaDoor
open Go.RowKit Go.Rg Go.Proofs.YticngcjfofcoiaaDoorW.PrintWords
set_option linter.unusedVariables false
set_option linter.unusedSimpArgs false
set_option maxRecDepth 100000
def srcAt (l : List Src) (v : List Int) (i : Nat) : Src := (fndS l (rd v i)).getD s0
def fromR (l : List Src) (v : List Int) (i : Nat) : Bool := if i = 0 then decide ((srcAt l v i).frm.length = 0) else (srcAt l v i).frm.contains (rd v (i - 1 : Nat))
def stR (l : List Src) (v : List Int) (i : Nat) : Bool := (fndS l (rd v i)).isSome && (fromR l v i && !(v.take i).contains (rd v i))
def wayR (l : List Src) (xs v : List Int) : Bool := decide (0 < v.length) && ((List.range v.length).all (stR l v) && xs.contains (rd v (v.length - 1 : Nat)))
theorem and_stay {b c d : Bool} (h : false = (b && !c)) : false = (b && !(c || d)) := by revert h; cases b <;> cases c <;> cases d <;> decide
theorem wayR_no {l : List Src} {xs v : List Int} {i : Nat} (hi : i < v.length) (h : stR l v i = false) : wayR l xs v = false := by
 unfold wayR
 rw [all_no hi h]; simp
theorem has_succ {f : List Int} {j : Nat} {y z : Int} (hj : j < f.length) (hz : rd f (j : Int) = z) : (f.take (j + 1)).contains y = ((f.take j).contains y || decide (z = y)) := by
 rw [rd_at hj] at hz
 rw [List.take_succ_eq_append_getElem hj, hz, Bool.eq_iff_iff, List.contains_iff_mem, Bool.or_eq_true, List.contains_iff_mem, decide_eq_true_eq, List.mem_append, List.mem_singleton]
 constructor
 ·rintro (h | h)
  ·exact .inl h
  ·exact .inr h.symm
 ·rintro (h | h)
  ·exact .inl h
  ·exact .inr h.symm
set_option maxHeartbeats 2000000 in
theorem way_any (A : Option Addr) (c : Nat) (l : List Src) (B : Option Addr) (d : Nat) (xs : List Int) (V : Option Addr) (ce : Nat) (v : List Int) (w : World) (hs : SrcAt A c l w) (hx : (Kd.int .i64).C w B xs.length xs) (hv : (Kd.int .i64).C w V v.length v) :
  Calls Tryd.prog 52 #[.slice A l.length c, .slice B xs.length d, .slice V v.length ce] w fun e w' => e = .returned (.bool (wayR l xs v)) ∧ Below w.heap.size w w' := by
 have hml := max_len hs.rl
 have hmx := max_len hx
 have hmv := max_len hv
 have HST := Lib.hid (And.intro hs (And.intro hx hv)); clear hs hx hv
 by_cases hz : v.length = 0
 ·have hzd : ((v.length : Int) == 0) = true := by rw [beqD]; simp [hz]
  have HN := Lib.hid (show wayR l xs v = false by unfold wayR; rw [hz]; rfl); clear hz
  go_enter Tryd.func52, Tryd.ntmps52
  go_wp2_with fail
  go_ret
  exact ⟨ret_bool HN.out.symm, Below.refl _ _⟩
 have hzd : ((v.length : Int) == 0) = false := by rw [beqD]; exact decide_eq_false (by omega)
 have HZ := Lib.hid (show 0 < v.length by omega); clear hz
 go_enter Tryd.func52, Tryd.ntmps52
 go_wp2_with fail
 clear hzd
 go_loopw [7] (fun iv W => ∃ i : Nat, i ≤ v.length ∧ iv = .int .i64 i ∧ Hid ((List.range i).all (stR l v) = true ∧ Below w.heap.size w W)) (fun iv W => v.length - (intOf iv).toNat)
 case atStart => exact ⟨0, Nat.zero_le _, rfl, Lib.hid ⟨rfl, Below.refl _ _⟩⟩
 case round =>
  obtain ⟨i, hi, rfl, HI⟩ := hrel
  by_cases hlt : i < v.length
  ·have hltI : (i : Int) < (v.length : Int) := by omega
   obtain ⟨ad, e, xy⟩ := Kd.at_int (Kd.C_below HST.out.2.2 HI.out.2) (i : Int) (by omega) hltI
   cases e
   simp only [Int.toNat_natCast] at xy
   obtain ⟨y, hy⟩ : ∃ y, rd v (i : Int) = y := ⟨_, rfl⟩
   rw [hy] at xy
   have HF := Lib.hid (rfind_any A c l y wr (HST.out.1.next HI.out.2))
   have HST1 := Lib.hid (show stR l v i = ((fndS l y).isSome && (fromR l v i && !(v.take i).contains y)) by unfold stR; rw [hy])
   have HSR := Lib.hid (show srcAt l v i = (fndS l y).getD s0 by unfold srcAt; rw [hy])
   have HY := Lib.hid hy; clear hy
   go_wp2_with fail
   refine HF.out.mono ?_
   rintro e w1 ⟨fv, rfl, hRf, hb1⟩
   obtain ⟨FA, fc, rfl, hfc, hFC⟩ := Kd.R_reads hRf
   have HSM := Lib.hid HSR.out
   obtain ⟨s, hs⟩ : ∃ s, (fndS l y).getD s0 = s := ⟨_, rfl⟩
   rw [hs] at hfc hFC HSM ⊢
   obtain ⟨ok, hok⟩ : ∃ ok, (fndS l y).isSome = ok := ⟨_, rfl⟩
   rw [hok] at HST1 ⊢
   clear hok hs hRf HF HSR xy
   obtain ⟨n, hn⟩ : ∃ n, s.frm.length = n := ⟨_, rfl⟩
   have hmn : n ≤ 9223372036854775807 := by rw [← hn]; exact max_len hFC
   rw [hn] at hFC hfc ⊢
   have HNN := Lib.hid hn; clear hn
   obtain ⟨i1, hi1⟩ : ∃ q, s.id = q := ⟨_, rfl⟩
   obtain ⟨k1, hk1⟩ : ∃ q, s.kind = q := ⟨_, rfl⟩
   rw [hi1, hk1]
   clear hi1 hk1
   obtain ⟨gb, hgb⟩ : ∃ q, w1.heap.size = q := ⟨_, rfl⟩
   have hA := (Below.refl w1.heap.size w1).alloc (Nat.le_refl _) (.cells #[.int .i64 i1, .int .i64 k1, .slice FA n fc] 35)
   have k0 := heap_new (W := w1) (o := .cells #[.int .i64 i1, .int .i64 k1, .slice FA n fc] 35) hgb
   obtain ⟨wA, hwA⟩ : ∃ W, w1.alloc (.cells #[.int .i64 i1, .int .i64 k1, .slice FA n fc] 35) = W := ⟨_, rfl⟩
   rw [hwA] at hA k0
   have t2 := cell_of (o := 2) k0 rfl
   have HA := Lib.hid (And.intro k0 (And.intro (Kd.C_below hFC hA) (HI.out.2.trans ((hb1.trans (hA.mono hb1.size)).mono HI.out.2.size)))); clear k0 hFC hA hb1
   have hlB := HA.out.2.2
   have HFR := Lib.hid (show fromR l v i = if i = 0 then decide (n = 0) else s.frm.contains (rd v (i - 1 : Nat)) by unfold fromR; rw [HSM.out, HNN.out]); clear hlB
   have HBW := Lib.hid HA.out.2.2
   by_cases h0 : i = 0
   ·have hi0 : decide (0 < i) = false := decide_eq_false (by omega)
    have hb0 : ((i : Int) == 0) = true := by simp [h0]
    have HF0 := Lib.hid (show fromR l v i = decide (n = 0) by rw [HFR.out, if_pos h0])
    clear h0
    by_cases hn0 : n = 0
    ·have hnl : ¬ (0 : Int) < (n : Int) := by omega
     have hnb : ((n : Int) == 0) = true := by simp [hn0]
     have HF1 := Lib.hid (show fromR l v i = true by rw [HF0.out, decide_eq_true hn0])
     clear hn0
     go_wp2_with fail
     go_loopw [10, 11] (fun bv jv W => jv = .int .i64 0 ∧ bv = .bool true ∧ Hid (W = wA)) (fun bv jv W => 0)
     case atStart => exact ⟨rfl, rfl, Lib.hid rfl⟩
     case round =>
      obtain ⟨rfl, rfl, HW⟩ := hrel
      have hww : wr = wA := HW.out
      subst hww
      have HB1 := Lib.hid (show fromR l v i = true from HF1.out)
      go_wp2_with fail
      go_loopw [10, 12] (fun bv kv W => ∃ (k : Nat) (q : Bool), k ≤ i ∧ kv = .int .i64 k ∧ bv = .bool q ∧ Hid (q = (true && !(v.take k).contains y) ∧ Below w.heap.size w W)) (fun bv kv W => i - (intOf kv).toNat)
      case atStart => exact ⟨0, true, Nat.zero_le _, rfl, rfl, Lib.hid ⟨by simp, HBW.out⟩⟩
      case round =>
       clear HBW
       obtain ⟨k, q, hk, rfl, rfl, HK⟩ := hrel
       by_cases hki : k < i
       ·have hkI : decide (k < i) = true := decide_eq_true hki
        have hkv : (k : Int) < (v.length : Int) := by omega
        obtain ⟨a2, e, xk⟩ := Kd.at_int (Kd.C_below HST.out.2.2 HK.out.2) (k : Int) (by omega) hkv
        cases e
        obtain ⟨a3, e, xi⟩ := Kd.at_int (Kd.C_below HST.out.2.2 HK.out.2) (i : Int) (by omega) hltI
        cases e
        simp only [Int.toNat_natCast] at xk xi
        obtain ⟨zk, hzk⟩ : ∃ z, rd v (k : Int) = z := ⟨_, rfl⟩
        rw [hzk] at xk
        rw [HY.out] at xi
        have HSC := Lib.hid (has_succ (y := y) (by omega : k < v.length) hzk)
        have EK := cell_ext xk
        have EI := cell_ext xi
        clear hzk
        cases q with
        |false =>
         have HQ := Lib.hid (show false = (true && !(v.take (k + 1)).contains y) by rw [HSC.out]; exact and_stay HK.out.1)
         go_wp2_with fail
         refine region_ext (by kernel_rfl) (by kernel_rfl) ?_
         repeat (go_big_quiet_step (fail))
         refine wpQuiet_nil ?_
         rintro W' ⟨X, rfl⟩
         have HBX := Lib.hid (HK.out.2.trans (X.2.below (fun _ _ h => h) HK.out.2.size))
         clear EK EI xk xi
         go_wp2_with fail
         go_roundw
         case rel => exact ⟨k + 1, false, by omega, by go_num, rfl, Lib.hid ⟨HQ.out, HBX.out⟩⟩
         case measure => exact meas_up1 hki
        |true =>
         by_cases hzy : zk = y
         ·have hne : (zk != y) = false := by simp [hzy]
          have HQ := Lib.hid (show false = (true && !(v.take (k + 1)).contains y) by rw [HSC.out, decide_eq_true hzy]; simp)
          clear hzy
          go_wp2_with fail
          refine region_ext (by kernel_rfl) (by kernel_rfl) ?_
          repeat (go_big_quiet_step (fail))
          refine wpQuiet_nil ?_
          rintro W' ⟨X, rfl⟩
          have HBX := Lib.hid (HK.out.2.trans (X.2.below (fun _ _ h => h) HK.out.2.size))
          clear EK EI xk xi
          go_wp2_with fail
          go_roundw
          case rel => exact ⟨k + 1, false, by omega, by go_num, rfl, Lib.hid ⟨HQ.out, HBX.out⟩⟩
          case measure => exact meas_up1 hki
         ·have hne : (zk != y) = true := by simp [hzy]
          have HQ := Lib.hid (show true = (true && !(v.take (k + 1)).contains y) by rw [HSC.out, decide_eq_false hzy, Bool.or_false]; exact HK.out.1)
          clear hzy
          go_wp2_with fail
          refine region_ext (by kernel_rfl) (by kernel_rfl) ?_
          repeat (go_big_quiet_step (fail))
          refine wpQuiet_nil ?_
          rintro W' ⟨X, rfl⟩
          have HBX := Lib.hid (HK.out.2.trans (X.2.below (fun _ _ h => h) HK.out.2.size))
          clear EK EI xk xi
          go_wp2_with fail
          go_roundw
          case rel => exact ⟨k + 1, true, by omega, by go_num, rfl, Lib.hid ⟨HQ.out, HBX.out⟩⟩
          case measure => exact meas_up1 hki
       ·obtain rfl : k = i := by omega
        have HFIN := Lib.hid (show stR l v k = (ok && q) by rw [HST1.out, HB1.out, HK.out.1])
        cases ok with
        |false =>
         have HN := Lib.hid (wayR_no (xs := xs) hlt (show stR l v k = false by rw [HFIN.out]; rfl))
         go_wp2_with fail
         go_ret
         exact ⟨ret_bool HN.out.symm, HK.out.2⟩
        |true =>
         cases q with
         |false =>
          have HN := Lib.hid (wayR_no (xs := xs) hlt (show stR l v k = false by rw [HFIN.out]; rfl))
          go_wp2_with fail
          go_ret
          exact ⟨ret_bool HN.out.symm, HK.out.2⟩
         |true =>
          have HN := Lib.hid (upto_succ HI.out.1 (show stR l v k = true by rw [HFIN.out]; rfl))
          go_wp2_with fail
          go_roundw
          case rel => exact ⟨k + 1, by omega, by go_num, Lib.hid ⟨HN.out, HK.out.2⟩⟩
          case measure => exact meas_up1 hlt
    ·have hnl : (0 : Int) < (n : Int) := by omega
     have hnb : ((n : Int) == 0) = false := by simp [hn0]
     have HF1 := Lib.hid (show fromR l v i = false by rw [HF0.out, decide_eq_false hn0])
     clear hn0
     go_wp2_with fail
     go_loopw [10, 11] (fun bv jv W => jv = .int .i64 0 ∧ bv = .bool false ∧ Hid (W = wA)) (fun bv jv W => 0)
     case atStart => exact ⟨rfl, rfl, Lib.hid rfl⟩
     case round =>
      obtain ⟨rfl, rfl, HW⟩ := hrel
      have hww : wr = wA := HW.out
      subst hww
      have HB1 := Lib.hid (show fromR l v i = false from HF1.out)
      go_wp2_with fail
      go_loopw [10, 12] (fun bv kv W => ∃ (k : Nat) (q : Bool), k ≤ i ∧ kv = .int .i64 k ∧ bv = .bool q ∧ Hid (q = (false && !(v.take k).contains y) ∧ Below w.heap.size w W)) (fun bv kv W => i - (intOf kv).toNat)
      case atStart => exact ⟨0, false, Nat.zero_le _, rfl, rfl, Lib.hid ⟨by simp, HBW.out⟩⟩
      case round =>
       clear HBW
       obtain ⟨k, q, hk, rfl, rfl, HK⟩ := hrel
       by_cases hki : k < i
       ·have hkI : decide (k < i) = true := decide_eq_true hki
        have hkv : (k : Int) < (v.length : Int) := by omega
        obtain ⟨a2, e, xk⟩ := Kd.at_int (Kd.C_below HST.out.2.2 HK.out.2) (k : Int) (by omega) hkv
        cases e
        obtain ⟨a3, e, xi⟩ := Kd.at_int (Kd.C_below HST.out.2.2 HK.out.2) (i : Int) (by omega) hltI
        cases e
        simp only [Int.toNat_natCast] at xk xi
        obtain ⟨zk, hzk⟩ : ∃ z, rd v (k : Int) = z := ⟨_, rfl⟩
        rw [hzk] at xk
        rw [HY.out] at xi
        have HSC := Lib.hid (has_succ (y := y) (by omega : k < v.length) hzk)
        have EK := cell_ext xk
        have EI := cell_ext xi
        clear hzk
        cases q with
        |false =>
         have HQ := Lib.hid (show false = (false && !(v.take (k + 1)).contains y) by rw [HSC.out]; exact and_stay HK.out.1)
         go_wp2_with fail
         refine region_ext (by kernel_rfl) (by kernel_rfl) ?_
         repeat (go_big_quiet_step (fail))
         refine wpQuiet_nil ?_
         rintro W' ⟨X, rfl⟩
         have HBX := Lib.hid (HK.out.2.trans (X.2.below (fun _ _ h => h) HK.out.2.size))
         clear EK EI xk xi
         go_wp2_with fail
         go_roundw
         case rel => exact ⟨k + 1, false, by omega, by go_num, rfl, Lib.hid ⟨HQ.out, HBX.out⟩⟩
         case measure => exact meas_up1 hki
        |true =>
         by_cases hzy : zk = y
         ·have hne : (zk != y) = false := by simp [hzy]
          have HQ := Lib.hid (show false = (false && !(v.take (k + 1)).contains y) by rw [HSC.out, decide_eq_true hzy]; simp)
          clear hzy
          go_wp2_with fail
          refine region_ext (by kernel_rfl) (by kernel_rfl) ?_
          repeat (go_big_quiet_step (fail))
          refine wpQuiet_nil ?_
          rintro W' ⟨X, rfl⟩
          have HBX := Lib.hid (HK.out.2.trans (X.2.below (fun _ _ h => h) HK.out.2.size))
          clear EK EI xk xi
          go_wp2_with fail
          go_roundw
          case rel => exact ⟨k + 1, false, by omega, by go_num, rfl, Lib.hid ⟨HQ.out, HBX.out⟩⟩
          case measure => exact meas_up1 hki
         ·have hne : (zk != y) = true := by simp [hzy]
          have HQ := Lib.hid (show true = (false && !(v.take (k + 1)).contains y) by rw [HSC.out, decide_eq_false hzy, Bool.or_false]; exact HK.out.1)
          clear hzy
          go_wp2_with fail
          refine region_ext (by kernel_rfl) (by kernel_rfl) ?_
          repeat (go_big_quiet_step (fail))
          refine wpQuiet_nil ?_
          rintro W' ⟨X, rfl⟩
          have HBX := Lib.hid (HK.out.2.trans (X.2.below (fun _ _ h => h) HK.out.2.size))
          clear EK EI xk xi
          go_wp2_with fail
          go_roundw
          case rel => exact ⟨k + 1, true, by omega, by go_num, rfl, Lib.hid ⟨HQ.out, HBX.out⟩⟩
          case measure => exact meas_up1 hki
       ·obtain rfl : k = i := by omega
        have HFIN := Lib.hid (show stR l v k = (ok && q) by rw [HST1.out, HB1.out, HK.out.1])
        cases ok with
        |false =>
         have HN := Lib.hid (wayR_no (xs := xs) hlt (show stR l v k = false by rw [HFIN.out]; rfl))
         go_wp2_with fail
         go_ret
         exact ⟨ret_bool HN.out.symm, HK.out.2⟩
        |true =>
         cases q with
         |false =>
          have HN := Lib.hid (wayR_no (xs := xs) hlt (show stR l v k = false by rw [HFIN.out]; rfl))
          go_wp2_with fail
          go_ret
          exact ⟨ret_bool HN.out.symm, HK.out.2⟩
         |true =>
          have HN := Lib.hid (upto_succ HI.out.1 (show stR l v k = true by rw [HFIN.out]; rfl))
          go_wp2_with fail
          go_roundw
          case rel => exact ⟨k + 1, by omega, by go_num, Lib.hid ⟨HN.out, HK.out.2⟩⟩
          case measure => exact meas_up1 hlt
   ·obtain ⟨j0, hj0⟩ : ∃ j, i = j + 1 := ⟨i - 1, by omega⟩
    have hi0 : decide (0 < i) = true := decide_eq_true (by omega)
    have hb0 : ((i : Int) == 0) = false := by simp [h0]
    obtain ⟨p, hp⟩ : ∃ p, rd v (j0 : Int) = p := ⟨_, rfl⟩
    have HP := Lib.hid (And.intro hp hj0)
    have HF0 := Lib.hid (show fromR l v i = s.frm.contains p by rw [HFR.out, if_neg h0, show ((i - 1 : Nat) : Int) = (j0 : Int) by omega, hp])
    have hij : (i : Int) - 1 = (j0 : Int) := by omega
    clear h0 hp hj0
    go_wp2_with fail
    go_loopw [10, 11] (fun bv jv W => ∃ (j : Nat) (q : Bool), j ≤ n ∧ jv = .int .i64 j ∧ bv = .bool q ∧ Hid (q = (s.frm.take j).contains p ∧ Below wA.heap.size wA W)) (fun bv jv W => n - (intOf jv).toNat)
    case atStart => exact ⟨0, false, Nat.zero_le _, rfl, rfl, Lib.hid ⟨by simp, Below.refl _ _⟩⟩
    case round =>
     obtain ⟨j, q, hj, rfl, rfl, HJ⟩ := hrel
     have hhJ := (HJ.out.2.block _ (Array.getElem?_eq_some_iff.1 HA.out.1).1).trans HA.out.1
     have t2 := cell_of (o := 2) hhJ rfl
     have HBJ := Lib.hid (HA.out.2.2.trans (HJ.out.2.mono HA.out.2.2.size))
     clear hhJ
     by_cases hjn : j < n
     ·have hjI : (j : Int) < (n : Int) := by omega
      have hpv : (j0 : Int) < (v.length : Int) := by have := HP.out.2; omega
      obtain ⟨a2, e, xp⟩ := Kd.at_int (Kd.C_below HST.out.2.2 HBJ.out) (j0 : Int) (by omega) hpv
      cases e
      obtain ⟨fd, e, xf⟩ := Kd.at_int (Kd.C_below HA.out.2.1 HJ.out.2) (j : Int) (by omega) hjI
      cases e
      simp only [Int.toNat_natCast] at xp xf
      rw [HP.out.1] at xp
      obtain ⟨zf, hzf⟩ : ∃ z, rd s.frm (j : Int) = z := ⟨_, rfl⟩
      rw [hzf] at xf
      have HSC := Lib.hid (has_succ (y := p) (by have := HNN.out; omega : j < s.frm.length) hzf)
      have EP := cell_ext xp
      have EF := cell_ext xf
      have E2 := cell_ext t2
      clear hzf
      cases q with
      |true =>
       have HQ := Lib.hid (show true = (s.frm.take (j + 1)).contains p by rw [HSC.out, ← HJ.out.1]; rfl)
       try clear hzy
       go_wp2_with fail
       refine region_ext (by kernel_rfl) (by kernel_rfl) ?_
       repeat (go_big_quiet_step (fail))
       refine wpQuiet_nil ?_
       rintro W' ⟨X, rfl⟩
       have HBX := Lib.hid (HJ.out.2.trans (X.2.below (fun _ _ h => h) HJ.out.2.size))
       clear EP EF E2 xp xf t2
       go_wp2_with fail
       go_roundw
       case rel => exact ⟨j + 1, true, by omega, by go_num, rfl, Lib.hid ⟨HQ.out, HBX.out⟩⟩
       case measure => exact meas_up1 hjn
      |false =>
       by_cases hzy : zf = p
       ·have hbe : (zf == p) = true := by simp [hzy]
        have HQ := Lib.hid (show true = (s.frm.take (j + 1)).contains p by rw [HSC.out, decide_eq_true hzy]; simp)
        try clear hzy
        go_wp2_with fail
        refine region_ext (by kernel_rfl) (by kernel_rfl) ?_
        repeat (go_big_quiet_step (fail))
        refine wpQuiet_nil ?_
        rintro W' ⟨X, rfl⟩
        have HBX := Lib.hid (HJ.out.2.trans (X.2.below (fun _ _ h => h) HJ.out.2.size))
        clear EP EF E2 xp xf t2
        go_wp2_with fail
        go_roundw
        case rel => exact ⟨j + 1, true, by omega, by go_num, rfl, Lib.hid ⟨HQ.out, HBX.out⟩⟩
        case measure => exact meas_up1 hjn
       ·have hbe : (zf == p) = false := by simp [hzy]
        have HQ := Lib.hid (show false = (s.frm.take (j + 1)).contains p by rw [HSC.out, decide_eq_false hzy, ← HJ.out.1]; rfl)
        try clear hzy
        go_wp2_with fail
        refine region_ext (by kernel_rfl) (by kernel_rfl) ?_
        repeat (go_big_quiet_step (fail))
        refine wpQuiet_nil ?_
        rintro W' ⟨X, rfl⟩
        have HBX := Lib.hid (HJ.out.2.trans (X.2.below (fun _ _ h => h) HJ.out.2.size))
        clear EP EF E2 xp xf t2
        go_wp2_with fail
        go_roundw
        case rel => exact ⟨j + 1, false, by omega, by go_num, rfl, Lib.hid ⟨HQ.out, HBX.out⟩⟩
        case measure => exact meas_up1 hjn
     ·obtain rfl : j = n := by omega
      have HF1 := Lib.hid (show fromR l v i = q by rw [HF0.out, HJ.out.1, List.take_of_length_le (by have := HNN.out; omega)])
      have HBW := Lib.hid HBJ.out
      clear HBJ
      obtain ⟨q1, hq1⟩ : ∃ q1, q = q1 := ⟨_, rfl⟩
      rw [hq1] at HF1 ⊢
      clear hq1
      have HB1 := Lib.hid (show fromR l v i = q1 from HF1.out)
      go_wp2_with fail
      go_loopw [10, 12] (fun bv kv W => ∃ (k : Nat) (q : Bool), k ≤ i ∧ kv = .int .i64 k ∧ bv = .bool q ∧ Hid (q = (q1 && !(v.take k).contains y) ∧ Below w.heap.size w W)) (fun bv kv W => i - (intOf kv).toNat)
      case atStart => exact ⟨0, q1, Nat.zero_le _, rfl, rfl, Lib.hid ⟨by simp, HBW.out⟩⟩
      case round =>
       clear HBW
       obtain ⟨k, q, hk, rfl, rfl, HK⟩ := hrel
       by_cases hki : k < i
       ·have hkI : decide (k < i) = true := decide_eq_true hki
        have hkv : (k : Int) < (v.length : Int) := by omega
        obtain ⟨a2, e, xk⟩ := Kd.at_int (Kd.C_below HST.out.2.2 HK.out.2) (k : Int) (by omega) hkv
        cases e
        obtain ⟨a3, e, xi⟩ := Kd.at_int (Kd.C_below HST.out.2.2 HK.out.2) (i : Int) (by omega) hltI
        cases e
        simp only [Int.toNat_natCast] at xk xi
        obtain ⟨zk, hzk⟩ : ∃ z, rd v (k : Int) = z := ⟨_, rfl⟩
        rw [hzk] at xk
        rw [HY.out] at xi
        have HSC := Lib.hid (has_succ (y := y) (by omega : k < v.length) hzk)
        have EK := cell_ext xk
        have EI := cell_ext xi
        clear hzk
        cases q with
        |false =>
         have HQ := Lib.hid (show false = (q1 && !(v.take (k + 1)).contains y) by rw [HSC.out]; exact and_stay HK.out.1)
         go_wp2_with fail
         refine region_ext (by kernel_rfl) (by kernel_rfl) ?_
         repeat (go_big_quiet_step (fail))
         refine wpQuiet_nil ?_
         rintro W' ⟨X, rfl⟩
         have HBX := Lib.hid (HK.out.2.trans (X.2.below (fun _ _ h => h) HK.out.2.size))
         clear EK EI xk xi
         go_wp2_with fail
         go_roundw
         case rel => exact ⟨k + 1, false, by omega, by go_num, rfl, Lib.hid ⟨HQ.out, HBX.out⟩⟩
         case measure => exact meas_up1 hki
        |true =>
         by_cases hzy : zk = y
         ·have hne : (zk != y) = false := by simp [hzy]
          have HQ := Lib.hid (show false = (q1 && !(v.take (k + 1)).contains y) by rw [HSC.out, decide_eq_true hzy]; simp)
          clear hzy
          go_wp2_with fail
          refine region_ext (by kernel_rfl) (by kernel_rfl) ?_
          repeat (go_big_quiet_step (fail))
          refine wpQuiet_nil ?_
          rintro W' ⟨X, rfl⟩
          have HBX := Lib.hid (HK.out.2.trans (X.2.below (fun _ _ h => h) HK.out.2.size))
          clear EK EI xk xi
          go_wp2_with fail
          go_roundw
          case rel => exact ⟨k + 1, false, by omega, by go_num, rfl, Lib.hid ⟨HQ.out, HBX.out⟩⟩
          case measure => exact meas_up1 hki
         ·have hne : (zk != y) = true := by simp [hzy]
          have HQ := Lib.hid (show true = (q1 && !(v.take (k + 1)).contains y) by rw [HSC.out, decide_eq_false hzy, Bool.or_false]; exact HK.out.1)
          clear hzy
          go_wp2_with fail
          refine region_ext (by kernel_rfl) (by kernel_rfl) ?_
          repeat (go_big_quiet_step (fail))
          refine wpQuiet_nil ?_
          rintro W' ⟨X, rfl⟩
          have HBX := Lib.hid (HK.out.2.trans (X.2.below (fun _ _ h => h) HK.out.2.size))
          clear EK EI xk xi
          go_wp2_with fail
          go_roundw
          case rel => exact ⟨k + 1, true, by omega, by go_num, rfl, Lib.hid ⟨HQ.out, HBX.out⟩⟩
          case measure => exact meas_up1 hki
       ·obtain rfl : k = i := by omega
        have HFIN := Lib.hid (show stR l v k = (ok && q) by rw [HST1.out, HB1.out, HK.out.1])
        cases ok with
        |false =>
         have HN := Lib.hid (wayR_no (xs := xs) hlt (show stR l v k = false by rw [HFIN.out]; rfl))
         go_wp2_with fail
         go_ret
         exact ⟨ret_bool HN.out.symm, HK.out.2⟩
        |true =>
         cases q with
         |false =>
          have HN := Lib.hid (wayR_no (xs := xs) hlt (show stR l v k = false by rw [HFIN.out]; rfl))
          go_wp2_with fail
          go_ret
          exact ⟨ret_bool HN.out.symm, HK.out.2⟩
         |true =>
          have HN := Lib.hid (upto_succ HI.out.1 (show stR l v k = true by rw [HFIN.out]; rfl))
          go_wp2_with fail
          go_roundw
          case rel => exact ⟨k + 1, by omega, by go_num, Lib.hid ⟨HN.out, HK.out.2⟩⟩
          case measure => exact meas_up1 hlt
  ·obtain rfl : i = v.length := by omega
   have hnl : v.length ≠ 0 := by have := HZ.out; omega
   have hlI : ((v.length - 1 : Nat) : Int) < (v.length : Int) := by omega
   have hw1 : (v.length : Int) - 1 = ((v.length - 1 : Nat) : Int) := by omega
   obtain ⟨m, hm⟩ : ∃ m, v.length - 1 = m := ⟨_, rfl⟩
   rw [hm] at hlI hw1
   obtain ⟨y, hy⟩ : ∃ y, rd v (m : Int) = y := ⟨_, rfl⟩
   have HY := Lib.hid hy
   have HALL := Lib.hid HI.out.1
   have HWR := Lib.hid (show wayR l xs v = xs.contains y by unfold wayR; rw [HI.out.1, hm, hy, decide_eq_true HZ.out]; rfl)
   clear hy hm hnl
   go_wp2_with fail
   go_loopw [13] (fun kv W => ∃ k : Nat, k ≤ xs.length ∧ kv = .int .i64 k ∧ Hid ((xs.take k).contains y = false ∧ Below w.heap.size w W)) (fun kv W => xs.length - (intOf kv).toNat)
   case atStart => exact ⟨0, Nat.zero_le _, rfl, Lib.hid ⟨rfl, HI.out.2⟩⟩
   case round =>
    clear HI
    obtain ⟨k, hk, rfl, HK⟩ := hrel
    by_cases hkx : k < xs.length
    ·have hkI : (k : Int) < (xs.length : Int) := by omega
     obtain ⟨a2, e, xk⟩ := Kd.at_int (Kd.C_below HST.out.2.1 HK.out.2) (k : Int) (by omega) hkI
     cases e
     obtain ⟨a3, e, xi⟩ := Kd.at_int (Kd.C_below HST.out.2.2 HK.out.2) (m : Int) (by omega) hlI
     cases e
     simp only [Int.toNat_natCast] at xk xi
     obtain ⟨zk, hzk⟩ : ∃ z, rd xs (k : Int) = z := ⟨_, rfl⟩
     rw [hzk] at xk
     rw [HY.out] at xi
     have EK := cell_ext xk
     have EI := cell_ext xi
     by_cases hzy : zk = y
     ·have hbe : (zk == y) = true := by simp [hzy]
      have HN := Lib.hid (show wayR l xs v = true by rw [HWR.out]; exact y_in hkx (hzk.trans hzy))
      clear hzy hzk
      go_wp2_with fail
      refine region_ext (by kernel_rfl) (by kernel_rfl) ?_
      repeat (go_big_quiet_step (fail))
      refine wpQuiet_nil ?_
      rintro W' ⟨X, rfl⟩
      have HBX := Lib.hid (HK.out.2.trans (X.2.below (fun _ _ h => h) HK.out.2.size))
      clear EK EI xk xi
      go_wp2_with fail
      go_ret
      exact ⟨ret_bool HN.out.symm, HBX.out⟩
     ·have hbe : (zk == y) = false := by simp [hzy]
      have HN := Lib.hid (noty_succ hkx hzk HK.out.1 hzy)
      clear hzy hzk
      go_wp2_with fail
      refine region_ext (by kernel_rfl) (by kernel_rfl) ?_
      repeat (go_big_quiet_step (fail))
      refine wpQuiet_nil ?_
      rintro W' ⟨X, rfl⟩
      have HBX := Lib.hid (HK.out.2.trans (X.2.below (fun _ _ h => h) HK.out.2.size))
      clear EK EI xk xi
      go_wp2_with fail
      go_roundw
      case rel => exact ⟨k + 1, by omega, by go_num, Lib.hid ⟨HN.out, HBX.out⟩⟩
      case measure => exact meas_up1 hkx
    ·obtain rfl : k = xs.length := by omega
     have hq := HK.out.1
     rw [List.take_length] at hq
     have HN := Lib.hid (show wayR l xs v = false by rw [HWR.out, hq]); clear hq
     go_wp2_with fail
     go_ret
     exact ⟨ret_bool HN.out.symm, HK.out.2⟩
end Go.Proofs.YticngcjfofcoiaaDoor
