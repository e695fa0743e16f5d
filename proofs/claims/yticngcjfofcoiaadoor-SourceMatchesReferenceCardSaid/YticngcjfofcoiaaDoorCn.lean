/- Contracts of after, done and can. -/
import Derived.Test.YticngcjfofcoiaaDoorMo
namespace Go.Proofs.YticngcjfofcoiaaDoor
open Go.RowKit Go.Rg Go.Proofs.YticngcjfofcoiaaDoorW.PrintWords
set_option linter.unusedVariables false
set_option linter.unusedSimpArgs false
def orL (u : Nat) (l : List Nat) : Nat := l.foldl (fun u i => u ||| 2 ^ i) u
theorem orL_lt {u : Nat} {l : List Nat} (hu : u < 4096) (hl : ∀ v ∈ l, v < 12) : orL u l < 4096 := by
 unfold orL
 induction l generalizing u with
 |nil => exact hu
 |cons x l ih =>
  refine ih (Nat.or_lt_two_pow (n := 12) hu (Nat.pow_lt_pow_right (by decide) (hl x (by simp)))) (fun v hv => hl v (by simp [hv]))
theorem orL_bit (u : Nat) (l : List Nat) (i : Nat) : (orL u l).testBit i = (u.testBit i || l.contains i) := by
 unfold orL
 induction l generalizing u with
 |nil => simp
 |cons x l ih =>
  rw [List.foldl_cons, ih, Nat.testBit_or, Nat.testBit_two_pow]
  by_cases h : x = i
  ·simp [h]
  ·have h' : ¬ i = x := fun e => h e.symm
   simp [h, h']
theorem orL_snoc (u : Nat) (l : List Nat) (i : Nat) : orL u (l ++ [i]) = orL u l ||| 2 ^ i := by simp [orL]
theorem pow_lt12 {i : Nat} (h : i < 12) : 2 ^ i < 4096 := Nat.pow_lt_pow_right (m := i) (n := 12) (by decide) h
theorem shl16 {v : Nat} (h : v < 16) : IntKind.u16.wrap ((2 : Int) ^ v) = ((2 ^ v : Nat) : Int) := by
 have h1 : 2 ^ v < 2 ^ 16 := Nat.pow_lt_pow_right (by decide) h
 have h2 : ((2 : Int) ^ v) = ((2 ^ v : Nat) : Int) := by simp
 rw [h2]
 generalize 2 ^ v = n at *
 exact wraps_u16 _ (by omega) (by omega)
theorem or16 {a v : Nat} (ha : a < 65536) (h : v < 16) : Go.bits .or .u16 (a : Int) (IntKind.u16.wrap ((2 : Int) ^ v)) = ((a ||| 2 ^ v : Nat) : Int) := by
 have h1 : 2 ^ v < 2 ^ 16 := Nat.pow_lt_pow_right (by decide) h
 rw [shl16 h, or_u16 a (2 ^ v) (by omega) (by omega)]
theorem orL_step {u j v : Nat} {l : List Nat} (hj : j < l.length) (hv : l[j] = v) (hv12 : v < 12) (hu : orL u (l.take j) < 4096) : Value.int .u16 (Go.bits .or .u16 ((orL u (l.take j) : Nat) : Int) (IntKind.u16.wrap ((2 : Int) ^ v))) = .int .u16 ((orL u (l.take (j + 1)) : Nat) : Int) := by
 rw [or16 (by omega) (by omega), List.take_succ_eq_append_getElem hj, hv, orL_snoc]
set_option maxRecDepth 100000 in
theorem after_last (WB : Nat) (nx : Nat → List Nat) (og sd wo : Nat) (W : World) (A : Option Addr) (c m x : Nat) (now : List Nat) (hW : WebX WB nx og sd wo W) (hnx : NxOk nx) (hA : (Kd.int .i64).C W A (m + 1) (now.map Int.ofNat)) (hx : now[m]? = some x) (hx12 : x < 12) :
  Calls Tryd.prog 66 #[.pointer (some ⟨WB, 0, none⟩), .slice A (m + 1) c] W fun e W' => e = .returned (.int .u16 (orL 0 (nx x))) ∧ Below W.heap.size W W' := by
 have hnm : m + 1 ≤ 9223372036854775807 := by have := hA.2.1; exact this
 have hrd : rd (now.map Int.ofNat) (m : Int) = (x : Int) := by simp [rd, hx]
 have hmI : (m : Int) < ((m + 1 : Nat) : Int) := by omega
 obtain ⟨yd, e, hy⟩ := Kd.at_int (xs := now.map Int.ofNat) (n := m + 1) hA (m : Int) (by omega) hmI
 cases e
 rw [hrd] at hy
 simp only [Int.toNat_natCast] at hy
 have hyx := cell_ext hy
 obtain ⟨NA, nc, cN0, hNC⟩ := hW.next x hx12
 have cNx := cell_ext cN0
 have HNC := Lib.hid hNC; clear hNC
 have HNX := Lib.hid hnx; clear hnx
 have hxI : (x : Int) < 12 := by omega
 have hwl : wrap64 (((m + 1 : Nat) : Int) - 1) = (m : Int) := by unfold wrap64; omega
 have hz : ((((m + 1 : Nat) : Int)) == 0) = false := by simp; omega
 clear hx hA hW hrd
 go_enter Tryd.func66, Tryd.ntmps66
 go_wp2_with fail
 refine region_ext (by kernel_rfl) (by kernel_rfl) ?_
 repeat (go_big_quiet_step (fail))
 refine wpQuiet_nil ?_
 rintro W' ⟨X, rfl⟩
 have hB := Lib.hid (X.2.below (n := W.heap.size) (fun _ _ h => h) (Nat.le_refl _))
 have hNC := Lib.hid (Kd.C_below HNC.out hB.out); clear HNC
 have hnm : (nx x).length ≤ 9223372036854775807 := by have := hNC.out.2.1; exact this
 clear cNx hyx cN0 hy hmI
 generalize X.val = w0 at *
 go_wp2_with fail
 go_loopw [5, 27] (fun iv jv wr => ∃ j : Nat, j ≤ (nx x).length ∧ iv = .int .u16 ((orL 0 ((nx x).take j) : Nat) : Int) ∧ jv = .int .i64 j ∧ Hid (Below w0.heap.size w0 wr)) (fun iv jv wr => (nx x).length - (intOf jv).toNat)
 case atStart => exact ⟨0, Nat.zero_le _, rfl, rfl, Lib.hid (Below.refl _ _)⟩
 case round =>
  obtain ⟨j, hj, rfl, rfl, HJ⟩ := hrel
  by_cases hjl : j < (nx x).length
  ·have hjI : (j : Int) < ((nx x).length : Int) := by omega
   obtain ⟨yd, e, hy⟩ := Kd.at_int (xs := (nx x).map Int.ofNat) (n := (nx x).length) (Kd.C_below hNC.out HJ.out) (j : Int) (by omega) hjI
   cases e
   simp only [Int.toNat_natCast] at hy
   rw [rd_nat hjl] at hy
   have hv12 := HNX.out.lt x hx12 _ (List.getElem_mem hjl)
   have ho4 := orL_lt (u := 0) (l := (nx x).take j) (by decide) (fun v hv => HNX.out.lt x hx12 v (List.mem_of_mem_take hv))
   obtain ⟨v, hv⟩ : ∃ v, (nx x)[j] = v := ⟨_, rfl⟩
   rw [hv] at hy hv12
   have HS := Lib.hid (orL_step hjl hv hv12 ho4)
   clear hv ho4
   go_wp2_with fail
   go_roundw
   case rel => exact ⟨j + 1, by omega, HS.out, by go_num, HJ⟩
   case measure => exact meas_up1 hjl
  ·obtain rfl : j = (nx x).length := by omega
   go_wp2_with fail
   go_ret
   exact ⟨ret_int (by rw [List.take_length]), hB.out.trans (HJ.out.mono hB.out.size)⟩
set_option maxRecDepth 100000 in
theorem after_nil (WB : Nat) (nx : Nat → List Nat) (og sd wo : Nat) (W : World) (A : Option Addr) (c : Nat) (hW : WebX WB nx og sd wo W) :
  Calls Tryd.prog 66 #[.pointer (some ⟨WB, 0, none⟩), .slice A 0 c] W fun e W' => e = .returned (.int .u16 og) ∧ Below W.heap.size W W' := by
 have cO := hW.org
 go_enter Tryd.func66, Tryd.ntmps66
 go_wp2_with fail
 go_ret
 exact ⟨rfl, Below.refl _ _⟩
set_option maxRecDepth 100000 in
theorem done_last (WB : Nat) (nx : Nat → List Nat) (og sd wo u rest : Nat) (W : World) (A : Option Addr) (c m x : Nat) (now : List Nat) (hW : WebX WB nx og sd wo W) (hnx : NxOk nx) (hA : (Kd.int .i64).C W A (m + 1) (now.map Int.ofNat)) (hx : now[m]? = some x) (hnow : ∀ v ∈ now, v < 12) (hog : og < 4096) (hsd : sd < 4096) (hwo : wo < 4096) (hu : u < 4096) (hrest : rest < 100) (hlen : now.length = m + 1) :
  Calls Tryd.prog 65 #[.pointer (some ⟨WB, 0, none⟩), .slice A (m + 1) c, .int .u16 u, .int .i64 rest] W fun e W' => e = .returned (.bool (sd.testBit x && decide (rest ≤ Flow.mc (netOf nx sd og (orL u now ||| wo))))) ∧ Below W.heap.size W W' := by
 have hx12 : x < 12 := hnow x (List.mem_of_getElem? hx)
 have hnm : m + 1 ≤ 9223372036854775807 := by have := hA.2.1; exact this
 have hrd : rd (now.map Int.ofNat) (m : Int) = (x : Int) := by simp [rd, hx]
 have hmI : (m : Int) < ((m + 1 : Nat) : Int) := by omega
 obtain ⟨yd, e, hy⟩ := Kd.at_int (xs := now.map Int.ofNat) (n := m + 1) hA (m : Int) (by omega) hmI
 cases e
 rw [hrd] at hy
 simp only [Int.toNat_natCast] at hy
 have hyx := cell_ext hy
 have cS := cell_ext hW.said
 have HNX := Lib.hid hnx; clear hnx
 have HNOW := Lib.hid hnow; clear hnow
 have HL := Lib.hid hlen; clear hlen
 have HA := Lib.hid hA; clear hA
 have HW := Lib.hid hW; clear hW
 have hwl : wrap64 (((m + 1 : Nat) : Int) - 1) = (m : Int) := by unfold wrap64; omega
 clear hx hrd
 go_enter Tryd.func65, Tryd.ntmps65
 go_wp2_with fail
 refine region_ext (by kernel_rfl) (by kernel_rfl) ?_
 repeat (go_big_quiet_step (first | (go_at_call 42; exact call_ext_same ((has_any sd x (by omega) (by omega) _).mono fun e w h => ⟨h.1, h.2.symm⟩))))
 refine wpQuiet_nil ?_
 rintro W' ⟨X, rfl⟩
 have hB := Lib.hid (X.2.below (n := W.heap.size) (fun _ _ h => h) (Nat.le_refl _))
 have hW := Lib.hid (HW.out.below hB.out); clear HW
 have hA := Lib.hid (Kd.C_below HA.out hB.out); clear HA
 clear hyx cS hy
 generalize X.val = w0 at *
 cases hs : sd.testBit x with
 |false =>
  go_wp2_with fail
  go_ret
  exact ⟨ret_bool (by rw [hs]; rfl), hB.out⟩
 |true =>
  have HS := Lib.hid hs; clear hs
  go_wp2_with fail
  go_loopw [2, 25] (fun iv jv wr => ∃ j : Nat, j ≤ m + 1 ∧ iv = .int .u16 ((orL u (now.take j) : Nat) : Int) ∧ jv = .int .i64 j ∧ Hid (Below w0.heap.size w0 wr)) (fun iv jv wr => m + 1 - (intOf jv).toNat)
  case atStart => exact ⟨0, Nat.zero_le _, rfl, rfl, Lib.hid (Below.refl _ _)⟩
  case round =>
   obtain ⟨j, hj, rfl, rfl, HJ⟩ := hrel
   by_cases hjl : j < m + 1
   ·have hjI : (j : Int) < (m : Int) + 1 := by omega
    have hjn : j < now.length := by rw [HL.out]; exact hjl
    obtain ⟨yd2, e, hy⟩ := Kd.at_int (xs := now.map Int.ofNat) (n := m + 1) (Kd.C_below hA.out HJ.out) (j : Int) (by omega) (by omega)
    cases e
    simp only [Int.toNat_natCast] at hy
    rw [rd_nat hjn] at hy
    have hv12 := HNOW.out _ (List.getElem_mem hjn)
    have ho4 := orL_lt (u := u) (l := now.take j) hu (fun v hv => HNOW.out v (List.mem_of_mem_take hv))
    obtain ⟨v, hv⟩ : ∃ v, now[j] = v := ⟨_, rfl⟩
    rw [hv] at hy hv12
    have HST := Lib.hid (orL_step hjn hv hv12 ho4)
    clear hv ho4 hjn
    go_wp2_with fail
    go_roundw
    case rel => exact ⟨j + 1, by omega, HST.out, by go_num, HJ⟩
    case measure => exact meas_up1 hjl
   ·obtain rfl : j = m + 1 := by omega
    have htl : now.take (m + 1) = now := by rw [← HL.out, List.take_length]
    rw [htl]
    clear htl hjl hj
    have ho4 := orL_lt (u := u) (l := now) hu (fun v hv => HNOW.out v hv)
    have hWr := hW.out.below HJ.out
    have cO := hWr.org
    have HC := Lib.hid (most_any WB nx og sd wo og (orL u now) wr hWr HNX.out hog ho4 hwo hsd)
    clear hWr
    obtain ⟨U, hU⟩ : ∃ U, orL u now = U := ⟨_, rfl⟩
    rw [hU] at HC ho4 ⊢
    have HU := Lib.hid hU; clear hU
    go_wp2_with fail
    refine HC.out.mono ?_
    rintro e w1 ⟨rfl, hb1⟩
    have HB1 := Lib.hid hb1; clear hb1 cO
    obtain ⟨M, hM⟩ : ∃ M, Flow.mc (netOf nx sd og (U ||| wo)) = M := ⟨_, rfl⟩
    rw [hM]
    have HM := Lib.hid hM; clear hM HC
    go_wp2_with fail
    go_ret
    exact ⟨ret_bool (by rw [HS.out, HU.out, HM.out]; exact (Bool.true_and _).symm), hB.out.trans ((HJ.out.trans (HB1.out.mono HJ.out.size)).mono hB.out.size)⟩
set_option maxRecDepth 100000 in
theorem can_last (WB : Nat) (nx : Nat → List Nat) (og sd wo u all : Nat) (W : World) (A : Option Addr) (c m x : Nat) (now : List Nat) (hW : WebX WB nx og sd wo W) (hnx : NxOk nx) (hA : (Kd.int .i64).C W A (m + 1) (now.map Int.ofNat)) (hx : now[m]? = some x) (hnow : ∀ v ∈ now, v < 12) (hog : og < 4096) (hsd : sd < 4096) (hwo : wo < 4096) (hu : u < 4096) (hall : all < 100) (hlen : now.length = m + 1) (hc : m + 1 ≤ c) :
  Calls Tryd.prog 69 #[.pointer (some ⟨WB, 0, none⟩), .slice A (m + 1) c, .int .u16 u, .int .i64 all] W fun e W' => e = .returned (.bool (decide (Flow.mc (netOf nx sd (2 ^ x) (orL u (now.take m) ||| wo)) = 1) && decide (all ≤ Flow.mc (netOf nx sd (og ||| 2 ^ x) (orL u (now.take m) ||| wo))))) ∧ Below W.heap.size W W' := by
 have hx12 : x < 12 := hnow x (List.mem_of_getElem? hx)
 have hnm : m + 1 ≤ 9223372036854775807 := by have := hA.2.1; exact this
 have hrd : rd (now.map Int.ofNat) (m : Int) = (x : Int) := by simp [rd, hx]
 have hmI : (m : Int) < ((m + 1 : Nat) : Int) := by omega
 obtain ⟨yd, e, hy⟩ := Kd.at_int (xs := now.map Int.ofNat) (n := m + 1) hA (m : Int) (by omega) hmI
 cases e
 rw [hrd] at hy
 simp only [Int.toNat_natCast] at hy
 have HNX := Lib.hid hnx; clear hnx
 have HNOW := Lib.hid hnow; clear hnow
 have HL := Lib.hid hlen; clear hlen
 have HA := Lib.hid hA; clear hA
 have HW := Lib.hid hW; clear hW
 have hwl : wrap64 (((m + 1 : Nat) : Int) - 1) = (m : Int) := by unfold wrap64; omega
 have hcI : (m : Int) ≤ (c : Int) := by omega
 clear hx hrd
 go_enter Tryd.func69, Tryd.ntmps69
 go_wp2_with fail
 go_loopw [2, 24] (fun iv jv wr => ∃ j : Nat, j ≤ m ∧ iv = .int .u16 ((orL u (now.take j) : Nat) : Int) ∧ jv = .int .i64 j ∧ Hid (Below W.heap.size W wr)) (fun iv jv wr => m - (intOf jv).toNat)
 case atStart => exact ⟨0, Nat.zero_le _, rfl, rfl, Lib.hid (Below.refl _ _)⟩
 case round =>
  obtain ⟨j, hj, rfl, rfl, HJ⟩ := hrel
  by_cases hjl : j < m
  ·have hjI : (j : Int) < (m : Int) := by omega
   have hjn : j < now.length := by rw [HL.out]; omega
   obtain ⟨yd2, e, hy⟩ := Kd.at_int (xs := now.map Int.ofNat) (n := m + 1) (Kd.C_below HA.out HJ.out) (j : Int) (by omega) (by omega)
   cases e
   simp only [Int.toNat_natCast] at hy
   rw [rd_nat hjn] at hy
   have hv12 := HNOW.out _ (List.getElem_mem hjn)
   have ho4 := orL_lt (u := u) (l := now.take j) hu (fun v hv => HNOW.out v (List.mem_of_mem_take hv))
   obtain ⟨v, hv⟩ : ∃ v, now[j] = v := ⟨_, rfl⟩
   rw [hv] at hy hv12
   have HST := Lib.hid (orL_step hjn hv hv12 ho4)
   clear hv ho4 hjn
   go_wp2_with fail
   go_roundw
   case rel => exact ⟨j + 1, by omega, HST.out, by go_num, HJ⟩
   case measure => exact meas_up1 hjl
  ·obtain rfl : j = m := by omega
   clear hjl hj hmI
   have ho4 := orL_lt (u := u) (l := now.take j) hu (fun v hv => HNOW.out v (List.mem_of_mem_take hv))
   have hWr := HW.out.below HJ.out
   have cO := cell_ext hWr.org
   obtain ⟨U, hU⟩ : ∃ U, orL u (now.take j) = U := ⟨_, rfl⟩
   rw [hU] at ho4 ⊢
   have HU := Lib.hid hU; clear hU
   have hp12 := pow_lt12 hx12
   have HWX : Hid (∀ X : Ext wr, WebX WB nx og sd wo X.val) := Lib.hid fun X => hWr.below (X.2.below (n := wr.heap.size) (fun _ _ h => h) (Nat.le_refl _))
   have hsh := shl16 (v := x) (by omega)
   have hor := or16 (a := og) (v := x) (by omega) (by omega)
   rw [hsh] at hor
   have HC1 : Hid (∀ X : Ext wr, _) := Lib.hid fun X => most_any WB nx og sd wo (2 ^ x) U X.val (HWX.out X) HNX.out hp12 ho4 hwo hsd
   have HC2 : Hid (∀ X : Ext wr, _) := Lib.hid fun X => most_any WB nx og sd wo (og ||| 2 ^ x) U X.val (HWX.out X) HNX.out (Nat.or_lt_two_pow (n := 12) hog hp12) ho4 hwo hsd
   obtain ⟨M1, hM1⟩ : ∃ M, Flow.mc (netOf nx sd (2 ^ x) (U ||| wo)) = M := ⟨_, rfl⟩
   obtain ⟨M2, hM2⟩ : ∃ M, Flow.mc (netOf nx sd (og ||| 2 ^ x) (U ||| wo)) = M := ⟨_, rfl⟩
   rw [hM1] at HC1
   rw [hM2] at HC2
   have HM := Lib.hid (And.intro hM1 hM2); clear hM1 hM2 hWr
   obtain ⟨p2, hp2⟩ : ∃ p, 2 ^ x = p := ⟨_, rfl⟩
   obtain ⟨o2, ho2⟩ : ∃ p, og ||| 2 ^ x = p := ⟨_, rfl⟩
   rw [ho2] at HC2 hor
   rw [hp2] at HC1 hsh hor
   by_cases h1 : M1 = 1
   ·have h1I : ((M1 : Int) == 1) = true := by simp [h1]
    have H1 := Lib.hid h1; clear h1 hp2 ho2
    go_wp2_with fail
    refine region_ext (by kernel_rfl) (by kernel_rfl) ?_
    repeat (go_big_quiet_step (first | (go_at_call 64; with_reducible exact call_ext (HC1.out _)) | (go_at_call 64; with_reducible exact call_ext (HC2.out _))))
    refine wpQuiet_nil ?_
    rintro W' ⟨X, rfl⟩
    have hbX := X.2.below (n := wr.heap.size) (fun _ _ h => h) (Nat.le_refl _)
    have HB := Lib.hid (HJ.out.trans (hbX.mono HJ.out.size)); clear hbX
    go_wp2_with fail
    go_ret
    exact ⟨ret_bool (by rw [HU.out, HM.out.1, HM.out.2]; simp [H1.out]), HB.out⟩
   ·have h1I : ((M1 : Int) == 1) = false := by simp; omega
    have H1 := Lib.hid h1; clear h1 hp2 ho2
    go_wp2_with fail
    refine region_ext (by kernel_rfl) (by kernel_rfl) ?_
    repeat (go_big_quiet_step (first | (go_at_call 64; with_reducible exact call_ext (HC1.out _)) | (go_at_call 64; with_reducible exact call_ext (HC2.out _))))
    refine wpQuiet_nil ?_
    rintro W' ⟨X, rfl⟩
    have hbX := X.2.below (n := wr.heap.size) (fun _ _ h => h) (Nat.le_refl _)
    have HB := Lib.hid (HJ.out.trans (hbX.mono HJ.out.size)); clear hbX
    go_wp2_with fail
    go_ret
    exact ⟨ret_bool (by rw [HU.out, HM.out.1, HM.out.2]; simp [H1.out]), HB.out⟩
end Go.Proofs.YticngcjfofcoiaaDoor
