/- The contracts of the reference's has, bit, size, union, index. -/
import Derived.Test.YticngcjfofcoiaaDoorZc
namespace Go.Proofs.YticngcjfofcoiaaDoor
open Go.RowKit Go.Rg Go.Proofs.YticngcjfofcoiaaDoorW.PrintWords
set_option linter.unusedVariables false
set_option linter.unusedSimpArgs false
set_option maxRecDepth 100000
theorem tb_int (s k : Nat) : (((s : Int) / 2 ^ k).tmod 2 == 1) = s.testBit k := by
 have e : ((s : Int) / 2 ^ k).tmod 2 = ((s / 2 ^ k % 2 : Nat) : Int) := by
  have h : (2 : Int) ^ k = ((2 ^ k : Nat) : Int) := by simp
  rw [h, ← Int.natCast_ediv]
  exact (Int.ofNat_tmod _ _).symm
 rw [e, Nat.testBit_eq_decide_div_mod_eq, Bool.eq_iff_iff, beq_iff_eq, decide_eq_true_eq]
 omega
theorem rhas_any (s k : Nat) (hs : s < 4096) (hk : k < 64) (w : World) : Calls Tryd.prog 34 #[.int .i64 s, .int .i64 k] w fun e w' => e = .returned (.bool (s.testBit k)) ∧ w' = w := by
 have hk64 : (k : Int) < 64 := by omega
 go_enter Tryd.func34, Tryd.ntmps34
 go_wp2_with fail
 go_ret
 exact ⟨ret_bool (tb_int s k), rfl⟩
theorem rbit_any (k : Nat) (hk : k < 13) (w : World) : Calls Tryd.prog 51 #[.int .i64 k] w fun e w' => e = .returned (.int .i64 (2 ^ k : Nat)) ∧ w' = w := by
 have hk64 : (k : Int) < 64 := by omega
 go_enter Tryd.func51, Tryd.ntmps51
 go_wp2_with fail
 go_ret
 have hp : 2 ^ k ≤ 2 ^ 12 := Nat.pow_le_pow_right (by omega) (by omega)
 have e : wrap64 ((2 : Int) ^ k) = ((2 ^ k : Nat) : Int) := by
  have h : (2 : Int) ^ k = ((2 ^ k : Nat) : Int) := by simp
  rw [h]
  obtain ⟨p, hp2⟩ : ∃ p, 2 ^ k = p := ⟨_, rfl⟩
  rw [hp2] at hp ⊢
  have h12 : (2 : Nat) ^ 12 = 4096 := rfl
  unfold wrap64
  omega
 exact ⟨ret_int e, rfl⟩
theorem or_add_all : ((List.range 4096).all fun s => (List.range 12).all fun i => s.testBit i || (s ||| 2 ^ i == s + 2 ^ i)) = true := by decide +kernel
theorem or_add {s i : Nat} (hs : s < 4096) (hi : i < 12) (h : s.testBit i = false) : s + 2 ^ i = s ||| 2 ^ i := by
 have h1 := List.all_eq_true.1 (List.all_eq_true.1 or_add_all s (List.mem_range.2 hs)) i (List.mem_range.2 hi)
 rw [h, Bool.false_or, beq_iff_eq] at h1
 exact h1.symm
theorem or_lt {s i : Nat} (hs : s < 4096) (hi : i < 12) : s ||| 2 ^ i < 4096 := Nat.or_lt_two_pow (n := 12) hs (pow_lt12 hi)
def sizeTo (s k : Nat) : Nat := ((List.range k).filter fun i => s.testBit i).length
theorem sizeTo_succ (s k : Nat) : sizeTo s (k + 1) = sizeTo s k + if s.testBit k = true then 1 else 0 := by
 unfold sizeTo
 rw [List.range_succ, List.filter_append, List.length_append, List.filter_cons]
 split <;> simp_all
theorem sizeTo_le (s k : Nat) : sizeTo s k ≤ k := by
 unfold sizeTo
 exact Nat.le_trans (List.length_filter_le ..) (by simp)
theorem size_elems (s : Nat) : sizeTo s 12 = (elems s).length := rfl
set_option maxHeartbeats 1000000 in
theorem size_any (s : Nat) (hs : s < 4096) (w : World) : Calls Tryd.prog 72 #[.int .i64 s] w fun e w' => e = .returned (.int .i64 (elems s).length) ∧ w' = w := by
 have HS := Lib.hid hs; clear hs
 go_enter Tryd.func72, Tryd.ntmps72
 go_wp2_with fail
 go_loopw [3, 4] (fun nv iv wr => ∃ k : Nat, k ≤ 12 ∧ iv = .int .i64 k ∧ nv = .int .i64 (sizeTo s k) ∧ Hid (wr = w)) (fun nv iv wr => 12 - (intOf iv).toNat)
 case atStart => exact ⟨0, by omega, rfl, rfl, Lib.hid rfl⟩
 case round =>
  obtain ⟨k, hk, rfl, rfl, HW⟩ := hrel
  by_cases hlt : k < 12
  ·have hltI : (k : Int) < 12 := by omega
   have hsu := sizeTo_succ s k
   have hle := sizeTo_le s k
   go_wp2_with fail
   refine (rhas_any s k HS.out (by omega) wr).mono ?_
   rintro e w' ⟨rfl, rfl⟩
   cases hb : s.testBit k with
   |true =>
    rw [hb, if_pos rfl] at hsu
    obtain ⟨c, hc⟩ : ∃ c, sizeTo s k = c := ⟨_, rfl⟩
    rw [hc] at hsu hle ⊢
    have hwi : wrap64 ((c : Int) + 1) = ((c + 1 : Nat) : Int) := by unfold wrap64; omega
    have HSU := Lib.hid hsu; clear hsu hle hb hc
    go_wp2_with fail
    go_roundw
    case rel => exact ⟨k + 1, by omega, by go_num, by rw [HSU.out, hwi], HW⟩
    case measure => exact meas_up1 hlt
   |false =>
    rw [hb] at hsu
    have HSU := Lib.hid hsu; clear hsu hle hb
    go_wp2_with fail
    go_roundw
    case rel => exact ⟨k + 1, by omega, by go_num, by rw [HSU.out]; rfl, HW⟩
    case measure => exact meas_up1 hlt
  ·obtain rfl : k = 12 := by omega
   go_wp2_with fail
   go_ret
   exact ⟨rfl, HW.out⟩
def uniTo (a b k : Nat) : Nat := a ||| (b &&& (2 ^ k - 1))
theorem uniTo_bit (a b k i : Nat) : (uniTo a b k).testBit i = (a.testBit i || (decide (i < k) && b.testBit i)) := by
 unfold uniTo
 rw [Nat.testBit_or, Nat.testBit_and, Nat.testBit_two_pow_sub_one]
 cases a.testBit i <;> cases b.testBit i <;> simp
theorem uniTo_lt {a b : Nat} (ha : a < 4096) (hb : b < 4096) (k : Nat) : uniTo a b k < 4096 := Nat.or_lt_two_pow (n := 12) ha (Nat.lt_of_le_of_lt Nat.and_le_left hb)
theorem uniTo_succ (a b k : Nat) : uniTo a b (k + 1) = if b.testBit k = true ∧ (uniTo a b k).testBit k = false then uniTo a b k ||| 2 ^ k else uniTo a b k := by
 refine Nat.eq_of_testBit_eq fun i => ?_
 have h := uniTo_bit a b k k
 rw [uniTo_bit, apply_ite (fun n : Nat => n.testBit i), Nat.testBit_or, Nat.testBit_two_pow, uniTo_bit]
 by_cases hik : i = k
 ·subst hik
  simp at h
  simp [h]
  cases a.testBit i <;> cases b.testBit i <;> simp
 ·have h1 : decide (i < k + 1) = decide (i < k) := decide_eq_decide.2 (by omega)
  have h2 : decide (k = i) = false := decide_eq_false (fun e => hik e.symm)
  rw [h1, h2]
  simp [uniTo_bit]
theorem uniTo_all {a b : Nat} (hb : b < 4096) : uniTo a b 12 = a ||| b := by
 refine Nat.eq_of_testBit_eq fun i => ?_
 rw [uniTo_bit, Nat.testBit_or]
 by_cases h : i < 12
 ·simp [h]
 ·have : b.testBit i = false := Nat.testBit_lt_two_pow (Nat.lt_of_lt_of_le hb (by have := Nat.pow_le_pow_right (show 0 < 2 by omega) (show 12 ≤ i by omega); omega))
  rw [this]
  simp
set_option maxHeartbeats 1000000 in
theorem union_any (a b : Nat) (ha : a < 4096) (hb : b < 4096) (w : World) : Calls Tryd.prog 62 #[.int .i64 a, .int .i64 b] w fun e w' => e = .returned (.int .i64 ((a ||| b : Nat) : Int)) ∧ w' = w := by
 have HS := Lib.hid (And.intro ha hb); clear ha hb
 go_enter Tryd.func62, Tryd.ntmps62
 go_wp2_with fail
 go_loopw [0, 5] (fun nv iv wr => ∃ k : Nat, k ≤ 12 ∧ iv = .int .i64 k ∧ nv = .int .i64 (uniTo a b k) ∧ Hid (wr = w)) (fun nv iv wr => 12 - (intOf iv).toNat)
 case atStart => exact ⟨0, by omega, rfl, by unfold uniTo; simp, Lib.hid rfl⟩
 case round =>
  obtain ⟨k, hk, rfl, rfl, HW⟩ := hrel
  by_cases hlt : k < 12
  ·have hltI : (k : Int) < 12 := by omega
   have hsu := uniTo_succ a b k
   have hul := uniTo_lt HS.out.1 HS.out.2 k
   have hor : (uniTo a b k).testBit k = false → uniTo a b k + 2 ^ k = uniTo a b k ||| 2 ^ k := or_add hul hlt
   obtain ⟨c, hc⟩ : ∃ c, uniTo a b k = c := ⟨_, rfl⟩
   rw [hc] at hsu hul hor ⊢
   have HUL := Lib.hid hul
   clear hc hul
   go_wp2_with fail
   refine (rhas_any b k HS.out.2 (by omega) wr).mono ?_
   rintro e w' ⟨rfl, rfl⟩
   cases hb : b.testBit k with
   |false =>
    rw [hb] at hsu
    have HSU := Lib.hid (show uniTo a b (k + 1) = c by rw [hsu, if_neg (by simp)]); clear hsu hor hb
    go_wp2_with fail
    go_roundw
    case rel => exact ⟨k + 1, by omega, by go_num, by rw [HSU.out], HW⟩
    case measure => exact meas_up1 hlt
   |true =>
    rw [hb] at hsu
    have HSU := Lib.hid hsu
    have HOR := Lib.hid hor
    clear hsu hor hb
    go_wp2_with fail
    refine (rhas_any c k HUL.out (by omega) _).mono ?_
    rintro e w' ⟨rfl, rfl⟩
    cases hcb : c.testBit k with
    |true =>
     have HN := Lib.hid (show uniTo a b (k + 1) = c by rw [HSU.out, if_neg (by simp [hcb])]); clear hcb
     go_wp2_with fail
     go_roundw
     case rel => exact ⟨k + 1, by omega, by go_num, by rw [HN.out], HW⟩
     case measure => exact meas_up1 hlt
    |false =>
     have HN := Lib.hid (show uniTo a b (k + 1) = c + 2 ^ k by rw [HSU.out, if_pos (by simp [hcb]), HOR.out hcb]); clear hcb
     go_wp2_with fail
     refine (rbit_any k (by omega) _).mono ?_
     rintro e w' ⟨rfl, rfl⟩
     obtain ⟨p, hp⟩ : ∃ p, 2 ^ k = p := ⟨_, rfl⟩
     have hpl : p < 4096 := by rw [← hp]; exact pow_lt12 hlt
     rw [hp] at HN ⊢
     have hwi : wrap64 ((c : Int) + (p : Int)) = ((c + p : Nat) : Int) := by have := HUL.out; unfold wrap64; omega
     clear hp hpl
     go_wp2_with fail
     go_roundw
     case rel => exact ⟨k + 1, by omega, by go_num, by rw [HN.out]; first | rfl | (rw [hwi]), HW⟩
     case measure => exact meas_up1 hlt
  ·obtain rfl : k = 12 := by omega
   have HU := Lib.hid (uniTo_all (a := a) HS.out.2)
   go_wp2_with fail
   go_ret
   exact ⟨by rw [← HU.out]; rfl, HW.out⟩
set_option maxHeartbeats 1000000 in
theorem rindex_any (A : Option Addr) (c : Nat) (l : List Src) (x : Int) (w : World) (hr : Kd.C kS w A l.length l) : Calls Tryd.prog 49 #[.slice A l.length c, .int .i64 x] w fun e w' => e = .returned (.int .i64 (fIdx (fun s : Src => s.id == x) l)) ∧ Below w.heap.size w w' := by
 have hm := max_len hr
 have HR := Lib.hid hr; clear hr
 go_enter Tryd.func49, Tryd.ntmps49
 go_wp2_with fail
 go_loopw [5] (fun i wr => ∃ k : Nat, k ≤ l.length ∧ Hid ((l.take k).any (fun s : Src => s.id == x) = false) ∧ i = .int .i64 k ∧ Hid (Below w.heap.size w wr)) (fun i wr => l.length - (intOf i).toNat)
 case atStart => exact ⟨0, Nat.zero_le _, Lib.hid rfl, rfl, Lib.hid (Below.refl _ _)⟩
 case round =>
  obtain ⟨k, hk, HA, rfl, HB⟩ := hrel
  by_cases hlt : k < l.length
  ·have hltI : (k : Int) < (l.length : Int) := by omega
   obtain ⟨s, hs⟩ : ∃ s, l[k]? = some s := ⟨l[k], List.getElem?_eq_getElem hlt⟩
   obtain ⟨ad, FA, fc, e, x0, x1, x2, hfc, hCf⟩ := at_S (Kd.C_below HR.out HB.out) hs
   cases e
   have HT := Lib.hid (take_at hs)
   have HSS := Lib.hid hs
   obtain ⟨y, hy⟩ : ∃ y, s.id = y := ⟨_, rfl⟩
   have HY := Lib.hid hy
   rw [hy] at x0
   clear hs hfc hCf x1 x2 hy
   cases hb : (y == x) with
   |true =>
    have HF := Lib.hid (show fIdx (fun s : Src => s.id == x) l = k from fIdx_at (p := fun s : Src => s.id == x) hlt HA.out (by have h2 := (List.getElem?_eq_some_iff.1 HSS.out).2; rw [h2]; show (s.id == x) = true; rw [HY.out]; exact hb))
    go_wp2_with fail
    go_ret
    exact ⟨ret_int HF.out.symm, HB.out⟩
   |false =>
    have HN := Lib.hid (show (l.take (k + 1)).any (fun s : Src => s.id == x) = false by rw [HT.out, List.any_append, HA.out]; simp [HY.out, hb])
    go_wp2_with fail
    go_roundw
    case rel => exact ⟨k + 1, by omega, HN, by go_num, HB⟩
    case measure => exact meas_up1 hlt
  ·obtain rfl : k = l.length := by omega
   have HN := Lib.hid (show fIdx (fun s : Src => s.id == x) l = -1 from fIdx_none (by have := HA.out; rwa [List.take_length] at this))
   go_wp2_with fail
   go_ret
   exact ⟨ret_int HN.out.symm, HB.out⟩
end Go.Proofs.YticngcjfofcoiaaDoor
