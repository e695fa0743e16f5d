/- The walk of CalendarYears. -/
import Derived.Test.YtkbdgelfjdahpaaSane
namespace Go.Proofs.Ytkbdgelfjdahpaa
open Go.RowKit Go.Rg Go.Shelf
set_option linter.unusedVariables false
set_option linter.unusedSimpArgs false

def lpI (y : Int) : Int := if leap y = true then 1 else 0
def lps (y : Int) : Nat → Int
  | 0 => 0
  | n + 1 => lps y n + lpI (y + n)
theorem lps_bd (y : Int) (n : Nat) : 0 ≤ lps y n ∧ lps y n ≤ n := by
  induction n with
  | zero => simp [lps]
  | succ n ih => simp only [lps, lpI]; split <;> omega
theorem lps_front (y : Int) (n : Nat) : lps y (n + 1) = lpI y + lps (y + 1) n := by
  induction n with
  | zero => simp [lps]
  | succ n ih =>
    rw [lps, ih, lps, show y + ((n + 1 : Nat) : Int) = y + 1 + n by omega, Int.add_assoc]
theorem leap_400 (y : Int) : leap (y + 400) = leap y := by
  unfold leap
  rw [show (y + 400) % 4 = y % 4 by omega, show (y + 400) % 100 = y % 100 by omega, show (y + 400) % 400 = y % 400 by omega]
theorem lps_step (y : Int) : lps (y + 1) 400 = lps y 400 := by
  have h1 := lps_front y 400
  have h2 : lps y 401 = lps y 400 + lpI (y + 400) := rfl
  have h3 : lpI (y + 400) = lpI y := by unfold lpI; rw [leap_400]
  have h4 : lps y (400 + 1) = lps y 401 := rfl
  omega
theorem lps_form (n : Nat) : lps 1 n = (n : Int) / 4 - (n : Int) / 100 + (n : Int) / 400 := by
  induction n with
  | zero => simp [lps]
  | succ n ih =>
    have h : lpI (1 + n) = ((n + 1 : Nat) : Int) / 4 - ((n + 1 : Nat) : Int) / 100 + ((n + 1 : Nat) : Int) / 400 - ((n : Int) / 4 - (n : Int) / 100 + (n : Int) / 400) := by
      unfold lpI leap
      by_cases h4 : (1 + (n : Int)) % 4 = 0 <;> by_cases h100 : (1 + (n : Int)) % 100 = 0 <;> by_cases h400 : (1 + (n : Int)) % 400 = 0 <;> simp [h4, h100, h400] <;> omega
    rw [lps, ih, h]; omega
theorem lps_1 : lps 1 400 = 97 := by
  have h := lps_form 400
  omega
theorem lps_97 (n : Nat) : lps (1 + n) 400 = 97 := by
  induction n with
  | zero => exact lps_1
  | succ n ih =>
    rw [show (1 + ((n + 1 : Nat) : Int)) = 1 + n + 1 by omega]
    exact (lps_step _).trans ih

/-- The days of the months before m. -/
def msum (y : Int) : Nat → Int
  | 0 => 0
  | j + 1 => msum y j + days y (1 + j)
theorem msum_bd (y : Int) (j : Nat) : 0 ≤ msum y j ∧ msum y j ≤ 32 * j := by
  induction j with
  | zero => simp [msum]
  | succ j ih => have := days_bd y (1 + j); simp only [msum]; omega
theorem msum_12 (y : Int) (h1 : 1 ≤ y) (h2 : y ≤ 9999) : msum y 12 = 365 + lpI y := by
  simp [msum, days, h1, h2, mlen, lpI]
  split <;> omega
theorem days_rest (y z m : Int) (h1 : 1 ≤ y ∧ y ≤ 9999) (h2 : 1 ≤ z ∧ z ≤ 9999) (hm : m ≠ 2) : days y m = days z m := by
  unfold days
  simp [h1, h2, hm]
theorem days_mid (y m : Int) (h1 : 1 ≤ y ∧ y ≤ 9999) (hm : 1 ≤ m ∧ m ≤ 12) : 28 ≤ days y m ∧ days y m ≤ 31 := by
  unfold days
  rw [if_pos ⟨h1.1, h1.2, hm.1, hm.2⟩]
  rcases twelve hm.1 hm.2 with rfl | rfl | rfl | rfl | rfl | rfl | rfl | rfl | rfl | rfl | rfl | rfl <;> simp [mlen] <;> split <;> omega

theorem years_any (year : Int) (w : World) (hc : -9223372036854775808 ≤ year) (hc2 : year ≤ 9223372036854775807) :
    Calls Try.prog 8 #[.int .i64 year] w fun e w' => e = .returned (.bool true) ∧ Below w.heap.size w w' := by
  have hp := pk_bd year 9600 (by omega)
  obtain ⟨hp1, hp2⟩ := hp
  go_enter Try.func8, Try.ntmps8
  go_wp2_with fail
  refine (sane_any _).mono ?_
  rintro e w1 ⟨rfl, hb1⟩
  go_wp2_with fail
  refine (pick_any year 9600 _ hc hc2 (by omega) (by omega)).mono ?_
  rintro e w2 ⟨rfl, rfl⟩
  obtain ⟨Y, hY⟩ : ∃ Y : Nat, pk year 9600 = Y := ⟨(pk year 9600).toNat, by omega⟩
  rw [hY] at hp1 hp2 ⊢
  clear hY hc hc2
  have hpY : Y < 9600 := by omega
  go_wp2_with fail
  go_loopw [4, 5, 6, 7, 8] (fun lv iv a b c wr => ∃ i : Nat, i ≤ 400 ∧ iv = .int .i64 i ∧ lv = .int .i64 (lps (1 + Y) i) ∧ Below w.heap.size w wr) (fun lv iv a b c wr => 400 - (intOf iv).toNat)
  case atStart => exact ⟨0, by omega, rfl, rfl, hb1⟩
  case round =>
    clear hb1
    obtain ⟨i, hi, rfl, rfl, hb⟩ := hrel
    have hl := lps_bd (1 + Y) i
    by_cases hlt : i < 400
    · have hltI : (i : Int) < 400 := by omega
      go_wp2_with fail
      obtain ⟨wo, hwo⟩ : ∃ wo, wo = wr := ⟨_, rfl⟩
      subst hwo
      go_loopw [6, 7, 8] (fun sv mv c wr => ∃ j : Nat, j ≤ 12 ∧ mv = .int .i64 (1 + j) ∧ sv = .int .i64 (msum (1 + Y + i) j) ∧ Below w.heap.size w wr) (fun sv mv c wr => 20 - (intOf mv).toNat)
      case atStart => exact ⟨0, by omega, rfl, rfl, hb⟩
      case round =>
        clear hb
        obtain ⟨j, hj, rfl, rfl, hb⟩ := hrel
        have hm := msum_bd (1 + Y + i) j
        by_cases hj2 : j < 12
        · have hjI : (1 + j : Int) ≤ 12 := by omega
          have hmid := days_mid (1 + Y + i) (1 + j) (by omega) (by omega)
          have t1 : decide (days (1 + Y + i) (1 + j) < 28) = false := by simp; omega
          have t2 : decide (31 < days (1 + Y + i) (1 + j)) = false := by simp; omega
          go_wp2_with fail
          refine (days_any _ _ _).mono ?_
          rintro e w' ⟨rfl, hbw⟩
          replace hb := hb.trans (hbw.mono hb.size)
          clear hbw
          by_cases h2 : (1 + j : Int) = 2
          · have q1 : ((1 + j : Int) != 2) = false := by simp [h2]
            clear h2
            go_wp2_with fail
            exact ⟨⟨j + 1, by omega, by go_num, by simp only [msum], hb⟩, by simp [intOf]; omega⟩
          · have q1 : ((1 + j : Int) != 2) = true := by simp [bne]; omega
            have hr := days_rest (1 + Y + i) (1 + Y) (1 + j) (by omega) (by omega) h2
            have Hr := Lib.hid hr
            clear h2 hr
            go_wp2_with fail
            refine (days_any _ _ _).mono ?_
            rintro e w' ⟨rfl, hbw⟩
            rw [← Hr.out]
            replace hb := hb.trans (hbw.mono hb.size)
            clear hbw
            go_wp2_with fail
            exact ⟨⟨j + 1, by omega, by go_num, by simp only [msum], hb⟩, by simp [intOf]; omega⟩
        · obtain rfl : j = 12 := by omega
          rw [msum_12 _ (by omega) (by omega)]
          clear hm
          have hs : lps (1 + Y) (i + 1) = lps (1 + Y) i + lpI (1 + Y + i) := rfl
          have hlp : lpI (1 + Y + i) = 0 ∨ lpI (1 + Y + i) = 1 := by unfold lpI; split <;> omega
          rw [show ((12 : Nat) : Int) = 12 from rfl]
          rcases hlp with hlp | hlp
          · rw [hlp] at hs ⊢
            have Hs := Lib.hid hs
            clear hlp hs
            go_wp2_with fail
            exact ⟨⟨i + 1, by omega, by go_num, by rw [Hs.out]; simp, hb⟩, by simp [intOf]; omega⟩
          · rw [hlp] at hs ⊢
            have Hs := Lib.hid hs
            clear hlp hs
            go_wp2_with fail
            exact ⟨⟨i + 1, by omega, by go_num, by rw [Hs.out]; simp; omega, hb⟩, by simp [intOf]; omega⟩
    · obtain rfl : i = 400 := by omega
      rw [lps_97]
      clear hl
      go_wp2_with fail
      refine (days_any _ _ _).mono ?_
      rintro e w' ⟨rfl, hbw⟩
      rw [show days (1 + Y) 0 = 0 by unfold days; rw [if_neg (by omega)]]
      replace hb := hb.trans (hbw.mono hb.size)
      clear hbw
      go_wp2_with fail
      refine (days_any _ _ _).mono ?_
      rintro e w' ⟨rfl, hbw⟩
      rw [show days 0 1 = 0 by decide]
      replace hb := hb.trans (hbw.mono hb.size)
      clear hbw
      go_wp2_with fail
      go_ret
      exact ⟨rfl, hb⟩
end Go.Proofs.Ytkbdgelfjdahpaa
