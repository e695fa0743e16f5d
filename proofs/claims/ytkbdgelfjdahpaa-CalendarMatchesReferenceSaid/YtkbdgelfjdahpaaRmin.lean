/- The contract of the reference's Minute. -/
import Derived.Test.YtkbdgelfjdahpaaRminA
import Derived.Test.YtkbdgelfjdahpaaRminB
namespace Go.Proofs.Ytkbdgelfjdahpaa
open Go.RowKit Go.Rg Go.Shelf
set_option linter.unusedVariables false
set_option linter.unusedSimpArgs false

structure CI (w : World) (y m d h mi wd : Int) (W : World) : Prop where
  below : Below w.heap.size w W
  b0 : W.heap[w.heap.size]? = some (.cells #[.int .i64 y, .int .i64 m, .int .i64 d, .int .i64 h, .int .i64 mi, .int .i64 wd] 23 (0, 0))
theorem CI.call {w : World} {y m d h mi wd : Int} {A B : World} (k : CI w y m d h mi wd A) (hb : Below A.heap.size A B) : CI w y m d h mi wd B := by
  have := (Array.getElem?_eq_some_iff.1 k.b0).1
  exact ⟨k.below.trans (hb.mono k.below.size), (hb.block _ this).trans k.b0⟩
theorem CI.ext {w : World} {y m d h mi wd : Int} {A : World} (k : CI w y m d h mi wd A) (x : Ext A) : CI w y m d h mi wd x.val := by
  have := (Array.getElem?_eq_some_iff.1 k.b0).1
  exact ⟨k.below.trans (x.2.below (fun _ _ h => h) k.below.size), (x.2.block _ this (fun h => h)).trans k.b0⟩

theorem my_at (k j : Nat) (h : j < 12) : my (12 * k + j) = 1999 + k ∧ mm (12 * k + j) = 1 + j := by unfold my mm; omega
theorem before_at (k j : Nat) (h : j < 12) : before (12 * k + j + 1) = before (12 * k + j) + days (1999 + k) (1 + j) := by
  have := my_at k j h
  simp only [before, this.1, this.2]

set_option maxRecDepth 100000 in
set_option maxHeartbeats 4000000 in
theorem rmin_good (y m d h mi wd o : Int) (w : World) (n0 : 1999 ≤ y) (n1 : y ≤ 2200) (n2 : 1 ≤ m) (n3 : m ≤ 12) (n4 : 1 ≤ d) (n5 : d ≤ days y m) (n6 : 0 ≤ h) (n7 : h ≤ 23) (n8 : 0 ≤ mi) (n9 : mi ≤ 59) (n10 : -840 ≤ o) (n11 : o ≤ 840) :
    Calls Try.prog 16 #[civil y m d h mi wd, .int .i64 o] w fun e w' => e = .returned (minRes y m d h mi wd o) ∧ Below w.heap.size w w' := by
  have hok : okC y m d h mi o := ⟨⟨n0, n1⟩, ⟨n4, n5⟩, ⟨n6, n7⟩, ⟨n8, n9⟩, n10, n11⟩
  have hdb := days_bd y m
  have Hok := Lib.hid hok; clear hok
  obtain ⟨Y, rfl⟩ : ∃ Y : Nat, y = 1999 + Y := ⟨(y - 1999).toNat, by omega⟩
  obtain ⟨M, rfl⟩ : ∃ M : Nat, m = 1 + M := ⟨(m - 1).toNat, by omega⟩
  unfold civil
  have t0 : decide ((1999 + Y : Int) < 1999) = false := by simp; omega
  have t1 : decide (2200 < (1999 + Y : Int)) = false := by simp; omega
  have t2 : decide ((1 + M : Int) < 1) = false := by simp; omega
  have t3 : decide (12 < (1 + M : Int)) = false := by simp; omega
  have t4 : decide (d < 1) = false := by simp; omega
  have t5 : decide (days (1999 + Y) (1 + M) < d) = false := by simp; omega
  have t6 : decide (h < 0) = false := by simp; omega
  have t7 : decide (23 < h) = false := by simp; omega
  have t8 : decide (mi < 0) = false := by simp; omega
  have t9 : decide (59 < mi) = false := by simp; omega
  have t10 : decide (o < -840) = false := by simp; omega
  have t11 : decide (840 < o) = false := by simp; omega
  go_enter Try.func16, Try.ntmps16
  go_wp2_with fail
  have hC0 : CI w (1999 + Y) (1 + M) d h mi wd (w.alloc (.cells #[.int .i64 (1999 + Y), .int .i64 (1 + M), .int .i64 d, .int .i64 h, .int .i64 mi, .int .i64 wd] 23)) := ⟨(Below.refl w.heap.size w).alloc (Nat.le_refl _) _, heap_new rfl⟩
  generalize w.alloc (.cells #[.int .i64 (1999 + Y), .int .i64 (1 + M), .int .i64 d, .int .i64 h, .int .i64 mi, .int .i64 wd] 23) = W0 at hC0 ⊢
  have e0 := cell_ext (cell_of (o := 0) hC0.b0 rfl)
  have e1 := cell_ext (cell_of (o := 1) hC0.b0 rfl)
  have e2 := cell_ext (cell_of (o := 2) hC0.b0 rfl)
  have e3 := cell_ext (cell_of (o := 3) hC0.b0 rfl)
  have e4 := cell_ext (cell_of (o := 4) hC0.b0 rfl)
  refine region_ext (by kernel_rfl) (by kernel_rfl) ?_
  repeat (go_big_quiet_step ((go_at_call 20; with_reducible exact call_ext (rdays_any _ _ _))))
  refine wpQuiet_nil ?_
  rintro W' ⟨X, rfl⟩
  have hC1 := hC0.ext X
  generalize X.val = W1 at hC1 ⊢
  clear e0 e1 e2 e3 e4 hC0 t0 t1 t2 t3 t4 t5 t6 t7 t8 t9 t10 t11 X
  have e2 := cell_of (o := 2) hC1.b0 rfl
  go_wp2_with fail
  clear e2
  go_loopw [6, 7, 8] (fun dv yv mv wr => ∃ k : Nat, k ≤ Y ∧ yv = .int .i64 (1999 + k) ∧ dv = .int .i64 (d - 1 + before (12 * k)) ∧ CI w (1999 + Y) (1 + M) d h mi wd wr) (fun dv yv mv wr => 5000 - (intOf yv).toNat)
  case atStart => exact ⟨0, Nat.zero_le _, rfl, by simp [before], hC1⟩
  case round =>
    clear hC1
    obtain ⟨k, hkY, rfl, rfl, hC⟩ := hrel
    have f0 := cell_of (o := 0) hC.b0 rfl
    by_cases hlt : k < Y
    · have hltI : (1999 + k : Int) < 1999 + Y := by omega
      have hkb : k ≤ 300 := by omega
      have hbb := before_bd (12 * k)
      go_wp2_with fail
      clear f0
      obtain ⟨wo, hwo⟩ : ∃ wo, wo = wr := ⟨_, rfl⟩
      subst hwo
      go_loopw [6, 8] (fun dv mv wr => ∃ j : Nat, j ≤ 12 ∧ mv = .int .i64 (1 + j) ∧ dv = .int .i64 (d - 1 + before (12 * k + j)) ∧ CI w (1999 + Y) (1 + M) d h mi wd wr) (fun dv mv wr => 20 - (intOf mv).toNat)
      case atStart => exact ⟨0, Nat.zero_le _, rfl, rfl, hC⟩
      case round =>
        clear hC
        obtain ⟨j, hj, rfl, rfl, hC⟩ := hrel
        have hbj := before_bd (12 * k + j)
        by_cases hj2 : j < 12
        · have hjI : (1 + j : Int) ≤ 12 := by omega
          have hdd := days_bd (1999 + k) (1 + j)
          go_wp2_with fail
          refine (rdays_any _ _ _).mono ?_
          rintro e w' ⟨rfl, hbw⟩
          have hC' := hC.call hbw
          clear hC hbw
          go_wp2_with fail
          exact ⟨⟨j + 1, by omega, by go_num, by rw [show before (12 * k + (j + 1)) = before (12 * k + j) + days (1999 + k) (1 + j) from before_at k j hj2, Int.add_assoc], hC'⟩, by simp [intOf]; omega⟩
        · obtain rfl : j = 12 := by omega
          go_wp2_with fail
          exact ⟨⟨k + 1, by omega, by go_num, by rw [Nat.mul_succ], hC⟩, by simp [intOf]; omega⟩
    · obtain rfl : k = Y := by omega
      have hkb : k ≤ 300 := by omega
      have hbb := before_bd (12 * k)
      go_wp2_with fail
      clear f0
      obtain ⟨wo, hwo⟩ : ∃ wo, wo = wr := ⟨_, rfl⟩
      subst hwo
      go_loopw [6, 9] (fun dv mv wr => ∃ j : Nat, j ≤ M ∧ mv = .int .i64 (1 + j) ∧ dv = .int .i64 (d - 1 + before (12 * k + j)) ∧ CI w (1999 + k) (1 + M) d h mi wd wr) (fun dv mv wr => 20 - (intOf mv).toNat)
      case atStart => exact ⟨0, Nat.zero_le _, rfl, rfl, hC⟩
      case round =>
        clear hC
        obtain ⟨j, hj, rfl, rfl, hC⟩ := hrel
        have hbj := before_bd (12 * k + j)
        have f1 := cell_of (o := 1) hC.b0 rfl
        have f0 := cell_of (o := 0) hC.b0 rfl
        by_cases hj2 : j < M
        · have hjI : (1 + j : Int) < 1 + M := by omega
          have hdd := days_bd (1999 + k) (1 + j)
          go_wp2_with fail
          refine (rdays_any _ _ _).mono ?_
          rintro e w' ⟨rfl, hbw⟩
          have hC' := hC.call hbw
          clear hC hbw f1 f0
          go_wp2_with fail
          exact ⟨⟨j + 1, by omega, by go_num, by rw [show before (12 * k + (j + 1)) = before (12 * k + j) + days (1999 + k) (1 + j) from before_at k j (by omega), Int.add_assoc], hC'⟩, by simp [intOf]; omega⟩
        · obtain rfl : j = M := by omega
          have hn : nOf (1999 + k) (1 + j) = 12 * k + j := by unfold nOf; omega
          have f3 := cell_of (o := 3) hC.b0 rfl
          have f4 := cell_of (o := 4) hC.b0 rfl
          go_wp2_with fail
          have hN : (d - 1 + before (12 * k + j) - 365) * 1440 + h * 60 + mi - o = atN (1999 + k) (1 + j) d h mi o := by unfold atN; rw [hn]; omega
          rw [hN]
          have q := at_day Hok.out
          have Hq := Lib.hid q
          clear hN q hn
          by_cases hr : 0 ≤ atN (1999 + k) (1 + j) d h mi o ∧ atN (1999 + k) (1 + j) d h mi o ≤ 50000000
          · have hB : okB (atN (1999 + k) (1 + j) d h mi o) o = true := by unfold okB; simp [hr.1, hr.2, n10, n11]
            obtain ⟨q1, q2, q3, q4, q5, q6, q7, q8⟩ := Hq.out
            have hp := fun W => rparts_yes (atN (1999 + k) (1 + j) d h mi o) o (nOf (1999 + k) (1 + j)) W hB (by omega) (by rw [q1]; exact q4) (by rw [q1]; exact q5)
            rw [q1, q2, q3, q7, q8] at hp
            rw [show before (nOf (1999 + k) (1 + j)) + d - 1 - before (nOf (1999 + k) (1 + j)) + 1 = d by omega, show before (nOf (1999 + k) (1 + j)) + d - 1 + 4 = before (nOf (1999 + k) (1 + j)) + d + 3 by omega] at hp
            refine (hp _).mono ?_
            rintro e w' ⟨rfl, hbw⟩
            unfold civil
            have hC' := hC.call hbw
            clear hp hC hbw f0 f1 f3 f4 q1 q2 q3 q4 q5 q6 q7 q8 hB
            have f0 := cell_of (o := 0) hC'.b0 rfl
            have f1 := cell_of (o := 1) hC'.b0 rfl
            have f2 := cell_of (o := 2) hC'.b0 rfl
            have f3 := cell_of (o := 3) hC'.b0 rfl
            have f4 := cell_of (o := 4) hC'.b0 rfl
            have f5 := cell_of (o := 5) hC'.b0 rfl
            have hlt2 := (Array.getElem?_eq_some_iff.1 hC'.b0).1
            by_cases hw : (before (nOf (1999 + k) (1 + j)) + d + 3) % 7 = wd
            · have hres : minRes (1999 + k) (1 + j) d h mi wd o = .tuple #[.int .i64 (atN (1999 + k) (1 + j) d h mi o), .int .i64 0] := by
                unfold minRes; rw [if_pos ⟨Hok.out, hr, hw⟩]
              have HR := Lib.hid hres
              rw [hw]
              clear hres hw hr
              go_wp2
              go_ret2
              exact ⟨HR.out.symm ▸ rfl, hC'.below.alloc (by omega) _⟩
            · have hres : minRes (1999 + k) (1 + j) d h mi wd o = .tuple #[.int .i64 0, .int .i64 60] := by
                unfold minRes; rw [if_neg (fun hh => hw hh.2.2)]
              have HR := Lib.hid hres
              have hwb : ((before (nOf (1999 + k) (1 + j)) + d + 3) % 7 == wd) = false := by simpa using hw
              have hwb2 : ((before (nOf (1999 + k) (1 + j)) + d + 3) % 7 != wd) = true := by simp [bne, hwb]
              clear hres hw hr
              go_wp2
              go_ret2
              exact ⟨HR.out.symm ▸ rfl, hC'.below.alloc (by omega) _⟩
          · have hB : okB (atN (1999 + k) (1 + j) d h mi o) o = false := by
              unfold okB; simp; omega
            have hres : minRes (1999 + k) (1 + j) d h mi wd o = .tuple #[.int .i64 0, .int .i64 60] := by
              unfold minRes; rw [if_neg (fun hh => hr hh.2.1)]
            have HR := Lib.hid hres
            refine (rparts_no _ _ _ hB).mono ?_
            rintro e w' ⟨rfl, hbw⟩
            unfold civil
            have hC' := hC.call hbw
            have hlt2 := (Array.getElem?_eq_some_iff.1 hC'.b0).1
            clear hC hbw f0 f1 f3 f4 hB hres hr
            go_wp2
            go_ret2
            exact ⟨HR.out.symm ▸ rfl, hC'.below.alloc (by omega) _⟩

theorem rminute_any (y m d h mi wd o : Int) (w : World) :
    Calls Try.prog 16 #[civil y m d h mi wd, .int .i64 o] w fun e w' => e = .returned (minRes y m d h mi wd o) ∧ Below w.heap.size w w' := by
  by_cases hok : okC y m d h mi o
  · obtain ⟨⟨n0, n1⟩, ⟨n4, n5⟩, ⟨n6, n7⟩, ⟨n8, n9⟩, n10, n11⟩ := hok
    have hmo := month_of (y := y) ⟨n4, n5⟩
    exact rmin_good y m d h mi wd o w n0 n1 hmo.1 hmo.2 n4 n5 n6 n7 n8 n9 n10 n11
  · have hres : minRes y m d h mi wd o = .tuple #[.int .i64 0, .int .i64 60] := by
      unfold minRes; rw [if_neg (fun hh => hok hh.1)]
    rw [hres]
    unfold okC at hok
    by_cases n0 : 1999 ≤ y
    case neg => exact rmin_bad0 y m d h mi wd o w  (by omega)
    by_cases n1 : y ≤ 2200
    case neg => exact rmin_bad1 y m d h mi wd o w n0 (by omega)
    by_cases n2 : 1 ≤ m
    case neg => exact rmin_bad2 y m d h mi wd o w n0 n1 (by omega)
    by_cases n3 : m ≤ 12
    case neg => exact rmin_bad3 y m d h mi wd o w n0 n1 n2 (by omega)
    by_cases n4 : 1 ≤ d
    case neg => exact rmin_bad4 y m d h mi wd o w n0 n1 n2 n3 (by omega)
    by_cases n5 : d ≤ days y m
    case neg => exact rmin_bad5 y m d h mi wd o w n0 n1 n2 n3 n4 (by omega)
    by_cases n6 : 0 ≤ h
    case neg => exact rmin_bad6 y m d h mi wd o w n0 n1 n2 n3 n4 n5 (by omega)
    by_cases n7 : h ≤ 23
    case neg => exact rmin_bad7 y m d h mi wd o w n0 n1 n2 n3 n4 n5 n6 (by omega)
    by_cases n8 : 0 ≤ mi
    case neg => exact rmin_bad8 y m d h mi wd o w n0 n1 n2 n3 n4 n5 n6 n7 (by omega)
    by_cases n9 : mi ≤ 59
    case neg => exact rmin_bad9 y m d h mi wd o w n0 n1 n2 n3 n4 n5 n6 n7 n8 (by omega)
    by_cases n10 : -840 ≤ o
    case neg => exact rmin_bad10 y m d h mi wd o w n0 n1 n2 n3 n4 n5 n6 n7 n8 n9 (by omega)
    by_cases n11 : o ≤ 840
    case neg => exact rmin_bad11 y m d h mi wd o w n0 n1 n2 n3 n4 n5 n6 n7 n8 n9 n10 (by omega)
    exact absurd ⟨⟨n0, n1⟩, ⟨n4, n5⟩, ⟨n6, n7⟩, ⟨n8, n9⟩, n10, n11⟩ hok
end Go.Proofs.Ytkbdgelfjdahpaa
