/- Contracts of the reference's Ints, pick, SameSupport, and of Same. -/
import Derived.Test.YticngcjfofcoiaaDoorNd
namespace Go.Proofs.YticngcjfofcoiaaDoor
open Go.RowKit Go.Rg Go.Proofs.YticngcjfofcoiaaDoorW.PrintWords
set_option linter.unusedVariables false
set_option linter.unusedSimpArgs false
set_option maxRecDepth 100000
set_option maxRecDepth 100000 in
theorem ints_any (A0 : Option Addr) (c0 : Nat) (a : List Int) (A1 : Option Addr) (c1 : Nat) (b : List Int) (w : World) (ha : (Kd.int .i64).C w A0 a.length a) (hc0 : a.length ≤ c0) (hb : (Kd.int .i64).C w A1 b.length b) (hc1 : b.length ≤ c1) :
  Calls Tryd.prog 25 #[.slice A0 a.length c0, .slice A1 b.length c1] w fun e w' => e = .returned (.bool (decide (a = b))) ∧ Below w.heap.size w w' := by
 have hma : a.length ≤ 9223372036854775807 := ha.2.1
 have hmb : b.length ≤ 9223372036854775807 := hb.2.1
 have HA := Lib.hid (And.intro ha hb); clear ha hb
 go_enter Tryd.func25, Tryd.ntmps25
 by_cases hl : a.length = b.length
 ·have hne : ((a.length : Int) != (b.length : Int)) = false := by rw [bneD]; simp [hl]
  go_wp2_with fail
  go_loopw [5] (fun iv wr => ∃ i : Nat, i ≤ a.length ∧ iv = .int .i64 i ∧ Hid (a.take i = b.take i ∧ Below w.heap.size w wr)) (fun iv wr => a.length - (intOf iv).toNat)
  case atStart => exact ⟨0, Nat.zero_le _, rfl, Lib.hid ⟨rfl, Below.refl _ _⟩⟩
  case round =>
   obtain ⟨i, hi, rfl, HI⟩ := hrel
   by_cases hil : i < a.length
   ·have hiI : (i : Int) < (a.length : Int) := by omega
    have hiJ : (i : Int) < (b.length : Int) := by omega
    have hib : i < b.length := by omega
    obtain ⟨xd, e, hx⟩ := Kd.at_int (Kd.C_below HA.out.1 HI.out.2) (i : Int) (by omega) hiI
    cases e
    obtain ⟨yd, e, hy⟩ := Kd.at_int (Kd.C_below HA.out.2 HI.out.2) (i : Int) (by omega) hiJ
    cases e
    simp only [Int.toNat_natCast] at hx hy
    rw [rd_get hil] at hx
    rw [rd_get hib] at hy
    have h1 := take_step hil hib HI.out.1
    have h2 := ne_at hil hib
    generalize a[i] = x at *
    generalize b[i] = y at *
    have eX := cell_ext hx
    have eY := cell_ext hy
    cases hxy : (x != y) with
    |false =>
     have HN := Lib.hid (h1 (by simpa using hxy)); clear h1 h2
     go_wp2_with fail
     refine region_ext (by kernel_rfl) (by kernel_rfl) ?_
     repeat (go_big_quiet_step (fail))
     refine wpQuiet_nil ?_
     rintro W' ⟨X, rfl⟩
     go_wp2_with fail
     go_roundw
     case rel => exact ⟨i + 1, by omega, by go_num, Lib.hid ⟨HN.out, HI.out.2.trans (X.2.below (fun _ _ h => h) HI.out.2.size)⟩⟩
     case measure => simp [intOf]; omega
    |true =>
     have HN := Lib.hid (h2 (by simpa using hxy)); clear h1 h2
     go_wp2_with fail
     refine region_ext (by kernel_rfl) (by kernel_rfl) ?_
     repeat (go_big_quiet_step (fail))
     refine wpQuiet_nil ?_
     rintro W' ⟨X, rfl⟩
     go_wp2_with fail
     go_ret
     exact ⟨ret_bool HN.out.symm, HI.out.2.trans (X.2.below (fun _ _ h => h) HI.out.2.size)⟩
   ·obtain rfl : i = a.length := by omega
    have HN := Lib.hid (show decide (a = b) = true by
     have := HI.out.1
     rw [List.take_length, hl, List.take_length] at this
     exact decide_eq_true this)
    have hfin : ¬ ((a.length : Int) < (b.length : Int)) := by omega
    go_wp2_with fail
    go_ret
    exact ⟨ret_bool HN.out.symm, HI.out.2⟩
 ·have hne : ((a.length : Int) != (b.length : Int)) = true := by rw [bneD]; simp; omega
  have HN := Lib.hid (ne_len hl)
  go_wp2_with fail
  go_ret
  exact ⟨ret_bool HN.out.symm, Below.refl _ _⟩
def pickV (a n : Int) : Int := if a < 0 then Int.tmod (-(a + 1)) n else Int.tmod a n
theorem pickL_any (a n : Int) (h1 : -9223372036854775808 ≤ a) (h2 : a ≤ 9223372036854775807) (hn : 0 < n) (w : World) :
  Calls Tryd.prog 31 #[.int .i64 a, .int .i64 n] w fun e w' => e = .returned (.int .i64 (pickV a n)) ∧ w' = w := by
 have hne : (n == 0) = false := by simp; omega
 by_cases h : a < 0
 ·have hpk : pickV a n = Int.tmod (-(a + 1)) n := by unfold pickV; rw [if_pos h]
  have hw1 : wrap64 (a + 1) = a + 1 := by unfold wrap64; omega
  have hw2 : wrap64 (-(a + 1)) = -(a + 1) := by unfold wrap64; omega
  have H := Lib.hid hpk
  clear hpk
  go_enter Tryd.func31, Tryd.ntmps31
  go_wp2_with fail
  go_ret
  exact ⟨ret_int (by rw [H.out, Int.neg_tmod]), rfl⟩
 ·have hpk : pickV a n = Int.tmod a n := by unfold pickV; rw [if_neg h]
  have H := Lib.hid hpk
  clear hpk
  go_enter Tryd.func31, Tryd.ntmps31
  go_wp2_with fail
  go_ret
  exact ⟨ret_int (by rw [H.out, Int.tmod_eq_emod_of_nonneg (by omega)]), rfl⟩
theorem at_W {w : World} {A : Option Addr} {n : Nat} {ws : List (List Int)} (h : kW.C w A n ws) {i : Nat} {p : List Int} (hi : ws[i]? = some p) : ∃ (ad : Addr) (A0 : Option Addr) (c0 : Nat), A = some ad ∧ w.cell? (ad.add i) = some (.slice A0 p.length c0) ∧ p.length ≤ c0 ∧ (Kd.int .i64).C w A0 p.length p := by
 have hlt := (List.getElem?_eq_some_iff.1 hi).1
 have hn : ws.length = n := h.1
 obtain ⟨ad, c, e, _, hK, hc0⟩ := Kd.C_get h ([] : List Int) (i : Int) (by omega) (by omega)
 have hg : ws.getD (i : Int).toNat [] = p := by simp [List.getD, hi]
 rw [hg] at hK
 have hc : ∀ j u, c[j]? = some u → w.cell? (ad.add (i * 1 + j)) = some u := hc0
 obtain ⟨A0, c0, rfl, hl, hC⟩ := hK
 exact ⟨ad, A0, c0, e, by have := hc 0 _ rfl; rwa [Nat.mul_one, Nat.add_zero] at this, hl, hC⟩
def sameB (n1 : Int) (w1 : List (List Int)) (c1 : List Int) (n2 : Int) (w2 : List (List Int)) (c2 : List Int) : Bool := decide (n1 = n2) && (decide (c1 = c2) && decide (w1 = w2))
theorem take_stepW {a b : List (List Int)} {i : Nat} (ha : i < a.length) (hb : i < b.length) (h : a.take i = b.take i) (he : a[i] = b[i]) : a.take (i + 1) = b.take (i + 1) := by
 rw [List.take_succ_eq_append_getElem ha, List.take_succ_eq_append_getElem hb, h, he]
set_option maxHeartbeats 4000000 in
theorem same_any (n1 n2 : Int) (WA WB : Option Addr) (wc wd : Nat) (w1 w2 : List (List Int)) (CA CB : Option Addr) (cc cd : Nat) (c1 c2 : List Int) (w : World) (hw1 : kW.C w WA w1.length w1) (hw2 : kW.C w WB w2.length w2) (hc1 : (Kd.int .i64).C w CA c1.length c1) (hc2 : (Kd.int .i64).C w CB c2.length c2) (hl1 : c1.length ≤ cc) (hl2 : c2.length ≤ cd) :
  Calls Tryd.prog 16 #[.agg #[.int .i64 n1, .slice WA w1.length wc, .slice CA c1.length cc], .agg #[.int .i64 n2, .slice WB w2.length wd, .slice CB c2.length cd]] w fun e w' => e = .returned (.bool (sameB n1 w1 c1 n2 w2 c2)) ∧ Below w.heap.size w w' := by
 have hm1 : w1.length ≤ 9223372036854775807 := hw1.2.1
 have hm2 : w2.length ≤ 9223372036854775807 := hw2.2.1
 have hb0 := ((Below.refl w.heap.size w).alloc (Nat.le_refl _) (.cells #[.int .i64 n1, .slice WA w1.length wc, .slice CA c1.length cc] 30)).alloc (by simp) (.cells #[.int .i64 n2, .slice WB w2.length wd, .slice CB c2.length cd] 30)
 have h2 : ((w.alloc (.cells #[.int .i64 n1, .slice WA w1.length wc, .slice CA c1.length cc] 30)).alloc (.cells #[.int .i64 n2, .slice WB w2.length wd, .slice CB c2.length cd] 30)).heap[w.heap.size]? = some (.cells #[.int .i64 n1, .slice WA w1.length wc, .slice CA c1.length cc] 30) := heap_old (heap_new rfl)
 have h3 : ((w.alloc (.cells #[.int .i64 n1, .slice WA w1.length wc, .slice CA c1.length cc] 30)).alloc (.cells #[.int .i64 n2, .slice WB w2.length wd, .slice CB c2.length cd] 30)).heap[w.heap.size + 1]? = some (.cells #[.int .i64 n2, .slice WB w2.length wd, .slice CB c2.length cd] 30) := heap_new (by simp)
 have hin := ints_any CA cc c1 CB cd c2 _ (Kd.C_below hc1 hb0) hl1 (Kd.C_below hc2 hb0) hl2
 have HIN := Lib.hid hin; clear hin
 have HH := Lib.hid (And.intro h2 (And.intro h3 (And.intro hb0 (And.intro hw1 hw2)))); clear hw1 hw2 hc1 hc2
 obtain ⟨w0, hw0⟩ : ∃ w0, (w.alloc (.cells #[.int .i64 n1, .slice WA w1.length wc, .slice CA c1.length cc] 30)).alloc (.cells #[.int .i64 n2, .slice WB w2.length wd, .slice CB c2.length cd] 30) = w0 := ⟨_, rfl⟩
 rw [hw0] at h2 h3 HH HIN
 have HW0 := Lib.hid hw0; clear hw0 hb0
 have a0 : w0.cell? ⟨w.heap.size, 0, none⟩ = some (.int .i64 n1) := cell_of h2 rfl
 have a1 : w0.cell? ⟨w.heap.size, 1, none⟩ = some (.slice WA w1.length wc) := cell_of h2 rfl
 have a2 : w0.cell? ⟨w.heap.size, 2, none⟩ = some (.slice CA c1.length cc) := cell_of h2 rfl
 have b0 : w0.cell? ⟨w.heap.size + 1, 0, none⟩ = some (.int .i64 n2) := cell_of h3 rfl
 have b1 : w0.cell? ⟨w.heap.size + 1, 1, none⟩ = some (.slice WB w2.length wd) := cell_of h3 rfl
 have b2 : w0.cell? ⟨w.heap.size + 1, 2, none⟩ = some (.slice CB c2.length cd) := cell_of h3 rfl
 clear h2 h3
 go_enter Tryd.func16, Tryd.ntmps16
 by_cases g1 : n1 = n2
 ·have g1' : (n1 != n2) = false := by simp [g1]
  by_cases g2 : w1.length = w2.length
  ·have g2' : ((w1.length : Int) != (w2.length : Int)) = false := by rw [bneD]; simp [g2]
   cases g3 : decide (c1 = c2) with
   |false =>
    rw [g3] at HIN
    have HN := Lib.hid (show sameB n1 w1 c1 n2 w2 c2 = false by unfold sameB; rw [g3]; simp)
    clear g1 g2 g3
    go_wp2_with fail
    rw [HW0.out]
    go_wp2_with fail
    refine HIN.out.mono ?_
    rintro e wz ⟨rfl, hb⟩
    have HB := Lib.hid (HH.out.2.2.1.trans (hb.mono HH.out.2.2.1.size)); clear hb HIN
    go_wp2_with fail
    go_ret
    exact ⟨ret_bool HN.out.symm, HB.out⟩
   |true =>
    rw [g3] at HIN
    have HG := Lib.hid (And.intro g1 (And.intro g2 (of_decide_eq_true g3)))
    clear g1 g2 g3
    go_wp2_with fail
    rw [HW0.out]
    go_wp2_with fail
    refine HIN.out.mono ?_
    rintro e wz ⟨rfl, hb⟩
    have HB := Lib.hid hb; clear hb HIN
    clear a0 a1 a2 b0 b1 b2
    go_wp2_with fail
    go_loopw [5] (fun iv wr => ∃ i : Nat, i ≤ w1.length ∧ iv = .int .i64 i ∧ Hid (w1.take i = w2.take i ∧ Below w0.heap.size w0 wr)) (fun iv wr => w1.length - (intOf iv).toNat)
    case atStart => exact ⟨0, Nat.zero_le _, rfl, Lib.hid ⟨rfl, HB.out⟩⟩
    case round =>
     obtain ⟨i, hi, rfl, HI⟩ := hrel
     have hA := (HI.out.2.block _ (Array.getElem?_eq_some_iff.1 HH.out.1).1).trans HH.out.1
     have hB := (HI.out.2.block _ (Array.getElem?_eq_some_iff.1 HH.out.2.1).1).trans HH.out.2.1
     have a1 : wr.cell? ⟨w.heap.size, 1, none⟩ = some (.slice WA w1.length wc) := cell_of hA rfl
     have b1 : wr.cell? ⟨w.heap.size + 1, 1, none⟩ = some (.slice WB w2.length wd) := cell_of hB rfl
     have hbw := HH.out.2.2.1.trans (HI.out.2.mono HH.out.2.2.1.size)
     clear hA hB
     by_cases hil : i < w1.length
     ·have hiI : (i : Int) < (w1.length : Int) := by omega
      have hiJ : (i : Int) < (w2.length : Int) := by have := HG.out.2.1; omega
      have hib : i < w2.length := by omega
      obtain ⟨p, hp⟩ : ∃ p, w1[i]? = some p := ⟨_, List.getElem?_eq_getElem hil⟩
      obtain ⟨q, hq⟩ : ∃ q, w2[i]? = some q := ⟨_, List.getElem?_eq_getElem hib⟩
      obtain ⟨ad1, A1, k1, e, x1, l1, hC1⟩ := at_W (Kd.C_below HH.out.2.2.2.1 hbw) hp
      cases e
      obtain ⟨ad2, A2, k2, e, x2, l2, hC2⟩ := at_W (Kd.C_below HH.out.2.2.2.2 hbw) hq
      cases e
      have hcall : ∀ X : Ext wr, _ := fun X => ints_any A1 k1 p A2 k2 q X.val (Kd.C_below hC1 (X.2.below (fun _ _ h => h) (Nat.le_refl _))) l1 (Kd.C_below hC2 (X.2.below (fun _ _ h => h) (Nat.le_refl _))) l2
      have hpq1 : w1[i] = p := (List.getElem?_eq_some_iff.1 hp).2
      have hpq2 : w2[i] = q := (List.getElem?_eq_some_iff.1 hq).2
      have ea := cell_ext a1
      have eb := cell_ext b1
      have ex := cell_ext x1
      have ey := cell_ext x2
      cases hd : decide (p = q) with
      |true =>
       rw [hd] at hcall
       have HC := Lib.hid hcall
       have HN := Lib.hid (take_stepW hil hib HI.out.1 (by rw [hpq1, hpq2]; exact of_decide_eq_true hd))
       clear hcall hpq1 hpq2 hd hp hq hC1 hC2 hbw hib
       go_wp2_with fail
       refine region_ext (by kernel_rfl) (by kernel_rfl) ?_
       repeat (go_big_quiet_step (first | (go_at_call 25; with_reducible exact call_ext (HC.out _))))
       refine wpQuiet_nil ?_
       rintro W' ⟨X, rfl⟩
       clear ea eb ex ey a1 b1 x1 x2 HC
       go_wp2_with fail
       go_roundw
       case rel => exact ⟨i + 1, by omega, by go_num, Lib.hid ⟨HN.out, HI.out.2.trans (X.2.below (fun _ _ h => h) HI.out.2.size)⟩⟩
       case measure => exact meas_up1 hil
      |false =>
       rw [hd] at hcall
       have HC := Lib.hid hcall
       have HN := Lib.hid (show sameB n1 w1 c1 n2 w2 c2 = false by
        have : decide (w1 = w2) = false := decide_eq_false (fun e => by
         subst e
         rw [hp] at hq
         cases hq
         simp at hd)
        unfold sameB; rw [this]; simp)
       clear hcall hpq1 hpq2 hd hp hq hC1 hC2 hib
       have HBW := Lib.hid hbw; clear hbw
       go_wp2_with fail
       refine region_ext (by kernel_rfl) (by kernel_rfl) ?_
       repeat (go_big_quiet_step (first | (go_at_call 25; with_reducible exact call_ext (HC.out _))))
       refine wpQuiet_nil ?_
       rintro W' ⟨X, rfl⟩
       clear ea eb ex ey a1 b1 x1 x2 HC
       go_wp2_with fail
       go_ret
       exact ⟨ret_bool HN.out.symm, HBW.out.trans (X.2.below (fun _ _ h => h) HBW.out.size)⟩
     ·obtain rfl : i = w1.length := by omega
      have HN := Lib.hid (show sameB n1 w1 c1 n2 w2 c2 = true by
       have h := HI.out.1
       rw [List.take_length, HG.out.2.1, List.take_length] at h
       unfold sameB
       rw [decide_eq_true HG.out.1, decide_eq_true HG.out.2.2, decide_eq_true h]; rfl)
      have HBW := Lib.hid hbw; clear hbw
      go_wp2_with fail
      go_ret
      exact ⟨ret_bool HN.out.symm, HBW.out⟩
  ·have g2' : ((w1.length : Int) != (w2.length : Int)) = true := by rw [bneD]; simp; omega
   have HN := Lib.hid (show sameB n1 w1 c1 n2 w2 c2 = false by
    have : decide (w1 = w2) = false := decide_eq_false (fun e => g2 (by rw [e]))
    unfold sameB; rw [this]; simp)
   clear g1 g2
   go_wp2_with fail
   rw [HW0.out]
   go_wp2_with fail
   go_ret
   exact ⟨ret_bool HN.out.symm, HH.out.2.2.1⟩
 ·have g1' : (n1 != n2) = true := by simp [g1]
  have HN := Lib.hid (show sameB n1 w1 c1 n2 w2 c2 = false by unfold sameB; rw [decide_eq_false g1]; rfl)
  clear g1
  go_wp2_with fail
  rw [HW0.out]
  go_wp2_with fail
  go_ret
  exact ⟨ret_bool HN.out.symm, HH.out.2.2.1⟩
end Go.Proofs.YticngcjfofcoiaaDoor
