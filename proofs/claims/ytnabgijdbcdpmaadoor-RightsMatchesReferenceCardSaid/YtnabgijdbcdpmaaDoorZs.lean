/- The contract of the reference's Solve: the first least set that search finds is what Solve's search over all sets finds. -/
import Derived.Test.YtnabgijdbcdpmaaDoorZf
namespace Go.Proofs.YtnabgijdbcdpmaaDoor
open Go.RowKit Go.Rg Go.Proofs.YtnabgijdbcdpmaaDoor.PRightsMatchesReference Go.Proofs.YtnabgijdbcdpmaaDoorW.PrintWords
set_option linter.unusedVariables false
set_option linter.unusedSimpArgs false

theorem all_no {α : Type} {f : α → Bool} {l : List α} {k : Nat} (h : k < l.length) (h2 : f l[k] = false) : l.all f = false := by
  rw [Bool.eq_false_iff]; intro h3
  have := List.all_eq_true.1 h3 _ (List.getElem_mem h)
  rw [h2] at this; cases this
theorem all_take {α : Type} {f : α → Bool} {l : List α} {k : Nat} (h : k < l.length) (h1 : (l.take k).all f = true) (h2 : f l[k] = true) : (l.take (k + 1)).all f = true := by
  rw [List.take_succ_eq_append_getElem h, List.all_append, h1]; simp [h2]
set_option maxRecDepth 100000 in
theorem rvalidL_any (A : Option Addr) (c : Nat) (l : List Cl) (w : World) (hr : Kd.C k40 w A l.length l) :
    Calls Tryd.prog 13 #[.slice A l.length c] w fun e w' => e = .returned (.bool (vldL l)) ∧ Below w.heap.size w w' := by
  have hm := max_len hr
  have HR := Lib.hid hr; clear hr
  go_enter Tryd.func13, Tryd.ntmps13
  go_wp2_with fail
  go_loopw [3] (fun iv wr => ∃ k : Nat, iv = .int .i64 k ∧ k ≤ l.length ∧ k ≤ 13 ∧ Hid ((l.take k).all vld = true ∧ Below w.heap.size w wr)) (fun iv wr => 13 - (intOf iv).toNat)
  case atStart => exact ⟨0, rfl, Nat.zero_le _, Nat.zero_le _, Lib.hid ⟨by simp, Below.refl _ _⟩⟩
  case round =>
    obtain ⟨k, rfl, hk, hk13, HI⟩ := hrel
    by_cases hlt : k < l.length ∧ k < 13
    · obtain ⟨h1, h2⟩ := hlt
      have hkI : (k : Int) < (l.length : Int) := by omega
      have hkJ : (k : Int) < 13 := by omega
      obtain ⟨ad, e, x0, x1, x2, x3, x4, x5, x6, x7⟩ := at_T40 (Kd.C_below HR.out HI.out.2) (k : Int) (by omega) hkI
      cases e
      simp only [Int.toNat_natCast] at x0 x1 x2 x3 x4 x5 x6 x7
      have hrd : rd_T40 l (k : Int) = l[k] := by unfold rd_T40; simp [h1]
      rw [hrd] at x0 x1 x2 x3 x4 x5 x6 x7
      clear hrd
      have hno := all_no (f := vld) h1
      have hyes := all_take (f := vld) h1 HI.out.1
      have hC := rvalid_any l[k] wr
      generalize l[k] = X at *
      obtain ⟨f0, f1, f2, f3, f4, f5, f6, f7⟩ := X
      unfold clv at hC
      simp only at x0 x1 x2 x3 x4 x5 x6 x7 hC
      generalize vld ⟨f0, f1, f2, f3, f4, f5, f6, f7⟩ = b at *
      have HY := Lib.hid (And.intro hno (And.intro hyes hC)); clear hno hyes hC
      go_wp2_with fail
      refine HY.out.2.2.mono ?_
      clear x0 x1 x2 x3 x4 x5 x6 x7
      rintro e w2 ⟨rfl, hb2⟩
      have HB2 := Lib.hid (HI.out.2.trans (hb2.mono HI.out.2.size)); clear hb2
      cases b with
      | false =>
        have HN := Lib.hid (HY.out.1 (by simp))
        go_wp2_with fail
        go_ret
        exact ⟨ret_bool (by unfold vldL; rw [HN.out]; simp), HB2.out⟩
      | true =>
        go_wp2_with fail
        go_roundw
        case rel => exact ⟨k + 1, by go_num, by omega, by omega, Lib.hid ⟨HY.out.2.1 (by simp), HB2.out⟩⟩
        case measure => simp [intOf]; omega
    · by_cases h1 : (k : Int) < (l.length : Int)
      · have h2 : ¬ ((k : Int) < 13) := by omega
        have hb : decide ((l.length : Int) ≤ 12) = false := by simp; omega
        go_wp2_with fail
        go_ret
        exact ⟨ret_bool (by unfold vldL; rw [show decide (l.length ≤ 12) = false by simp; omega]; rfl), HI.out.2⟩
      · obtain rfl : k = l.length := by omega
        have HF := Lib.hid (show l.all vld = true by have := HI.out.1; rwa [List.take_length] at this)
        have hb : decide ((l.length : Int) ≤ 12) = decide (l.length ≤ 12) := by congr 1; apply propext; omega
        go_wp2_with fail
        go_ret
        exact ⟨ret_bool (by unfold vldL; rw [HF.out, Bool.and_true]), HI.out.2⟩
set_option maxRecDepth 100000 in
theorem rgiven_any (A : Option Addr) (c : Nat) (l : List Cl) (UA : Option Addr) (uc : Nat) (u : List Int) (wt : Wt) (WA : Option Addr) (wn : Nat) (w : World) (hA : Args w A c l UA uc u wt WA wn) :
    Calls Tryd.prog 52 #[.slice A l.length c, .slice UA u.length uc, wtv wt WA wn] w fun e w' => e = .returned (.bool (givenB l u wt)) ∧ Below w.heap.size w w' := by
  have hm := max_len hA.ru
  have hml := max_len hA.rl
  have hb := (Below.refl w.heap.size w).alloc (Nat.le_refl _) (.cells (wtc wt WA wn) 29)
  have hk0 := heap_new (o := .cells (wtc wt WA wn) 29) (W := w) rfl
  have hA1 := hA.next hb
  have HB := Lib.hid (And.intro hA1 (And.intro hb hk0)); clear hA hA1 hb hk0
  unfold wtc at HB
  unfold wtv
  go_enter Tryd.func52, Tryd.ntmps52
  go_wp2_with fail
  generalize w.alloc (.cells #[.int .i64 wt.te, .int .i64 wt.cl, .int .i64 wt.at_, .int .i64 wt.us, .slice WA wt.needs.length wn] 29) = w1 at *
  refine (rvalidL_any A c l w1 HB.out.1.rl).mono ?_
  rintro e w2 ⟨rfl, hb2⟩
  have HB2 := Lib.hid (And.intro (HB.out.1.next hb2) (And.intro (HB.out.2.1.trans (hb2.mono HB.out.2.1.size)) ((hb2.block _ (Array.getElem?_eq_some_iff.1 HB.out.2.2).1).trans HB.out.2.2))); clear hb2 HB
  cases hv : vldL l with
  | false =>
    have HG := Lib.hid (show givenB l u wt = false by unfold givenB; rw [hv]; rfl)
    go_wp2_with fail
    go_ret
    exact ⟨ret_bool HG.out.symm, HB2.out.2.1⟩
  | true =>
    have c0 := cell_of (o := 0) HB2.out.2.2 rfl
    have c1 := cell_of (o := 1) HB2.out.2.2 rfl
    have c2 := cell_of (o := 2) HB2.out.2.2 rfl
    have c3 := cell_of (o := 3) HB2.out.2.2 rfl
    have c4 := cell_of (o := 4) HB2.out.2.2 rfl
    go_wp2_with fail
    have hC := rvw_any wt WA wn w2 HB2.out.1.rw
    unfold wtv at hC
    refine hC.mono ?_
    clear hC c0 c1 c2 c3 c4
    rintro e w3 ⟨rfl, hb3⟩
    have HB3 := Lib.hid (And.intro (HB2.out.1.next hb3) (HB2.out.2.1.trans (hb3.mono HB2.out.2.1.size))); clear hb3 HB2
    cases hw : vldW wt with
    | false =>
      have HG := Lib.hid (show givenB l u wt = false by unfold givenB; rw [hw]; simp)
      go_wp2_with fail
      go_ret
      exact ⟨ret_bool HG.out.symm, HB3.out.2⟩
    | true =>
      by_cases h12 : u.length = 12
      · have HG := Lib.hid (show givenB l u wt = usedOk u by unfold givenB; rw [hv, hw]; simp [h12])
        have h13 : ((u.length : Int) == 12) = true := by simp; omega
        clear h12
        go_wp2_with fail
        go_loopw [7] (fun iv wr => ∃ k : Nat, iv = .int .i64 k ∧ k ≤ u.length ∧ Hid ((u.take k).all (fun n => inR n 0 1000000) = true ∧ Below w3.heap.size w3 wr)) (fun iv wr => u.length - (intOf iv).toNat)
        case atStart => exact ⟨0, rfl, Nat.zero_le _, Lib.hid ⟨by simp, Below.refl _ _⟩⟩
        case round =>
          obtain ⟨k, rfl, hk, HI⟩ := hrel
          have HBr := Lib.hid (HB3.out.2.trans (HI.out.2.mono HB3.out.2.size))
          by_cases h1 : k < u.length
          · have hkI : (k : Int) < (u.length : Int) := by omega
            obtain ⟨ad, e, hx⟩ := Kd.at_int (Kd.C_below HB3.out.1.ru HI.out.2) (k : Int) (by omega) hkI
            cases e
            simp only [Int.toNat_natCast] at hx
            rw [rd_get h1] at hx
            have hno := all_no (f := fun n => inR n 0 1000000) h1
            have hyes := all_take (f := fun n => inR n 0 1000000) h1 HI.out.1
            generalize u[k] = x at *
            have HY := Lib.hid (And.intro hno hyes); clear hno hyes
            have hcase : (decide (x < 0) = true ∧ inR x 0 1000000 = false) ∨ (decide (x < 0) = false ∧ decide (1000000 < x) = true ∧ inR x 0 1000000 = false) ∨ (decide (x < 0) = false ∧ decide (1000000 < x) = false ∧ inR x 0 1000000 = true) := by
              unfold inR
              simp only [decide_eq_true_eq, decide_eq_false_iff_not, Bool.and_eq_true, Bool.and_eq_false_iff]
              omega
            clear h13
            rcases hcase with ⟨n0, n2⟩ | ⟨n0, n1, n2⟩ | ⟨n0, n1, n2⟩
            · have HN := Lib.hid (HY.out.1 n2)
              clear n2
              go_wp2_with fail
              go_ret
              exact ⟨ret_bool (by rw [HG.out]; exact HN.out.symm), HBr.out⟩
            · have HN := Lib.hid (HY.out.1 n2)
              clear n2
              go_wp2_with fail
              go_ret
              exact ⟨ret_bool (by rw [HG.out]; exact HN.out.symm), HBr.out⟩
            · have HN := Lib.hid (HY.out.2 n2)
              clear n2
              go_wp2_with fail
              go_roundw
              case rel => exact ⟨k + 1, by go_num, by omega, Lib.hid ⟨HN.out, HI.out.2⟩⟩
              case measure => simp [intOf]; omega
          · obtain rfl : k = u.length := by omega
            have HF := Lib.hid (show usedOk u = true by have := HI.out.1; rwa [List.take_length] at this)
            clear h13
            go_wp2_with fail
            go_ret
            exact ⟨ret_bool (by rw [HG.out, HF.out]), HBr.out⟩
      · have h13 : ((u.length : Int) == 12) = false := by simp; omega
        have HG := Lib.hid (show givenB l u wt = false by unfold givenB; simp [h12])
        clear h12
        go_wp2_with fail
        go_ret
        exact ⟨ret_bool HG.out.symm, HB3.out.2⟩
end Go.Proofs.YtnabgijdbcdpmaaDoor

namespace Go.Proofs.YtnabgijdbcdpmaaDoor
open Go.RowKit Go.Rg Go.Proofs.YtnabgijdbcdpmaaDoor.PRightsMatchesReference Go.Proofs.YtnabgijdbcdpmaaDoorW.PrintWords
set_option linter.unusedVariables false
set_option linter.unusedSimpArgs false

set_option maxRecDepth 100000 in
set_option maxHeartbeats 4000000 in
theorem rforbids_any (X : Cl) (UA : Option Addr) (uc : Nat) (u : List Int) (wt : Wt) (WA : Option Addr) (wn : Nat) (PA : Option Addr) (pc : Nat) (p : List Int) (w : World) (hu : (Kd.int .i64).C w UA u.length u) (h12 : u.length = 12) (huo : usedOk u = true) (hw : (Kd.slice 3 (Kd.int .i64)).C w WA wt.needs.length wt.needs) (hp : (Kd.int .i64).C w PA p.length p) :
    Calls Tryd.prog 54 #[clv X, .slice UA u.length uc, wtv wt WA wn, .slice PA p.length pc] w fun e w' => e = .returned (.bool (forb u wt p X)) ∧ Below w.heap.size w w' := by
  obtain ⟨hb, hk0, hk1, hsz⟩ := two_box w (clc X) (wtc wt WA wn) 40 29
  have h1 := rapplies_any X wt WA wn ((w.alloc (.cells (clc X) 40)).alloc (.cells (wtc wt WA wn) 29)) (Kd.C_below hw hb)
  have hbd : applies X wt = true → (0 ≤ X.f0 ∧ X.f0 ≤ 11 ∧ 1 ≤ X.f1 ∧ X.f1 ≤ 4) ∧ (1 ≤ wt.us ∧ wt.us ≤ 1000000) := fun h => by
    unfold applies at h
    simp only [Bool.and_eq_true] at h
    have a := vld_bd h.1
    have b := vldW_bd h.2.1
    omega
  have hfb : ∀ b, forb u wt p X = b ↔ (applies X wt && forbK X u wt p) = b := fun b => Iff.rfl
  obtain ⟨f0, f1, f2, f3, f4, f5, f6, f7⟩ := X
  unfold forbK at hfb
  unfold wtv clv at *
  unfold wtc clc at *
  simp only at hb hk0 hk1 hsz h1 hbd hfb ⊢
  generalize forb u wt p ⟨f0, f1, f2, f3, f4, f5, f6, f7⟩ = B at *
  generalize applies ⟨f0, f1, f2, f3, f4, f5, f6, f7⟩ wt = a at *
  have HFB := Lib.hid ((hfb B).1 rfl); clear hfb
  have HBD := Lib.hid hbd; clear hbd
  have H1 := Lib.hid h1; clear h1
  have HU := Lib.hid (And.intro hu (And.intro h12 huo)); clear hu h12 huo
  have HP := Lib.hid hp; clear hp
  have HB := Lib.hid (And.intro hb (And.intro hk0 hk1))
  have c0 := cell_of (o := 0) hk0 rfl
  have c1 := cell_of (o := 1) hk0 rfl
  have c2 := cell_of (o := 2) hk0 rfl
  have c3 := cell_of (o := 3) hk0 rfl
  have c4 := cell_of (o := 4) hk0 rfl
  have c5 := cell_of (o := 5) hk0 rfl
  have c6 := cell_of (o := 6) hk0 rfl
  have c7 := cell_of (o := 7) hk0 rfl
  have d0 := cell_of (o := 0) hk1 rfl
  have d1 := cell_of (o := 1) hk1 rfl
  have d2 := cell_of (o := 2) hk1 rfl
  have d3 := cell_of (o := 3) hk1 rfl
  have d4 := cell_of (o := 4) hk1 rfl
  clear hb hk0 hk1 hw hsz
  go_enter Tryd.func54, Tryd.ntmps54
  go_wp2_with fail
  refine H1.out.mono ?_
  clear c0 c1 c2 c3 c4 c5 c6 c7 d0 d1 d2 d3 d4 H1
  rintro e w2 ⟨rfl, hb2⟩
  have hB2 := HB.out.1.trans (hb2.mono HB.out.1.size)
  have hk0 := (hb2.block _ (Array.getElem?_eq_some_iff.1 HB.out.2.1).1).trans HB.out.2.1
  have hk1 := (hb2.block _ (Array.getElem?_eq_some_iff.1 HB.out.2.2).1).trans HB.out.2.2
  have HB2 := Lib.hid (And.intro hB2 (And.intro hk0 hk1)); clear hB2 hk0 hk1 hb2 HB
  cases a with
  | false =>
    have HN := Lib.hid (show B = false by have := HFB.out; simpa using this.symm)
    go_wp2_with fail
    go_ret
    exact ⟨ret_bool HN.out.symm, HB2.out.1⟩
  | true =>
    obtain ⟨⟨p0, p1, p2, p3⟩, p4, p5⟩ := HBD.out rfl
    have c0 := cell_of (o := 0) HB2.out.2.1 rfl
    go_wp2_with fail
    refine (has_any PA pc p f0 w2 (Kd.C_below HP.out HB2.out.1)).mono ?_
    clear c0
    rintro e w3 ⟨rfl, hb3⟩
    have hB3 := HB2.out.1.trans (hb3.mono HB2.out.1.size)
    have hk0 := (hb3.block _ (Array.getElem?_eq_some_iff.1 HB2.out.2.1).1).trans HB2.out.2.1
    have hk1 := (hb3.block _ (Array.getElem?_eq_some_iff.1 HB2.out.2.2).1).trans HB2.out.2.2
    have HB3 := Lib.hid (And.intro hB3 (And.intro hk0 hk1)); clear hB3 hk0 hk1 hb3 HB2 HBD
    cases hh : hasI p f0 with
    | false =>
      have HN := Lib.hid (show B = false by have := HFB.out; rw [hh] at this; simp only [Bool.false_and, ite_self, Bool.and_false] at this; simpa using this.symm)
      go_wp2_with fail
      go_ret
      exact ⟨ret_bool HN.out.symm, HB3.out.1⟩
    | true =>
      have c0 := cell_of (o := 0) HB3.out.2.1 rfl
      have c1 := cell_of (o := 1) HB3.out.2.1 rfl
      have c6 := cell_of (o := 6) HB3.out.2.1 rfl
      have c7 := cell_of (o := 7) HB3.out.2.1 rfl
      have d3 := cell_of (o := 3) HB3.out.2.2 rfl
      have hf1 : f1 = 1 ∨ f1 = 2 ∨ f1 = 3 ∨ f1 = 4 := by omega
      rcases hf1 with rfl | rfl | rfl | rfl
      · have HN := Lib.hid (show B = false by have := HFB.out; simpa using this.symm)
        go_wp2_with fail
        go_ret
        exact ⟨ret_bool HN.out.symm, HB3.out.1⟩
      · have HN := Lib.hid (show B = true by have := HFB.out; simpa [hh] using this.symm)
        go_wp2_with fail
        go_ret
        exact ⟨ret_bool HN.out.symm, HB3.out.1⟩
      · have HN := Lib.hid (show B = decide (f6 < rd u f0 + wt.us) by have := HFB.out; simpa [hh] using this.symm)
        have hlu : f0 < (u.length : Int) := by have := HU.out.2.1; omega
        obtain ⟨ub0, ub1⟩ := used_bd HU.out.2.2 HU.out.2.1 p0 p1
        obtain ⟨gd, e, hu⟩ := Kd.at_int (Kd.C_below HU.out.1 HB3.out.1) f0 p0 hlu
        cases e
        have hwr : wrap64 (rd u f0 + wt.us) = rd u f0 + wt.us := wrap_in (by omega) (by omega)
        generalize rd u f0 = uf at *
        have e0 := cell_ext c0
        have e6 := cell_ext c6
        have e3 := cell_ext d3
        have eu := cell_ext hu
        go_wp2_with fail
        refine region_ext (by kernel_rfl) (by kernel_rfl) ?_
        repeat (go_big_quiet_step (fail))
        refine wpQuiet_nil ?_
        rintro W' ⟨X, rfl⟩
        go_wp2_with fail
        go_ret
        exact ⟨ret_bool HN.out.symm, HB3.out.1.trans (X.2.below (fun _ _ h => h) HB3.out.1.size)⟩
      · have HN := Lib.hid (show B = hasI p f7 by have := HFB.out; simpa [hh] using this.symm)
        go_wp2_with fail
        refine (has_any PA pc p f7 w3 (Kd.C_below HP.out HB3.out.1)).mono ?_
        rintro e w4 ⟨rfl, hb4⟩
        have HB4 := Lib.hid (HB3.out.1.trans (hb4.mono HB3.out.1.size))
        clear hb4 c0 c1 c6 c7 d3
        go_wp2_with fail
        go_ret
        exact ⟨ret_bool HN.out.symm, HB4.out⟩
end Go.Proofs.YtnabgijdbcdpmaaDoor

namespace Go.Proofs.YtnabgijdbcdpmaaDoor
open Go.RowKit Go.Rg Go.Proofs.YtnabgijdbcdpmaaDoor.PRightsMatchesReference Go.Proofs.YtnabgijdbcdpmaaDoorW.PrintWords
set_option linter.unusedVariables false
set_option linter.unusedSimpArgs false

/-- The numbers below k whose bits are set. -/
def idxTo (m k : Nat) : List Int := ((List.range k).filter fun i => m.testBit i).map Int.ofNat
theorem idxTo_succ (m k : Nat) : idxTo m (k + 1) = idxTo m k ++ if m.testBit k = true then [(k : Int)] else [] := by
  unfold idxTo
  rw [List.range_succ, List.filter_append, List.map_append, List.filter_cons]
  split <;> simp
theorem idxTo_len (m k : Nat) : (idxTo m k).length ≤ k := by
  unfold idxTo
  rw [List.length_map]
  exact Nat.le_trans (List.length_filter_le _ _) (by simp)
theorem idxTo_add {m n : Nat} (h : m < 2 ^ n) : ∀ d, idxTo m (n + d) = idxTo m n
  | 0 => rfl
  | d + 1 => by
    rw [← Nat.add_assoc, idxTo_succ, idxTo_add h d, if_neg]
    · simp
    · rw [Nat.testBit_lt_two_pow (Nat.lt_of_lt_of_le h (Nat.pow_le_pow_right (by decide) (by omega)))]; simp
theorem idxs_to {m n : Nat} (h : m < 2 ^ n) (hn : n ≤ 12) : idxs m = idxTo m n := by
  have := idxTo_add h (12 - n)
  rw [Nat.add_sub_cancel' hn] at this
  exact this
theorem bits_test : ∀ (bs : List Bool) (i : Nat) (h : i < bs.length), (bits bs).testBit i = bs[i]
  | b :: r, 0, _ => by
    simp only [bits, Nat.testBit_zero, List.getElem_cons_zero]
    cases b <;> simp <;> omega
  | b :: r, i + 1, h => by
    have h2 : i < r.length := by simpa using h
    rw [List.getElem_cons_succ, ← bits_test r i h2, Nat.testBit_succ]
    congr 1
    simp only [bits]
    split <;> omega
theorem brk_test {l : List Cl} {u : List Int} {wt : Wt} {p : List Int} {i : Nat} (h : i < l.length) : (brk l u wt p).testBit i = forb u wt p l[i] := by
  unfold brk
  rw [bits_test _ i (by simpa using h), List.getElem_map]
theorem brokenOk_isPk (l : List Cl) (u : List Int) (wt : Wt) (p : List Int) : brokenOk l u wt p = (givenB l u wt && isPk (offered l wt) wt.needs [] p) := by
  unfold brokenOk
  congr 1
  rw [Bool.eq_iff_iff, decide_eq_true_eq, mem_packs]

set_option maxRecDepth 100000 in
set_option maxHeartbeats 4000000 in
theorem rBroken_any (A : Option Addr) (c : Nat) (l : List Cl) (UA : Option Addr) (uc : Nat) (u : List Int) (wt : Wt) (WA : Option Addr) (wn : Nat) (PA : Option Addr) (pc : Nat) (p : List Int) (w : World) (hA : Args w A c l UA uc u wt WA wn) (hp : (Kd.int .i64).C w PA p.length p) (hpc : p.length ≤ pc) :
    Calls Tryd.prog 25 #[.slice A l.length c, .slice UA u.length uc, wtv wt WA wn, .slice PA p.length pc] w fun e w' => ∃ v, e = .returned (.tuple #[v, .int .i64 (brokenE l u wt p)]) ∧ (Kd.int .i64).R 3 w' w.heap.size (fun k => w.heap.size ≤ k) v (brokenL l u wt p) ∧ Below w.heap.size w w' := by
  have hb := (Below.refl w.heap.size w).alloc (Nat.le_refl _) (.cells (wtc wt WA wn) 29)
  have hk0 := heap_new (o := .cells (wtc wt WA wn) 29) (W := w) rfl
  have hA1 := hA.next hb
  have hp1 := Kd.C_below hp hb
  have hml := max_len hA.rl
  have hmp := max_len hp
  have hq := brokenOk_isPk l u wt p
  have hE : brokenE l u wt p = if brokenOk l u wt p = true then 0 else 290 := rfl
  have hL : brokenL l u wt p = if brokenOk l u wt p = true then idxs (brk l u wt p) else [] := rfl
  rw [hq] at hE hL
  rw [hE, hL]
  clear hq hE hL
  have HB := Lib.hid (And.intro hA1 (And.intro hb (And.intro hk0 hp1))); clear hA hp hA1 hb hk0 hp1
  unfold wtc at HB
  unfold wtv
  go_enter Tryd.func25, Tryd.ntmps25
  have hG := fun (W : World) (h : Args W A c l UA uc u wt WA wn) => rgiven_any A c l UA uc u wt WA wn W h
  have hI := fun (W : World) (h : Args W A c l UA uc u wt WA wn) (hp : (Kd.int .i64).C W PA p.length p) => isPkg_any A c l wt WA wn PA pc p W h.rl h.rw hp hpc
  unfold wtv at hG hI
  generalize hgv : givenB l u wt = gv at *
  generalize hpv : isPk (offered l wt) wt.needs [] p = pv at *
  have HG := Lib.hid (And.intro hG hI); clear hG hI
  have HGV := Lib.hid (And.intro hgv hpv); clear hgv hpv
  go_wp2_with fail
  generalize hw1 : w.alloc (.cells #[.int .i64 wt.te, .int .i64 wt.cl, .int .i64 wt.at_, .int .i64 wt.us, .slice WA wt.needs.length wn] 29) = w1 at *
  refine (HG.out.1 w1 HB.out.1).mono ?_
  rintro e w2 ⟨rfl, hb2⟩
  have HB2 := Lib.hid (And.intro (HB.out.1.next hb2) (And.intro (HB.out.2.1.trans (hb2.mono HB.out.2.1.size)) (And.intro ((hb2.block _ (Array.getElem?_eq_some_iff.1 HB.out.2.2.1).1).trans HB.out.2.2.1) (Kd.C_below HB.out.2.2.2 hb2)))); clear hb2 HB hw1
  cases gv with
  | false =>
    go_wp2_with fail
    go_ret2
    exact ⟨_, rfl, Kd.R_nil _ _ _ _ _, HB2.out.2.1⟩
  | true =>
    have c0 := cell_of (o := 0) HB2.out.2.2.1 rfl
    have c1 := cell_of (o := 1) HB2.out.2.2.1 rfl
    have c2 := cell_of (o := 2) HB2.out.2.2.1 rfl
    have c3 := cell_of (o := 3) HB2.out.2.2.1 rfl
    have c4 := cell_of (o := 4) HB2.out.2.2.1 rfl
    go_wp2_with fail
    refine (HG.out.2 w2 HB2.out.1 HB2.out.2.2.2).mono ?_
    clear c0 c1 c2 c3 c4
    rintro e w3 ⟨rfl, hb3⟩
    have HB3 := Lib.hid (And.intro (HB2.out.1.next hb3) (And.intro (HB2.out.2.1.trans (hb3.mono HB2.out.2.1.size)) (And.intro ((hb3.block _ (Array.getElem?_eq_some_iff.1 HB2.out.2.2.1).1).trans HB2.out.2.2.1) (Kd.C_below HB2.out.2.2.2 hb3)))); clear hb3 HB2 HG
    cases pv with
    | false =>
      go_wp2_with fail
      go_ret2
      exact ⟨_, rfl, Kd.R_nil _ _ _ _ _, HB3.out.2.1⟩
    | true =>
      have hgv := HGV.out.1
      have HL12 := Lib.hid (given_of hgv)
      have hlt2 : brk l u wt p < 2 ^ l.length := brk_lt l u wt p
      have HID := Lib.hid (idxs_to hlt2 HL12.out.1); clear hlt2 hgv
      have hzw : w.heap.size ≤ w3.heap.size := HB3.out.2.1.size
      go_wp2_with fail
      go_loopw [10, 11] (fun ov iv wr => ∃ k : Nat, k ≤ l.length ∧ iv = .int .i64 k ∧ Hid ((Kd.int .i64).R 3 wr w3.heap.size (fun k => w3.heap.size ≤ k) ov (idxTo (brk l u wt p) k) ∧ Below w3.heap.size w3 wr)) (fun ov iv wr => l.length - (intOf iv).toNat)
      case atStart => exact ⟨0, Nat.zero_le _, rfl, Lib.hid ⟨Kd.R_nil _ _ _ _ _, Below.refl _ _⟩⟩
      case round =>
        obtain ⟨k, hk, rfl, HI⟩ := hrel
        obtain ⟨OA, oc, rfl, hoc, hOC⟩ := Kd.R_reads HI.out.1
        clear hOC hoc
        by_cases h1 : k < l.length
        · have hkI : (k : Int) < (l.length : Int) := by omega
          have hArg : Args wr A c l UA uc u wt WA wn := HB3.out.1.next HI.out.2
          obtain ⟨ad, e, x0, x1, x2, x3, x4, x5, x6, x7⟩ := at_T40 hArg.rl (k : Int) (by omega) hkI
          cases e
          simp only [Int.toNat_natCast] at x0 x1 x2 x3 x4 x5 x6 x7
          have hrd : rd_T40 l (k : Int) = l[k] := by unfold rd_T40; simp [h1]
          rw [hrd] at x0 x1 x2 x3 x4 x5 x6 x7
          clear hrd
          have hF : ∀ x : Ext wr, _ := fun x => rforbids_any l[k] UA uc u wt WA wn PA pc p x.val (Kd.C_below hArg.ru (x.2.below (fun _ _ h => h) (Nat.le_refl _))) HL12.out.2.1 HL12.out.2.2.1 (Kd.C_below hArg.rw (x.2.below (fun _ _ h => h) (Nat.le_refl _))) (Kd.C_below (Kd.C_below HB3.out.2.2.2 HI.out.2) (x.2.below (fun _ _ h => h) (Nat.le_refl _)))
          have hs := idxTo_succ (brk l u wt p) k
          rw [brk_test h1] at hs
          generalize l[k] = Y at *
          obtain ⟨f0, f1, f2, f3, f4, f5, f6, f7⟩ := Y
          unfold clv wtv at hF
          simp only at x0 x1 x2 x3 x4 x5 x6 x7 hF
          generalize forb u wt p ⟨f0, f1, f2, f3, f4, f5, f6, f7⟩ = b at *
          have HF := Lib.hid hF; clear hF hArg
          have HSc := Lib.hid hs; clear hs
          have hkx := (HI.out.2.block _ (Array.getElem?_eq_some_iff.1 HB3.out.2.2.1).1).trans HB3.out.2.2.1
          have c0 := cell_ext (cell_of (o := 0) hkx rfl)
          have c1 := cell_ext (cell_of (o := 1) hkx rfl)
          have c2 := cell_ext (cell_of (o := 2) hkx rfl)
          have c3 := cell_ext (cell_of (o := 3) hkx rfl)
          have c4 := cell_ext (cell_of (o := 4) hkx rfl)
          have z0 := cell_ext x0
          have z1 := cell_ext x1
          have z2 := cell_ext x2
          have z3 := cell_ext x3
          have z4 := cell_ext x4
          have z5 := cell_ext x5
          have z6 := cell_ext x6
          have z7 := cell_ext x7
          have hil := idxTo_len (brk l u wt p) k
          generalize idxTo (brk l u wt p) k = out at *
          clear x0 x1 x2 x3 x4 x5 x6 x7 hkx
          go_wp2_with fail
          refine region_ext (by kernel_rfl) (by kernel_rfl) ?_
          repeat (go_big_quiet_step ((go_at_call 54; with_reducible exact call_ext (HF.out _))))
          refine wpQuiet_nil ?_
          rintro W' ⟨X, rfl⟩
          have hX := X.2.below (fun _ _ h => h) (Nat.le_refl _)
          have HIX := Lib.hid (And.intro (Kd.R_below HI.out.1 hX) (HI.out.2.trans (hX.mono HI.out.2.size))); clear hX HI HF
          clear c0 c1 c2 c3 c4 z0 z1 z2 z3 z4 z5 z6 z7
          cases b with
          | false =>
            go_wp2_with fail
            go_roundw
            case rel => exact ⟨k + 1, by omega, by go_num, Lib.hid ⟨by rw [HSc.out]; simpa using HIX.out.1, HIX.out.2⟩⟩
            case measure => simp [intOf]; omega
          | true =>
            have hA := (Below.refl X.val.heap.size X.val).alloc (Nat.le_refl _) (.cells #[.int .i64 (k : Int)] 3)
            have hRow := introw (xs := [(k : Int)]) (by simp) (heap_new (o := .cells #[.int .i64 (k : Int)] 3) (W := X.val) rfl)
            have HOX := Lib.hid (And.intro (Kd.R_below HIX.out.1 hA) (And.intro hRow (And.intro (HIX.out.2.trans (hA.mono HIX.out.2.size)) (Nat.le_trans HIX.out.2.size hA.size)))); clear hA hRow
            have hl12 := HL12.out.1
            go_wp2_with (at_builtin; go_loud (refine Kd.R_append_rows (Kd.int .i64) (w0 := w3) (Rr := fun x cs => cs = [.int .i64 x]) w3.heap.size rfl (.tmp 38) (.tmp 40) 23 3 (.int .i64 0) 8 rfl Tryd.underlying23 info3 rfl (by decide) (by decide) _ out [(k : Int)] _ 1 1 (fun k => w3.heap.size ≤ k) (fun _ => False) rfl rfl HOX.out.1 HOX.out.2.1 (fun _ _ h => h) (fun _ h => h.elim) (fun k hk => Nat.le_trans HOX.out.2.2.2 hk) HOX.out.2.2.1 HOX.out.2.2.2 (by omega) ?_; intro v1 w7 h1 h2 h3 h4))
            have HJ := Lib.hid (And.intro h1 h2); clear h1 h2 h3 h4
            go_wp2_with fail
            go_roundw
            case rel => exact ⟨k + 1, by omega, by go_num, Lib.hid ⟨by rw [HSc.out]; simpa using HJ.out.1, HJ.out.2⟩⟩
            case measure => simp [intOf]; omega
        · obtain rfl : k = l.length := by omega
          go_wp2_with fail
          go_ret2
          exact ⟨_, rfl, by rw [HID.out]; exact Kd.R_lower (Kd.R_mono HI.out.1 (fun k hk => Nat.le_trans hzw hk)) hzw, HB3.out.2.1.trans (HI.out.2.mono hzw)⟩

set_option maxRecDepth 100000 in
theorem rLawful_any (A : Option Addr) (c : Nat) (l : List Cl) (UA : Option Addr) (uc : Nat) (u : List Int) (wt : Wt) (WA : Option Addr) (wn : Nat) (PA : Option Addr) (pc : Nat) (p : List Int) (w : World) (hA : Args w A c l UA uc u wt WA wn) (hp : (Kd.int .i64).C w PA p.length p) (hpc : p.length ≤ pc) :
    Calls Tryd.prog 27 #[.slice A l.length c, .slice UA u.length uc, wtv wt WA wn, .slice PA p.length pc] w fun e w' => e = .returned (.bool (lawB l u wt p)) ∧ Below w.heap.size w w' := by
  have hb := (Below.refl w.heap.size w).alloc (Nat.le_refl _) (.cells (wtc wt WA wn) 29)
  have hC := rBroken_any A c l UA uc u wt WA wn PA pc p _ (hA.next hb) (Kd.C_below hp hb) hpc
  have q1 : (brokenE l u wt p == 0) = decide (brokenE l u wt p = 0) := beqD _ _
  have hB : lawB l u wt p = (decide (brokenE l u wt p = 0) && decide (((brokenL l u wt p).length : Int) = 0)) := rfl
  have q2 : (((brokenL l u wt p).length : Int) == 0) = decide (((brokenL l u wt p).length : Int) = 0) := beqD _ _
  rw [hB]
  clear hB hA hp
  generalize decide (((brokenL l u wt p).length : Int) = 0) = b2 at *
  generalize decide (brokenE l u wt p = 0) = b1 at *
  unfold wtv at hC ⊢
  unfold wtc at hb hC
  have HB := Lib.hid hb; clear hb
  have HC := Lib.hid hC; clear hC
  go_enter Tryd.func27, Tryd.ntmps27
  go_wp2_with fail
  refine HC.out.mono ?_
  rintro e w2 ⟨v, rfl, hR, hb2⟩
  obtain ⟨VA, vc, rfl, hvc, hVC⟩ := Kd.R_reads hR
  have hvm := max_len hVC
  have HB2 := Lib.hid (HB.out.trans (hb2.mono HB.out.size)); clear hb2 hR hVC
  generalize brokenE l u wt p = E at *
  generalize (brokenL l u wt p).length = n at *
  cases b1
  · go_wp2_with fail
    go_ret
    exact ⟨rfl, HB2.out⟩
  · go_wp2_with fail
    go_ret
    exact ⟨ret_bool (by simp), HB2.out⟩
end Go.Proofs.YtnabgijdbcdpmaaDoor

namespace Go.Proofs.YtnabgijdbcdpmaaDoor
open Go.RowKit Go.Rg Go.Proofs.YtnabgijdbcdpmaaDoor.PRightsMatchesReference Go.Proofs.YtnabgijdbcdpmaaDoorW.PrintWords
set_option linter.unusedVariables false
set_option linter.unusedSimpArgs false

/-- A slice's head: where it lies, its length, its capacity. -/
abbrev Hd := Option Addr × Nat × Nat
def hdv (h : Hd) : Value := .slice h.1 h.2.1 h.2.2
/-- A row of slices' heads. -/
abbrev kh : Kd Hd := Kd.scalar hdv (fun _ => rfl)
def One (W : World) (h : Hd) (x : List Int) : Prop := h.2.1 = x.length ∧ x.length ≤ h.2.2 ∧ (Kd.int .i64).C W h.1 x.length x
def Hds (W : World) : List Hd → List (List Int) → Prop
  | [], [] => True
  | h :: hs, x :: xs => One W h x ∧ Hds W hs xs
  | [], _ :: _ => False
  | _ :: _, [] => False
theorem Hds.below {W W' : World} (hb : Below W.heap.size W W') : ∀ {hs : List Hd} {xs : List (List Int)}, Hds W hs xs → Hds W' hs xs
  | [], [], _ => trivial
  | h :: hs, x :: xs, ⟨h1, h2⟩ => ⟨⟨h1.1, h1.2.1, Kd.C_below h1.2.2 hb⟩, Hds.below hb h2⟩
theorem Hds.len {W : World} : ∀ {hs : List Hd} {xs : List (List Int)}, Hds W hs xs → hs.length = xs.length
  | [], [], _ => rfl
  | h :: hs, x :: xs, ⟨_, h2⟩ => by simp [Hds.len h2]
theorem Hds.snoc {W : World} {y : Hd} {z : List Int} (hz : One W y z) : ∀ {hs : List Hd} {xs : List (List Int)}, Hds W hs xs → Hds W (hs ++ [y]) (xs ++ [z])
  | [], [], _ => ⟨hz, trivial⟩
  | h :: hs, x :: xs, ⟨h1, h2⟩ => ⟨h1, Hds.snoc hz h2⟩
theorem Hds.get {W : World} : ∀ {hs : List Hd} {xs : List (List Int)} {i : Nat}, Hds W hs xs → (h1 : i < hs.length) → (h2 : i < xs.length) → One W hs[i] xs[i]
  | y :: hs, x :: xs, 0, h, _, _ => h.1
  | y :: hs, x :: xs, i + 1, h, h1, h2 => Hds.get (i := i) h.2 (by simpa using h1) (by simpa using h2)
theorem C_heads {W : World} {A : Option Addr} {hs : List Hd} {xs : List (List Int)} (h : kh.C W A hs.length hs) (hx : Hds W hs xs) : (Kd.slice 3 (Kd.int .i64)).C W A xs.length xs := by
  have hl := hx.len
  refine ⟨rfl, by rw [← hl]; exact h.2.1, fun h0 => ?_⟩
  obtain ⟨ad, e, hc⟩ := h.2.2 (by omega)
  refine ⟨ad, e, fun j p hj => ?_⟩
  obtain ⟨hj1, rfl⟩ := List.getElem?_eq_some_iff.1 hj
  obtain ⟨cs, hlen, hcs, hget⟩ := hc j hs[j] (List.getElem?_eq_getElem (by omega))
  have ho := hx.get (i := j) (by omega) hj1
  refine ⟨cs, hlen, ⟨hs[j].1, hs[j].2.2, ?_, ho.2.1, ho.2.2⟩, hget⟩
  rw [show cs = [hdv hs[j]] from hcs]
  show [Value.slice _ _ _] = _
  rw [ho.1]
theorem onehead {W : World} {g : Nat} {e : TypeId} {y : Hd} (h : W.heap[g]? = some (.cells #[hdv y] e (0, 0))) : kh.C W (some ⟨g, 0, none⟩) 1 [y] := by
  refine ⟨rfl, by decide, fun _ => ⟨_, rfl, fun j p hj => ⟨[hdv p], rfl, rfl, fun i u hi => ?_⟩⟩⟩
  obtain ⟨hjl, hp⟩ := List.getElem?_eq_some_iff.1 hj
  have hj0 : j = 0 := by simpa using hjl
  subst hj0
  cases i with
  | zero =>
    obtain rfl : hdv p = u := by simpa using hi
    rw [add_plain]
    refine cell_of h ?_
    simp at hp
    simp [hp]
  | succ i => simp at hi
theorem One.take {W : World} {A : Option Addr} {n c : Nat} {x : List Int} (h : One W (A, n, c) x) (m : Nat) : One W (A, min x.length m, c) (x.take m) := by
  refine ⟨by simp [Nat.min_comm], ?_, ?_⟩
  · rw [List.length_take]; have := h.2.1; show _ ≤ c; have : x.length ≤ c := this; omega
  · have h1 := C_take h.2.2 (k := min x.length m) (by omega)
    have e2 : (x.take m).length = min x.length m := by rw [List.length_take, Nat.min_comm]
    have e : x.take (min x.length m) = x.take m := by
      rcases Nat.le_total x.length m with hh | hh
      · rw [Nat.min_eq_left hh, List.take_length, List.take_of_length_le hh]
      · rw [Nat.min_eq_right hh]
    rw [e] at h1
    show (Kd.int .i64).C W A (x.take m).length (x.take m)
    rw [e2]
    exact h1
def fewN (ns : List (List Int)) : List (List Int) := (ns.take 5).map (List.take 5)
theorem fewN_succ {ns : List (List Int)} {k : Nat} (h : k < ns.length) : (ns.take (k + 1)).map (List.take 5) = (ns.take k).map (List.take 5) ++ [(ns[k]).take 5] := by
  rw [List.take_succ_eq_append_getElem h, List.map_append]; rfl
/-- What few answers. -/
def FewPost (wt : Wt) (w : World) (e : Ending) (w' : World) : Prop := ∃ WA wn, e = .returned (wtv { wt with needs := fewN wt.needs } WA wn) ∧ (Kd.slice 3 (Kd.int .i64)).C w' WA (fewN wt.needs).length (fewN wt.needs) ∧ Below w.heap.size w w'
theorem few_end {wt : Wt} {w W : World} {OA : Option Addr} {oc : Nat} {hs : List Hd} (hR : kh.R 23 W (w.heap.size + 2) (fun k => w.heap.size + 2 ≤ k) (.slice OA hs.length oc) hs) (hH : Hds w hs (fewN wt.needs)) (hB : Below w.heap.size w W) (y : Value) (x0 x1 x2 x3 x4 : Value) :
    FewPost wt w (.returned (.agg #[.int .i64 wt.te, .int .i64 wt.cl, .int .i64 wt.at_, .int .i64 wt.us, .slice OA hs.length oc])) ((((((W.setCell ⟨w.heap.size, 4, none⟩ y).setCell ⟨w.heap.size + 1, 0, none⟩ x0).setCell ⟨w.heap.size + 1, 1, none⟩ x1).setCell ⟨w.heap.size + 1, 2, none⟩ x2).setCell ⟨w.heap.size + 1, 3, none⟩ x3).setCell ⟨w.heap.size + 1, 4, none⟩ x4) := by
  have hR1 := Kd.R_far hR (p := ⟨w.heap.size, 4, none⟩) (fun k hk => by show k ≠ w.heap.size; omega) y
  have f : ∀ {V : World} (o : Nat) (x : Value), kh.R 23 V (w.heap.size + 2) (fun k => w.heap.size + 2 ≤ k) (.slice OA hs.length oc) hs → kh.R 23 (V.setCell ⟨w.heap.size + 1, o, none⟩ x) (w.heap.size + 2) (fun k => w.heap.size + 2 ≤ k) (.slice OA hs.length oc) hs := fun o x h => Kd.R_far h (p := ⟨w.heap.size + 1, o, none⟩) (fun k hk => by show k ≠ w.heap.size + 1; omega) x
  have hR6 := f 4 x4 (f 3 x3 (f 2 x2 (f 1 x1 (f 0 x0 hR1))))
  have hB1 := hB.setCell (p := ⟨w.heap.size, 4, none⟩) (Nat.le_refl _) y
  have hB6 := ((((hB1.setCell (p := ⟨w.heap.size + 1, 0, none⟩) (Nat.le_succ _) x0).setCell (p := ⟨w.heap.size + 1, 1, none⟩) (Nat.le_succ _) x1).setCell (p := ⟨w.heap.size + 1, 2, none⟩) (Nat.le_succ _) x2).setCell (p := ⟨w.heap.size + 1, 3, none⟩) (Nat.le_succ _) x3).setCell (p := ⟨w.heap.size + 1, 4, none⟩) (Nat.le_succ _) x4
  refine ⟨OA, oc, ?_, C_heads (Kd.R_reads' hR6).2.2 (hH.below hB6), hB6⟩
  unfold wtv
  rw [hH.len]

set_option maxRecDepth 100000 in
set_option maxHeartbeats 4000000 in
theorem few_any (wt : Wt) (WA : Option Addr) (wn : Nat) (w : World) (hw : (Kd.slice 3 (Kd.int .i64)).C w WA wt.needs.length wt.needs) :
    Calls Tryd.prog 14 #[wtv wt WA wn] w (FewPost wt w) := by
  have hm := max_len hw
  obtain ⟨hb, hk0, hk1, hsz⟩ := two_box w (wtc wt WA wn) #[.int .i64 0, .int .i64 0, .int .i64 0, .int .i64 0, .slice none 0 0] 29 29
  have HB := Lib.hid (And.intro hb (And.intro hk0 (And.intro hk1 (And.intro hw hsz)))); clear hb hk0 hk1 hw hsz
  unfold wtv
  unfold wtc at HB
  go_enter Tryd.func14, Tryd.ntmps14
  go_wp2_with fail
  generalize hw1 : (w.alloc (.cells #[.int .i64 wt.te, .int .i64 wt.cl, .int .i64 wt.at_, .int .i64 wt.us, .slice WA wt.needs.length wn] 29)).alloc (.cells #[.int .i64 0, .int .i64 0, .int .i64 0, .int .i64 0, .slice none 0 0] 29) = w1 at *
  clear hw1
  go_loopw [3, 4] (fun ov iv wr => ∃ k : Nat, k ≤ wt.needs.length ∧ k ≤ 5 ∧ iv = .int .i64 k ∧ ∃ hs : List Hd, Hid (kh.R 23 wr (w.heap.size + 2) (fun k => w.heap.size + 2 ≤ k) ov hs ∧ Hds w hs ((wt.needs.take k).map (List.take 5)) ∧ Below (w.heap.size + 2) w1 wr)) (fun ov iv wr => 5 - (intOf iv).toNat)
  case atStart => exact ⟨0, Nat.zero_le _, Nat.zero_le _, rfl, [], Lib.hid ⟨Kd.R_nil _ _ _ _ _, trivial, Below.refl _ _⟩⟩
  case round =>
    obtain ⟨k, hk, hk5, rfl, hs, HI⟩ := hrel
    have HBW := Lib.hid (HB.out.1.trans (HI.out.2.2.mono (by omega)))
    have HK := Lib.hid (And.intro ((HI.out.2.2.block w.heap.size (by omega)).trans HB.out.2.1) ((HI.out.2.2.block (w.heap.size + 1) (by omega)).trans HB.out.2.2.1))
    have d4 : wr.cell? ⟨w.heap.size, 4, none⟩ = some (.slice WA wt.needs.length wn) := cell_of HK.out.1 rfl
    obtain ⟨OA, oc, rfl, hoc, hOC⟩ := Kd.R_reads HI.out.1
    by_cases hlt : k < wt.needs.length ∧ k < 5
    · obtain ⟨h1, h2⟩ := hlt
      have hkI : (k : Int) < (wt.needs.length : Int) := by omega
      have hkJ : (k : Int) < 5 := by omega
      obtain ⟨ad, A0, c0, e, hx, hc0, hC0⟩ := at_L2 HB.out.2.2.2.1 (k : Int) (by omega) hkI
      cases e
      simp only [Int.toNat_natCast] at hx
      have hrd : rd_L2 wt.needs (k : Int) = wt.needs[k] := by unfold rd_L2; simp [h1]
      rw [hrd] at hx hc0 hC0
      clear hrd
      replace hx := pw_cell_below HBW.out hx
      have HFN := Lib.hid (fewN_succ h1)
      have hmn := max_len hC0
      generalize wt.needs[k] = nd at *
      have dX := cell_ext d4
      have eX := cell_ext hx
      go_wp2_with fail
      refine region_late [0] [1, 2, 3, 4, 5, 6, 7, 8, 9, 10, 11, 12, 13] [14, 15, 16] (by kernel_rfl) (by kernel_rfl) (fun c a d v w h => by obtain ⟨_, _, h, _⟩ := h.2; cases h) ?_
      simp only [pick_cons, pick_nil, nthO_succ, nthO_zero]
      repeat (go_big_quiet_step (fail))
      refine wpQuiet_nil ?_
      repeat (go_big_quiet_step (fail))
      have hq : (if (5 : Int) < (nd.length : Int) then (5 : Int) else (nd.length : Int)).toNat = min nd.length 5 := by split <;> omega
      have hOne : One w (A0, min nd.length 5, c0) (nd.take 5) := One.take (n := nd.length) ⟨rfl, hc0, hC0⟩ 5
      generalize (if (5 : Int) < (nd.length : Int) then (5 : Int) else (nd.length : Int)).toNat = q at *
      subst hq
      refine wpQuiet_nil ?_
      rintro W' ⟨X, rfl⟩
      have hX := X.2.below (fun _ _ h => h) (Nat.le_refl _)
      have hzr : w.heap.size + 2 ≤ wr.heap.size := by have := HI.out.2.2.size; have := HB.out.2.2.2.2; omega
      have hA := (Below.refl X.val.heap.size X.val).alloc (Nat.le_refl _) (.cells #[hdv (A0, min nd.length 5, c0)] 23)
      have hRow := onehead (y := (A0, min nd.length 5, c0)) (heap_new (o := .cells #[hdv (A0, min nd.length 5, c0)] 23) (W := X.val) rfl)
      have hBX := HI.out.2.2.trans (hX.mono hzr)
      have HOX := Lib.hid (And.intro (Kd.R_below (Kd.R_below HI.out.1 hX) hA) (And.intro hRow (And.intro (hBX.trans (hA.mono (Nat.le_trans hzr hX.size))) (Nat.le_trans (Nat.le_trans hzr hX.size) hA.size))))
      have HZ := Lib.hid (And.intro HI.out.2.1 hOne)
      clear hA hRow hBX hOne hX dX eX
      unfold hdv at HOX
      simp only at HOX
      have hhl : hs.length ≤ 5 := by have := HZ.out.1.len; rw [List.length_map, List.length_take] at this; omega
      go_wp2_with (at_builtin; go_loud (refine Kd.R_append_rows kh (w0 := w1) (Rr := fun x cs => cs = [hdv x]) (w.heap.size + 2) rfl (.tmp 16) (.tmp 30) 27 23 (.slice none 0 0) 24 rfl Tryd.underlying27 info23 rfl (by decide) (by decide) _ hs [(A0, min nd.length 5, c0)] _ 1 1 (fun k => w.heap.size + 2 ≤ k) (fun _ => False) rfl rfl HOX.out.1 HOX.out.2.1 (fun _ _ h => h) (fun _ h => h.elim) (fun k hk => Nat.le_trans HOX.out.2.2.2 hk) HOX.out.2.2.1 HOX.out.2.2.2 (by omega) ?_; intro v1 w7 h1 h2 h3 h4))
      have HJ := Lib.hid (And.intro h1 h2); clear h1 h2 h3 h4
      go_wp2_with fail
      go_roundw
      case rel => exact ⟨k + 1, by omega, by omega, by go_num, _, Lib.hid ⟨HJ.out.1, by rw [HFN.out]; exact HZ.out.1.snoc HZ.out.2, HJ.out.2⟩⟩
      case measure => simp [intOf]; omega
    · have hq : ((k : Int) < (wt.needs.length : Int) ∧ ¬ (k : Int) < 5) ∨ ¬ (k : Int) < (wt.needs.length : Int) := by omega
      have hfn : (wt.needs.take k).map (List.take 5) = fewN wt.needs := by
        unfold fewN
        rcases hq with h | h
        · obtain rfl : k = 5 := by omega
          rfl
        · obtain rfl : k = wt.needs.length := by omega
          rw [List.take_length, List.take_of_length_le (by omega)]
      have HF := Lib.hid (And.intro (show Hds w hs (fewN wt.needs) by rw [← hfn]; exact HI.out.2.1) hOC); clear hfn hOC
      have d0 : wr.cell? ⟨w.heap.size, 0, none⟩ = some (.int .i64 wt.te) := cell_of HK.out.1 rfl
      have d1 : wr.cell? ⟨w.heap.size, 1, none⟩ = some (.int .i64 wt.cl) := cell_of HK.out.1 rfl
      have d2 : wr.cell? ⟨w.heap.size, 2, none⟩ = some (.int .i64 wt.at_) := cell_of HK.out.1 rfl
      have d3 : wr.cell? ⟨w.heap.size, 3, none⟩ = some (.int .i64 wt.us) := cell_of HK.out.1 rfl
      have g4 : wr.frozen? ⟨w.heap.size, 4, none⟩ = false := frozen_of HK.out.1
      have b0 : wr.cell? ⟨w.heap.size + 1, 0, none⟩ = some (.int .i64 0) := cell_of HK.out.2 rfl
      have b1 : wr.cell? ⟨w.heap.size + 1, 1, none⟩ = some (.int .i64 0) := cell_of HK.out.2 rfl
      have b2 : wr.cell? ⟨w.heap.size + 1, 2, none⟩ = some (.int .i64 0) := cell_of HK.out.2 rfl
      have b3 : wr.cell? ⟨w.heap.size + 1, 3, none⟩ = some (.int .i64 0) := cell_of HK.out.2 rfl
      have b4 : wr.cell? ⟨w.heap.size + 1, 4, none⟩ = some (.slice none 0 0) := cell_of HK.out.2 rfl
      have f0 : wr.frozen? ⟨w.heap.size + 1, 0, none⟩ = false := frozen_of HK.out.2
      have f1 : wr.frozen? ⟨w.heap.size + 1, 1, none⟩ = false := frozen_of HK.out.2
      have f2 : wr.frozen? ⟨w.heap.size + 1, 2, none⟩ = false := frozen_of HK.out.2
      have f3 : wr.frozen? ⟨w.heap.size + 1, 3, none⟩ = false := frozen_of HK.out.2
      have f4 : wr.frozen? ⟨w.heap.size + 1, 4, none⟩ = false := frozen_of HK.out.2
      have hz0 : w.heap.size < wr.heap.size := block_lt_of_cell d0
      have hz1 : w.heap.size + 1 < wr.heap.size := block_lt_of_cell b0
      rcases hq with ⟨h1, h2⟩ | h1
      all_goals
        go_wp2_with fail
        refine bodyPost_ret (v := .agg #[.int .i64 wt.te, .int .i64 wt.cl, .int .i64 wt.at_, .int .i64 wt.us, .slice OA hs.length oc]) ?_ rfl (few_end HI.out.1 HF.out.1 HBW.out _ _ _ _ _ _)
        have hh := cells5 (heap_set_ne (p := ⟨w.heap.size, 4, none⟩) (.slice OA hs.length oc) (by simp) HK.out.2) (.int .i64 wt.te) (.int .i64 wt.cl) (.int .i64 wt.at_) (.int .i64 wt.us) (.slice OA hs.length oc)
        have e0 := cell_of (o := 0) hh rfl
        have e1 := cell_of (o := 1) hh rfl
        have e2 := cell_of (o := 2) hh rfl
        have e3 := cell_of (o := 3) hh rfl
        have e4 := cell_of (o := 4) hh rfl
        simp [results, Tryd.results14, go_sem, e0, e1, e2, e3, e4]
end Go.Proofs.YtnabgijdbcdpmaaDoor

namespace Go.Proofs.YtnabgijdbcdpmaaDoor
open Go.RowKit Go.Rg Go.Proofs.YtnabgijdbcdpmaaDoor.PRightsMatchesReference Go.Proofs.YtnabgijdbcdpmaaDoorW.PrintWords
set_option linter.unusedVariables false
set_option linter.unusedSimpArgs false

def wider (out : List (List Int)) (n : List Int) : List (List Int) := out.flatMap fun x => n.map fun k => x ++ [k]
def prodTo (ns : List (List Int)) : List (List Int) := ns.foldl wider [[]]
/-- The lists under way: those that widen the first k, and of the next one the first m. -/
def wideTo (out : List (List Int)) (n : List Int) (k m : Nat) : List (List Int) := wider (out.take k) n ++ (n.take m).map fun x => (out.getD k []) ++ [x]
theorem prodTo_succ {ns : List (List Int)} {i : Nat} (h : i < ns.length) : prodTo (ns.take (i + 1)) = wider (prodTo (ns.take i)) ns[i] := by
  unfold prodTo
  rw [List.take_succ_eq_append_getElem h, List.foldl_append]; rfl
theorem wider_succ {out : List (List Int)} {n : List Int} {k : Nat} (h : k < out.length) : wider (out.take (k + 1)) n = wider (out.take k) n ++ n.map fun x => out[k] ++ [x] := by
  unfold wider
  rw [List.take_succ_eq_append_getElem h, List.flatMap_append]; simp
theorem wideTo_zero (out : List (List Int)) (n : List Int) (k : Nat) : wideTo out n k 0 = wider (out.take k) n := by simp [wideTo]
theorem wideTo_full {out : List (List Int)} {n : List Int} {k : Nat} (h : k < out.length) : wideTo out n k n.length = wideTo out n (k + 1) 0 := by
  rw [wideTo_zero, wider_succ h, wideTo, List.take_length]
  simp [List.getD, h]
theorem wideTo_succ {out : List (List Int)} {n : List Int} {k m : Nat} (h : k < out.length) (hm : m < n.length) : wideTo out n k (m + 1) = wideTo out n k m ++ [out[k] ++ [n[m]]] := by
  unfold wideTo
  rw [List.take_succ_eq_append_getElem hm, List.map_append, List.append_assoc]
  simp [List.getD, h]
theorem wider_len : ∀ (out : List (List Int)) (n : List Int), (wider out n).length = out.length * n.length
  | [], n => by simp [wider]
  | x :: r, n => by
    have := wider_len r n
    unfold wider at this ⊢
    simp only [List.flatMap_cons, List.length_append, List.length_map, this, List.length_cons]
    rw [Nat.add_mul, Nat.one_mul, Nat.add_comm]
theorem prodTo_len : ∀ (i : Nat) {ns : List (List Int)}, (∀ n ∈ ns, n.length ≤ 4) → i ≤ ns.length → (prodTo (ns.take i)).length ≤ 4 ^ i
  | 0, _, _, _ => by simp [prodTo]
  | i + 1, ns, h, hi => by
    rw [prodTo_succ (by omega), wider_len, Nat.pow_succ]
    exact Nat.mul_le_mul (prodTo_len i h (by omega)) (h _ (List.getElem_mem _))
theorem prodTo_each : ∀ (i : Nat) {ns : List (List Int)}, i ≤ ns.length → ∀ x ∈ prodTo (ns.take i), x.length = i
  | 0, _, _, x, hx => by
    simp [prodTo] at hx
    simp [hx]
  | i + 1, ns, hi, x, hx => by
    rw [prodTo_succ (by omega)] at hx
    unfold wider at hx
    obtain ⟨y, hy, hx⟩ := List.mem_flatMap.1 hx
    obtain ⟨k, _, rfl⟩ := List.mem_map.1 hx
    simp [prodTo_each i (by omega) y hy]
theorem wideTo_len {out : List (List Int)} {n : List Int} {k m : Nat} (hk : k ≤ out.length) (hn : n.length ≤ 4) : (wideTo out n k m).length ≤ 4 * out.length + 4 := by
  unfold wideTo
  rw [List.length_append, wider_len, List.length_map, List.length_take, List.length_take]
  have : min k out.length * n.length ≤ out.length * 4 := Nat.mul_le_mul (Nat.min_le_right _ _) hn
  omega
def prodR : List (List Int) → List (List Int)
  | [] => [[]]
  | n :: ns => n.flatMap fun k => (prodR ns).map (k :: ·)
theorem foldl_wider : ∀ (ns out : List (List Int)), ns.foldl wider out = out.flatMap fun x => (prodR ns).map (x ++ ·)
  | [], out => by
    simp only [List.foldl_nil, prodR, List.map_cons, List.append_nil, List.map_nil]
    induction out with
    | nil => rfl
    | cons a r ih => rw [List.flatMap_cons, ← ih]; rfl
  | n :: ns, out => by
    rw [List.foldl_cons, foldl_wider ns]
    unfold wider
    rw [List.flatMap_assoc]
    congr 1
    funext x
    simp only [prodR, List.flatMap_map, List.map_flatMap, List.map_map]
    congr 1
    funext k
    congr 1
    funext t
    simp
theorem prodTo_R (ns : List (List Int)) : prodTo ns = prodR ns := by
  unfold prodTo
  rw [foldl_wider]
  simp
theorem flatMap_same {α β : Type} : ∀ {l : List α} {f g : α → List β}, (∀ a ∈ l, f a = g a) → l.flatMap f = l.flatMap g
  | [], _, _, _ => rfl
  | a :: r, f, g, h => by rw [List.flatMap_cons, List.flatMap_cons, h a (by simp), flatMap_same fun b hb => h b (by simp [hb])]
theorem pkgs_filter (off : Int → Bool) : ∀ (ns : List (List Int)) (acc : List Int), pkgs off ns acc = ((prodR ns).filter (isPk off ns acc)).map (acc ++ ·)
  | [], acc => by simp [pkgs, prodR, List.filter_cons, isPk]
  | n :: ns, acc => by
    simp only [pkgs, prodR, List.filter_flatMap, List.map_flatMap]
    refine flatMap_same fun k hk => ?_
    rw [List.filter_map, List.map_map]
    have hkn : hasI n k = true := by simpa [hasI] using hk
    have hf : (isPk off (n :: ns) acc ∘ fun t => k :: t) = fun t => !hasI acc k && (off k && isPk off ns (acc ++ [k]) t) := by
      funext t
      simp only [Function.comp, isPk, hkn, Bool.true_and]
    rw [show ((prodR ns).filter (isPk off (n :: ns) acc ∘ (k :: ·))) = (prodR ns).filter (fun t => !hasI acc k && (off k && isPk off ns (acc ++ [k]) t)) by rw [← hf]]
    cases h1 : hasI acc k
    · cases h2 : off k
      · simp
      · simp only [Bool.not_false, Bool.true_and, if_true]
        rw [pkgs_filter off ns (acc ++ [k])]
        congr 1
        funext t
        simp
    · simp
theorem packs_prod (l : List Cl) (wt : Wt) : packs l wt = (prodTo wt.needs).filter (isPk (offered l wt) wt.needs []) := by
  unfold packs
  rw [pkgs_filter, prodTo_R]
  simp
theorem oneslice {W : World} {g : Nat} {e : TypeId} {v : Value} {z : List Int} (h : W.heap[g]? = some (.cells #[v] e (0, 0))) : ReadsRow (fun (y : List Int) cs => cs = [v] ∧ y = z) 1 W (some ⟨g, 0, none⟩) 1 [z] := by
  refine ⟨rfl, by decide, fun _ => ⟨_, rfl, fun j p hj => ?_⟩⟩
  cases j with
  | zero =>
    obtain rfl : z = p := by simpa using hj
    refine ⟨_, rfl, ⟨rfl, rfl⟩, fun i u hi => ?_⟩
    cases i with
    | zero =>
      obtain rfl : v = u := by simpa using hi
      rw [add_plain]
      exact cell_of h rfl
    | succ i => simp at hi
  | succ j => simp at hj
theorem ret_slice {A : Option Addr} {n m c : Nat} (h : n = m) : Ending.returned (.slice A n c) = Ending.returned (.slice A m c) := by rw [h]
/-- What Packages holds. -/
structure QX (w : World) (A : Option Addr) (l : List Cl) (wt : Wt) (WA : Option Addr) (wn : Nat) (W : World) : Prop where
  below : Below w.heap.size w W
  rl : Kd.C k40 W A l.length l
  rw : (Kd.slice 3 (Kd.int .i64)).C W WA wt.needs.length wt.needs
  box : W.heap[w.heap.size]? = some (.cells #[.int .i64 wt.te, .int .i64 wt.cl, .int .i64 wt.at_, .int .i64 wt.us, .slice WA wt.needs.length wn] 29 (0, 0))
theorem QX.next {w W W' : World} {A : Option Addr} {l : List Cl} {wt : Wt} {WA : Option Addr} {wn : Nat} (h : QX w A l wt WA wn W) (hb : Below W.heap.size W W') : QX w A l wt WA wn W' :=
  ⟨h.below.trans (hb.mono h.below.size), Kd.C_below h.rl hb, Kd.C_below h.rw hb, (hb.block _ (Array.getElem?_eq_some_iff.1 h.box).1).trans h.box⟩

set_option maxRecDepth 100000 in
set_option maxHeartbeats 8000000 in
theorem rPackages_any (A : Option Addr) (c : Nat) (l : List Cl) (wt : Wt) (WA : Option Addr) (wn : Nat) (w : World) (hl : Kd.C k40 w A l.length l) (hw : (Kd.slice 3 (Kd.int .i64)).C w WA wt.needs.length wt.needs) (hv : vldW wt = true) :
    Calls Tryd.prog 53 #[.slice A l.length c, wtv wt WA wn] w fun e w' => ∃ PA pc, e = .returned (.slice PA (packs l wt).length pc) ∧ (Kd.slice 3 (Kd.int .i64)).C w' PA (packs l wt).length (packs l wt) ∧ Below w.heap.size w w' := by
  have hm := max_len hw
  have hn4 : wt.needs.length ≤ 4 ∧ ∀ n ∈ wt.needs, n.length ≤ 4 := by
    have h := vldW_iff.1 hv
    refine ⟨by omega, fun n hn => ?_⟩
    have := needOk_iff.1 (h.2 n hn)
    omega
  rw [packs_prod]
  have hb := (Below.refl w.heap.size w).alloc (Nat.le_refl _) (.cells (wtc wt WA wn) 29)
  have hQ : QX w A l wt WA wn (w.alloc (.cells (wtc wt WA wn) 29)) := ⟨hb, Kd.C_below hl hb, Kd.C_below hw hb, heap_new rfl⟩
  have HN := Lib.hid hn4; clear hn4
  have HQ := Lib.hid hQ; clear hQ hb hl hw hv
  unfold wtv
  unfold wtc at HQ
  go_enter Tryd.func53, Tryd.ntmps53
  have e1 : (w.alloc (.cells #[.int .i64 wt.te, .int .i64 wt.cl, .int .i64 wt.at_, .int .i64 wt.us, .slice WA wt.needs.length wn] 29)).heap.size = w.heap.size + 1 := by simp
  have E1 := Lib.hid e1; clear e1
  go_wp2_with fail
  generalize w.alloc (.cells #[.int .i64 wt.te, .int .i64 wt.cl, .int .i64 wt.at_, .int .i64 wt.us, .slice WA wt.needs.length wn] 29) = w1 at *
  have hA1 := (Below.refl w1.heap.size w1).alloc (Nat.le_refl _) (.cells #[] 3)
  have hA2 := hA1.alloc hA1.size (.cells #[.slice (some ⟨w1.heap.size, 0, none⟩) 0 0] 23)
  have hS0 : (Kd.slice 3 (Kd.int .i64)).C ((w1.alloc (.cells #[] 3)).alloc (.cells #[.slice (some ⟨w1.heap.size, 0, none⟩) 0 0] 23)) (some ⟨w1.heap.size + 1, 0, none⟩) 1 [[]] := by
    refine slicerow (cs := [.slice (some ⟨w1.heap.size, 0, none⟩) 0 0]) (by simp) (heap_new (by simp)) fun j xs hj => ?_
    cases j with
    | zero =>
      obtain rfl : [] = xs := by simpa using hj
      exact ⟨_, _, rfl, Nat.le_refl _, rfl, by decide, fun h => absurd h (Nat.lt_irrefl _)⟩
    | succ j => simp at hj
  have hQ2 := HQ.out.next hA2
  rw [E1.out] at hS0 hQ2
  have HQ2 := Lib.hid (And.intro hQ2 hS0); clear hA1 hA2 hS0 hQ2 HQ
  go_loopw [5, 6] (fun ov iv wr => ∃ (i : Nat) (OA : Option Addr) (oc : Nat), i ≤ wt.needs.length ∧ iv = .int .i64 i ∧ ov = .slice OA (prodTo (wt.needs.take i)).length oc ∧ (prodTo (wt.needs.take i)).length ≤ oc ∧ Hid (QX w A l wt WA wn wr ∧ (Kd.slice 3 (Kd.int .i64)).C wr OA (prodTo (wt.needs.take i)).length (prodTo (wt.needs.take i)))) (fun ov iv wr => wt.needs.length - (intOf iv).toNat)
  case atStart => exact ⟨0, some ⟨w.heap.size + 1 + 1, 0, none⟩, 1, Nat.zero_le _, rfl, rfl, by simp [prodTo], Lib.hid HQ2.out⟩
  case round =>
    obtain ⟨i, OA, oc, hi, rfl, rfl, hoc, HI⟩ := hrel
    generalize wr = V0 at *
    have d4 : V0.cell? ⟨w.heap.size, 4, none⟩ = some (.slice WA wt.needs.length wn) := cell_of HI.out.1.box rfl
    have hz : w.heap.size < V0.heap.size := block_lt_of_cell d4
    by_cases hil : i < wt.needs.length
    · have hiI : (i : Int) < (wt.needs.length : Int) := by omega
      have hp64 : (prodTo (wt.needs.take i)).length ≤ 64 := by
        have h1 := prodTo_len i HN.out.2 hi
        have h2 : 4 ^ i ≤ 4 ^ 3 := Nat.pow_le_pow_right (by decide) (by have := HN.out.1; omega)
        omega
      have hpe := prodTo_each i hi
      have hps := prodTo_succ hil
      obtain ⟨nd, NA, nc, e, hx, hnc, hNC⟩ := at_L2 HI.out.1.rw (i : Int) (by omega) hiI
      cases e
      simp only [Int.toNat_natCast] at hx
      have hrd : rd_L2 wt.needs (i : Int) = wt.needs[i] := by unfold rd_L2; simp [hil]
      rw [hrd] at hx hnc hNC
      clear hrd
      have hn4 := HN.out.2 wt.needs[i] (List.getElem_mem hil)
      generalize wt.needs[i] = nl at *
      generalize prodTo (wt.needs.take i) = out at *
      have HO := Lib.hid (And.intro hp64 (And.intro hpe (And.intro hps (And.intro hNC (And.intro hn4 (And.intro hx d4)))))); clear hp64 hpe hps hNC hn4 hx
      have hnm := max_len HO.out.2.2.2.1
      go_wp2_with fail
      go_loopw [7, 8] (fun nv kv wr2 => ∃ k : Nat, k ≤ out.length ∧ kv = .int .i64 k ∧ Hid ((Kd.slice 3 (Kd.int .i64)).R 23 wr2 V0.heap.size (fun k => V0.heap.size ≤ k) nv (wideTo out nl k 0) ∧ Below V0.heap.size V0 wr2)) (fun nv kv wr2 => out.length - (intOf kv).toNat)
      case atStart => exact ⟨0, Nat.zero_le _, rfl, Lib.hid ⟨by rw [wideTo_zero]; exact Kd.R_nil _ _ _ _ _, Below.refl _ _⟩⟩
      case round =>
        obtain ⟨k, hk, rfl, HK⟩ := hrel
        have hom : out.length ≤ 9223372036854775807 := by have := HO.out.1; omega
        by_cases hkl : k < out.length
        · have hkI : (k : Int) < (out.length : Int) := by omega
          have q4 := pw_cell_below HK.out.2 d4
          have qx := pw_cell_below HK.out.2 HO.out.2.2.2.2.2.1
          go_wp2_with fail
          have HK0 := Lib.hid (show (Kd.slice 3 (Kd.int .i64)).R 23 wr V0.heap.size (fun k => V0.heap.size ≤ k) u7 (wideTo out nl k 0) ∧ Below V0.heap.size V0 wr from HK.out)
          clear HK q4 qx
          go_loopw [7, 9] (fun nv mv wr2 => ∃ m : Nat, m ≤ nl.length ∧ mv = .int .i64 m ∧ Hid ((Kd.slice 3 (Kd.int .i64)).R 23 wr2 V0.heap.size (fun k => V0.heap.size ≤ k) nv (wideTo out nl k m) ∧ Below V0.heap.size V0 wr2)) (fun nv mv wr2 => nl.length - (intOf mv).toNat)
          case atStart => exact ⟨0, Nat.zero_le _, rfl, Lib.hid HK0.out⟩
          case round =>
            obtain ⟨m, hm, rfl, HM⟩ := hrel
            obtain ⟨XA, xc, e7, hxc, _⟩ := Kd.R_reads HM.out.1
            subst e7
            have q4 := pw_cell_below HM.out.2 d4
            have qx := pw_cell_below HM.out.2 HO.out.2.2.2.2.2.1
            by_cases hml : m < nl.length
            · have hmI : (m : Int) < (nl.length : Int) := by omega
              obtain ⟨yd, e, hy⟩ := Kd.at_int HO.out.2.2.2.1 (m : Int) (by omega) hmI
              cases e
              simp only [Int.toNat_natCast] at hy
              rw [rd_get hml] at hy
              obtain ⟨od, KA, kc, e, ho, hkc, hKC⟩ := at_L2 HI.out.2 (k : Int) (by omega) hkI
              cases e
              simp only [Int.toNat_natCast] at ho
              have hrd : rd_L2 out (k : Int) = out[k] := by unfold rd_L2; simp [hkl]
              rw [hrd] at ho hkc hKC
              clear hrd
              have hws := wideTo_succ hkl hml
              have hox := HO.out.2.1 out[k] (List.getElem_mem hkl)
              have hnx := wideTo_len (m := m) hk HO.out.2.2.2.2.1
              generalize nl[m] = x at *
              generalize out[k] = ox at *
              generalize wideTo out nl k m = nx at *
              have hx4 : ox.length ≤ 4 := by have := HN.out.1; omega
              have hnb : nx.length ≤ 300 := by have := HO.out.1; omega
              have hoxm := max_len hKC
              have HW := Lib.hid (And.intro (Kd.C_below hKC HM.out.2) (And.intro hx4 (And.intro HM.out.2.size (And.intro HM.out.2 (And.intro HM.out.1 (And.intro (Kd.R_lt HM.out.1) (And.intro hnb hws)))))))
              have f4 := cell_extB (B := fun k => V0.heap.size ≤ k) q4 (Nat.not_le.2 (block_lt_of_cell d4))
              have fx := cell_extB (B := fun k => V0.heap.size ≤ k) qx (Nat.not_le.2 (block_lt_of_cell HO.out.2.2.2.2.2.1))
              have fy := cell_extB (B := fun k => V0.heap.size ≤ k) (pw_cell_below HM.out.2 hy) (Nat.not_le.2 (block_lt_of_cell hy))
              have fo := cell_extB (B := fun k => V0.heap.size ≤ k) (pw_cell_below HM.out.2 ho) (Nat.not_le.2 (block_lt_of_cell ho))
              clear hKC hx4 hnb hws hox hnx hy ho
              go_wp2_with fail
              refine region_freeS (fun k => V0.heap.size ≤ k) [0, 2, 3, 4, 5, 7, 8, 9, 10, 11, 12, 13, 14] #[true, false, true, true, true, true, false, true, true, true, true, true, true, true, true, false, false, false, false, false] 7 (by kernel_rfl) (by kernel_rfl) (fun c a d v w h => by obtain ⟨_, _, h, _⟩ := h.2; cases h) ?_
              simp only [pick_cons, pick_nil, nthO_succ, nthO_zero]
              repeat (go_big_quiet_step (fail))
              refine wpQuiet_nil ?_
              clear f4 fx fy fo q4 qx
              have HS := Lib.hid (show Fr (fun k => V0.heap.size ≤ k) wr wr.drew ∧ Below V0.heap.size V0 wr.drew ∧ Below wr.heap.size wr wr.drew from ⟨(Fr.refl _ _).drew, below_drew HM.out.2, below_drew (Below.refl _ _)⟩)
              generalize wr.drew = u0 at HS ⊢
              refine any_stepS [1, 15] (by kernel_rfl) ?_
              simp only [List.forall_mem_cons, List.forall_mem_nil, nthO_succ, nthO_zero]
              refine ⟨?_, ?_, fun _ h => by cases h⟩
              · skip
                go_wp2_with fail
                have hA := (Below.refl u0.heap.size u0).alloc (Nat.le_refl _) (.cells #[] 3)
                have hE0 : (Kd.int .i64).R 3 (u0.alloc (.cells #[] 3)) wr.heap.size (fun k => wr.heap.size ≤ k) (.slice (some ⟨u0.heap.size, 0, none⟩) 0 0) [] := ⟨fun k hk => by have := HS.out.2.2.size; simp [Value.ownBlock] at hk; omega, OwnRow.lit u0 wr.heap.size (inner := []) (Reps.none _ _) HS.out.2.2.size (by simp)⟩
                have hEb : (u0.alloc (.cells #[] 3)).heap[u0.heap.size]? = some (.cells #[] 3) := heap_new rfl
                have hS2 := And.intro (HS.out.1.alloc (.cells #[] 3)) (And.intro (HS.out.2.1.trans (hA.mono HS.out.2.1.size)) (HS.out.2.2.trans (hA.mono HS.out.2.2.size)))
                clear HS hA
                generalize u0.alloc (.cells #[] 3) = u1 at *
                generalize u0.heap.size = gE at *
                have HS := Lib.hid hS2; clear hS2
                have HE := Lib.hid (And.intro hE0 hEb); clear hE0 hEb
                refine ⟨⟨⟨_, HS.out.1⟩, rfl⟩, ?_⟩
                refine any_stepS [6, 15] (by kernel_rfl) ?_
                simp only [List.forall_mem_cons, List.forall_mem_nil, nthO_succ, nthO_zero]
                refine ⟨?_, ?_, fun _ h => by cases h⟩
                · skip
                  have hCl := Kd.C_below HW.out.1 HS.out.2.2
                  go_wp2_with (at_builtin; go_loud (refine Kd.R_append_rows (Kd.int .i64) (w0 := wr) (Rr := fun x cs => cs = [.int .i64 x]) wr.heap.size rfl (.tmp 38) (.tmp 42) 23 3 (.int .i64 0) 8 rfl Tryd.underlying23 info3 rfl (by decide) (by decide) _ [] ox KA ox.length kc (fun k => wr.heap.size ≤ k) (fun _ => False) rfl rfl HE.out.1 hCl (fun _ _ h => h) (fun _ h => h.elim) (fun k hk => Nat.le_trans HS.out.2.2.size hk) HS.out.2.2 HS.out.2.2.size (by have := HW.out.2.1; simp only [List.length_nil]; omega) ?_; intro v1 u2 h1 h2 h3 h4))
                  rw [List.nil_append] at h1
                  have hS2 : Fr (fun k => V0.heap.size ≤ k) wr u2 ∧ Below V0.heap.size V0 u2 ∧ Below wr.heap.size wr u2 := ⟨Fr.grown HS.out.1 h3 (fun k hk _ => by have := HE.out.1.1 k hk; have := HW.out.2.2.1; omega), HW.out.2.2.2.1.trans (h2.mono HW.out.2.2.1), h2⟩
                  have hR1 := h1
                  clear h1 h2 h3 h4 hCl HS HE
                  have HS := Lib.hid hS2; clear hS2
                  have HR1 := Lib.hid hR1; clear hR1
                  refine ⟨⟨⟨_, HS.out.1⟩, rfl⟩, ?_⟩
                  refine any_stepS [15] (by kernel_rfl) ?_
                  simp only [List.forall_mem_cons, List.forall_mem_nil, nthO_succ, nthO_zero]
                  refine ⟨?_, fun _ h => by cases h⟩
                  go_wp2_with fail
                  have hA := (Below.refl u2.heap.size u2).alloc (Nat.le_refl _) (.cells #[.int .i64 x] 3)
                  have hC4 : (u2.alloc (.cells #[.int .i64 x] 3)).heap[u2.heap.size]? = some (.cells #[.int .i64 x] 3) := heap_new rfl
                  have hR1 := Kd.R_below HR1.out hA
                  have hS2 := And.intro (HS.out.1.alloc (.cells #[.int .i64 x] 3)) (And.intro (HS.out.2.1.trans (hA.mono HS.out.2.1.size)) (HS.out.2.2.trans (hA.mono HS.out.2.2.size)))
                  clear HS hA HR1
                  generalize u2.alloc (.cells #[.int .i64 x] 3) = u3 at *
                  generalize u2.heap.size = g4 at *
                  have HS := Lib.hid hS2; clear hS2
                  have HC4 := Lib.hid hC4; clear hC4
                  have HR1 := Lib.hid hR1; clear hR1
                  refine ⟨⟨⟨_, HS.out.1⟩, rfl⟩, ?_⟩
                  refine any_stepS [16] (by kernel_rfl) ?_
                  simp only [List.forall_mem_cons, List.forall_mem_nil, nthO_succ, nthO_zero]
                  refine ⟨?_, fun _ h => by cases h⟩
                  go_wp2_with (at_builtin; go_loud (refine Kd.R_append_rows (Kd.int .i64) (w0 := wr) (Rr := fun x cs => cs = [.int .i64 x]) wr.heap.size rfl (.tmp 43) (.tmp 52) 23 3 (.int .i64 0) 8 rfl Tryd.underlying23 info3 rfl (by decide) (by decide) _ ox [x] (some ⟨g4, 0, none⟩) 1 1 (fun k => wr.heap.size ≤ k) (fun _ => False) rfl rfl HR1.out (introw (xs := [x]) (by simp) HC4.out) (fun _ _ h => h) (fun _ h => h.elim) (fun k hk => Nat.le_trans HS.out.2.2.size hk) HS.out.2.2 HS.out.2.2.size (by have := HW.out.2.1; omega) ?_; intro v2 u8 h1 h2 h3 h4))
                  have hF8 : Fr (fun k => V0.heap.size ≤ k) wr u8 := Fr.grown HS.out.1 h3 (fun k hk _ => by have := HR1.out.1 k hk; have := HW.out.2.2.1; omega)
                  have HF8 := Lib.hid hF8
                  clear HS HR1 HC4 h3 h4
                  obtain ⟨YA, yc, e8, hyc, _⟩ := Kd.R_reads h1
                  rw [show (ox ++ [x]).length = ox.length + 1 by simp] at e8
                  subst e8
                  have hA9 := (Below.refl u8.heap.size u8).alloc (Nat.le_refl _) (.cells #[.slice YA (ox.length + 1) yc] 23)
                  have hB9 := h2.trans (hA9.mono h2.size)
                  have H9 := Lib.hid (And.intro (hF8.alloc (.cells #[.slice YA (ox.length + 1) yc] 23)) (And.intro (Kd.R_below h1 hA9) (And.intro (Kd.R_below HW.out.2.2.2.2.1 hB9) (And.intro hB9 (oneslice (W := u8.alloc (.cells #[.slice YA (ox.length + 1) yc] 23)) (z := ox ++ [x]) (heap_new rfl)))))); clear hF8 h1 h2 hA9 hB9
                  refine ⟨⟨⟨_, HF8.out⟩, rfl⟩, ?_⟩
                  refine any_stepS [17] (by kernel_rfl) ?_
                  simp only [List.forall_mem_cons, List.forall_mem_nil, nthO_succ, nthO_zero]
                  refine ⟨?_, fun _ h => by cases h⟩
                  go_wp2_with fail
                  clear HF8
                  refine ⟨⟨⟨_, H9.out.1⟩, rfl⟩, ?_⟩
                  refine any_stepS [18] (by kernel_rfl) ?_
                  simp only [List.forall_mem_cons, List.forall_mem_nil, nthO_succ, nthO_zero]
                  refine ⟨?_, fun _ h => by cases h⟩
                  generalize u8.alloc (.cells #[.slice YA (ox.length + 1) yc] 23) = u9 at *
                  go_wp2_with (at_builtin; go_loud (refine Kd.R_append_rows (Kd.slice 3 (Kd.int .i64)) (w0 := V0) (Rr := fun (y : List Int) cs => cs = [.slice YA (ox.length + 1) yc] ∧ y = ox ++ [x]) V0.heap.size rfl (.tmp 37) (.tmp 54) 27 23 (.slice none 0 0) 24 rfl Tryd.underlying27 info23 rfl (by decide) (by decide) _ nx [ox ++ [x]] _ 1 1 (fun k => V0.heap.size ≤ k) (fun k => wr.heap.size ≤ k) rfl rfl H9.out.2.2.1 H9.out.2.2.2.2 (fun y cs h => ⟨_, h.1, by rw [h.2]; exact Kd.R_lower H9.out.2.1 HW.out.2.2.1⟩) (fun k hk => ⟨Nat.le_trans HW.out.2.2.1 hk, fun e => by have := HW.out.2.2.2.2.2.1 k e.symm; omega⟩) (fun k hk => Nat.le_trans HW.out.2.2.1 (Nat.le_trans H9.out.2.2.2.1.size hk)) (HW.out.2.2.2.1.trans (H9.out.2.2.2.1.mono HW.out.2.2.1)) (Nat.le_trans HW.out.2.2.1 H9.out.2.2.2.1.size) (by have := HW.out.2.2.2.2.2.2.1; omega) ?_; intro v3 u10 h1 h2 h3 h4))
                  have hF := Fr.grown H9.out.1 h3 (fun k hk _ => HM.out.1.1 k hk)
                  have HT := Lib.hid (And.intro hF (And.intro h1 h2)); clear hF h1 h2 h3 h4 H9
                  refine ⟨⟨⟨_, HT.out.1⟩, rfl⟩, ?_⟩
                  refine any_stepS [19] (by kernel_rfl) ?_
                  simp only [List.forall_mem_cons, List.forall_mem_nil, nthO_succ, nthO_zero]
                  refine ⟨?_, fun _ h => by cases h⟩
                  go_wp2_with fail
                  refine ⟨⟨⟨_, HT.out.1⟩, rfl⟩, wpAnyH_done (by kernel_rfl) ?_ _⟩
                  go_wp2_with fail
                  go_roundw
                  case rel => exact ⟨m + 1, by omega, by go_num, Lib.hid ⟨by rw [HW.out.2.2.2.2.2.2.2]; exact HT.out.2.1, HT.out.2.2⟩⟩
                  case measure => simp [intOf]; omega
                · skip
                  go_wp2_with fail
                  have hA := (Below.refl u1.heap.size u1).alloc (Nat.le_refl _) (.cells #[.int .i64 x] 3)
                  have hC4 : (u1.alloc (.cells #[.int .i64 x] 3)).heap[u1.heap.size]? = some (.cells #[.int .i64 x] 3) := heap_new rfl
                  have hE0 := Kd.R_below HE.out.1 hA
                  have hEb := (hA.block _ (Array.getElem?_eq_some_iff.1 HE.out.2).1).trans HE.out.2
                  have hS2 := And.intro (HS.out.1.alloc (.cells #[.int .i64 x] 3)) (And.intro (HS.out.2.1.trans (hA.mono HS.out.2.1.size)) (HS.out.2.2.trans (hA.mono HS.out.2.2.size)))
                  clear HS hA HE
                  generalize u1.alloc (.cells #[.int .i64 x] 3) = u4 at *
                  generalize u1.heap.size = g4 at *
                  have HS := Lib.hid hS2; clear hS2
                  have HE := Lib.hid (And.intro hE0 hEb); clear hE0 hEb
                  have HC4 := Lib.hid hC4; clear hC4
                  refine ⟨⟨⟨_, HS.out.1⟩, rfl⟩, ?_⟩
                  refine any_stepS [6] (by kernel_rfl) ?_
                  simp only [List.forall_mem_cons, List.forall_mem_nil, nthO_succ, nthO_zero]
                  refine ⟨?_, fun _ h => by cases h⟩
                  have hCl := Kd.C_below HW.out.1 HS.out.2.2
                  go_wp2_with (at_builtin; go_loud (refine Kd.R_append_rows (Kd.int .i64) (w0 := wr) (Rr := fun x cs => cs = [.int .i64 x]) wr.heap.size rfl (.tmp 38) (.tmp 42) 23 3 (.int .i64 0) 8 rfl Tryd.underlying23 info3 rfl (by decide) (by decide) _ [] ox KA ox.length kc (fun k => wr.heap.size ≤ k) (fun _ => False) rfl rfl HE.out.1 hCl (fun _ _ h => h) (fun _ h => h.elim) (fun k hk => Nat.le_trans HS.out.2.2.size hk) HS.out.2.2 HS.out.2.2.size (by have := HW.out.2.1; simp only [List.length_nil]; omega) ?_; intro v1 u5 h1 h2 h3 h4))
                  rw [List.nil_append] at h1
                  have hS2 : Fr (fun k => V0.heap.size ≤ k) wr u5 ∧ Below V0.heap.size V0 u5 ∧ Below wr.heap.size wr u5 := ⟨Fr.grown HS.out.1 h3 (fun k hk _ => by have := HE.out.1.1 k hk; have := HW.out.2.2.1; omega), HW.out.2.2.2.1.trans (h2.mono HW.out.2.2.1), h2⟩
                  have hC4 := (h3.block g4 (Array.getElem?_eq_some_iff.1 HC4.out).1 (fun e => by have e2 : g4 = gE := Option.some.inj (show some g4 = some gE from e); have hq := HC4.out; rw [e2, HE.out.2] at hq; simp at hq)).trans HC4.out
                  have hR1 := h1
                  clear h1 h2 h3 h4 hCl HS HE HC4
                  have HS := Lib.hid hS2; clear hS2
                  have HC4 := Lib.hid hC4; clear hC4
                  have HR1 := Lib.hid hR1; clear hR1
                  refine ⟨⟨⟨_, HS.out.1⟩, rfl⟩, ?_⟩
                  refine any_stepS [16] (by kernel_rfl) ?_
                  simp only [List.forall_mem_cons, List.forall_mem_nil, nthO_succ, nthO_zero]
                  refine ⟨?_, fun _ h => by cases h⟩
                  go_wp2_with (at_builtin; go_loud (refine Kd.R_append_rows (Kd.int .i64) (w0 := wr) (Rr := fun x cs => cs = [.int .i64 x]) wr.heap.size rfl (.tmp 43) (.tmp 52) 23 3 (.int .i64 0) 8 rfl Tryd.underlying23 info3 rfl (by decide) (by decide) _ ox [x] (some ⟨g4, 0, none⟩) 1 1 (fun k => wr.heap.size ≤ k) (fun _ => False) rfl rfl HR1.out (introw (xs := [x]) (by simp) HC4.out) (fun _ _ h => h) (fun _ h => h.elim) (fun k hk => Nat.le_trans HS.out.2.2.size hk) HS.out.2.2 HS.out.2.2.size (by have := HW.out.2.1; omega) ?_; intro v2 u8 h1 h2 h3 h4))
                  have hF8 : Fr (fun k => V0.heap.size ≤ k) wr u8 := Fr.grown HS.out.1 h3 (fun k hk _ => by have := HR1.out.1 k hk; have := HW.out.2.2.1; omega)
                  have HF8 := Lib.hid hF8
                  clear HS HR1 HC4 h3 h4
                  obtain ⟨YA, yc, e8, hyc, _⟩ := Kd.R_reads h1
                  rw [show (ox ++ [x]).length = ox.length + 1 by simp] at e8
                  subst e8
                  have hA9 := (Below.refl u8.heap.size u8).alloc (Nat.le_refl _) (.cells #[.slice YA (ox.length + 1) yc] 23)
                  have hB9 := h2.trans (hA9.mono h2.size)
                  have H9 := Lib.hid (And.intro (hF8.alloc (.cells #[.slice YA (ox.length + 1) yc] 23)) (And.intro (Kd.R_below h1 hA9) (And.intro (Kd.R_below HW.out.2.2.2.2.1 hB9) (And.intro hB9 (oneslice (W := u8.alloc (.cells #[.slice YA (ox.length + 1) yc] 23)) (z := ox ++ [x]) (heap_new rfl)))))); clear hF8 h1 h2 hA9 hB9
                  refine ⟨⟨⟨_, HF8.out⟩, rfl⟩, ?_⟩
                  refine any_stepS [17] (by kernel_rfl) ?_
                  simp only [List.forall_mem_cons, List.forall_mem_nil, nthO_succ, nthO_zero]
                  refine ⟨?_, fun _ h => by cases h⟩
                  go_wp2_with fail
                  clear HF8
                  refine ⟨⟨⟨_, H9.out.1⟩, rfl⟩, ?_⟩
                  refine any_stepS [18] (by kernel_rfl) ?_
                  simp only [List.forall_mem_cons, List.forall_mem_nil, nthO_succ, nthO_zero]
                  refine ⟨?_, fun _ h => by cases h⟩
                  generalize u8.alloc (.cells #[.slice YA (ox.length + 1) yc] 23) = u9 at *
                  go_wp2_with (at_builtin; go_loud (refine Kd.R_append_rows (Kd.slice 3 (Kd.int .i64)) (w0 := V0) (Rr := fun (y : List Int) cs => cs = [.slice YA (ox.length + 1) yc] ∧ y = ox ++ [x]) V0.heap.size rfl (.tmp 37) (.tmp 54) 27 23 (.slice none 0 0) 24 rfl Tryd.underlying27 info23 rfl (by decide) (by decide) _ nx [ox ++ [x]] _ 1 1 (fun k => V0.heap.size ≤ k) (fun k => wr.heap.size ≤ k) rfl rfl H9.out.2.2.1 H9.out.2.2.2.2 (fun y cs h => ⟨_, h.1, by rw [h.2]; exact Kd.R_lower H9.out.2.1 HW.out.2.2.1⟩) (fun k hk => ⟨Nat.le_trans HW.out.2.2.1 hk, fun e => by have := HW.out.2.2.2.2.2.1 k e.symm; omega⟩) (fun k hk => Nat.le_trans HW.out.2.2.1 (Nat.le_trans H9.out.2.2.2.1.size hk)) (HW.out.2.2.2.1.trans (H9.out.2.2.2.1.mono HW.out.2.2.1)) (Nat.le_trans HW.out.2.2.1 H9.out.2.2.2.1.size) (by have := HW.out.2.2.2.2.2.2.1; omega) ?_; intro v3 u10 h1 h2 h3 h4))
                  have hF := Fr.grown H9.out.1 h3 (fun k hk _ => HM.out.1.1 k hk)
                  have HT := Lib.hid (And.intro hF (And.intro h1 h2)); clear hF h1 h2 h3 h4 H9
                  refine ⟨⟨⟨_, HT.out.1⟩, rfl⟩, ?_⟩
                  refine any_stepS [19] (by kernel_rfl) ?_
                  simp only [List.forall_mem_cons, List.forall_mem_nil, nthO_succ, nthO_zero]
                  refine ⟨?_, fun _ h => by cases h⟩
                  go_wp2_with fail
                  refine ⟨⟨⟨_, HT.out.1⟩, rfl⟩, wpAnyH_done (by kernel_rfl) ?_ _⟩
                  go_wp2_with fail
                  go_roundw
                  case rel => exact ⟨m + 1, by omega, by go_num, Lib.hid ⟨by rw [HW.out.2.2.2.2.2.2.2]; exact HT.out.2.1, HT.out.2.2⟩⟩
                  case measure => simp [intOf]; omega
              · skip
                go_wp2_with fail
                have hA := (Below.refl u0.heap.size u0).alloc (Nat.le_refl _) (.cells #[.int .i64 x] 3)
                have hC4 : (u0.alloc (.cells #[.int .i64 x] 3)).heap[u0.heap.size]? = some (.cells #[.int .i64 x] 3) := heap_new rfl
                have hS2 := And.intro (HS.out.1.alloc (.cells #[.int .i64 x] 3)) (And.intro (HS.out.2.1.trans (hA.mono HS.out.2.1.size)) (HS.out.2.2.trans (hA.mono HS.out.2.2.size)))
                clear HS hA
                generalize u0.alloc (.cells #[.int .i64 x] 3) = u6 at *
                generalize u0.heap.size = g4 at *
                have HS := Lib.hid hS2; clear hS2
                have HC4 := Lib.hid hC4; clear hC4
                refine ⟨⟨⟨_, HS.out.1⟩, rfl⟩, ?_⟩
                refine any_stepS [1] (by kernel_rfl) ?_
                simp only [List.forall_mem_cons, List.forall_mem_nil, nthO_succ, nthO_zero]
                refine ⟨?_, fun _ h => by cases h⟩
                go_wp2_with fail
                have hA := (Below.refl u6.heap.size u6).alloc (Nat.le_refl _) (.cells #[] 3)
                have hE0 : (Kd.int .i64).R 3 (u6.alloc (.cells #[] 3)) wr.heap.size (fun k => wr.heap.size ≤ k) (.slice (some ⟨u6.heap.size, 0, none⟩) 0 0) [] := ⟨fun k hk => by have := HS.out.2.2.size; simp [Value.ownBlock] at hk; omega, OwnRow.lit u6 wr.heap.size (inner := []) (Reps.none _ _) HS.out.2.2.size (by simp)⟩
                have hEb : (u6.alloc (.cells #[] 3)).heap[u6.heap.size]? = some (.cells #[] 3) := heap_new rfl
                have hC4 := (hA.block _ (Array.getElem?_eq_some_iff.1 HC4.out).1).trans HC4.out
                have hS2 := And.intro (HS.out.1.alloc (.cells #[] 3)) (And.intro (HS.out.2.1.trans (hA.mono HS.out.2.1.size)) (HS.out.2.2.trans (hA.mono HS.out.2.2.size)))
                clear HS hA HC4
                generalize u6.alloc (.cells #[] 3) = u7 at *
                generalize u6.heap.size = gE at *
                have HS := Lib.hid hS2; clear hS2
                have HE := Lib.hid (And.intro hE0 hEb); clear hE0 hEb
                have HC4 := Lib.hid hC4; clear hC4
                refine ⟨⟨⟨_, HS.out.1⟩, rfl⟩, ?_⟩
                refine any_stepS [6] (by kernel_rfl) ?_
                simp only [List.forall_mem_cons, List.forall_mem_nil, nthO_succ, nthO_zero]
                refine ⟨?_, fun _ h => by cases h⟩
                have hCl := Kd.C_below HW.out.1 HS.out.2.2
                go_wp2_with (at_builtin; go_loud (refine Kd.R_append_rows (Kd.int .i64) (w0 := wr) (Rr := fun x cs => cs = [.int .i64 x]) wr.heap.size rfl (.tmp 38) (.tmp 42) 23 3 (.int .i64 0) 8 rfl Tryd.underlying23 info3 rfl (by decide) (by decide) _ [] ox KA ox.length kc (fun k => wr.heap.size ≤ k) (fun _ => False) rfl rfl HE.out.1 hCl (fun _ _ h => h) (fun _ h => h.elim) (fun k hk => Nat.le_trans HS.out.2.2.size hk) HS.out.2.2 HS.out.2.2.size (by have := HW.out.2.1; simp only [List.length_nil]; omega) ?_; intro v1 u8 h1 h2 h3 h4))
                rw [List.nil_append] at h1
                have hS2 : Fr (fun k => V0.heap.size ≤ k) wr u8 ∧ Below V0.heap.size V0 u8 ∧ Below wr.heap.size wr u8 := ⟨Fr.grown HS.out.1 h3 (fun k hk _ => by have := HE.out.1.1 k hk; have := HW.out.2.2.1; omega), HW.out.2.2.2.1.trans (h2.mono HW.out.2.2.1), h2⟩
                have hC4 := (h3.block g4 (Array.getElem?_eq_some_iff.1 HC4.out).1 (fun e => by have e2 : g4 = gE := Option.some.inj (show some g4 = some gE from e); have hq := HC4.out; rw [e2, HE.out.2] at hq; simp at hq)).trans HC4.out
                have hR1 := h1
                clear h1 h2 h3 h4 hCl HS HE HC4
                have HS := Lib.hid hS2; clear hS2
                have HC4 := Lib.hid hC4; clear hC4
                have HR1 := Lib.hid hR1; clear hR1
                refine ⟨⟨⟨_, HS.out.1⟩, rfl⟩, ?_⟩
                refine any_stepS [16] (by kernel_rfl) ?_
                simp only [List.forall_mem_cons, List.forall_mem_nil, nthO_succ, nthO_zero]
                refine ⟨?_, fun _ h => by cases h⟩
                go_wp2_with (at_builtin; go_loud (refine Kd.R_append_rows (Kd.int .i64) (w0 := wr) (Rr := fun x cs => cs = [.int .i64 x]) wr.heap.size rfl (.tmp 43) (.tmp 52) 23 3 (.int .i64 0) 8 rfl Tryd.underlying23 info3 rfl (by decide) (by decide) _ ox [x] (some ⟨g4, 0, none⟩) 1 1 (fun k => wr.heap.size ≤ k) (fun _ => False) rfl rfl HR1.out (introw (xs := [x]) (by simp) HC4.out) (fun _ _ h => h) (fun _ h => h.elim) (fun k hk => Nat.le_trans HS.out.2.2.size hk) HS.out.2.2 HS.out.2.2.size (by have := HW.out.2.1; omega) ?_; intro v2 u8 h1 h2 h3 h4))
                have hF8 : Fr (fun k => V0.heap.size ≤ k) wr u8 := Fr.grown HS.out.1 h3 (fun k hk _ => by have := HR1.out.1 k hk; have := HW.out.2.2.1; omega)
                have HF8 := Lib.hid hF8
                clear HS HR1 HC4 h3 h4
                obtain ⟨YA, yc, e8, hyc, _⟩ := Kd.R_reads h1
                rw [show (ox ++ [x]).length = ox.length + 1 by simp] at e8
                subst e8
                have hA9 := (Below.refl u8.heap.size u8).alloc (Nat.le_refl _) (.cells #[.slice YA (ox.length + 1) yc] 23)
                have hB9 := h2.trans (hA9.mono h2.size)
                have H9 := Lib.hid (And.intro (hF8.alloc (.cells #[.slice YA (ox.length + 1) yc] 23)) (And.intro (Kd.R_below h1 hA9) (And.intro (Kd.R_below HW.out.2.2.2.2.1 hB9) (And.intro hB9 (oneslice (W := u8.alloc (.cells #[.slice YA (ox.length + 1) yc] 23)) (z := ox ++ [x]) (heap_new rfl)))))); clear hF8 h1 h2 hA9 hB9
                refine ⟨⟨⟨_, HF8.out⟩, rfl⟩, ?_⟩
                refine any_stepS [17] (by kernel_rfl) ?_
                simp only [List.forall_mem_cons, List.forall_mem_nil, nthO_succ, nthO_zero]
                refine ⟨?_, fun _ h => by cases h⟩
                go_wp2_with fail
                clear HF8
                refine ⟨⟨⟨_, H9.out.1⟩, rfl⟩, ?_⟩
                refine any_stepS [18] (by kernel_rfl) ?_
                simp only [List.forall_mem_cons, List.forall_mem_nil, nthO_succ, nthO_zero]
                refine ⟨?_, fun _ h => by cases h⟩
                generalize u8.alloc (.cells #[.slice YA (ox.length + 1) yc] 23) = u9 at *
                go_wp2_with (at_builtin; go_loud (refine Kd.R_append_rows (Kd.slice 3 (Kd.int .i64)) (w0 := V0) (Rr := fun (y : List Int) cs => cs = [.slice YA (ox.length + 1) yc] ∧ y = ox ++ [x]) V0.heap.size rfl (.tmp 37) (.tmp 54) 27 23 (.slice none 0 0) 24 rfl Tryd.underlying27 info23 rfl (by decide) (by decide) _ nx [ox ++ [x]] _ 1 1 (fun k => V0.heap.size ≤ k) (fun k => wr.heap.size ≤ k) rfl rfl H9.out.2.2.1 H9.out.2.2.2.2 (fun y cs h => ⟨_, h.1, by rw [h.2]; exact Kd.R_lower H9.out.2.1 HW.out.2.2.1⟩) (fun k hk => ⟨Nat.le_trans HW.out.2.2.1 hk, fun e => by have := HW.out.2.2.2.2.2.1 k e.symm; omega⟩) (fun k hk => Nat.le_trans HW.out.2.2.1 (Nat.le_trans H9.out.2.2.2.1.size hk)) (HW.out.2.2.2.1.trans (H9.out.2.2.2.1.mono HW.out.2.2.1)) (Nat.le_trans HW.out.2.2.1 H9.out.2.2.2.1.size) (by have := HW.out.2.2.2.2.2.2.1; omega) ?_; intro v3 u10 h1 h2 h3 h4))
                have hF := Fr.grown H9.out.1 h3 (fun k hk _ => HM.out.1.1 k hk)
                have HT := Lib.hid (And.intro hF (And.intro h1 h2)); clear hF h1 h2 h3 h4 H9
                refine ⟨⟨⟨_, HT.out.1⟩, rfl⟩, ?_⟩
                refine any_stepS [19] (by kernel_rfl) ?_
                simp only [List.forall_mem_cons, List.forall_mem_nil, nthO_succ, nthO_zero]
                refine ⟨?_, fun _ h => by cases h⟩
                go_wp2_with fail
                refine ⟨⟨⟨_, HT.out.1⟩, rfl⟩, wpAnyH_done (by kernel_rfl) ?_ _⟩
                go_wp2_with fail
                go_roundw
                case rel => exact ⟨m + 1, by omega, by go_num, Lib.hid ⟨by rw [HW.out.2.2.2.2.2.2.2]; exact HT.out.2.1, HT.out.2.2⟩⟩
                case measure => simp [intOf]; omega
            · obtain rfl : m = nl.length := by omega
              go_wp2_with fail
              go_roundw
              case rel => exact ⟨k + 1, by omega, by go_num, Lib.hid ⟨by rw [← wideTo_full hkl]; exact HM.out.1, HM.out.2⟩⟩
              case measure => simp [intOf]; omega
        · obtain rfl : k = out.length := by omega
          obtain ⟨XA, xc, e7, hxc, hXC⟩ := Kd.R_reads HK.out.1
          have hfin : wideTo out nl out.length 0 = prodTo (wt.needs.take (i + 1)) := by rw [wideTo_zero, List.take_length]; exact HO.out.2.2.1.symm
          rw [hfin] at hxc hXC e7
          subst e7
          have HX := Lib.hid (And.intro hxc hXC); clear hxc hXC hfin
          go_wp2_with fail
          go_roundw
          case rel => exact ⟨i + 1, XA, xc, by omega, by go_num, rfl, HX.out.1, Lib.hid ⟨HI.out.1.next HK.out.2, HX.out.2⟩⟩
          case measure => simp [intOf]; omega
    · obtain rfl : i = wt.needs.length := by omega
      have hlen := prodTo_len wt.needs.length HN.out.2 (Nat.le_refl _)
      rw [List.take_length] at hoc HI hlen ⊢
      have hp256 : (prodTo wt.needs).length ≤ 256 := by
        have h2 : 4 ^ wt.needs.length ≤ 4 ^ 4 := Nat.pow_le_pow_right (by decide) HN.out.1
        omega
      generalize hpo : prodTo wt.needs = out at *
      have HPO := Lib.hid hpo; clear hpo
      clear hlen
      go_wp2_with fail
      go_loopw [10, 11] (fun av kv wr2 => ∃ k : Nat, k ≤ out.length ∧ kv = .int .i64 k ∧ ∃ hs : List Hd, Hid (kh.R 23 wr2 V0.heap.size (fun k => V0.heap.size ≤ k) av hs ∧ Hds V0 hs ((out.take k).filter (isPk (offered l wt) wt.needs [])) ∧ Below V0.heap.size V0 wr2)) (fun av kv wr2 => out.length - (intOf kv).toNat)
      case atStart => exact ⟨0, Nat.zero_le _, rfl, [], Lib.hid ⟨Kd.R_nil _ _ _ _ _, trivial, Below.refl _ _⟩⟩
      case round =>
        obtain ⟨k, hk, rfl, hs, HK⟩ := hrel
        obtain ⟨RA, rc, rfl, hrc, hRC⟩ := Kd.R_reads HK.out.1
        have hom : out.length ≤ 9223372036854775807 := by omega
        have hhl : hs.length ≤ 256 := by
          have := HK.out.2.1.len
          have h2 := List.length_filter_le (isPk (offered l wt) wt.needs []) (out.take k)
          rw [List.length_take] at h2
          omega
        by_cases hkl : k < out.length
        · have hkI : (k : Int) < (out.length : Int) := by omega
          obtain ⟨od, KA, kc, e, ho, hkc, hKC⟩ := at_L2 HI.out.2 (k : Int) (by omega) hkI
          cases e
          simp only [Int.toNat_natCast] at ho
          have hrd : rd_L2 out (k : Int) = out[k] := by unfold rd_L2; simp [hkl]
          rw [hrd] at ho hkc hKC
          clear hrd
          have hQ := HI.out.1.next HK.out.2.2
          have hCall : ∀ x : Ext wr, _ := fun x => isPkg_any A c l wt WA wn KA kc out[k] x.val (hQ.next (x.2.below (fun _ _ h => h) (Nat.le_refl _))).rl (hQ.next (x.2.below (fun _ _ h => h) (Nat.le_refl _))).rw (Kd.C_below (Kd.C_below hKC HK.out.2.2) (x.2.below (fun _ _ h => h) (Nat.le_refl _))) hkc
          have hfs : (out.take (k + 1)).filter (isPk (offered l wt) wt.needs []) = (out.take k).filter (isPk (offered l wt) wt.needs []) ++ if isPk (offered l wt) wt.needs [] out[k] = true then [out[k]] else [] := by
            rw [List.take_succ_eq_append_getElem hkl, List.filter_append, List.filter_cons]
            split <;> simp
          have hox := max_len hKC
          generalize out[k] = ox at *
          generalize isPk (offered l wt) wt.needs [] ox = b at *
          unfold wtv at hCall
          have HC := Lib.hid hCall; clear hCall
          have HF := Lib.hid (And.intro hfs (And.intro hKC hkc)); clear hfs hKC hkc
          have qo := pw_cell_below HK.out.2.2 ho
          have e0 := cell_ext (cell_of (o := 0) hQ.box rfl)
          have e1 := cell_ext (cell_of (o := 1) hQ.box rfl)
          have e2 := cell_ext (cell_of (o := 2) hQ.box rfl)
          have e3 := cell_ext (cell_of (o := 3) hQ.box rfl)
          have e4 := cell_ext (cell_of (o := 4) hQ.box rfl)
          have eo := cell_ext qo
          clear hQ qo d4
          go_wp2_with fail
          refine region_ext (by kernel_rfl) (by kernel_rfl) ?_
          repeat (go_big_quiet_step ((go_at_call 30; with_reducible exact call_ext (HC.out _))))
          refine wpQuiet_nil ?_
          rintro W' ⟨X, rfl⟩
          have hX := X.2.below (fun _ _ h => h) (Nat.le_refl _)
          have fo := eo X
          have HKX := Lib.hid (And.intro (Kd.R_below HK.out.1 hX) (And.intro HK.out.2.1 (HK.out.2.2.trans (hX.mono HK.out.2.2.size)))); clear hX HC
          clear e0 e1 e2 e3 e4 eo
          cases b with
          | false =>
            go_wp2_with fail
            go_roundw
            case rel => exact ⟨k + 1, by omega, by go_num, hs, Lib.hid ⟨HKX.out.1, by rw [HF.out.1]; simpa using HKX.out.2.1, HKX.out.2.2⟩⟩
            case measure => simp [intOf]; omega
          | true =>
            have hA := (Below.refl X.val.heap.size X.val).alloc (Nat.le_refl _) (.cells #[hdv (KA, ox.length, kc)] 23)
            have hRow := onehead (y := (KA, ox.length, kc)) (heap_new (o := .cells #[hdv (KA, ox.length, kc)] 23) (W := X.val) rfl)
            have HOX := Lib.hid (And.intro (Kd.R_below HKX.out.1 hA) (And.intro hRow (And.intro (HKX.out.2.2.trans (hA.mono HKX.out.2.2.size)) (Nat.le_trans HKX.out.2.2.size hA.size)))); clear hA hRow
            unfold hdv at HOX
            simp only at HOX
            go_wp2_with (at_builtin; go_loud (refine Kd.R_append_rows kh (w0 := V0) (Rr := fun x cs => cs = [hdv x]) V0.heap.size rfl (.tmp 70) (.tmp 75) 27 23 (.slice none 0 0) 24 rfl Tryd.underlying27 info23 rfl (by decide) (by decide) _ hs [(KA, ox.length, kc)] _ 1 1 (fun k => V0.heap.size ≤ k) (fun _ => False) rfl rfl HOX.out.1 HOX.out.2.1 (fun _ _ h => h) (fun _ h => h.elim) (fun k hk => Nat.le_trans HOX.out.2.2.2 hk) HOX.out.2.2.1 HOX.out.2.2.2 (by omega) ?_; intro v1 w7 h1 h2 h3 h4))
            have HJ := Lib.hid (And.intro h1 h2); clear h1 h2 h3 h4
            go_wp2_with fail
            go_roundw
            case rel => exact ⟨k + 1, by omega, by go_num, _, Lib.hid ⟨HJ.out.1, by rw [HF.out.1, if_pos rfl]; exact HKX.out.2.1.snoc ⟨rfl, HF.out.2.2, HF.out.2.1⟩, HJ.out.2⟩⟩
            case measure => simp [intOf]; omega
        · obtain rfl : k = out.length := by omega
          have HE := Lib.hid (And.intro (show Hds V0 hs (out.filter (isPk (offered l wt) wt.needs [])) by have := HK.out.2.1; rwa [List.take_length] at this) hRC)
          go_wp2_with fail
          go_ret
          rw [HPO.out]
          exact ⟨RA, rc, ret_slice (by rw [HE.out.1.len]), C_heads HE.out.2 (HE.out.1.below HK.out.2.2), HI.out.1.below.trans (HK.out.2.2.mono HI.out.1.below.size)⟩
end Go.Proofs.YtnabgijdbcdpmaaDoor

namespace Go.Proofs.YtnabgijdbcdpmaaDoor
open Go.RowKit Go.Rg Go.Proofs.YtnabgijdbcdpmaaDoor.PRightsMatchesReference Go.Proofs.YtnabgijdbcdpmaaDoorW.PrintWords
set_option linter.unusedVariables false
set_option linter.unusedSimpArgs false

/-- The first set of so many numbers, from one on, that with others has one of each set. -/
def srch (ss : List Nat) (n : Nat) : Nat → Nat → Nat → Option (List Int)
  | 0, _, b => if ss.all (hitB b) = true then some [] else none
  | k + 1, f, b => (List.range' f (n - f)).findSome? fun i => (srch ss n k (i + 1) (b + 2 ^ i)).map ((i : Int) :: ·)
theorem srch_len (ss : List Nat) (n : Nat) : ∀ (k f b : Nat) (c : List Int), srch ss n k f b = some c → c.length = k
  | 0, f, b, c, h => by
    unfold srch at h
    split at h
    · cases h; rfl
    · cases h
  | k + 1, f, b, c, h => by
    unfold srch at h
    obtain ⟨i, _, h⟩ := List.exists_of_findSome?_eq_some h
    obtain ⟨d, hd, rfl⟩ := Option.map_eq_some_iff.1 h
    simp [srch_len ss n k _ _ d hd]
theorem srch_at {ss : List Nat} {n k f b : Nat} (h : f < n) : srch ss n (k + 1) f b = ((srch ss n k (f + 1) (b + 2 ^ f)).map ((f : Int) :: ·)).or (srch ss n (k + 1) (f + 1) b) := by
  have e : n - f = (n - (f + 1)) + 1 := by omega
  rw [srch, srch, e, List.range'_succ, List.findSome?_cons]
  cases (srch ss n k (f + 1) (b + 2 ^ f)).map ((f : Int) :: ·) <;> rfl
theorem srch_end {ss : List Nat} {n k b : Nat} : srch ss n (k + 1) n b = none := by
  rw [srch, Nat.sub_self]; rfl
theorem srch_zero (ss : List Nat) (n f b : Nat) : srch ss n 0 f b = if ss.all (hitB b) = true then some [] else none := rfl
attribute [irreducible] srch
theorem wrap_small {a b : Int} (h0 : 0 ≤ a) (h1 : a < 4096) (h2 : 0 < b) (h3 : b ≤ 4096) : wrap64 (a + b) = a + b := wrap_in (by omega) (by omega)
def SrPost (r : Option (List Int)) (w : World) (e : Ending) (w' : World) : Prop := ∃ v, e = .returned (.tuple #[v, .bool r.isSome]) ∧ (Kd.int .i64).R 3 w' w.heap.size (fun k => w.heap.size ≤ k) v (r.getD []) ∧ Below w.heap.size w w'

set_option maxRecDepth 100000 in
set_option maxHeartbeats 4000000 in
theorem search_zero (n : Nat) (hn : n ≤ 12) (A : Option Addr) (c : Nat) (ss : List Nat) (hs : ∀ s ∈ ss, s < 2 ^ 62) : ∀ (f b : Nat) (w : World) (hr : (Kd.int .i64).C w A ss.length (ss.map Int.ofNat)) (hk : 0 ≤ 13) (hf : f ≤ n) (hb : b < 2 ^ f), Calls Tryd.prog 55 #[.slice A ss.length c, .int .i64 n, .int .i64 (0 : Nat), .int .i64 f, .int .i64 b] w (SrPost (srch ss n 0 f b) w) := by
  intro f b w hr hk hf hb
  have hr' : (Kd.int .i64).C w A (ss.map Int.ofNat).length (ss.map Int.ofNat) := by rw [List.length_map]; exact hr
  have hm := max_len hr'
  rw [List.length_map] at hm
  have hb62 : b < 2 ^ 62 := Nat.lt_of_lt_of_le hb (Nat.pow_le_pow_right (by decide) (by omega))
  have hq : ∀ s : Nat, s < 2 ^ 62 → (Go.bits .and .i64 (s : Int) (b : Int) == 0) = !hitB b s := fun s hs => by
    rw [and_nat _ _ hs hb62, beqD, hitB]
    cases h : decide (s &&& b ≠ 0) <;> simp at h ⊢ <;> omega
  have HR := Lib.hid (And.intro hr' (And.intro hs hq)); clear hr hr' hs hq hb62
  have hsr : srch ss n 0 f b = if ss.all (hitB b) = true then some [] else none := srch_zero ss n f b
  rw [show ((0 : Nat) : Int) = 0 from rfl]
  have HSR := Lib.hid hsr; clear hsr
  go_enter Tryd.func55, Tryd.ntmps55
  go_wp2_with fail
  go_loopw [12] (fun iv wr => ∃ i : Nat, i ≤ ss.length ∧ iv = .int .i64 i ∧ Hid ((ss.take i).all (hitB b) = true ∧ Below w.heap.size w wr)) (fun iv wr => ss.length - (intOf iv).toNat)
  case atStart => exact ⟨0, Nat.zero_le _, rfl, Lib.hid ⟨by simp, Below.refl _ _⟩⟩
  case round =>
    obtain ⟨i, hi, rfl, HI⟩ := hrel
    by_cases hil : i < ss.length
    · have hiI : (i : Int) < (ss.length : Int) := by omega
      obtain ⟨ad, e, hx⟩ := Kd.at_int (Kd.C_below HR.out.1 HI.out.2) (i : Int) (by omega) (by simp; omega)
      cases e
      simp only [Int.toNat_natCast] at hx
      rw [rd_get (by simpa using hil), List.getElem_map] at hx
      have hno := all_no (f := hitB b) hil
      have hyes := all_take (f := hitB b) hil HI.out.1
      have hq := HR.out.2.2 ss[i] (HR.out.2.1 _ (List.getElem_mem hil))
      generalize ss[i] = s at *
      have hx : wr.cell? (ad.add i) = some (.int .i64 (s : Int)) := hx
      have HY := Lib.hid (And.intro hno hyes); clear hno hyes
      cases hh : hitB b s with
      | false =>
        rw [hh] at hq
        have hq : (Go.bits .and .i64 (s : Int) (b : Int) == 0) = true := hq
        have HN := Lib.hid (HY.out.1 hh)
        clear hh
        go_wp2_with fail
        go_ret2
        exact ⟨_, by rw [HSR.out, HN.out]; rfl, by rw [HSR.out, HN.out]; exact Kd.R_nil _ _ _ _ _, HI.out.2⟩
      | true =>
        rw [hh] at hq
        have hq : (Go.bits .and .i64 (s : Int) (b : Int) == 0) = false := hq
        have HN := Lib.hid (HY.out.2 hh)
        clear hh
        go_wp2_with fail
        go_roundw
        case rel => exact ⟨i + 1, by omega, by go_num, Lib.hid ⟨HN.out, HI.out.2⟩⟩
        case measure => simp [intOf]; omega
    · obtain rfl : i = ss.length := by omega
      have HF := Lib.hid (show ss.all (hitB b) = true by have := HI.out.1; rwa [List.take_length] at this)
      go_wp2_with fail
      go_ret2
      exact ⟨_, by rw [HSR.out, HF.out]; rfl, by rw [HSR.out, HF.out]; exact Kd.R_nil _ _ _ _ _, HI.out.2⟩
set_option maxRecDepth 100000 in
set_option maxHeartbeats 4000000 in
theorem search_succ (n : Nat) (hn : n ≤ 12) (A : Option Addr) (c : Nat) (ss : List Nat) (hs : ∀ s ∈ ss, s < 2 ^ 62) (k : Nat) (ih0 : ∀ (f b : Nat) (w : World) (hr : (Kd.int .i64).C w A ss.length (ss.map Int.ofNat)) (hk : k ≤ 13) (hf : f ≤ n) (hb : b < 2 ^ f), Calls Tryd.prog 55 #[.slice A ss.length c, .int .i64 n, .int .i64 (k : Nat), .int .i64 f, .int .i64 b] w (SrPost (srch ss n k f b) w)) : ∀ (f b : Nat) (w : World) (hr : (Kd.int .i64).C w A ss.length (ss.map Int.ofNat)) (hk : (k + 1) ≤ 13) (hf : f ≤ n) (hb : b < 2 ^ f), Calls Tryd.prog 55 #[.slice A ss.length c, .int .i64 n, .int .i64 ((k + 1) : Nat), .int .i64 f, .int .i64 b] w (SrPost (srch ss n (k + 1) f b) w) := by
  intro f b w hr hk hf hb
  have ih := fun (i : Nat) (W : World) (hi : f ≤ i) (hin : i < n) (hW : Below w.heap.size w W) => ih0 (i + 1) (b + 2 ^ i) W (Kd.C_below hr hW) (by omega) hin (by
    have h1 : 2 ^ f ≤ 2 ^ i := Nat.pow_le_pow_right (by decide) hi
    rw [Nat.pow_succ]; omega)
  have hm : ss.length ≤ 9223372036854775807 := hr.2.1
  have hkI : (((k + 1 : Nat) : Int) == 0) = false := by simp; omega
  have IH := Lib.hid ih; clear ih ih0 hr hs
  have hk1 : ((k + 1 : Nat) : Int) - 1 = (k : Int) := by omega
  generalize hkk : ((k + 1 : Nat) : Int) = kI at *
  have hkb : 0 < kI ∧ kI ≤ 13 := by omega
  have HK := Lib.hid hk1; clear hk1 hkk
  have hwk : wrap64 (kI - 1) = (k : Int) := by rw [wrap_in (by omega) (by omega)]; exact HK.out
  have hbw : (b : Int) < 4096 := by
    have : 2 ^ f ≤ 2 ^ 12 := Nat.pow_le_pow_right (by decide) (by omega)
    omega
  clear hb
  go_enter Tryd.func55, Tryd.ntmps55
  go_wp2_with fail
  go_loopw [13] (fun iv wr => ∃ i : Nat, f ≤ i ∧ i ≤ n ∧ iv = .int .i64 i ∧ Hid (srch ss n (k + 1) f b = srch ss n (k + 1) i b ∧ Below w.heap.size w wr)) (fun iv wr => n - (intOf iv).toNat)
  case atStart => exact ⟨f, Nat.le_refl _, hf, rfl, Lib.hid ⟨rfl, Below.refl _ _⟩⟩
  case round =>
    obtain ⟨i, hfi, hin, rfl, HI⟩ := hrel
    by_cases hil : i < n
    · have hiI : (i : Int) < (n : Int) := by omega
      have hC := IH.out i wr hfi hil HI.out.2
      have hat := srch_at (ss := ss) (k := k) (b := b) hil
      have hln := srch_len ss n k (i + 1) (b + 2 ^ i)
      have hpw : (2 : Int) ^ i = ((2 ^ i : Nat) : Int) := by simp
      have hp12 : 2 ^ i ≤ 4096 := Nat.le_trans (Nat.pow_le_pow_right (by decide) (show i ≤ 12 by omega)) (by decide)
      have hp0 : 0 < 2 ^ i := Nat.two_pow_pos _
      have hw2 : wrap64 ((2 : Int) ^ i) = ((2 ^ i : Nat) : Int) := by rw [hpw]; exact wrap_in (by omega) (by omega)
      have e1 : ((i + 1 : Nat) : Int) = (i : Int) + 1 := by omega
      have e2 : ((b + 2 ^ i : Nat) : Int) = (b : Int) + ((2 ^ i : Nat) : Int) := Int.natCast_add _ _
      rw [e1] at hC
      rw [e2] at hC
      clear e1 e2 hpw
      have hpI : (((2 ^ i : Nat) : Int)) ≤ 4096 := Int.ofNat_le.2 hp12
      obtain ⟨r, hr⟩ : ∃ r, srch ss n k (i + 1) (b + 2 ^ i) = r := ⟨_, rfl⟩
      rw [hr] at hC hat hln
      clear hr
      obtain ⟨pI, hpp⟩ : ∃ pI, ((2 ^ i : Nat) : Int) = pI := ⟨_, rfl⟩
      have hpI0 : (0 : Int) < ((2 ^ i : Nat) : Int) := Int.ofNat_lt.2 hp0
      rw [hpp] at hC hw2 hpI hpI0
      clear hpp hp12 hp0
      have hw3 : wrap64 ((b : Int) + pI) = (b : Int) + pI := wrap_small (Int.natCast_nonneg _) hbw hpI0 hpI
      have HC := Lib.hid (And.intro hC (And.intro hat hln)); clear hC hat hln
      have HWW := Lib.hid (And.intro hw2 hw3); clear hw2 hw3 hpI hpI0 hbw
      have hk63 : i < 63 := by omega
      have hi64 : (i : Int) < 64 := by omega
      have hwi : wrap64 ((i : Int) + 1) = (i : Int) + 1 := wrap_in (by omega) (by omega)
      go_wp2_with fail
      rw [HWW.out.1, HWW.out.2, HK.out]
      refine HC.out.1.mono ?_
      rintro e w2 ⟨v, rfl, hR, hb2⟩
      obtain ⟨VA, vc, rfl, hvc, hVC⟩ := Kd.R_reads hR
      have HB2 := Lib.hid (And.intro (HI.out.2.trans (hb2.mono HI.out.2.size)) hVC); clear hb2 hR hVC
      cases r with
      | none =>
        go_wp2_with fail
        go_roundw
        case rel => exact ⟨i + 1, by omega, by omega, by go_num, Lib.hid ⟨by rw [HI.out.1, HC.out.2.1]; rfl, HB2.out.1⟩⟩
        case measure => simp [intOf]; omega
      | some d =>
        have HDL := Lib.hid (HC.out.2.2 d rfl)
        have hE := HI.out.1.trans HC.out.2.1
        have HE := Lib.hid (show srch ss n (k + 1) f b = some ((i : Int) :: d) from hE); clear hE
        have hA := (Below.refl w2.heap.size w2).alloc (Nat.le_refl _) (.cells #[.int .i64 (i : Int)] 3)
        have hL : (Kd.int .i64).R 3 (w2.alloc (.cells #[.int .i64 (i : Int)] 3)) w2.heap.size (fun k => w2.heap.size ≤ k) (.slice (some ⟨w2.heap.size, 0, none⟩) 1 1) [(i : Int)] := Kd.R_of_own (own_lit w2 w2.heap.size 3 .i64 [(i : Int)] (Nat.le_refl _) (by simp)) (fun k hk => by simp [Value.ownBlock] at hk; omega)
        have HO := Lib.hid (And.intro hL (And.intro (Kd.C_below HB2.out.2 hA) (And.intro hA hA.size))); clear hL hA
        simp only [Option.isSome_some, Option.getD_some] at *
        go_wp2_with (at_builtin; go_loud (refine Kd.R_append_rows (Kd.int .i64) (w0 := w2) (Rr := fun x cs => cs = [.int .i64 x]) w2.heap.size rfl (.tmp 53) (.tmp 54) 23 3 (.int .i64 0) 8 rfl Tryd.underlying23 info3 rfl (by decide) (by decide) _ [(i : Int)] d VA d.length vc (fun k => w2.heap.size ≤ k) (fun _ => False) rfl rfl HO.out.1 HO.out.2.1 (fun _ _ h => h) (fun _ h => h.elim) (fun k hk => Nat.le_trans HO.out.2.2.2 hk) HO.out.2.2.1 HO.out.2.2.2 (by have := HDL.out; simp only [List.length_singleton]; omega) ?_; intro v1 w7 h1 h2 h3 h4))
        have HJ := Lib.hid (And.intro h1 h2); clear h1 h2 h3 h4
        have HZ := Lib.hid HB2.out.1.size
        go_wp2_with fail
        go_ret2
        exact ⟨_, by rw [HE.out]; rfl, by rw [HE.out]; exact Kd.R_lower (Kd.R_mono HJ.out.1 (fun k hk => Nat.le_trans HZ.out hk)) HZ.out, HB2.out.1.trans (HJ.out.2.mono HZ.out)⟩
    · obtain rfl : i = n := by omega
      have HE := Lib.hid (show srch ss i (k + 1) f b = none by rw [HI.out.1]; exact srch_end)
      go_wp2_with fail
      go_ret2
      exact ⟨_, by rw [HE.out]; rfl, by rw [HE.out]; exact Kd.R_nil _ _ _ _ _, HI.out.2⟩
theorem search_any (n : Nat) (hn : n ≤ 12) (A : Option Addr) (c : Nat) (ss : List Nat) (hs : ∀ s ∈ ss, s < 2 ^ 62) (k : Nat) : ∀ (f b : Nat) (w : World) (hr : (Kd.int .i64).C w A ss.length (ss.map Int.ofNat)) (hk : k ≤ 13) (hf : f ≤ n) (hb : b < 2 ^ f), Calls Tryd.prog 55 #[.slice A ss.length c, .int .i64 n, .int .i64 (k : Nat), .int .i64 f, .int .i64 b] w (SrPost (srch ss n k f b) w) := by
  induction k with
  | zero => exact search_zero n hn A c ss hs
  | succ k ih => exact search_succ n hn A c ss hs k ih
end Go.Proofs.YtnabgijdbcdpmaaDoor

namespace Go.Proofs.YtnabgijdbcdpmaaDoor
open Go.RowKit Go.Rg Go.Proofs.YtnabgijdbcdpmaaDoor.PRightsMatchesReference Go.Proofs.YtnabgijdbcdpmaaDoorW.PrintWords
set_option linter.unusedVariables false
set_option linter.unusedSimpArgs false

/-- The first i numbers are fit. -/
def Fine (l : List Cl) (p : List Int) (i : Nat) : Prop := ∀ j (h : j < p.length), j < i → (0 ≤ p[j] ∧ p[j] < (l.length : Int)) ∧ (0 < j → rd p ((j : Int) - 1) < p[j])
theorem rd_pred {p : List Int} {j : Nat} (h : j < p.length) (h0 : 0 < j) : rd p ((j : Int) - 1) = p[j - 1] := by
  rw [show (j : Int) - 1 = ((j - 1 : Nat) : Int) by omega, rd_get (by omega)]
theorem Fine.step {l : List Cl} {p : List Int} {i : Nat} (h : Fine l p i) (hi : i < p.length) (h1 : 0 ≤ p[i] ∧ p[i] < (l.length : Int)) (h2 : 0 < i → rd p ((i : Int) - 1) < p[i]) : Fine l p (i + 1) := fun j hj hji => by
  by_cases e : j = i
  · subst e; exact ⟨h1, h2⟩
  · exact h j hj (by omega)
theorem fine_iff {l : List Cl} {p : List Int} : Fine l p p.length ↔ rising p = true ∧ coreOk l p = true := by
  rw [rising_iff, coreOk_mem]
  constructor
  · intro h
    refine ⟨fun i hi => ?_, fun x hx => ?_⟩
    · have := (h (i + 1) hi hi).2 (by omega)
      rw [rd_pred hi (by omega)] at this
      exact this
    · obtain ⟨j, hj, rfl⟩ := List.mem_iff_getElem.1 hx
      exact (h j hj hj).1
  · rintro ⟨h1, h2⟩ j hj _
    refine ⟨h2 _ (List.getElem_mem hj), fun h0 => ?_⟩
    rw [rd_pred hj h0]
    have := h1 (j - 1) (by omega)
    rwa [show p[j - 1 + 1]'(by omega) = p[j] from by congr 1; omega] at this
theorem forbB_unfit {l : List Cl} {u : List Int} {wt : Wt} {p : List Int} {i : Nat} (hi : i < p.length) (h : ¬ ((0 ≤ p[i] ∧ p[i] < (l.length : Int)) ∧ (0 < i → rd p ((i : Int) - 1) < p[i]))) : forbB l u wt p = false := by
  rw [Bool.eq_false_iff]
  intro hf
  have hf := forbB_iff.1 hf
  exact h (fine_iff.2 ⟨hf.2.1, hf.2.2.1⟩ i hi hi)
/-- Does one of the first m clauses forbid the package? -/
def anyTo (l : List Cl) (u : List Int) (wt : Wt) (p x : List Int) (m : Nat) : Bool := (p.take m).any fun i => forb u wt x (rd_T40 l i)
theorem anyTo_succ {l : List Cl} {u : List Int} {wt : Wt} {p x : List Int} {m : Nat} (h : m < p.length) : anyTo l u wt p x (m + 1) = (anyTo l u wt p x m || forb u wt x (rd_T40 l p[m])) := by
  unfold anyTo
  rw [List.take_succ_eq_append_getElem h, List.any_append]; simp
theorem rdT_get {l : List Cl} {i : Int} (h0 : 0 ≤ i) (h1 : i < l.length) : rd_T40 l i = l[i.toNat]'(by omega) := by
  unfold rd_T40
  have : i.toNat < l.length := by omega
  simp [this]
theorem anyTo_hit {l : List Cl} {u : List Int} {wt : Wt} {p x : List Int} (hc : coreOk l p = true) : anyTo l u wt p x p.length = true ↔ ∃ c ∈ these l p, forb u wt x c = true := by
  rw [coreOk_mem] at hc
  unfold anyTo
  rw [List.take_length, List.any_eq_true]
  constructor
  · rintro ⟨i, hi, hf⟩
    obtain ⟨h0, h1⟩ := hc i hi
    refine ⟨_, mem_these.2 ⟨i, hi, ?_⟩, hf⟩
    rw [rdT_get h0 h1]
    exact List.getElem?_eq_getElem _
  · rintro ⟨c, hm, hf⟩
    obtain ⟨i, hi, hg⟩ := mem_these.1 hm
    obtain ⟨h0, h1⟩ := hc i hi
    refine ⟨i, hi, ?_⟩
    rw [rdT_get h0 h1]
    rw [List.getElem?_eq_getElem (show i.toNat < l.length by omega)] at hg
    rw [Option.some.inj hg]
    exact hf
theorem forbB_all {l : List Cl} {u : List Int} {wt : Wt} {p : List Int} (hg : givenB l u wt = true) (hf : Fine l p p.length) (h : ∀ x ∈ packs l wt, anyTo l u wt p x p.length = true) : forbB l u wt p = true := by
  obtain ⟨h1, h2⟩ := fine_iff.1 hf
  exact forbB_iff.2 ⟨hg, h1, h2, fun x hx => (anyTo_hit h2).1 (h x hx)⟩
theorem forbB_no {l : List Cl} {u : List Int} {wt : Wt} {p x : List Int} (hf : Fine l p p.length) (hx : x ∈ packs l wt) (h : anyTo l u wt p x p.length = false) : forbB l u wt p = false := by
  rw [Bool.eq_false_iff]
  intro hb
  have hb := forbB_iff.1 hb
  rw [(anyTo_hit hb.2.2.1).2 (hb.2.2.2 x hx)] at h
  cases h
/-- What Forbids of the reference holds. -/
structure GX (w : World) (A : Option Addr) (c : Nat) (l : List Cl) (UA : Option Addr) (uc : Nat) (u : List Int) (wt : Wt) (WA : Option Addr) (wn : Nat) (PA : Option Addr) (p : List Int) (W : World) : Prop where
  below : Below w.heap.size w W
  args : Args W A c l UA uc u wt WA wn
  box : W.heap[w.heap.size]? = some (.cells #[.int .i64 wt.te, .int .i64 wt.cl, .int .i64 wt.at_, .int .i64 wt.us, .slice WA wt.needs.length wn] 29 (0, 0))
  rp : (Kd.int .i64).C W PA p.length p
theorem GX.next {w W W' : World} {A : Option Addr} {c : Nat} {l : List Cl} {UA : Option Addr} {uc : Nat} {u : List Int} {wt : Wt} {WA : Option Addr} {wn : Nat} {PA : Option Addr} {p : List Int} (h : GX w A c l UA uc u wt WA wn PA p W) (hb : Below W.heap.size W W') : GX w A c l UA uc u wt WA wn PA p W' :=
  ⟨h.below.trans (hb.mono h.below.size), h.args.next hb, (hb.block _ (Array.getElem?_eq_some_iff.1 h.box).1).trans h.box, Kd.C_below h.rp hb⟩

set_option maxRecDepth 100000 in
set_option maxHeartbeats 8000000 in
theorem rForbids_any (A : Option Addr) (c : Nat) (l : List Cl) (UA : Option Addr) (uc : Nat) (u : List Int) (wt : Wt) (WA : Option Addr) (wn : Nat) (PA : Option Addr) (pc : Nat) (p : List Int) (w : World) (hA : Args w A c l UA uc u wt WA wn) (hp : (Kd.int .i64).C w PA p.length p) (hpc : p.length ≤ pc) :
    Calls Tryd.prog 29 #[.slice A l.length c, .slice UA u.length uc, wtv wt WA wn, .slice PA p.length pc] w fun e w' => e = .returned (.bool (forbB l u wt p)) ∧ Below w.heap.size w w' := by
  have hml := max_len hA.rl
  have hmp := max_len hp
  have hb := (Below.refl w.heap.size w).alloc (Nat.le_refl _) (.cells (wtc wt WA wn) 29)
  have hX : GX w A c l UA uc u wt WA wn PA p (w.alloc (.cells (wtc wt WA wn) 29)) := ⟨hb, hA.next hb, heap_new rfl, Kd.C_below hp hb⟩
  have HX := Lib.hid hX; clear hX hb hA hp
  unfold wtc at HX
  unfold wtv
  go_enter Tryd.func29, Tryd.ntmps29
  have hG := fun (W : World) (h : Args W A c l UA uc u wt WA wn) => rgiven_any A c l UA uc u wt WA wn W h
  unfold wtv at hG
  obtain ⟨gv, hgv⟩ : ∃ gv, givenB l u wt = gv := ⟨_, rfl⟩
  rw [hgv] at hG
  have HG := Lib.hid hG; clear hG
  have HGV := Lib.hid hgv; clear hgv
  go_wp2_with fail
  generalize w.alloc (.cells #[.int .i64 wt.te, .int .i64 wt.cl, .int .i64 wt.at_, .int .i64 wt.us, .slice WA wt.needs.length wn] 29) = w1 at *
  refine (HG.out w1 HX.out.args).mono ?_
  rintro e w2 ⟨rfl, hb2⟩
  have HX2 := Lib.hid (HX.out.next hb2); clear hb2 HX HG
  cases gv with
  | false =>
    have HN := Lib.hid (show forbB l u wt p = false by unfold forbB; rw [HGV.out]; rfl)
    go_wp2_with fail
    go_ret
    exact ⟨ret_bool HN.out.symm, HX2.out.below⟩
  | true =>
    have HL12 := Lib.hid (given_of HGV.out)
    go_wp2_with fail
    go_loopw [9] (fun iv wr => ∃ i : Nat, i ≤ p.length ∧ iv = .int .i64 i ∧ Hid (Fine l p i ∧ Below w2.heap.size w2 wr)) (fun iv wr => p.length - (intOf iv).toNat)
    case atStart => exact ⟨0, Nat.zero_le _, rfl, Lib.hid ⟨fun j h h0 => absurd h0 (Nat.not_lt_zero _), Below.refl _ _⟩⟩
    case round =>
      obtain ⟨i, hi, rfl, HI⟩ := hrel
      have HXr := Lib.hid (HX2.out.next HI.out.2)
      by_cases hil : i < p.length
      · have hiI : (i : Int) < (p.length : Int) := by omega
        obtain ⟨pd, e, hx⟩ := Kd.at_int HXr.out.rp (i : Int) (by omega) hiI
        cases e
        have hx : wr.cell? (pd.add i) = some (.int .i64 (rd p (i : Int))) := by have h := hx; simp only [Int.toNat_natCast] at h; exact h
        have hrd := rd_get hil
        have hun := forbB_unfit (u := u) (wt := wt) (l := l) hil
        have hst := HI.out.1.step hil
        rw [← hrd] at hun hst
        clear hrd
        have hx1 : 0 < i → wr.cell? (pd.add (i - 1)) = some (.int .i64 (rd p ((i : Int) - 1))) := fun h0 => by
          obtain ⟨pd', e, hx⟩ := Kd.at_int HXr.out.rp ((i : Int) - 1) (by omega) (by omega)
          cases e
          rwa [show ((i : Int) - 1).toNat = i - 1 by omega] at hx
        generalize rd p (i : Int) = y at *
        generalize rd p ((i : Int) - 1) = z at *
        have HY := Lib.hid (And.intro hun hst); clear hun hst
        have eX := cell_ext hx
        have hcase : decide (y < 0) = true ∨ (decide (y < 0) = false ∧ decide ((l.length : Int) ≤ y) = true) ∨ (decide (y < 0) = false ∧ decide ((l.length : Int) ≤ y) = false ∧ decide (0 < i) = false) ∨ (decide (y < 0) = false ∧ decide ((l.length : Int) ≤ y) = false ∧ decide (0 < i) = true ∧ decide (y ≤ z) = true) ∨ (decide (y < 0) = false ∧ decide ((l.length : Int) ≤ y) = false ∧ decide (0 < i) = true ∧ decide (y ≤ z) = false) := by
          simp only [decide_eq_true_eq, decide_eq_false_iff_not]
          omega
        rcases hcase with n0 | ⟨n0, n1⟩ | ⟨n0, n1, n2⟩ | ⟨n0, n1, n2, n3⟩ | ⟨n0, n1, n2, n3⟩
        · have HN := Lib.hid (HY.out.1 (by simp only [decide_eq_true_eq] at n0; omega))
          go_wp2_with fail
          refine region_ext (by kernel_rfl) (by kernel_rfl) ?_
          repeat (go_big_quiet_step (fail))
          refine wpQuiet_nil ?_
          rintro W' ⟨X, rfl⟩
          go_wp2_with fail
          go_ret
          exact ⟨ret_bool HN.out.symm, HXr.out.below.trans (X.2.below (fun _ _ h => h) HXr.out.below.size)⟩
        · have HN := Lib.hid (HY.out.1 (by simp only [decide_eq_true_eq, decide_eq_false_iff_not] at n0 n1; omega))
          go_wp2_with fail
          refine region_ext (by kernel_rfl) (by kernel_rfl) ?_
          repeat (go_big_quiet_step (fail))
          refine wpQuiet_nil ?_
          rintro W' ⟨X, rfl⟩
          go_wp2_with fail
          go_ret
          exact ⟨ret_bool HN.out.symm, HXr.out.below.trans (X.2.below (fun _ _ h => h) HXr.out.below.size)⟩
        · have HN := Lib.hid (HY.out.2 (by simp only [decide_eq_true_eq, decide_eq_false_iff_not] at n0 n1; omega) (fun h => by simp only [decide_eq_false_iff_not] at n2; omega))
          go_wp2_with fail
          refine region_ext (by kernel_rfl) (by kernel_rfl) ?_
          repeat (go_big_quiet_step (fail))
          refine wpQuiet_nil ?_
          rintro W' ⟨X, rfl⟩
          go_wp2_with fail
          go_roundw
          case rel => exact ⟨i + 1, by omega, by go_num, Lib.hid ⟨HN.out, HI.out.2.trans (X.2.below (fun _ _ h => h) HI.out.2.size)⟩⟩
          case measure => simp [intOf]; omega
        · have HN := Lib.hid (HY.out.1 (by simp only [decide_eq_true_eq, decide_eq_false_iff_not] at n0 n1 n2 n3; omega))
          have hi0 : 0 < i := by simp only [decide_eq_true_eq] at n2; omega
          have eZ := cell_ext (hx1 hi0)
          have hwi : wrap64 ((i : Int) - 1) = (i : Int) - 1 := wrap_in (by omega) (by omega)
          have htn : ((i : Int) - 1).toNat = i - 1 := by omega
          go_wp2_with fail
          refine region_ext (by kernel_rfl) (by kernel_rfl) ?_
          repeat (go_big_quiet_step (fail))
          refine wpQuiet_nil ?_
          rintro W' ⟨X, rfl⟩
          go_wp2_with fail
          go_ret
          exact ⟨ret_bool HN.out.symm, HXr.out.below.trans (X.2.below (fun _ _ h => h) HXr.out.below.size)⟩
        · have HN := Lib.hid (HY.out.2 (by simp only [decide_eq_true_eq, decide_eq_false_iff_not] at n0 n1; omega) (fun h => by simp only [decide_eq_true_eq, decide_eq_false_iff_not] at n3; omega))
          have hi0 : 0 < i := by simp only [decide_eq_true_eq] at n2; omega
          have eZ := cell_ext (hx1 hi0)
          have hwi : wrap64 ((i : Int) - 1) = (i : Int) - 1 := wrap_in (by omega) (by omega)
          have htn : ((i : Int) - 1).toNat = i - 1 := by omega
          go_wp2_with fail
          refine region_ext (by kernel_rfl) (by kernel_rfl) ?_
          repeat (go_big_quiet_step (fail))
          refine wpQuiet_nil ?_
          rintro W' ⟨X, rfl⟩
          go_wp2_with fail
          go_roundw
          case rel => exact ⟨i + 1, by omega, by go_num, Lib.hid ⟨HN.out, HI.out.2.trans (X.2.below (fun _ _ h => h) HI.out.2.size)⟩⟩
          case measure => simp [intOf]; omega
      · obtain rfl : i = p.length := by omega
        have HFi := Lib.hid HI.out.1
        have hv : vldW wt = true := by
          have := HGV.out
          simp only [givenB, Bool.and_eq_true] at this
          exact this.2.2.2
        have hPk := rPackages_any A c l wt WA wn wr HXr.out.args.rl HXr.out.args.rw hv
        clear hv
        unfold wtv at hPk
        have c0 := cell_of (o := 0) HXr.out.box rfl
        have c1 := cell_of (o := 1) HXr.out.box rfl
        have c2 := cell_of (o := 2) HXr.out.box rfl
        have c3 := cell_of (o := 3) HXr.out.box rfl
        have c4 := cell_of (o := 4) HXr.out.box rfl
        obtain ⟨ps, hps⟩ : ∃ ps, packs l wt = ps := ⟨_, rfl⟩
        rw [hps] at hPk
        have HPk := Lib.hid hPk; clear hPk
        have HPS := Lib.hid hps; clear hps
        go_wp2_with fail
        refine HPk.out.mono ?_
        clear c0 c1 c2 c3 c4
        rintro e w3 ⟨QA, qc, rfl, hQ, hb3⟩
        have hqm := max_len hQ
        have HX3 := Lib.hid (HXr.out.next hb3)
        have HQ := Lib.hid hQ; clear hQ hb3 HPk HXr HX2 HI
        go_wp2_with fail
        go_loopw [11] (fun iv wr => ∃ i : Nat, i ≤ ps.length ∧ iv = .int .i64 i ∧ Hid ((∀ x ∈ ps.take i, anyTo l u wt p x p.length = true) ∧ Below w3.heap.size w3 wr)) (fun iv wr => ps.length - (intOf iv).toNat)
        case atStart => exact ⟨0, Nat.zero_le _, rfl, Lib.hid ⟨fun x hx => by simp at hx, Below.refl _ _⟩⟩
        case round =>
          obtain ⟨i, hi, rfl, HI⟩ := hrel
          by_cases hil : i < ps.length
          · have hiI : (i : Int) < (ps.length : Int) := by omega
            obtain ⟨xd, XA, xc, e, hx, hxc, hXC⟩ := at_L2 HQ.out (i : Int) (by omega) hiI
            cases e
            simp only [Int.toNat_natCast] at hx
            have hrd : rd_L2 ps (i : Int) = ps[i] := by unfold rd_L2; simp [hil]
            rw [hrd] at hx hxc hXC
            clear hrd
            have hin : ps[i] ∈ packs l wt := by rw [HPS.out]; exact List.getElem_mem hil
            have htk := List.take_succ_eq_append_getElem hil
            generalize ps[i] = x at *
            have HIN := Lib.hid hin; clear hin
            have HTK := Lib.hid htk; clear htk
            have hxm := max_len hXC
            have HXX := Lib.hid (And.intro hx hXC); clear hx hXC
            go_wp2_with fail
            generalize wr = V0 at *
            go_loopw [12, 13] (fun fv kv wr => ∃ k : Nat, k ≤ p.length ∧ fv = .bool (anyTo l u wt p x k) ∧ kv = .int .i64 k ∧ Hid (Below w3.heap.size w3 wr)) (fun fv kv wr => p.length - (intOf kv).toNat)
            case atStart => exact ⟨0, Nat.zero_le _, rfl, rfl, Lib.hid HI.out.2⟩
            case round =>
              obtain ⟨k, hk, rfl, rfl, HK⟩ := hrel
              by_cases hkl : k < p.length
              · have hkI : (k : Int) < (p.length : Int) := by omega
                have hsk := anyTo_succ (l := l) (u := u) (wt := wt) (x := x) hkl
                generalize anyTo l u wt p x k = fb at *
                cases fb with
                | true =>
                  have HSK := Lib.hid (show anyTo l u wt p x (k + 1) = true by rw [hsk]; rfl)
                  clear hsk
                  go_wp2_with fail
                  refine region_ext (by kernel_rfl) (by kernel_rfl) ?_
                  repeat (go_big_quiet_step (fail))
                  refine wpQuiet_nil ?_
                  rintro W' ⟨X, rfl⟩
                  go_wp2_with fail
                  go_roundw
                  case rel => exact ⟨k + 1, by omega, by rw [HSK.out], by go_num, Lib.hid (HK.out.trans (X.2.below (fun _ _ h => h) HK.out.size))⟩
                  case measure => simp [intOf]; omega
                | false =>
                  have HSK := Lib.hid (show anyTo l u wt p x (k + 1) = forb u wt x (rd_T40 l p[k]) by rw [hsk]; rfl)
                  clear hsk
                  have hXk := HX3.out.next HK.out
                  obtain ⟨yd, e, hy⟩ := Kd.at_int hXk.rp (k : Int) (by omega) hkI
                  cases e
                  simp only [Int.toNat_natCast] at hy
                  rw [rd_get hkl] at hy
                  have hfi := (HFi.out k hkl hkl).1
                  generalize p[k] = y at *
                  obtain ⟨hy0, hy1⟩ := hfi
                  obtain ⟨ad, e, x0, x1, x2, x3, x4, x5, x6, x7⟩ := at_T40 hXk.args.rl y hy0 hy1
                  cases e
                  have hF : ∀ X : Ext wr, _ := fun X => rforbids_any (rd_T40 l y) UA uc u wt WA wn XA xc x X.val (Kd.C_below hXk.args.ru (X.2.below (fun _ _ h => h) (Nat.le_refl _))) HL12.out.2.1 HL12.out.2.2.1 (Kd.C_below hXk.args.rw (X.2.below (fun _ _ h => h) (Nat.le_refl _))) (Kd.C_below (Kd.C_below HXX.out.2 HK.out) (X.2.below (fun _ _ h => h) (Nat.le_refl _)))
                  generalize rd_T40 l y = Y at *
                  obtain ⟨f0, f1, f2, f3, f4, f5, f6, f7⟩ := Y
                  unfold clv wtv at hF
                  simp only at x0 x1 x2 x3 x4 x5 x6 x7 hF
                  generalize forb u wt x ⟨f0, f1, f2, f3, f4, f5, f6, f7⟩ = b at *
                  have HF := Lib.hid hF; clear hF
                  have c0 := cell_ext (cell_of (o := 0) hXk.box rfl)
                  have c1 := cell_ext (cell_of (o := 1) hXk.box rfl)
                  have c2 := cell_ext (cell_of (o := 2) hXk.box rfl)
                  have c3 := cell_ext (cell_of (o := 3) hXk.box rfl)
                  have c4 := cell_ext (cell_of (o := 4) hXk.box rfl)
                  have z0 := cell_ext x0
                  have z1 := cell_ext x1
                  have z2 := cell_ext x2
                  have z3 := cell_ext x3
                  have z4 := cell_ext x4
                  have z5 := cell_ext x5
                  have z6 := cell_ext x6
                  have z7 := cell_ext x7
                  have zy := cell_ext hy
                  have zx := cell_ext (pw_cell_below HK.out HXX.out.1)
                  clear x0 x1 x2 x3 x4 x5 x6 x7 hy hXk
                  go_wp2_with fail
                  refine region_ext (by kernel_rfl) (by kernel_rfl) ?_
                  repeat (go_big_quiet_step ((go_at_call 54; with_reducible exact call_ext (HF.out _))))
                  refine wpQuiet_nil ?_
                  rintro W' ⟨X, rfl⟩
                  go_wp2_with fail
                  go_roundw
                  case rel => exact ⟨k + 1, by omega, by rw [HSK.out], by go_num, Lib.hid (HK.out.trans (X.2.below (fun _ _ h => h) HK.out.size))⟩
                  case measure => simp [intOf]; omega
              · obtain rfl : k = p.length := by omega
                generalize hfb : anyTo l u wt p x p.length = fb at *
                cases fb with
                | true =>
                  have HNX := Lib.hid (show ∀ z ∈ ps.take (i + 1), anyTo l u wt p z p.length = true by
                    rw [HTK.out]
                    intro z hz
                    rcases List.mem_append.1 hz with hz | hz
                    · exact HI.out.1 z hz
                    · obtain rfl : z = x := by simpa using hz
                      exact hfb)
                  clear hfb
                  go_wp2_with fail
                  go_roundw
                  case rel => exact ⟨i + 1, by omega, by go_num, Lib.hid ⟨HNX.out, HK.out⟩⟩
                  case measure => simp [intOf]; omega
                | false =>
                  have HN := Lib.hid (forbB_no HFi.out HIN.out hfb)
                  clear hfb
                  go_wp2_with fail
                  go_ret
                  exact ⟨ret_bool HN.out.symm, HX3.out.below.trans (HK.out.mono HX3.out.below.size)⟩
          · obtain rfl : i = ps.length := by omega
            have HN := Lib.hid (forbB_all HGV.out HFi.out (fun x hx => by rw [HPS.out] at hx; exact HI.out.1 x (by rw [List.take_length]; exact hx)))
            go_wp2_with fail
            go_ret
            exact ⟨ret_bool HN.out.symm, HX3.out.below.trans (HI.out.2.mono HX3.out.below.size)⟩
end Go.Proofs.YtnabgijdbcdpmaaDoor

namespace Go.Proofs.YtnabgijdbcdpmaaDoor
open Go.RowKit Go.Rg Go.Proofs.YtnabgijdbcdpmaaDoor.PRightsMatchesReference Go.Proofs.YtnabgijdbcdpmaaDoorW.PrintWords
set_option linter.unusedVariables false
set_option linter.unusedSimpArgs false

/-- Rising numbers of f..n-1, k of them. -/
def InR (f n k : Nat) (d : List Int) : Prop := rising d = true ∧ d.length = k ∧ ∀ x ∈ d, (f : Int) ≤ x ∧ x < (n : Int)
def mkB (b : Nat) (c : List Int) : Nat := c.foldl (fun m i => m ||| 2 ^ i.toNat) b
theorem add_or {b f : Nat} (h : b < 2 ^ f) : b + 2 ^ f = b ||| 2 ^ f := by
  have := Nat.two_pow_add_eq_or_of_lt h 1
  rw [Nat.mul_one] at this
  rw [Nat.add_comm, this, Nat.or_comm]
theorem mkB_cons (b f : Nat) (c : List Int) : mkB b ((f : Int) :: c) = mkB (b ||| 2 ^ f) c := by
  unfold mkB
  rw [List.foldl_cons, Int.toNat_natCast]
theorem InR.tail {f n k : Nat} {d : List Int} (h : InR f n (k + 1) ((f : Int) :: d)) : InR (f + 1) n k d := by
  obtain ⟨h1, h2, h3⟩ := h
  obtain ⟨r1, r2⟩ := rising_cons h1
  refine ⟨r1, by simpa using h2, fun x hx => ⟨?_, (h3 x (List.mem_cons_of_mem _ hx)).2⟩⟩
  have := r2 x hx; omega
theorem InR.cons {f n k : Nat} {d : List Int} (hf : f < n) (h : InR (f + 1) n k d) : InR f n (k + 1) ((f : Int) :: d) := by
  obtain ⟨h1, h2, h3⟩ := h
  refine ⟨?_, by simp [h2], fun x hx => ?_⟩
  · cases d with
    | nil => rfl
    | cons y r =>
      have := h3 y List.mem_cons_self
      simp only [rising, Bool.and_eq_true, decide_eq_true_eq]
      exact ⟨by omega, h1⟩
  · rcases List.mem_cons.1 hx with e | hx
    · subst e; omega
    · have := h3 x hx; omega
theorem InR.up {f n k : Nat} {x : Int} {d : List Int} (h : InR f n (k + 1) (x :: d)) (hx : x ≠ f) : InR (f + 1) n (k + 1) (x :: d) := by
  obtain ⟨h1, h2, h3⟩ := h
  obtain ⟨r1, r2⟩ := rising_cons h1
  have hx0 := h3 x List.mem_cons_self
  refine ⟨h1, h2, fun y hy => ?_⟩
  have hy0 := h3 y hy
  rcases List.mem_cons.1 hy with e | hy
  · subst e; omega
  · have := r2 y hy; omega
theorem InR.down {f n k : Nat} {d : List Int} (h : InR (f + 1) n k d) : InR f n k d := ⟨h.1, h.2.1, fun x hx => by have := h.2.2 x hx; omega⟩
theorem srch_spec (ss : List Nat) (n : Nat) : ∀ (k e f b : Nat), n - f = e → f ≤ n → b < 2 ^ f → (∀ c, srch ss n k f b = some c → (InR f n k c ∧ ss.all (hitB (mkB b c)) = true) ∧ ∀ d, InR f n k d → ss.all (hitB (mkB b d)) = true → 0 ≤ lexC d c) ∧ (srch ss n k f b = none → ∀ d, InR f n k d → ss.all (hitB (mkB b d)) = false)
  | 0, e, f, b, he, hf, hb => by
    rw [srch_zero]
    have hd0 : ∀ d, InR f n 0 d → d = [] := fun d h => List.eq_nil_of_length_eq_zero h.2.1
    constructor
    · intro c hc
      split at hc
      · rename_i ha
        cases hc
        refine ⟨⟨⟨rfl, rfl, fun x hx => by cases hx⟩, ha⟩, fun d hd _ => ?_⟩
        rw [hd0 d hd, lexC_self]; decide
      · cases hc
    · intro hc d hd
      split at hc
      · cases hc
      · rename_i ha
        rw [hd0 d hd]
        exact Bool.eq_false_iff.2 ha
  | k + 1, 0, f, b, he, hf, hb => by
    obtain rfl : f = n := by omega
    rw [srch_end]
    refine ⟨fun c hc => (by cases hc), fun _ d hd => ?_⟩
    obtain ⟨_, h2, h3⟩ := hd
    cases d with
    | nil => simp at h2
    | cons x r => have := h3 x List.mem_cons_self; omega
  | k + 1, e + 1, f, b, he, hf, hb => by
    have hfn : f < n := by omega
    have hb1 : b + 2 ^ f < 2 ^ (f + 1) := by rw [Nat.pow_succ]; omega
    have i1 := srch_spec ss n k (n - (f + 1)) (f + 1) (b + 2 ^ f) rfl hfn hb1
    have i2 := srch_spec ss n (k + 1) e (f + 1) b (by omega) hfn (by rw [Nat.pow_succ]; omega)
    rw [srch_at hfn]
    rw [add_or hb] at i1 ⊢
    cases h1 : srch ss n k (f + 1) (b ||| 2 ^ f) with
    | some c' =>
      obtain ⟨⟨j1, j2⟩, j3⟩ := i1.1 c' h1
      refine ⟨fun c hc => ?_, fun hc => by simp at hc⟩
      obtain rfl : (f : Int) :: c' = c := by simpa using hc
      refine ⟨⟨j1.cons hfn, by rw [mkB_cons]; exact j2⟩, fun d hd ha => ?_⟩
      cases d with
      | nil => have := hd.2.1; simp at this
      | cons x d =>
        by_cases hx : x = f
        · subst hx
          rw [mkB_cons] at ha
          have := j3 d hd.tail ha
          simpa [lexC] using this
        · have := hd.2.2 x List.mem_cons_self
          simp only [lexC]
          rw [if_neg (by omega), if_pos (by omega)]; decide
    | none =>
      have j := i1.2 h1
      have key : ∀ d, InR f n (k + 1) d → ss.all (hitB (mkB b d)) = true → InR (f + 1) n (k + 1) d := fun d hd ha => by
        cases d with
        | nil => have := hd.2.1; simp at this
        | cons x d =>
          by_cases hx : x = f
          · subst hx
            rw [mkB_cons, j d hd.tail] at ha
            cases ha
          · exact hd.up hx
      simp only [Option.map_none, Option.none_or]
      refine ⟨fun c hc => ?_, fun hc d hd => ?_⟩
      · obtain ⟨⟨j1, j2⟩, j3⟩ := i2.1 c hc
        exact ⟨⟨j1.down, j2⟩, fun d hd ha => j3 d (key d hd ha) ha⟩
      · rw [Bool.eq_false_iff]
        intro ha
        have := i2.2 hc d (key d hd ha)
        rw [ha] at this; cases this
theorem lexC_eq : ∀ (a b : List Int), a.length = b.length → 0 ≤ lexC a b → 0 ≤ lexC b a → a = b
  | [], [], _, _, _ => rfl
  | [], _ :: _, h, _, _ => by simp at h
  | _ :: _, [], h, _, _ => by simp at h
  | x :: a, y :: b, h, h1, h2 => by
    simp only [lexC] at h1 h2
    by_cases e1 : x < y
    · rw [if_pos e1] at h1; omega
    · by_cases e2 : y < x
      · rw [if_pos e2] at h2; omega
      · rw [if_neg e1, if_neg e2] at h1
        rw [if_neg e2, if_neg e1] at h2
        rw [lexC_eq a b (by simpa using h) h1 h2]
        congr 1; omega
theorem InR_core {l : List Cl} {d : List Int} (h1 : rising d = true) (h2 : coreOk l d = true) : InR 0 l.length d.length d :=
  ⟨h1, rfl, fun x hx => by have := coreOk_mem.1 h2 x hx; omega⟩
theorem InR.core {l : List Cl} {k : Nat} {d : List Int} (h : InR 0 l.length k d) : rising d = true ∧ coreOk l d = true :=
  ⟨h.1, coreOk_mem.2 fun x hx => by have := h.2.2 x hx; omega⟩
theorem mkB_zero (d : List Int) : mkB 0 d = maskOf d := rfl
theorem srch_best {ss : List Nat} {l : List Cl} {k : Nat} {c : List Int} (hl : l.length ≤ 12) (hb : ∀ j, j < k → srch ss l.length j 0 0 = none) (hk : srch ss l.length k 0 0 = some c) : bestOf ss (2 ^ l.length) = some c := by
  obtain ⟨⟨c1, c2⟩, c3⟩ := (srch_spec ss l.length k (l.length - 0) 0 0 rfl (Nat.zero_le _) (by decide)).1 c hk
  obtain ⟨h1, h2⟩ := bestOf_spec ss (2 ^ l.length)
  obtain ⟨r1, r2⟩ := c1.core
  have hm := mask_lt r2
  rw [mkB_zero] at c2
  have hp12 : 2 ^ l.length ≤ 2 ^ 12 := Nat.pow_le_pow_right (by decide) hl
  cases hbe : bestOf ss (2 ^ l.length) with
  | none => rw [h2 hbe _ hm] at c2; cases c2
  | some b =>
    obtain ⟨⟨m, hmm, e, ha⟩, h3⟩ := h1 b hbe
    have hI : InR 0 l.length b.length b := InR_core (by rw [e]; exact idxs_rising m) (by rw [e]; exact idxs_core hmm)
    have hbm : ss.all (hitB (mkB 0 b)) = true := by rw [mkB_zero, e, mask_idxs (by omega)]; exact ha
    have h4 := h3 (maskOf c) hm c2
    rw [idxs_mask hl r1 r2, c1.2.1] at h4
    have hbk : b.length = k ∧ 0 ≤ lexC c b := by
      rcases h4 with h4 | h4
      · have := (srch_spec ss l.length b.length (l.length - 0) 0 0 rfl (Nat.zero_le _) (by decide)).2 (hb _ h4) b hI
        rw [hbm] at this; cases this
      · exact h4
    obtain ⟨hbk, h5⟩ := hbk
    rw [hbk] at hI
    have h6 := c3 b hI hbm
    rw [lexC_eq b c (by rw [hbk, c1.2.1]) h6 h5]
theorem srch_never {ss : List Nat} {l : List Cl} (hl : l.length ≤ 12) (hb : ∀ j, j ≤ l.length → srch ss l.length j 0 0 = none) : bestOf ss (2 ^ l.length) = none := by
  obtain ⟨h1, h2⟩ := bestOf_spec ss (2 ^ l.length)
  have hp12 : 2 ^ l.length ≤ 2 ^ 12 := Nat.pow_le_pow_right (by decide) hl
  cases hbe : bestOf ss (2 ^ l.length) with
  | none => rfl
  | some b =>
    obtain ⟨⟨m, hmm, e, ha⟩, h3⟩ := h1 b hbe
    have hI : InR 0 l.length b.length b := InR_core (by rw [e]; exact idxs_rising m) (by rw [e]; exact idxs_core hmm)
    have hbm : ss.all (hitB (mkB 0 b)) = true := by rw [mkB_zero, e, mask_idxs (by omega)]; exact ha
    have hle : b.length ≤ l.length := by
      have := (these_sub (l := l) 0 hI.1 (fun x hx => by have := hI.2.2 x hx; omega)).length_le
      rw [these_len (fun x hx => by have := hI.2.2 x hx; omega)] at this
      simpa using this
    have := (srch_spec ss l.length b.length (l.length - 0) 0 0 rfl (Nat.zero_le _) (by decide)).2 (hb _ hle) b hI
    rw [hbm] at this; cases this
theorem best_some {l : List Cl} {u : List Int} {wt : Wt} (hg : givenB l u wt = true) (hn : solvP l u wt = none) : bestOf (sets l u wt) (2 ^ l.length) ≠ none := by
  intro hb
  obtain ⟨h1, _⟩ := core_min hg hn
  obtain ⟨_, hr, hc, hh⟩ := forbB_iff.1 h1
  have hp := (packsHit_these hc).2 hh
  have := (bestOf_spec (sets l u wt) (2 ^ l.length)).2 hb _ (mask_lt hc)
  rw [sets_all, hp] at this; cases this
theorem find_first {α : Type} {q : α → Bool} {l : List α} {i : Nat} (h : i < l.length) (h0 : ∀ x ∈ l.take i, q x = false) (h1 : q l[i] = true) : l.find? q = some l[i] := by
  have e : l = l.take i ++ l[i] :: l.drop (i + 1) := by rw [← List.drop_eq_getElem_cons h, List.take_append_drop]
  have hn : (l.take i).find? q = none := List.find?_eq_none.2 fun x hx => by rw [h0 x hx]; decide
  conv => lhs; rw [e]
  rw [List.find?_append, hn, Option.none_or, List.find?_cons, h1]
theorem find_never {α : Type} {q : α → Bool} {l : List α} (h0 : ∀ x ∈ l, q x = false) : l.find? q = none :=
  List.find?_eq_none.2 fun x hx => by rw [h0 x hx]; decide
theorem C_nil {W : World} : (Kd.int .i64).C W none ([] : List Int).length [] := ⟨rfl, by decide, fun h => absurd h (Nat.lt_irrefl _)⟩
/-- What Solve of the reference answers. -/
def RSol (l : List Cl) (u : List Int) (wt : Wt) (w : World) (e : Ending) (w' : World) : Prop :=
  ∃ A1 c1 A2 c2, e = .returned (.tuple #[.slice A1 (solve1 l u wt).length c1, .slice A2 (solve2 l u wt).length c2, .int .i64 (solveE l u wt)]) ∧ (solve1 l u wt).length ≤ c1 ∧ (solve2 l u wt).length ≤ c2 ∧ (Kd.int .i64).C w' A1 (solve1 l u wt).length (solve1 l u wt) ∧ (Kd.int .i64).C w' A2 (solve2 l u wt).length (solve2 l u wt) ∧ Below w.heap.size w w'
theorem RSol.mk0 {l : List Cl} {u : List Int} {wt : Wt} {w w' : World} {A1 A2 : Option Addr} {c1 c2 : Nat} {x y : List Int} {e : Int} (h1 : solve1 l u wt = x) (h2 : solve2 l u wt = y) (h3 : solveE l u wt = e) (hc1 : x.length ≤ c1) (hc2 : y.length ≤ c2) (hx : (Kd.int .i64).C w' A1 x.length x) (hy : (Kd.int .i64).C w' A2 y.length y) (hb : Below w.heap.size w w') : RSol l u wt w (.returned (.tuple #[.slice A1 x.length c1, .slice A2 y.length c2, .int .i64 e])) w' := by
  subst h1; subst h2; subst h3
  exact ⟨A1, c1, A2, c2, rfl, hc1, hc2, hx, hy, hb⟩
theorem solve_no {l : List Cl} {u : List Int} {wt : Wt} (h : givenB l u wt = false) : solve1 l u wt = [] ∧ solve2 l u wt = [] ∧ solveE l u wt = 290 := by simp [solve1, solve2, solveE, h]
theorem solve_pk {l : List Cl} {u : List Int} {wt : Wt} {x : List Int} (h : givenB l u wt = true) (hs : solvP l u wt = some x) : solve1 l u wt = x ∧ solve2 l u wt = [] ∧ solveE l u wt = 0 := by simp [solve1, solve2, solveE, h, hs]
theorem solve_core {l : List Cl} {u : List Int} {wt : Wt} {x : List Int} (h : givenB l u wt = true) (hs : solvP l u wt = none) (hb : bestOf (sets l u wt) (2 ^ l.length) = some x) : solve1 l u wt = [] ∧ solve2 l u wt = x ∧ solveE l u wt = 0 := by simp [solve1, solve2, solveE, h, hs, hb]
theorem brkInt {l : List Cl} {u : List Int} {wt : Wt} {ps : List (List Int)} : (ps.map fun x => ((brk l u wt x : Nat) : Int)) = (ps.map (brk l u wt)).map Int.ofNat := by rw [List.map_map]; rfl
theorem shl_add {m k : Nat} (hm : m < 2 ^ k) (hk : k ≤ 12) : wrap64 ((m : Int) + wrap64 ((2 : Int) ^ k)) = ((m + 2 ^ k : Nat) : Int) := by
  have hpl : 2 ^ k ≤ 4096 := Nat.le_trans (Nat.pow_le_pow_right (by decide) hk) (by decide)
  rw [show ((2 : Int) ^ k) = ((2 ^ k : Nat) : Int) by simp]
  generalize 2 ^ k = q at *
  rw [wrap_in (x := (q : Int)) (by omega) (by omega), wrap_in (by omega) (by omega)]
  omega
theorem brk_small {l : List Cl} {u : List Int} {wt : Wt} {ps : List (List Int)} (h : l.length ≤ 12) : ∀ s ∈ ps.map (brk l u wt), s < 2 ^ 62 := fun s hs => by
  obtain ⟨x, _, rfl⟩ := List.mem_map.1 hs
  exact Nat.lt_of_lt_of_le (brk_lt l u wt x) (Nat.pow_le_pow_right (by decide) (by omega))
theorem meas_up {k N : Nat} (h : k < N) (hw : wrap64 ((k : Int) + 1) = (k : Int) + 1) : N - (intOf (Value.int IntKind.i64 (wrap64 ((k : Int) + 1)))).toNat < N - (intOf (Value.int IntKind.i64 (k : Int))).toNat := by
  rw [hw]
  simp only [intOf]
  omega
theorem beq_nat0 (n : Nat) : (((n : Nat) : Int) == 0) = decide (n = 0) := by rw [beqD]; exact decide_eq_decide.2 (by omega)

set_option maxRecDepth 100000 in
set_option maxHeartbeats 8000000 in
theorem rSolve_any (A : Option Addr) (c : Nat) (l : List Cl) (UA : Option Addr) (uc : Nat) (u : List Int) (wt : Wt) (WA : Option Addr) (wn : Nat) (w : World) (hA : Args w A c l UA uc u wt WA wn) :
    Calls Tryd.prog 21 #[.slice A l.length c, .slice UA u.length uc, wtv wt WA wn] w (RSol l u wt w) := by
  have hml := max_len hA.rl
  have hb := (Below.refl w.heap.size w).alloc (Nat.le_refl _) (.cells (wtc wt WA wn) 29)
  have hX : GX w A c l UA uc u wt WA wn none [] (w.alloc (.cells (wtc wt WA wn) 29)) := ⟨hb, hA.next hb, heap_new rfl, C_nil⟩
  have HX := Lib.hid hX; clear hX hb hA
  unfold wtc at HX
  unfold wtv
  go_enter Tryd.func21, Tryd.ntmps21
  have hG := fun (W : World) (h : Args W A c l UA uc u wt WA wn) => rgiven_any A c l UA uc u wt WA wn W h
  unfold wtv at hG
  obtain ⟨gv, hgv⟩ : ∃ gv, givenB l u wt = gv := ⟨_, rfl⟩
  rw [hgv] at hG
  have HG := Lib.hid hG; clear hG
  have HGV := Lib.hid hgv; clear hgv
  go_wp2_with fail
  generalize w.alloc (.cells #[.int .i64 wt.te, .int .i64 wt.cl, .int .i64 wt.at_, .int .i64 wt.us, .slice WA wt.needs.length wn] 29) = w1 at *
  refine (HG.out w1 HX.out.args).mono ?_
  rintro e w2 ⟨rfl, hb2⟩
  have HX2 := Lib.hid (HX.out.next hb2); clear hb2 HX HG
  cases gv with
  | false =>
    have HN := Lib.hid (solve_no HGV.out)
    go_wp2_with fail
    go_ret3
    exact RSol.mk0 (A1 := none) (A2 := none) (x := []) (y := []) HN.out.1 HN.out.2.1 HN.out.2.2 (Nat.le_refl _) (Nat.le_refl _) C_nil C_nil HX2.out.below
  | true =>
    have HL12 := Lib.hid (given_of HGV.out)
    have hv : vldW wt = true := by
      have := HGV.out
      simp only [givenB, Bool.and_eq_true] at this
      exact this.2.2.2
    have hPk := rPackages_any A c l wt WA wn w2 HX2.out.args.rl HX2.out.args.rw hv
    have hpb := packs_len HGV.out
    clear hv
    unfold wtv at hPk
    have c0 := cell_of (o := 0) HX2.out.box rfl
    have c1 := cell_of (o := 1) HX2.out.box rfl
    have c2 := cell_of (o := 2) HX2.out.box rfl
    have c3 := cell_of (o := 3) HX2.out.box rfl
    have c4 := cell_of (o := 4) HX2.out.box rfl
    obtain ⟨ps, hps⟩ : ∃ ps, packs l wt = ps := ⟨_, rfl⟩
    rw [hps] at hPk hpb
    have HPk := Lib.hid hPk; clear hPk
    have HPS := Lib.hid hps; clear hps
    go_wp2_with fail
    refine HPk.out.mono ?_
    clear c0 c1 c2 c3 c4
    rintro e w3 ⟨QA, qc, rfl, hQ, hb3⟩
    have hqm := max_len hQ
    have HX3 := Lib.hid (HX2.out.next hb3)
    have HQ := Lib.hid hQ; clear hQ hb3 HPk HX2
    go_wp2_with fail
    go_loopw [10, 11] (fun mv iv wr => ∃ i : Nat, i ≤ ps.length ∧ iv = .int .i64 i ∧ Hid ((Kd.int .i64).R 3 wr w3.heap.size (fun k => w3.heap.size ≤ k) mv ((ps.take i).map fun x => ((brk l u wt x : Nat) : Int)) ∧ (∀ x ∈ ps.take i, decide (brk l u wt x = 0) = false) ∧ Below w3.heap.size w3 wr)) (fun mv iv wr => ps.length - (intOf iv).toNat)
    case atStart => exact ⟨0, Nat.zero_le _, rfl, Lib.hid ⟨Kd.R_nil _ _ _ _ _, fun x hx => by simp at hx, Below.refl _ _⟩⟩
    case round =>
      obtain ⟨i, hi, rfl, HI⟩ := hrel
      obtain ⟨MA, mc, hme, hmc, hMC⟩ := Kd.R_reads HI.out.1
      rw [List.length_map, List.length_take, Nat.min_eq_left hi] at hme hmc
      subst hme
      clear hMC
      by_cases hil : i < ps.length
      · have hiI : (i : Int) < (ps.length : Int) := by omega
        obtain ⟨xd, XA, xc, e, hx, hxc, hXC⟩ := at_L2 HQ.out (i : Int) (by omega) hiI
        cases e
        simp only [Int.toNat_natCast] at hx
        have hrd : rd_L2 ps (i : Int) = ps[i] := by unfold rd_L2; simp [hil]
        rw [hrd] at hx hxc hXC
        clear hrd
        have hff := find_first (q := fun p => decide (brk l u wt p = 0)) hil HI.out.2.1
        have htk := List.take_succ_eq_append_getElem hil
        generalize ps[i] = x at *
        have HFF := Lib.hid hff; clear hff
        have HTK := Lib.hid htk; clear htk
        have hxm := max_len hXC
        have HXX := Lib.hid (And.intro hx hXC); clear hx hXC
        go_wp2_with fail
        generalize wr = V0 at *
        go_loopw [12, 13] (fun mv kv wr => ∃ k : Nat, k ≤ l.length ∧ mv = .int .i64 (bits ((l.take k).map (forb u wt x)) : Nat) ∧ kv = .int .i64 k ∧ Hid (Below V0.heap.size V0 wr)) (fun mv kv wr => l.length - (intOf kv).toNat)
        case atStart => exact ⟨0, Nat.zero_le _, rfl, rfl, Lib.hid (Below.refl _ _)⟩
        case round =>
          obtain ⟨k, hk, rfl, rfl, HK⟩ := hrel
          have HKB := Lib.hid (HI.out.2.2.trans (HK.out.mono HI.out.2.2.size))
          by_cases hkl : k < l.length
          · have hkI : (k : Int) < (l.length : Int) := by omega
            have hXk := HX3.out.next HKB.out
            obtain ⟨ad, e, x0, x1, x2, x3, x4, x5, x6, x7⟩ := at_T40 hXk.args.rl (k : Int) (by omega) hkI
            cases e
            simp only [Int.toNat_natCast] at x0 x1 x2 x3 x4 x5 x6 x7
            have hrd : rd_T40 l (k : Int) = l[k] := by unfold rd_T40; simp [hkl]
            rw [hrd] at x0 x1 x2 x3 x4 x5 x6 x7
            clear hrd
            have hF : ∀ X : Ext wr, _ := fun X => rforbids_any l[k] UA uc u wt WA wn XA xc x X.val (Kd.C_below hXk.args.ru (X.2.below (fun _ _ h => h) (Nat.le_refl _))) HL12.out.2.1 HL12.out.2.2.1 (Kd.C_below hXk.args.rw (X.2.below (fun _ _ h => h) (Nat.le_refl _))) (Kd.C_below (Kd.C_below HXX.out.2 HKB.out) (X.2.below (fun _ _ h => h) (Nat.le_refl _)))
            have hbl := bits_lt ((l.take k).map (forb u wt x))
            rw [List.length_map, List.length_take, Nat.min_eq_left hk] at hbl
            have hbs := bits_step (forb u wt x) l hkl
            generalize l[k] = Y at *
            obtain ⟨f0, f1, f2, f3, f4, f5, f6, f7⟩ := Y
            unfold clv wtv at hF
            simp only at x0 x1 x2 x3 x4 x5 x6 x7 hF
            generalize forb u wt x ⟨f0, f1, f2, f3, f4, f5, f6, f7⟩ = b at *
            generalize bits ((l.take k).map (forb u wt x)) = m0 at *
            have HBL := Lib.hid hbl; clear hbl
            have HBS := Lib.hid hbs; clear hbs
            have HF := Lib.hid hF; clear hF
            have c0 := cell_ext (cell_of (o := 0) hXk.box rfl)
            have c1 := cell_ext (cell_of (o := 1) hXk.box rfl)
            have c2 := cell_ext (cell_of (o := 2) hXk.box rfl)
            have c3 := cell_ext (cell_of (o := 3) hXk.box rfl)
            have c4 := cell_ext (cell_of (o := 4) hXk.box rfl)
            have z0 := cell_ext x0
            have z1 := cell_ext x1
            have z2 := cell_ext x2
            have z3 := cell_ext x3
            have z4 := cell_ext x4
            have z5 := cell_ext x5
            have z6 := cell_ext x6
            have z7 := cell_ext x7
            have zx := cell_ext (pw_cell_below HKB.out HXX.out.1)
            clear x0 x1 x2 x3 x4 x5 x6 x7 hXk
            go_wp2_with fail
            refine region_ext (by kernel_rfl) (by kernel_rfl) ?_
            repeat (go_big_quiet_step ((go_at_call 54; with_reducible exact call_ext (HF.out _))))
            refine wpQuiet_nil ?_
            rintro W' ⟨X, rfl⟩
            have HKX := Lib.hid (HK.out.trans (X.2.below (fun _ _ h => h) HK.out.size))
            clear c0 c1 c2 c3 c4 z0 z1 z2 z3 z4 z5 z6 z7 zx HF
            cases b with
            | false =>
              go_wp2_with fail
              go_roundw
              case rel => exact ⟨k + 1, by omega, by rw [HBS.out, if_neg Bool.false_ne_true, Nat.add_zero], by go_num, HKX⟩
              case measure => simp [intOf]; omega
            | true =>
              have hwk := shl_add HBL.out (show k ≤ 12 by have := HL12.out.1; omega)
              have HWK := Lib.hid hwk; clear hwk
              have hk62 : k < 63 := by have := HL12.out.1; omega
              have hk64 : (k : Int) < 64 := by omega
              go_wp2_with fail
              go_roundw
              case rel => exact ⟨k + 1, by omega, by rw [HBS.out, HWK.out, if_pos rfl], by go_num, HKX⟩
              case measure => simp [intOf]; omega
          · obtain rfl : k = l.length := by omega
            have hbk : bits ((l.take l.length).map (forb u wt x)) = brk l u wt x := by rw [List.take_length]; rfl
            rw [hbk]
            have h0 := beq_nat0 (brk l u wt x)
            cases hd : decide (brk l u wt x = 0) with
            | true =>
              have HN := Lib.hid (solve_pk HGV.out (show solvP l u wt = some x by unfold solvP; rw [HPS.out]; exact HFF.out hd))
              rw [hd] at h0
              clear hd hbk
              generalize brk l u wt x = m0 at *
              have hxx := pw_cell_below HKB.out HXX.out.1
              go_wp2_with fail
              go_ret3
              exact RSol.mk0 (A2 := none) (x := x) (y := []) HN.out.1 HN.out.2.1 HN.out.2.2 hxc (Nat.le_refl _) (Kd.C_below HXX.out.2 HKB.out) C_nil (HX3.out.below.trans (HKB.out.mono HX3.out.below.size))
            | false =>
              have HNX := Lib.hid (show (∀ z ∈ ps.take (i + 1), decide (brk l u wt z = 0) = false) ∧ ((ps.take (i + 1)).map fun x => ((brk l u wt x : Nat) : Int)) = ((ps.take i).map fun x => ((brk l u wt x : Nat) : Int)) ++ [((brk l u wt x : Nat) : Int)] by
                rw [HTK.out]
                refine ⟨fun z hz => ?_, by simp⟩
                rcases List.mem_append.1 hz with hz | hz
                · exact HI.out.2.1 z hz
                · obtain rfl : z = x := by simpa using hz
                  exact hd)
              have hR0 := Kd.R_below HI.out.1 HK.out
              rw [hd] at h0
              clear hd hbk
              generalize hm0 : brk l u wt x = m0 at *
              have hA := (Below.refl wr.heap.size wr).alloc (Nat.le_refl _) (.cells #[.int .i64 (m0 : Int)] 3)
              have hRow := introw (xs := [(m0 : Int)]) (by simp) (heap_new (o := .cells #[.int .i64 (m0 : Int)] 3) (W := wr) rfl)
              have hlm : (((ps.take i).map fun x => ((brk l u wt x : Nat) : Int))).length = i := by rw [List.length_map, List.length_take, Nat.min_eq_left hi]
              generalize ((ps.take i).map fun x => ((brk l u wt x : Nat) : Int)) = out at *
              subst hlm
              have HOX := Lib.hid (And.intro (Kd.R_below hR0 hA) (And.intro hRow (And.intro (HKB.out.trans (hA.mono HKB.out.size)) (Nat.le_trans HKB.out.size hA.size)))); clear hA hRow hR0
              go_wp2_with (at_builtin; go_loud (refine Kd.R_append_rows (Kd.int .i64) (w0 := w3) (Rr := fun x cs => cs = [.int .i64 x]) w3.heap.size rfl (.tmp 58) (.tmp 60) 23 3 (.int .i64 0) 8 rfl Tryd.underlying23 info3 rfl (by decide) (by decide) _ out [(m0 : Int)] _ 1 1 (fun k => w3.heap.size ≤ k) (fun _ => False) rfl rfl HOX.out.1 HOX.out.2.1 (fun _ _ h => h) (fun _ h => h.elim) (fun k hk => Nat.le_trans HOX.out.2.2.2 hk) HOX.out.2.2.1 HOX.out.2.2.2 (by omega) ?_; intro v1 w7 h1 h2 h3 h4))
              have HJ := Lib.hid (And.intro h1 h2); clear h1 h2 h3 h4
              go_wp2_with fail
              go_roundw
              case rel => exact ⟨_, hil, by go_num, Lib.hid ⟨by rw [HNX.out.2]; exact HJ.out.1, HNX.out.1, HJ.out.2⟩⟩
              case measure => simp [intOf]; omega
      · obtain rfl : i = ps.length := by omega
        have hnone : solvP l u wt = none := by
          unfold solvP
          rw [HPS.out]
          refine find_never fun x hx => HI.out.2.1 x (by rw [List.take_length]; exact hx)
        have hMR : (Kd.int .i64).C wr MA (ps.map (brk l u wt)).length ((ps.map (brk l u wt)).map Int.ofNat) := by
          have h := (Kd.R_reads' HI.out.1).2.2
          rw [List.take_length, brkInt] at h
          rwa [List.length_map] at h
        have hss : sets l u wt = ps.map (brk l u wt) := by unfold sets; rw [HPS.out]
        have hbne := best_some HGV.out hnone
        have hlt := brk_small (l := l) (u := u) (wt := wt) (ps := ps) HL12.out.1
        have hlen : (ps.map (brk l u wt)).length = ps.length := List.length_map _
        have HSN := Lib.hid hnone; clear hnone
        have hbt := fun k c => srch_best (ss := ps.map (brk l u wt)) (l := l) (k := k) (c := c) HL12.out.1
        have hnv := srch_never (ss := ps.map (brk l u wt)) (l := l) HL12.out.1
        rw [hss] at hbne
        have hcr := fun c => solve_core (l := l) (u := u) (wt := wt) (x := c) HGV.out HSN.out
        rw [hss] at hcr
        generalize ps.map (brk l u wt) = ss at *
        rw [← hlen]
        have HLN := Lib.hid hlen; clear hlen
        have HMR := Lib.hid (And.intro hMR hlt); clear hMR hlt
        have HCR := Lib.hid (And.intro hbt (And.intro hnv (And.intro hbne hcr))); clear hbt hnv hbne hcr hss
        have HB0 := Lib.hid HI.out.2.2; clear HI HPS HQ
        go_wp2_with fail
        generalize wr = V0 at *
        go_loopw [14] (fun iv wr => ∃ k : Nat, k ≤ l.length + 1 ∧ iv = .int .i64 k ∧ Hid ((∀ j, j < k → srch ss l.length j 0 0 = none) ∧ Below V0.heap.size V0 wr)) (fun iv wr => 14 - (intOf iv).toNat)
        case atStart => exact ⟨0, Nat.zero_le _, rfl, Lib.hid ⟨fun j h => absurd h (Nat.not_lt_zero _), Below.refl _ _⟩⟩
        case round =>
          obtain ⟨k, hk, rfl, HK⟩ := hrel
          by_cases hkl : k ≤ l.length
          · have hkI : (k : Int) ≤ (l.length : Int) := by omega
            have hwi : wrap64 ((k : Int) + 1) = (k : Int) + 1 := wrap_in (by omega) (by have := HL12.out.1; omega)
            have hS := search_any l.length HL12.out.1 MA mc ss HMR.out.2 k 0 0 wr (Kd.C_below HMR.out.1 HK.out.2) (by have := HL12.out.1; omega) (Nat.zero_le _) (by decide)
            obtain ⟨r, hr⟩ : ∃ r, srch ss l.length k 0 0 = r := ⟨_, rfl⟩
            rw [hr, show ((0 : Nat) : Int) = 0 from rfl] at hS
            have HS := Lib.hid hS; clear hS
            have HRR := Lib.hid hr; clear hr
            go_wp2_with fail
            refine HS.out.mono ?_
            rintro e w4 ⟨v, rfl, hR, hb4⟩
            obtain ⟨VA, vc, rfl, hvc, hVC⟩ := Kd.R_reads hR
            have HB4 := Lib.hid (And.intro (HK.out.2.trans (hb4.mono HK.out.2.size)) hVC); clear hb4 hR hVC HS
            cases r with
            | none =>
              have HNX := Lib.hid (show ∀ j, j < k + 1 → srch ss l.length j 0 0 = none from fun j hj => by
                by_cases e : j = k
                · rw [e]; exact HRR.out
                · exact HK.out.1 j (by omega))
              go_wp2_with fail
              go_roundw
              case rel => exact ⟨k + 1, by omega, by go_num, Lib.hid ⟨HNX.out, HB4.out.1⟩⟩
              case measure =>
                have hl12 := HL12.out.1
                exact meas_up (Nat.lt_of_le_of_lt hkl (by omega)) hwi
            | some d =>
              have HN := Lib.hid (HCR.out.2.2.2 d (HCR.out.1 k d HK.out.1 HRR.out))
              simp only [Option.getD_some, Option.isSome_some] at *
              go_wp2_with fail
              go_ret3
              exact RSol.mk0 (A1 := none) (x := []) (y := d) HN.out.1 HN.out.2.1 HN.out.2.2 (Nat.le_refl _) hvc C_nil HB4.out.2 (HX3.out.below.trans ((HB0.out.trans (HB4.out.1.mono HB0.out.size)).mono HX3.out.below.size))
          · exact (HCR.out.2.2.1 (HCR.out.2.1 fun j hj => HK.out.1 j (by omega))).elim
end Go.Proofs.YtnabgijdbcdpmaaDoor
