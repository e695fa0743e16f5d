/- The walk of SourceMonotone. -/
import Derived.Test.YticngcjfofcoiaaDoorMn
namespace Go.Proofs.YticngcjfofcoiaaDoor
open Go.RowKit Go.Rg Go.Proofs.YticngcjfofcoiaaDoorW.PrintWords
set_option linter.unusedVariables false
set_option linter.unusedSimpArgs false
set_option maxRecDepth 100000
set_option maxHeartbeats 4000000 in
theorem Monotone_walk (XA : Option Addr) (xc : Nat) (x : List (Int × Int × Int)) (set : Int) (w : World) (hx : Kd.C k3 w XA x.length x) (hT : Tab w) :
    Calls Tryd.prog 8 #[.slice XA x.length xc, .int .i64 set] w fun e w' => e = .returned (.bool true) ∧ Below w.heap.size w w' := by
  have HIN := Lib.hid (And.intro hx hT); clear hx hT
  go_enter Tryd.func8, Tryd.ntmps8
  go_wp2_with fail
  refine (sane_any w HIN.out.2).mono ?_
  rintro e w1 ⟨rfl, hb⟩
  have HB := Lib.hid hb; clear hb
  go_wp2_with fail
  refine (made_callR XA xc x w1 (Kd.C_below HIN.out.1 HB.out)).mono ?_
  rintro e w2 ⟨A, c, l, rfl, HM⟩
  have HB2 := Lib.hid (HB.out.trans (HM.out.2.2.2.mono HB.out.size))
  have HL := Lib.hid (And.intro HM.out.2.1 HM.out.2.2.1)
  obtain ⟨gB, hgB⟩ : ∃ b, w2.heap.size = b := ⟨_, rfl⟩
  have HS := Lib.hid (show kS.R 35 w2 w.heap.size (fun k => k < gB) (.slice A l.length c) l from Kd.R_mono (Kd.R_lower HM.out.1 HB.out.size) (fun k hk => by have := hk.2; omega)); clear HM
  have hbA := (Below.refl w2.heap.size w2).alloc (Nat.le_refl _) (.cells (Array.replicate 12 (.bool false)) 4)
  have hbo := bools_new hgB
  obtain ⟨w3, hw3⟩ : ∃ W, w2.alloc (.cells (Array.replicate 12 (.bool false)) 4) = W := ⟨_, rfl⟩
  have hz3 : w3.heap.size = gB + 1 := by rw [← hw3]; simp [hgB]
  have hmk := make12 w2
  rw [hgB, hw3] at hmk
  rw [hw3] at hbA hbo
  have HB3 := Lib.hid (HB2.out.trans (hbA.mono HB2.out.size))
  have HS3 := Lib.hid (Kd.R_below HS.out hbA)
  have HBO := Lib.hid (And.intro hbo (And.intro hz3 (show w.heap.size ≤ gB by have := HB2.out.size; omega))); clear hbA hbo hz3 HS HB HB2
  go_wp2_with fail
  clear hmk
  refine (chosen_callR l.length (by have := HL.out.2; omega) set w3).mono ?_
  rintro e w4 ⟨B, d, xs, rfl, HC⟩
  have HC2 := Lib.hid (And.intro HC.out.2.1 HC.out.2.2.1)
  have HB4 := Lib.hid (HB3.out.trans (HC.out.2.2.2.mono HB3.out.size))
  have HX := Lib.hid (show MNX w gB A c l B d xs (fun _ => false) w4 from ⟨HB4.out, HIN.out.2.next HB4.out HIN.out.2.pos, Kd.R_below HS3.out HC.out.2.2.2, Kd.R_mono (Kd.R_lower HC.out.1 HB3.out.size) (fun k hk => by have := HBO.out.2.1; omega), HBO.out.1.next HC.out.2.2.2, HBO.out.2.2, HIN.out.2.pos⟩)
  clear HB3 HB4 HS3 HBO HC hw3 hgB
  have HG := Lib.hid (fun i : Nat => made_given HL.out.1 HL.out.2 (chosen_take HC2.out.1 i))
  have HV := Lib.hid (made_valid HL.out.1 HL.out.2)
  go_wp2_with fail
  have hm : xs.length ≤ 10 := by have := HL.out.2; have := HC2.out.2; omega
  have HXL := Lib.hid hm; clear hm
  go_loopw [6, 9] (fun lv iv wr => ∃ (i : Nat) (S : Nat → Bool), i ≤ xs.length + 1 ∧ iv = .int .i64 i ∧ lv = .int .i64 (lastN l xs i) ∧ Hid (MNX w gB A c l B d xs S wr ∧ Marked l (xs.take i) S)) (fun lv iv wr => xs.length + 1 - (intOf iv).toNat)
  case atStart => exact ⟨0, fun _ => false, Nat.zero_le _, rfl, rfl, Lib.hid ⟨HX.out, fun y hy => by simp at hy⟩⟩
  case round =>
    clear HX
    obtain ⟨i, S, hi, rfl, rfl, HI⟩ := hrel
    by_cases hlt : i ≤ xs.length
    · have hltI : (i : Int) ≤ (xs.length : Int) := by omega
      have hlt2 : i ≤ d := by have := HI.out.1.intA.cx; omega
      have hlt3 : (i : Int) ≤ (d : Int) := by omega
      have hti : (xs.take i).length = i := by rw [List.length_take]; omega
      have HCL := Lib.hid (sup_call (HI.out.1.srcA HL.out.1) (HI.out.1.intA.take hlt) HI.out.1.tab (HG.out i))
      rw [hti] at HCL
      obtain ⟨la, hla⟩ : ∃ n, lastN l xs i = n := ⟨_, rfl⟩
      have HLA := Lib.hid hla
      rw [hla]
      clear hla hti
      have hm11 : i ≤ 10 := by have := HXL.out; omega
      go_wp2_with fail
      refine HCL.out.mono ?_
      rintro e w5 ⟨n, Wn, wcn, Cn, ccn, rfl, HQ⟩
      have HN : Hid (la ≤ n ∧ n ≤ la + 1 ∧ n ≤ i ∧ lastN l xs (i + 1) = n) := Lib.hid (by
        have h := lastN_le HL.out.1 HL.out.2 HC2.out.1 hlt
        rw [HLA.out, ← HQ.out.1.num] at h
        refine ⟨h.1, h.2.1, h.2.2, ?_⟩
        unfold lastN
        rw [if_neg (by omega), HQ.out.1.num]
        rfl)
      have HX5 := Lib.hid (HI.out.1.next HQ.out.2)
      clear HQ HCL HLA
      obtain ⟨b10, hb10⟩ : ∃ b, w5.heap.size = b := ⟨_, rfl⟩
      have hbx := box_new (W := w5) n Wn wcn Cn ccn hb10
      obtain ⟨w6, hw6⟩ : ∃ W2, w5.alloc (.cells #[.int .i64 n, .slice Wn n wcn, .slice Cn n ccn] 30) = W2 := ⟨_, rfl⟩
      rw [hw6] at hbx
      have HX6 := Lib.hid (HX5.out.next hbx.1)
      have t0 := cell_of (o := 0) hbx.2 rfl
      clear hbx HX5
      have hwi : wrap64 ((la : Int) + 1) = (la : Int) + 1 := by have := HN.out; unfold wrap64; omega
      have hd1 : decide (n < la) = false := decide_eq_false (by have := HN.out.1; omega)
      have hd2 : decide ((n : Int) > (la : Int) + 1) = false := decide_eq_false (by have := HN.out.2.1; omega)
      have hd2' : decide ((la : Int) + 1 < (n : Int)) = false := decide_eq_false (by have := HN.out.2.1; omega)
      have hd3 : decide (i < n) = false := decide_eq_false (by have := HN.out.2.2.1; omega)
      by_cases hie : i = xs.length
      · have hie' : ((i : Int) == (xs.length : Int)) = true := by simp [hie]
        have HM := Lib.hid (show Marked l (xs.take (i + 1)) S by
          have h := HI.out.2
          rw [hie, List.take_length] at h
          rw [List.take_of_length_le (by omega)]
          exact h)
        have HIE := Lib.hid hie
        subst hie
        go_wp2_with fail
        go_roundw
        case rel => exact ⟨xs.length + 1, S, by omega, by go_num, by rw [HN.out.2.2.2], Lib.hid ⟨HX6.out, HM.out⟩⟩
        case measure => simp only [intOf]; omega
      · have hlt4 : i < xs.length := by omega
        have hltJ : (i : Int) < (xs.length : Int) := by omega
        have hie' : ((i : Int) == (xs.length : Int)) = false := by simp; omega
        obtain ⟨y, hy⟩ : ∃ y, xs[i]? = some y := ⟨_, List.getElem?_eq_getElem hlt4⟩
        have HY := Lib.hid hy
        obtain ⟨xd, e, xv⟩ := Kd.at_int HX6.out.intA.rx (i : Int) (by omega) hltJ
        cases e
        have hrd : rd xs (i : Int) = y := by rw [rd_at hlt4]; exact (List.getElem?_eq_some_iff.1 hy).2
        simp only [Int.toNat_natCast] at xv
        rw [hrd] at xv
        clear hrd hy hie
        go_wp2_with fail
        refine (origins_call y (HX6.out.srcA HL.out.1) HX6.out.tab HV.out (made_has HL.out.1 (HC2.out.1.2 y (List.mem_of_getElem? HY.out)))).mono ?_
        rintro e w7 ⟨OA, on, oc, rfl, HO⟩
        have HX7 := Lib.hid (HX6.out.next HO.out.2.2.2)
        have hom := HO.out.2.2.1
        have HOR0 := Lib.hid (show (Kd.int .i64).R 3 w7 w.heap.size (fun k => gB < k) (.slice OA on oc) ((orgL l y).map Int.ofNat) from Kd.R_mono (Kd.R_lower HO.out.2.1 HX6.out.below.size) (fun k hk => by have := HX6.out.size; omega))
        clear hd1 hd2 hd2' hd3 t0 xv hwi
        go_wp2_with fail
        go_loopw [14] (fun kv W => ∃ (k : Nat) (S' : Nat → Bool), k ≤ on ∧ kv = .int .i64 k ∧ Hid (MNX w gB A c l (some xd) d xs S' W ∧ Marked l (xs.take i) S' ∧ (∀ o ∈ (orgL l y).take k, S' o = true) ∧ (Kd.int .i64).R 3 W w.heap.size (fun k => gB < k) (.slice OA on oc) ((orgL l y).map Int.ofNat))) (fun kv W => on - (intOf kv).toNat)
        case atStart => exact ⟨0, S, Nat.zero_le _, rfl, Lib.hid ⟨HX7.out, HI.out.2, fun o ho => by simp at ho, HOR0.out⟩⟩
        case round =>
          obtain ⟨k, S', hk, rfl, HK⟩ := hrel
          by_cases hkl : k < on
          · have hkI : (k : Int) < (on : Int) := by omega
            obtain ⟨o, ho⟩ : ∃ o, (orgL l y)[k]? = some o := ⟨_, List.getElem?_eq_getElem (by have := HO.out.1; omega)⟩
            have HOR := Lib.hid (orgL_rng HL.out.1 HL.out.2 (List.mem_of_getElem? ho))
            obtain ⟨OA', oc', eo, _, hOC⟩ := Kd.R_reads HK.out.2.2.2
            injection eo with eo1 eo2 eo3
            subst eo1
            subst eo3
            rw [← eo2] at hOC
            clear eo2
            obtain ⟨od, e, xo⟩ := Kd.at_int hOC (k : Int) (by omega) hkI
            cases e
            clear hOC
            have hrd : rd ((orgL l y).map Int.ofNat) (k : Int) = (o : Int) := by rw [rd_at (by rw [List.length_map]; have := HO.out.1; omega), List.getElem_map]; have := (List.getElem?_eq_some_iff.1 ho).2; rw [this]; rfl
            simp only [Int.toNat_natCast] at xo
            rw [hrd] at xo
            have HTK := Lib.hid (take_at ho)
            clear hrd ho
            have hd1 : decide ((o : Int) < 0) = false := decide_eq_false (by omega)
            have hd2 : decide (l.length ≤ o) = false := decide_eq_false (by have := HOR.out.1; omega)
            have ho12 : (o : Int) < 12 := by have := HOR.out.2; omega
            have b0 := (HK.out.1.bools o (by omega)).1
            have b1 := (HK.out.1.bools o (by omega)).2
            obtain ⟨W9, hW9⟩ : ∃ W, wr.setCell ⟨gB, o, none⟩ (.bool true) = W := ⟨_, rfl⟩
            have hput := HK.out.1.put (x := o) (by omega)
            rw [hW9] at hput
            have HNX := Lib.hid (show MNX w gB A c l (some xd) d xs (setS S' o) W9 ∧ Marked l (xs.take i) (setS S' o) ∧ (∀ o' ∈ (orgL l y).take (k + 1), setS S' o o' = true) ∧ (Kd.int .i64).R 3 W9 w.heap.size (fun k => gB < k) (.slice (some od) on oc) ((orgL l y).map Int.ofNat) from ⟨hput, HK.out.2.1.more o, fun o' ho' => by
              rw [HTK.out] at ho'
              unfold setS
              rcases List.mem_append.1 ho' with h | h
              · rw [HK.out.2.2.1 o' h, Bool.or_true]
              · rw [List.mem_singleton] at h
                simp [h], by rw [← hW9]; exact Kd.R_far HK.out.2.2.2 (p := ⟨gB, o, none⟩) (fun k hk => by show k ≠ gB; omega) _⟩)
            clear hput
            go_wp2_with fail
            go_roundw
            case rel => exact ⟨k + 1, setS S' o, by omega, by go_num, HNX⟩
            case measure => exact meas_up1 hkl
          · obtain rfl : k = on := by omega
            go_wp2_with fail
            go_roundw
            case rel => exact ⟨i + 1, S', by omega, by go_num, by rw [HN.out.2.2.2], Lib.hid ⟨HK.out.1, fun z hz o ho => by
              rw [take_at HY.out] at hz
              rcases List.mem_append.1 hz with h | h
              · exact HK.out.2.1 z h o ho
              · rw [List.mem_singleton] at h
                subst h
                refine HK.out.2.2.1 o ?_
                rw [List.take_of_length_le (by have := HO.out.1; omega)]
                exact ho⟩⟩
            case measure => simp only [intOf]; omega
    · obtain rfl : i = xs.length + 1 := by omega
      have HLE : Hid (lastN l xs (xs.length + 1) ≤ cntTo S 12) := Lib.hid (by
        unfold lastN
        rw [if_neg (by omega), show xs.length + 1 - 1 = xs.length by omega, List.take_length]
        have hM := HI.out.2
        rw [List.take_of_length_le (by omega)] at hM
        have hg := HG.out xs.length
        rw [List.take_length] at hg
        have h := origins_le hg hM
        have h2 := cntTo_count S 12
        omega)
      obtain ⟨la, hla⟩ : ∃ n, lastN l xs (xs.length + 1) = n := ⟨_, rfl⟩
      rw [hla] at HLE ⊢
      clear hla
      have hgt : decide (((xs.length + 1 : Nat) : Int) ≤ (xs.length : Int)) = false := decide_eq_false (by omega)
      have HXE := Lib.hid HI.out.1; clear HI
      go_wp2_with fail
      have H0 := Lib.hid (Below.refl wr.heap.size wr)
      go_loopw [15, 16] (fun mv jv W => ∃ j : Nat, j ≤ 12 ∧ jv = .int .i64 j ∧ mv = .int .i64 (cntTo S j) ∧ Hid (Below wr.heap.size wr W)) (fun mv jv W => 12 - (intOf jv).toNat)
      case atStart => exact ⟨0, by omega, rfl, rfl, H0⟩
      case round =>
        clear H0
        obtain ⟨j, hj, rfl, rfl, HJ⟩ := hrel
        by_cases hjl : j < 12
        · have hjI : (j : Int) < 12 := by omega
          have b0 := ((HXE.out.next HJ.out).bools j hjl).1
          have hsu := cntTo_succ S j
          have hle := cntTo_le S j
          cases hS : S j with
          | true =>
            rw [hS] at b0 hsu
            obtain ⟨cn, hcn⟩ : ∃ n, cntTo S j = n := ⟨_, rfl⟩
            rw [hcn] at hsu hle ⊢
            have hwi : wrap64 ((cn : Int) + 1) = ((cn + 1 : Nat) : Int) := by unfold wrap64; omega
            have HSU := Lib.hid hsu
            clear hsu hle hcn hS
            go_wp2_with fail
            go_roundw
            case rel => exact ⟨j + 1, by omega, by go_num, by rw [HSU.out]; first | rfl | (rw [hwi]; rfl), HJ⟩
            case measure => exact meas_up1 hjl
          | false =>
            rw [hS] at b0 hsu
            have HSU := Lib.hid hsu
            clear hsu hle hS
            go_wp2_with fail
            go_roundw
            case rel => exact ⟨j + 1, by omega, by go_num, by rw [HSU.out]; rfl, HJ⟩
            case measure => exact meas_up1 hjl
        · obtain rfl : j = 12 := by omega
          have hfin : decide (la ≤ cntTo S 12) = true := decide_eq_true HLE.out
          go_wp2_with fail
          go_ret
          exact ⟨rfl, (HXE.out.next HJ.out).below⟩
end Go.Proofs.YticngcjfofcoiaaDoor
