/- The walk of SourceCut. -/
import Derived.Test.YticngcjfofcoiaaDoorHd
import Derived.Test.YticngcjfofcoiaaDoorMr
namespace Go.Proofs.YticngcjfofcoiaaDoor
open Go.RowKit Go.Rg Go.Proofs.YticngcjfofcoiaaDoorW.PrintWords
set_option linter.unusedVariables false
set_option linter.unusedSimpArgs false
set_option maxRecDepth 100000
set_option maxHeartbeats 4000000 in
theorem Cut_walk (XA : Option Addr) (xc : Nat) (x : List (Int × Int × Int)) (set : Int) (w : World) (hx : Kd.C k3 w XA x.length x) (hT : Tab w) :
    Calls Tryd.prog 9 #[.slice XA x.length xc, .int .i64 set] w fun e w' => e = .returned (.bool true) ∧ Below w.heap.size w w' := by
  have HIN := Lib.hid (And.intro hx hT); clear hx hT
  go_enter Tryd.func9, Tryd.ntmps9
  go_wp2_with fail
  refine (sane_any w HIN.out.2).mono ?_
  rintro e w1 ⟨rfl, hb⟩
  have HB := Lib.hid hb; clear hb
  go_wp2_with fail
  refine (made_call XA xc x w1 (Kd.C_below HIN.out.1 HB.out)).mono ?_
  rintro e w2 ⟨A, c, l, rfl, HM⟩
  have HB2 := Lib.hid (HB.out.trans (HM.out.2.2.2.mono HB.out.size)); clear HB
  have HL := Lib.hid (And.intro HM.out.2.1 HM.out.2.2.1)
  have HS := Lib.hid HM.out.1; clear HM
  go_wp2_with fail
  refine (chosen_call l.length (by have := HL.out.2; omega) set w2).mono ?_
  rintro e w3 ⟨B, d, xs, rfl, HC⟩
  have HC2 := Lib.hid HC.out.2.1
  have HXL := Lib.hid HC.out.2.2.1
  have HB3 := Lib.hid (HB2.out.trans (HC.out.2.2.2.mono HB2.out.size))
  have HX := Lib.hid (HX.mk HB3.out (HIN.out.2.next HB3.out HIN.out.2.pos) (HS.out.next HC.out.2.2.2) HC.out.1); clear HB2 HB3 HS HC HIN
  have HG := Lib.hid (made_given HL.out.1 HL.out.2 HC2.out)
  go_wp2_with fail
  refine (sup_call HX.out.src HX.out.int HX.out.tab HG.out).mono ?_
  rintro e w4 ⟨n1, Wn1, wcn1, Cn1, ccn1, rfl, HQ⟩
  have HB := Lib.hid HQ.out.2
  have H1 := Lib.hid HQ.out.1; clear HQ
  have H_ := Lib.hid (HX.out.next HB.out); clear HX; have HX := H_; clear H_
  clear HB
  obtain ⟨b7, hb7⟩ : ∃ b, w4.heap.size = b := ⟨_, rfl⟩
  have hbx := box_new (W := w4) n1 Wn1 wcn1 Cn1 ccn1 hb7
  obtain ⟨w5, hw5⟩ : ∃ W2, w4.alloc (.cells #[.int .i64 n1, .slice Wn1 n1 wcn1, .slice Cn1 n1 ccn1] 30) = W2 := ⟨_, rfl⟩
  rw [hw5] at hbx
  have HB := Lib.hid hbx.1
  have Hb7 := Lib.hid (BlkAt.mk hbx.2); clear hbx
  have H_ := Lib.hid (HX.out.next HB.out); clear HX; have HX := H_; clear H_
  have H_ := Lib.hid (H1.out.next HB.out); clear H1; have H1 := H_; clear H_
  clear HB
  have hm := max_len HX.out.src.rl
  have H0 := Lib.hid (Below.refl w5.heap.size w5)
  go_wp2_with fail
  go_loopw [9] (fun iv wr => ∃ i : Nat, i ≤ l.length ∧ iv = .int .i64 i ∧ Hid (Below w5.heap.size w5 wr)) (fun iv wr => l.length - (intOf iv).toNat)
  case atStart => exact ⟨0, Nat.zero_le _, rfl, H0⟩
  case round =>
    clear H0
    obtain ⟨i, hi, rfl, HI⟩ := hrel
    by_cases hlt : i < l.length
    · have hltI : (i : Int) < (l.length : Int) := by omega
      obtain ⟨s, hs⟩ : ∃ s, l[i]? = some s := ⟨l[i], List.getElem?_eq_getElem hlt⟩
      have HSM := Lib.hid (List.mem_of_getElem? hs)
      obtain ⟨ad, FA, fc, e, x0, x1, x2, hfc, hCf⟩ := at_S (HX.out.next HI.out).src.rl hs
      cases e
      obtain ⟨id, hid⟩ : ∃ id, s.id = id := ⟨_, rfl⟩
      rw [hid] at x0
      have HID := Lib.hid hid
      have HXW := Lib.hid (HX.out.next HI.out)
      clear hid hs hfc hCf x1 x2
      go_wp2_with fail
      refine (silenced_call id HXW.out.src HL.out.1 HL.out.2).mono ?_
      rintro e w6 ⟨M, dm, m, rfl, HQ⟩
      have HB6 := Lib.hid (HI.out.trans (HQ.out.2.2.mono HI.out.size))
      have HM := Lib.hid HQ.out.2.1
      have HME := Lib.hid HQ.out.1
      have x0 := pw_cell_below HQ.out.2.2 x0
      clear HQ HXW
      have HGm : Hid (givenB m xs = true) := Lib.hid (by rw [HME.out]; exact sil_given HL.out.1 HL.out.2 HC2.out id)
      go_wp2_with fail
      refine (sup_call HM.out (HX.out.next HB6.out).int (HX.out.next HB6.out).tab HGm.out).mono ?_
      rintro e w7 ⟨nt, Wt, wct, Ct, cct, rfl, HQ⟩
      have x0 := pw_cell_below HQ.out.2 x0
      have HB7 := Lib.hid (HB6.out.trans (HQ.out.2.mono HB6.out.size))
      have HN : Hid (nt ≤ n1 ∧ n1 ≤ nt + 1 ∧ (id ∈ (cutS l xs 0).map Int.ofNat → n1 = nt + 1)) := Lib.hid (by
        have h := silc HL.out.1 HL.out.2 HC2.out HSM.out
        rw [HID.out] at h
        rw [H1.out.num, HQ.out.1.num, HME.out]
        exact h)
      clear HQ HB6 HM HME HGm
      obtain ⟨b10, hb10⟩ : ∃ b, w7.heap.size = b := ⟨_, rfl⟩
      have hbx := box_new (W := w7) nt Wt wct Ct cct hb10
      obtain ⟨w8, hw8⟩ : ∃ W2, w7.alloc (.cells #[.int .i64 nt, .slice Wt nt wct, .slice Ct nt cct] 30) = W2 := ⟨_, rfl⟩
      rw [hw8] at hbx
      have x0 := pw_cell_below hbx.1 x0
      have HB8 := Lib.hid (HB7.out.trans (hbx.1.mono HB7.out.size))
      have HT := Lib.hid (BlkAt.mk hbx.2); clear hbx HB7
      have m2 := cell_of (o := 2) (Hb7.out.next HB8.out).at_ rfl
      have hn1 : n1 ≤ 9223372036854775807 := H1.out.rows.2.1
      have H0 := Lib.hid (Below.refl w8.heap.size w8)
      go_wp2_with fail
      have HX0 := Lib.hid x0; clear x0 m2 hm
      go_loopw [12, 13] (fun bv kv W => ∃ (k : Nat) (b : Bool), k ≤ n1 ∧ kv = .int .i64 k ∧ bv = .bool b ∧ Hid ((b = true → id ∈ (cutS l xs 0).map Int.ofNat) ∧ Below w8.heap.size w8 W)) (fun bv kv W => n1 - (intOf kv).toNat)
      case atStart => exact ⟨0, false, Nat.zero_le _, rfl, rfl, Lib.hid ⟨fun h => (by cases h), H0.out⟩⟩
      case round =>
        clear H0
        obtain ⟨k, b, hk, rfl, rfl, HK⟩ := hrel
        have HBK := Lib.hid (HB8.out.trans (HK.out.2.mono HB8.out.size))
        have m2 := cell_of (o := 2) (Hb7.out.next HBK.out).at_ rfl
        by_cases hkl : k < n1
        · have hkI : (k : Int) < (n1 : Int) := by omega
          cases b with
          | true =>
            have HTT := Lib.hid (show (true : Bool) = true from rfl)
            have e2 := cell_ext m2
            go_wp2_with fail
            refine region_ext (by kernel_rfl) (by kernel_rfl) ?_
            repeat (go_big_quiet_step (fail))
            refine wpQuiet_nil ?_
            rintro W' ⟨X, rfl⟩
            clear e2
            go_wp2_with fail
            go_roundw
            case rel => exact ⟨k + 1, true, by omega, by go_num, rfl, Lib.hid ⟨fun _ => HK.out.1 HTT.out, HK.out.2.trans (X.2.below (fun _ _ h => h) HK.out.2.size)⟩⟩
            case measure => exact meas_up1 hkl
          | false =>
            obtain ⟨cd, e, hy⟩ := Kd.at_int (H1.out.next HBK.out).cut (k : Int) (by omega) hkI
            cases e
            simp only [Int.toNat_natCast] at hy
            have HMM : Hid (rd ((cutS l xs 0).map Int.ofNat) (k : Int) ∈ (cutS l xs 0).map Int.ofNat) := Lib.hid (by rw [rd_at (by have := H1.out.len2; omega)]; exact List.getElem_mem _)
            obtain ⟨y, hyv⟩ : ∃ y, rd ((cutS l xs 0).map Int.ofNat) (k : Int) = y := ⟨_, rfl⟩
            rw [hyv] at hy HMM
            clear hyv
            have x0 := pw_cell_below HK.out.2 HX0.out
            have e2 := cell_ext m2
            have eY := cell_ext hy
            have eX := cell_ext x0
            cases hyid : (y == id) with
            | false =>
              go_wp2_with fail
              refine region_ext (by kernel_rfl) (by kernel_rfl) ?_
              repeat (go_big_quiet_step (fail))
              refine wpQuiet_nil ?_
              rintro W' ⟨X, rfl⟩
              clear e2 eY eX
              go_wp2_with fail
              go_roundw
              case rel => exact ⟨k + 1, false, by omega, by go_num, rfl, Lib.hid ⟨HK.out.1, HK.out.2.trans (X.2.below (fun _ _ h => h) HK.out.2.size)⟩⟩
              case measure => exact meas_up1 hkl
            | true =>
              have HE := Lib.hid (show y = id by simpa using hyid)
              go_wp2_with fail
              refine region_ext (by kernel_rfl) (by kernel_rfl) ?_
              repeat (go_big_quiet_step (fail))
              refine wpQuiet_nil ?_
              rintro W' ⟨X, rfl⟩
              clear e2 eY eX
              go_wp2_with fail
              go_roundw
              case rel => exact ⟨k + 1, true, by omega, by go_num, rfl, Lib.hid ⟨fun _ => HE.out ▸ HMM.out, HK.out.2.trans (X.2.below (fun _ _ h => h) HK.out.2.size)⟩⟩
              case measure => exact meas_up1 hkl
        · obtain rfl : k = n1 := by omega
          have hm := max_len HX.out.src.rl
          have m0 := cell_of (o := 0) (Hb7.out.next HBK.out).at_ rfl
          have t0 := cell_of (o := 0) (HT.out.next HK.out.2).at_ rfl
          have hwi : wrap64 ((k : Int) - 1) = (k : Int) - 1 := by unfold wrap64; omega
          have hd1 : decide (k < nt) = false := decide_eq_false (by have := HN.out.1; omega)
          have hd2 : decide ((nt : Int) < (k : Int) - 1) = false := decide_eq_false (by have := HN.out.2.1; omega)
          cases b with
          | false =>
            go_wp2_with fail
            go_roundw
            case rel => exact ⟨i + 1, by omega, by go_num, HBK⟩
            case measure => exact meas_up1 hlt
          | true =>
            have hd3 : ((nt : Int) != (k : Int) - 1) = false := by
              have := HN.out.2.2 (HK.out.1 rfl)
              rw [bneD]
              simp
              omega
            go_wp2_with fail
            go_roundw
            case rel => exact ⟨i + 1, by omega, by go_num, HBK⟩
            case measure => exact meas_up1 hlt
    · obtain rfl : i = l.length := by omega
      go_wp2_with fail
      go_ret
      exact ⟨rfl, HX.out.below.trans (HI.out.mono HX.out.below.size)⟩
end Go.Proofs.YticngcjfofcoiaaDoor
