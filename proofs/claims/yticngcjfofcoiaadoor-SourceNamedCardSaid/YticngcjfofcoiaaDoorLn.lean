/- The walk of SourceNamed. -/
import Derived.Test.YticngcjfofcoiaaDoorHd
namespace Go.Proofs.YticngcjfofcoiaaDoor
open Go.RowKit Go.Rg Go.Proofs.YticngcjfofcoiaaDoorW.PrintWords
set_option linter.unusedVariables false
set_option linter.unusedSimpArgs false
set_option maxRecDepth 100000
set_option maxHeartbeats 4000000 in
theorem Named_walk (XA : Option Addr) (xc : Nat) (x : List (Int × Int × Int)) (set : Int) (w : World) (hx : Kd.C k3 w XA x.length x) (hT : Tab w) :
    Calls Tryd.prog 3 #[.slice XA x.length xc, .int .i64 set] w fun e w' => e = .returned (.bool true) ∧ Below w.heap.size w w' := by
  have HIN := Lib.hid (And.intro hx hT); clear hx hT
  go_enter Tryd.func3, Tryd.ntmps3
  go_wp2_with fail
  refine (sane_any w HIN.out.2).mono ?_
  rintro e w1 ⟨rfl, hb⟩
  have HB := Lib.hid hb; clear hb
  go_wp2_with fail
  refine (made_call XA xc x w1 (Kd.C_below HIN.out.1 HB.out)).mono ?_
  rintro e w2 ⟨A, c, l, rfl, HM⟩
  have HB2 := Lib.hid (HB.out.trans (HM.out.2.2.2.mono HB.out.size)); clear HB
  have HL := Lib.hid (And.intro HM.out.2.1 HM.out.2.2.1)
  have HS := Lib.hid HM.out.1; clear HM
  go_wp2_with fail
  refine (chosen_call l.length (by have := HL.out.2; omega) set w2).mono ?_
  rintro e w3 ⟨B, d, xs, rfl, HC⟩
  have HC2 := Lib.hid HC.out.2.1
  have HB3 := Lib.hid (HB2.out.trans (HC.out.2.2.2.mono HB2.out.size))
  have HX := Lib.hid (HX.mk HB3.out (HIN.out.2.next HB3.out HIN.out.2.pos) (HS.out.next HC.out.2.2.2) HC.out.1); clear HB2 HB3 HS HC HIN
  have HG := Lib.hid (made_given HL.out.1 HL.out.2 HC2.out)
  go_wp2_with fail
  refine (sup_call HX.out.src HX.out.int HX.out.tab HG.out).mono ?_
  rintro e w4 ⟨n1, Wn1, wcn1, Cn1, ccn1, rfl, HQ⟩
  have HB := Lib.hid HQ.out.2
  have H1 := Lib.hid HQ.out.1; clear HQ
  have H_ := Lib.hid (HX.out.next HB.out); clear HX; have HX := H_; clear H_
  clear HB
  obtain ⟨b7, hb7⟩ : ∃ b, w4.heap.size = b := ⟨_, rfl⟩
  have hbx := box_new (W := w4) n1 Wn1 wcn1 Cn1 ccn1 hb7
  obtain ⟨w5, hw5⟩ : ∃ W2, w4.alloc (.cells #[.int .i64 n1, .slice Wn1 n1 wcn1, .slice Cn1 n1 ccn1] 30) = W2 := ⟨_, rfl⟩
  rw [hw5] at hbx
  have HB := Lib.hid hbx.1
  have Hb7 := Lib.hid (BlkAt.mk hbx.2); clear hbx
  have H_ := Lib.hid (HX.out.next HB.out); clear HX; have HX := H_; clear H_
  have H_ := Lib.hid (H1.out.next HB.out); clear H1; have H1 := H_; clear H_
  clear HB
  go_wp2_with fail
  refine (named_call HX.out.src HX.out.int HX.out.tab HG.out).mono ?_
  rintro e w6 ⟨n2, Wn2, wcn2, Cn2, ccn2, rfl, HQ⟩
  have HB := Lib.hid HQ.out.2
  have H2 := Lib.hid HQ.out.1; clear HQ
  have H_ := Lib.hid (HX.out.next HB.out); clear HX; have HX := H_; clear H_
  have H_ := Lib.hid (H1.out.next HB.out); clear H1; have H1 := H_; clear H_
  have H_ := Lib.hid (Hb7.out.next HB.out); clear Hb7; have Hb7 := H_; clear H_
  clear HB
  obtain ⟨b9, hb9⟩ : ∃ b, w6.heap.size = b := ⟨_, rfl⟩
  have hbx := box_new (W := w6) n2 Wn2 wcn2 Cn2 ccn2 hb9
  obtain ⟨w7, hw7⟩ : ∃ W2, w6.alloc (.cells #[.int .i64 n2, .slice Wn2 n2 wcn2, .slice Cn2 n2 ccn2] 30) = W2 := ⟨_, rfl⟩
  rw [hw7] at hbx
  have HB := Lib.hid hbx.1
  have Hb9 := Lib.hid (BlkAt.mk hbx.2); clear hbx
  have H_ := Lib.hid (HX.out.next HB.out); clear HX; have HX := H_; clear H_
  have H_ := Lib.hid (H1.out.next HB.out); clear H1; have H1 := H_; clear H_
  have H_ := Lib.hid (Hb7.out.next HB.out); clear Hb7; have Hb7 := H_; clear H_
  have H_ := Lib.hid (H2.out.next HB.out); clear H2; have H2 := H_; clear H_
  clear HB
  have k0 := cell_of (o := 0) Hb7.out.at_ rfl
  have m0 := cell_of (o := 0) Hb9.out.at_ rfl
  have m1 := cell_of (o := 1) Hb9.out.at_ rfl
  have m2 := cell_of (o := 2) Hb9.out.at_ rfl
  have hle : decide (n1 < n2) = false := by
    have := named_le HG.out (woL l)
    rw [← H1.out.num, ← H2.out.num] at this
    exact decide_eq_false (by omega)
  go_wp2_with fail
  clear k0 m0 m1 m2 hle
  have H0 := Lib.hid (Below.refl w7.heap.size w7)
  have hm := max_len HX.out.src.rl
  go_loopw [11, 12] (fun kv iv wr => ∃ (i : Nat) (k : Nat), i ≤ l.length ∧ iv = .int .i64 i ∧ kv = .int .i64 k ∧ Hid (k ≤ i ∧ (k = 0 → ∀ s ∈ l.take i, s.kind ≠ 2) ∧ Below w7.heap.size w7 wr)) (fun kv iv wr => l.length - (intOf iv).toNat)
  case atStart => exact ⟨0, 0, Nat.zero_le _, rfl, rfl, Lib.hid ⟨Nat.le_refl _, fun _ s hs => by simp at hs, H0.out⟩⟩
  case round =>
    obtain ⟨i, k, hi, rfl, rfl, HI⟩ := hrel
    by_cases hlt : i < l.length
    · have hltI : (i : Int) < (l.length : Int) := by omega
      obtain ⟨s, hs⟩ : ∃ s, l[i]? = some s := ⟨l[i], List.getElem?_eq_getElem hlt⟩
      obtain ⟨ad, FA, fc, e, x0, x1, x2, hfc, hCf⟩ := at_S (HX.out.src.next HI.out.2.2).rl hs
      cases e
      have hst := take_at hs
      have HK := Lib.hid hst; clear hst
      obtain ⟨kd, hkd⟩ : ∃ kd, s.kind = kd := ⟨_, rfl⟩
      rw [hkd] at x1
      have HKD := Lib.hid hkd
      clear hkd hs hfc hCf x0 x2
      by_cases c1 : kd = 2
      · have c1' : (kd == 2) = true := by simp [c1]
        have hwi : wrap64 ((k : Int) + 1) = ((k + 1 : Nat) : Int) := by have := HI.out.1; have := HL.out.2; unfold wrap64; omega
        clear c1
        go_wp2_with fail
        go_roundw
        case rel => exact ⟨i + 1, k + 1, by omega, by go_num, by rw [hwi], Lib.hid ⟨by have := HI.out.1; omega, fun h => by omega, HI.out.2.2⟩⟩
        case measure => exact meas_up1 hlt
      · have c1' : (kd == 2) = false := by simp [c1]
        have HN := Lib.hid c1; clear c1
        go_wp2_with fail
        go_roundw
        case rel => exact ⟨i + 1, k, by omega, by go_num, rfl, Lib.hid ⟨by have := HI.out.1; omega, fun h s' hs' => by
          rw [HK.out] at hs'
          rcases List.mem_append.1 hs' with h1 | h1
          · exact HI.out.2.1 h s' h1
          · rw [List.mem_singleton] at h1
            rw [h1, HKD.out]
            exact HN.out, HI.out.2.2⟩⟩
        case measure => exact meas_up1 hlt
    · obtain rfl : i = l.length := by omega
      have HB := Lib.hid HI.out.2.2
      have HK := Lib.hid HI.out.2.1; clear HI H0
      have H_ := Lib.hid (HX.out.next HB.out); clear HX; have HX := H_; clear H_
      have H_ := Lib.hid (H1.out.next HB.out); clear H1; have H1 := H_; clear H_
      have H_ := Lib.hid (Hb7.out.next HB.out); clear Hb7; have Hb7 := H_; clear H_
      have H_ := Lib.hid (H2.out.next HB.out); clear H2; have H2 := H_; clear H_
      have H_ := Lib.hid (Hb9.out.next HB.out); clear Hb9; have Hb9 := H_; clear H_
      clear HB
      have k0 := cell_of (o := 0) Hb7.out.at_ rfl
      have m1 := cell_of (o := 1) Hb9.out.at_ rfl
      clear hm
      have hm2 : n2 ≤ 9223372036854775807 := H2.out.rows.2.1
      have H0 := Lib.hid (Below.refl wr.heap.size wr)
      go_wp2_with fail
      clear m1 k0
      go_loopw [13] (fun iv W => ∃ i : Nat, i ≤ n2 ∧ iv = .int .i64 i ∧ Hid (Below wr.heap.size wr W)) (fun iv W => n2 - (intOf iv).toNat)
      case atStart => exact ⟨0, Nat.zero_le _, rfl, H0⟩
      case round =>
        clear H0
        obtain ⟨i, hi, rfl, HI⟩ := hrel
        have m1 := cell_of (o := 1) (Hb9.out.next HI.out).at_ rfl
        by_cases hlt : i < n2
        · have hltI : (i : Int) < (n2 : Int) := by omega
          obtain ⟨p, hp⟩ : ∃ p, (waysS l xs (woL l))[i]? = some p := ⟨_, List.getElem?_eq_getElem (by have := H2.out.len1; rw [toI_len] at this; omega)⟩
          have HP := Lib.hid (List.mem_of_getElem? hp)
          have hv : (toI (waysS l xs (woL l)))[i]? = some (p.map Int.ofNat) := by unfold toI; rw [List.getElem?_map, hp]; rfl
          have hv0 : (p.map Int.ofNat).length = p.length := List.length_map ..
          obtain ⟨wd, VA, vc, e, xv, hvc, hCv⟩ := at_W (H2.out.next HI.out).rows hv
          cases e
          rw [hv0] at xv hCv hvc
          have hvm : p.length ≤ 9223372036854775807 := hCv.2.1
          have HCV := Lib.hid hCv
          clear hp hv hv0 hCv
          have H0 := Lib.hid (Below.refl wr.heap.size wr)
          go_wp2_with fail
          have HXV := Lib.hid xv; clear xv m1
          go_loopw [14] (fun jv W => ∃ j : Nat, j ≤ p.length ∧ jv = .int .i64 j ∧ Hid (Below wr.heap.size wr W)) (fun jv W => p.length - (intOf jv).toNat)
          case atStart => exact ⟨0, Nat.zero_le _, rfl, H0⟩
          case round =>
            clear H0
            obtain ⟨j, hj, rfl, HJ⟩ := hrel
            have HIJ := Lib.hid (HI.out.trans (HJ.out.mono HI.out.size))
            have m1 := cell_of (o := 1) (Hb9.out.next HIJ.out).at_ rfl
            have xv := pw_cell_below HJ.out HXV.out
            by_cases hjl : j < p.length
            · have hjI : (j : Int) < (p.length : Int) := by omega
              obtain ⟨y, hy⟩ : ∃ y, p[j]? = some y := ⟨_, List.getElem?_eq_getElem hjl⟩
              obtain ⟨s, hs⟩ := named_kind HG.out HP.out (List.mem_of_getElem? hy)
              obtain ⟨yd, e, hyc⟩ := Kd.at_int (Kd.C_below HCV.out HJ.out) (j : Int) (by omega) hjI
              cases e
              have hrd : rd (p.map Int.ofNat) (j : Int) = (y : Int) := by rw [rd_at (by rw [List.length_map]; exact hjl), List.getElem_map]; have := (List.getElem?_eq_some_iff.1 hy).2; rw [this]; rfl
              simp only [Int.toNat_natCast] at hyc
              rw [hrd] at hyc
              have HSS := Lib.hid hs
              clear hs hy hrd
              have HFD := Lib.hid (find_any A c l (y : Int) wr (HX.out.next HIJ.out).src.rl HX.out.src.short)
              go_wp2_with fail
              refine HFD.out.mono ?_
              rintro e w9 ⟨fv, rfl, hRf, hb9⟩
              rw [HSS.out.1]
              obtain ⟨FA, fc, rfl⟩ := Kd.R_slice hRf
              show _
              obtain ⟨id, hid⟩ : ∃ id, s.id = id := ⟨_, rfl⟩
              have hk1 := HSS.out.2
              simp only [Option.getD_some, Option.isSome_some, hk1]
              rw [hid]
              have hbA := HJ.out.trans ((hb9.alloc hb9.size (.cells #[.int .i64 id, .int .i64 1, .slice FA (((fndS l y).getD s0).frm).length fc] 35)).mono HJ.out.size)
              rw [HSS.out.1] at hbA ⊢
              simp only [Option.getD_some] at hbA ⊢
              have HA := Lib.hid hbA; clear hbA hb9 hRf hk1
              clear hid
              go_wp2_with fail
              go_roundw
              case rel => exact ⟨j + 1, by omega, by go_num, HA⟩
              case measure => exact meas_up1 hjl
            · obtain rfl : j = p.length := by omega
              go_wp2_with fail
              go_roundw
              case rel => exact ⟨i + 1, by omega, by go_num, HIJ⟩
              case measure => exact meas_up1 hlt
        · obtain rfl : i = n2 := by omega
          have HB := Lib.hid HI.out; clear HI
          have H_ := Lib.hid (HX.out.next HB.out); clear HX; have HX := H_; clear H_
          have H_ := Lib.hid (H1.out.next HB.out); clear H1; have H1 := H_; clear H_
          have H_ := Lib.hid (Hb7.out.next HB.out); clear Hb7; have Hb7 := H_; clear H_
          have H_ := Lib.hid (H2.out.next HB.out); clear H2; have H2 := H_; clear H_
          have H_ := Lib.hid (Hb9.out.next HB.out); clear Hb9; have Hb9 := H_; clear H_
          clear HB
          have k0 := cell_of (o := 0) Hb7.out.at_ rfl
          have k1 := cell_of (o := 1) Hb7.out.at_ rfl
          have k2 := cell_of (o := 2) Hb7.out.at_ rfl
          have m0 := cell_of (o := 0) Hb9.out.at_ rfl
          have m1 := cell_of (o := 1) Hb9.out.at_ rfl
          have m2 := cell_of (o := 2) Hb9.out.at_ rfl
          by_cases ck : k = 0
          · have hc : decide (0 < k) = false := decide_eq_false (by omega)
            have hwo : woL l = 0 := wo_none fun s hs => HK.out ck s (by rw [List.take_length]; exact hs)
            have HSM := Lib.hid (same_call H1.out H2.out (by rw [hwo]; exact ⟨rfl, rfl, rfl⟩))
            clear ck hwo
            go_wp2_with fail
            refine HSM.out.mono ?_
            rintro e w10 ⟨rfl, hb⟩
            have HB := Lib.hid hb; clear hb
            go_wp2_with fail
            go_ret
            exact ⟨rfl, HX.out.below.trans (HB.out.mono HX.out.below.size)⟩
          · have hc : decide (0 < k) = true := decide_eq_true (by omega)
            clear ck
            go_wp2_with fail
            go_ret
            exact ⟨rfl, HX.out.below⟩
end Go.Proofs.YticngcjfofcoiaaDoor
