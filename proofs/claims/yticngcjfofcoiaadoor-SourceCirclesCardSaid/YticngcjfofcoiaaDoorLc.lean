/- The walk of SourceCircles. -/
import Derived.Test.YticngcjfofcoiaaDoorHd
namespace Go.Proofs.YticngcjfofcoiaaDoor
open Go.RowKit Go.Rg Go.Proofs.YticngcjfofcoiaaDoorW.PrintWords
set_option linter.unusedVariables false
set_option linter.unusedSimpArgs false
set_option maxRecDepth 100000
set_option maxHeartbeats 4000000 in
theorem Circles_walk (XA : Option Addr) (xc : Nat) (x : List (Int × Int × Int)) (set : Int) (w : World) (hx : Kd.C k3 w XA x.length x) (hT : Tab w) :
    Calls Tryd.prog 4 #[.slice XA x.length xc, .int .i64 set] w fun e w' => e = .returned (.bool true) ∧ Below w.heap.size w w' := by
  have HIN := Lib.hid (And.intro hx hT); clear hx hT
  go_enter Tryd.func4, Tryd.ntmps4
  go_wp2_with fail
  refine (sane_any w HIN.out.2).mono ?_
  rintro e w1 ⟨rfl, hb⟩
  have HB := Lib.hid hb; clear hb
  go_wp2_with fail
  refine (made_call XA xc x w1 (Kd.C_below HIN.out.1 HB.out)).mono ?_
  rintro e w2 ⟨A, c, l, rfl, HM⟩
  have HB2 := Lib.hid (HB.out.trans (HM.out.2.2.2.mono HB.out.size)); clear HB
  have HL := Lib.hid (And.intro HM.out.2.1 HM.out.2.2.1)
  have HS := Lib.hid HM.out.1; clear HM
  go_wp2_with fail
  refine (chosen_call l.length (by have := HL.out.2; omega) set w2).mono ?_
  rintro e w3 ⟨B, d, xs, rfl, HC⟩
  have HC2 := Lib.hid HC.out.2.1
  have HXL := Lib.hid HC.out.2.2.1
  have HB3 := Lib.hid (HB2.out.trans (HC.out.2.2.2.mono HB2.out.size))
  have HX := Lib.hid (HX.mk HB3.out (HIN.out.2.next HB3.out HIN.out.2.pos) (HS.out.next HC.out.2.2.2) HC.out.1); clear HB2 HB3 HS HC HIN
  have HG := Lib.hid (made_given HL.out.1 HL.out.2 HC2.out)
  go_wp2_with fail
  refine (silenced_call (-1) HX.out.src HL.out.1 HL.out.2).mono ?_
  rintro e w4 ⟨M, dm, m, rfl, HQ⟩
  have HB := Lib.hid HQ.out.2.2
  have HM := Lib.hid HQ.out.2.1
  have HME := Lib.hid HQ.out.1; clear HQ
  have H_ := Lib.hid (HX.out.next HB.out); clear HX; have HX := H_; clear H_
  clear HB
  go_wp2_with fail
  refine (sup_call HX.out.src HX.out.int HX.out.tab HG.out).mono ?_
  rintro e w5 ⟨n1, Wn1, wcn1, Cn1, ccn1, rfl, HQ⟩
  have HB := Lib.hid HQ.out.2
  have H1 := Lib.hid HQ.out.1; clear HQ
  have H_ := Lib.hid (HX.out.next HB.out); clear HX; have HX := H_; clear H_
  have H_ := Lib.hid (HM.out.next HB.out); clear HM; have HM := H_; clear H_
  clear HB
  obtain ⟨b8, hb8⟩ : ∃ b, w5.heap.size = b := ⟨_, rfl⟩
  have hbx := box_new (W := w5) n1 Wn1 wcn1 Cn1 ccn1 hb8
  obtain ⟨w6, hw6⟩ : ∃ W2, w5.alloc (.cells #[.int .i64 n1, .slice Wn1 n1 wcn1, .slice Cn1 n1 ccn1] 30) = W2 := ⟨_, rfl⟩
  rw [hw6] at hbx
  have HB := Lib.hid hbx.1
  have Hb8 := Lib.hid (BlkAt.mk hbx.2); clear hbx
  have H_ := Lib.hid (HX.out.next HB.out); clear HX; have HX := H_; clear H_
  have H_ := Lib.hid (HM.out.next HB.out); clear HM; have HM := H_; clear H_
  have H_ := Lib.hid (H1.out.next HB.out); clear H1; have H1 := H_; clear H_
  clear HB
  have HG2 := Lib.hid (circ_given HL.out.1 HL.out.2 HC2.out)
  obtain ⟨ge, hge⟩ : ∃ b, w6.heap.size = b := ⟨_, rfl⟩
  have hE0 : (Kd.int .i64).R 3 (w6.alloc (.cells #[] 3)) ge (fun k => ge ≤ k) (.slice (some ⟨ge, 0, none⟩) 0 0) [] := empty_row hge (by omega) (by omega)
  have hbE := (Below.refl w6.heap.size w6).alloc (Nat.le_refl _) (.cells #[] 3)
  have hbG : Below ge w6 (w6.alloc (.cells #[] 3)) := by rw [← hge]; exact hbE
  have hzG : ge ≤ (w6.alloc (.cells #[] 3)).heap.size := by rw [← hge]; exact hbE.size
  have HE := Lib.hid (And.intro hE0 (And.intro hbG (And.intro (Kd.C_below HX.out.int.rx hbE) (And.intro (show xs.length ≤ 10 by have := HL.out.2; have h2 := HXL.out; omega) hzG)))); clear hE0 hbE hbG hzG
  have HGE := Lib.hid hge
  go_wp2_with (at_builtin; go_loud (refine Kd.R_append_rows (Kd.int .i64) (w0 := w6) (Rr := fun x cs => cs = [.int .i64 x]) ge rfl (.tmp 34) (.tmp 35) 26 3 (.int .i64 0) 8 rfl Tryd.underlying26 info3 rfl (by decide) (by decide) _ [] xs B xs.length d (fun k => ge ≤ k) (fun _ => False) rfl rfl HE.out.1 HE.out.2.2.1 (fun _ _ h => h) (fun _ h => h.elim) (fun k hk => Nat.le_trans HE.out.2.2.2.2 hk) HE.out.2.1 HE.out.2.2.2.2 (by have := HE.out.2.2.2.1; simp only [List.length_nil]; omega) ?_))
  intro v1 w7 h1 h2 h3 h4
  obtain ⟨VA, vc, rfl⟩ := Kd.R_slice h1
  have hz7 : ge ≤ w7.heap.size := by have := h2.size; have := HGE.out; omega
  have HR1 := Lib.hid (And.intro h1 (And.intro h2 hz7)); clear h1 h2 h3 h4 hz7
  obtain ⟨gl, hgl⟩ : ∃ b, w7.heap.size = b := ⟨_, rfl⟩
  have hl2 := ilit w7 [10, 11] (by decide)
  have hl3 : Below w7.heap.size w7 (w7.alloc (.cells #[.int .i64 10, .int .i64 11] 3)) ∧ (Kd.int .i64).C (w7.alloc (.cells #[.int .i64 10, .int .i64 11] 3)) (some ⟨gl, 0, none⟩) 2 [10, 11] := by rw [← hgl]; exact hl2
  clear hl2
  have hzL : ge ≤ (w7.alloc (.cells #[.int .i64 10, .int .i64 11] 3)).heap.size := Nat.le_trans HR1.out.2.2 hl3.1.size
  have HR2 := Lib.hid (And.intro (Kd.R_below HR1.out.1 hl3.1) (And.intro (HR1.out.2.1.trans (hl3.1.mono HR1.out.2.2)) (And.intro hl3.2 (And.intro HE.out.2.2.2.1 hzL)))); clear HR1 hl3 HE hzL
  go_wp2_with (at_builtin; go_loud (refine Kd.R_append_rows (Kd.int .i64) (w0 := w6) (Rr := fun x cs => cs = [.int .i64 x]) ge rfl (.tmp 36) (.tmp 37) 26 3 (.int .i64 0) 8 rfl Tryd.underlying26 info3 rfl (by decide) (by decide) _ xs [10, 11] (some ⟨gl, 0, none⟩) 2 2 (fun k => ge ≤ k) (fun _ => False) rfl rfl HR2.out.1 HR2.out.2.2.1 (fun _ _ h => h) (fun _ h => h.elim) (fun k hk => Nat.le_trans HR2.out.2.2.2.2 hk) HR2.out.2.1 HR2.out.2.2.2.2 (by have := HR2.out.2.2.2.1; omega) ?_))
  intro v2 w8 h1 h2 h3 h4
  obtain ⟨YA, yc, rfl, hyc, hyC⟩ := Kd.R_reads h1
  have HB := Lib.hid (show Below w6.heap.size w6 w8 by rw [HGE.out]; exact h2)
  obtain ⟨ys, hys⟩ : ∃ ys, xs ++ [10, 11] = ys := ⟨_, rfl⟩
  rw [hys] at hyc hyC ⊢
  have HYS := Lib.hid hys
  have HY := Lib.hid (IntAt.mk hyC hyc); clear h1 h2 h3 h4 hyc hyC HR2 hge hgl hys
  have H_ := Lib.hid (HX.out.next HB.out); clear HX; have HX := H_; clear H_
  have H_ := Lib.hid (HM.out.next HB.out); clear HM; have HM := H_; clear H_
  have H_ := Lib.hid (H1.out.next HB.out); clear H1; have H1 := H_; clear H_
  have H_ := Lib.hid (Hb8.out.next HB.out); clear Hb8; have Hb8 := H_; clear H_
  clear HB
  have HGm : Hid (givenB m ys = true) := Lib.hid (by rw [HME.out, ← HYS.out]; exact HG2.out.1)
  have HGn : Hid (givenB m [10, 11] = true) := Lib.hid (by rw [HME.out]; exact HG2.out.2)
  go_wp2_with fail
  refine (sup_call HM.out HY.out HX.out.tab HGm.out).mono ?_
  rintro e w9 ⟨n2, Wn2, wcn2, Cn2, ccn2, rfl, HQ⟩
  have HB := Lib.hid HQ.out.2
  have H2 := Lib.hid HQ.out.1; clear HQ
  have H_ := Lib.hid (HX.out.next HB.out); clear HX; have HX := H_; clear H_
  have H_ := Lib.hid (HM.out.next HB.out); clear HM; have HM := H_; clear H_
  have H_ := Lib.hid (H1.out.next HB.out); clear H1; have H1 := H_; clear H_
  have H_ := Lib.hid (Hb8.out.next HB.out); clear Hb8; have Hb8 := H_; clear H_
  have H_ := Lib.hid (HY.out.next HB.out); clear HY; have HY := H_; clear H_
  clear HB
  obtain ⟨b10, hb10⟩ : ∃ b, w9.heap.size = b := ⟨_, rfl⟩
  have hbx := box_new (W := w9) n2 Wn2 wcn2 Cn2 ccn2 hb10
  obtain ⟨w10, hw10⟩ : ∃ W2, w9.alloc (.cells #[.int .i64 n2, .slice Wn2 n2 wcn2, .slice Cn2 n2 ccn2] 30) = W2 := ⟨_, rfl⟩
  rw [hw10] at hbx
  have HB := Lib.hid hbx.1
  have Hb10 := Lib.hid (BlkAt.mk hbx.2); clear hbx
  have H_ := Lib.hid (HX.out.next HB.out); clear HX; have HX := H_; clear H_
  have H_ := Lib.hid (HM.out.next HB.out); clear HM; have HM := H_; clear H_
  have H_ := Lib.hid (H1.out.next HB.out); clear H1; have H1 := H_; clear H_
  have H_ := Lib.hid (Hb8.out.next HB.out); clear Hb8; have Hb8 := H_; clear H_
  have H_ := Lib.hid (HY.out.next HB.out); clear HY; have HY := H_; clear H_
  have H_ := Lib.hid (H2.out.next HB.out); clear H2; have H2 := H_; clear H_
  clear HB
  obtain ⟨gn, hgn⟩ : ∃ b, w10.heap.size = b := ⟨_, rfl⟩
  have hl2 := ilit w10 [10, 11] (by decide)
  have hl3 : Below w10.heap.size w10 (w10.alloc (.cells #[.int .i64 10, .int .i64 11] 3)) ∧ (Kd.int .i64).C (w10.alloc (.cells #[.int .i64 10, .int .i64 11] 3)) (some ⟨gn, 0, none⟩) 2 [10, 11] := by rw [← hgn]; exact hl2
  clear hl2
  obtain ⟨wl, hwl⟩ : ∃ W, w10.alloc (.cells #[.int .i64 10, .int .i64 11] 3) = W := ⟨_, rfl⟩
  rw [hwl] at hl3
  have HB := Lib.hid hl3.1
  have HZ := Lib.hid (show IntAt (some ⟨gn, 0, none⟩) 2 [10, 11] wl from ⟨hl3.2, Nat.le_refl _⟩); clear hl3
  have H_ := Lib.hid (HX.out.next HB.out); clear HX; have HX := H_; clear H_
  have H_ := Lib.hid (HM.out.next HB.out); clear HM; have HM := H_; clear H_
  have H_ := Lib.hid (H1.out.next HB.out); clear H1; have H1 := H_; clear H_
  have H_ := Lib.hid (Hb8.out.next HB.out); clear Hb8; have Hb8 := H_; clear H_
  have H_ := Lib.hid (HY.out.next HB.out); clear HY; have HY := H_; clear H_
  have H_ := Lib.hid (H2.out.next HB.out); clear H2; have H2 := H_; clear H_
  have H_ := Lib.hid (Hb10.out.next HB.out); clear Hb10; have Hb10 := H_; clear H_
  clear HB
  go_wp2_with fail
  refine (sup_call HM.out HZ.out HX.out.tab HGn.out).mono ?_
  rintro e w21 ⟨n3, Wn3, wcn3, Cn3, ccn3, rfl, HQ⟩
  have HB := Lib.hid HQ.out.2
  have H3 := Lib.hid HQ.out.1; clear HQ
  have H_ := Lib.hid (HX.out.next HB.out); clear HX; have HX := H_; clear H_
  have H_ := Lib.hid (HM.out.next HB.out); clear HM; have HM := H_; clear H_
  have H_ := Lib.hid (H1.out.next HB.out); clear H1; have H1 := H_; clear H_
  have H_ := Lib.hid (Hb8.out.next HB.out); clear Hb8; have Hb8 := H_; clear H_
  have H_ := Lib.hid (HY.out.next HB.out); clear HY; have HY := H_; clear H_
  have H_ := Lib.hid (H2.out.next HB.out); clear H2; have H2 := H_; clear H_
  have H_ := Lib.hid (Hb10.out.next HB.out); clear Hb10; have Hb10 := H_; clear H_
  have H_ := Lib.hid (HZ.out.next HB.out); clear HZ; have HZ := H_; clear H_
  clear HB
  obtain ⟨b12, hb12⟩ : ∃ b, w21.heap.size = b := ⟨_, rfl⟩
  have hbx := box_new (W := w21) n3 Wn3 wcn3 Cn3 ccn3 hb12
  obtain ⟨w22, hw22⟩ : ∃ W2, w21.alloc (.cells #[.int .i64 n3, .slice Wn3 n3 wcn3, .slice Cn3 n3 ccn3] 30) = W2 := ⟨_, rfl⟩
  rw [hw22] at hbx
  have HB := Lib.hid hbx.1
  have Hb12 := Lib.hid (BlkAt.mk hbx.2); clear hbx
  have H_ := Lib.hid (HX.out.next HB.out); clear HX; have HX := H_; clear H_
  have H_ := Lib.hid (HM.out.next HB.out); clear HM; have HM := H_; clear H_
  have H_ := Lib.hid (H1.out.next HB.out); clear H1; have H1 := H_; clear H_
  have H_ := Lib.hid (Hb8.out.next HB.out); clear Hb8; have Hb8 := H_; clear H_
  have H_ := Lib.hid (HY.out.next HB.out); clear HY; have HY := H_; clear H_
  have H_ := Lib.hid (H2.out.next HB.out); clear H2; have H2 := H_; clear H_
  have H_ := Lib.hid (Hb10.out.next HB.out); clear Hb10; have Hb10 := H_; clear H_
  have H_ := Lib.hid (HZ.out.next HB.out); clear HZ; have HZ := H_; clear H_
  have H_ := Lib.hid (H3.out.next HB.out); clear H3; have H3 := H_; clear H_
  clear HB
  have HO := Lib.hid (Origins_yes M dm m 10 w22 HM.out.rl HM.out.short HX.out.tab (given_valid HGn.out) (by rw [HME.out]; exact fnd_has (sil_has (.inr (.inl rfl)))))
  go_wp2_with fail
  refine HO.out.mono ?_
  rintro e w30 ⟨v, rfl, hR, hb⟩
  have HB := Lib.hid hb; clear HO hb
  have H_ := Lib.hid (HX.out.next HB.out); clear HX; have HX := H_; clear H_
  have H_ := Lib.hid (HM.out.next HB.out); clear HM; have HM := H_; clear H_
  have H_ := Lib.hid (H1.out.next HB.out); clear H1; have H1 := H_; clear H_
  have H_ := Lib.hid (Hb8.out.next HB.out); clear Hb8; have Hb8 := H_; clear H_
  have H_ := Lib.hid (HY.out.next HB.out); clear HY; have HY := H_; clear H_
  have H_ := Lib.hid (H2.out.next HB.out); clear H2; have H2 := H_; clear H_
  have H_ := Lib.hid (Hb10.out.next HB.out); clear Hb10; have Hb10 := H_; clear H_
  have H_ := Lib.hid (HZ.out.next HB.out); clear HZ; have HZ := H_; clear H_
  have H_ := Lib.hid (H3.out.next HB.out); clear H3; have H3 := H_; clear H_
  have H_ := Lib.hid (Hb12.out.next HB.out); clear Hb12; have Hb12 := H_; clear H_
  clear HB
  have hno : (elems (ogL m)).filter (fromB m (10 : Int).toNat) = [] := by
    have h := (circ_orig HL.out.1 HL.out.2).1
    rw [← HME.out, orgL, if_pos ⟨given_valid HGn.out, by rw [HME.out]; exact fnd_has (sil_has (.inr (.inl rfl)))⟩] at h
    exact h
  rw [hno] at hR
  obtain ⟨OA, oc, rfl⟩ := Kd.R_slice hR
  clear hR hno
  have hn3 : n3 = 0 := by
    have h := (circ_none HL.out.1 HL.out.2 HG2.out.2).1
    rw [← HME.out, ← H3.out.num] at h
    exact h
  subst hn3
  have HSM := Lib.hid (same_call H1.out H2.out (by rw [HME.out, ← HYS.out]; exact circ_same HL.out.1 HL.out.2 HC2.out))
  have k0 := cell_of (o := 0) Hb8.out.at_ rfl
  have k1 := cell_of (o := 1) Hb8.out.at_ rfl
  have k2 := cell_of (o := 2) Hb8.out.at_ rfl
  have m0 := cell_of (o := 0) Hb10.out.at_ rfl
  have m1 := cell_of (o := 1) Hb10.out.at_ rfl
  have m2 := cell_of (o := 2) Hb10.out.at_ rfl
  go_wp2_with fail
  refine HSM.out.mono ?_
  rintro e w31 ⟨rfl, hb⟩
  have HB := Lib.hid hb; clear hb k0 k1 k2 m0 m1 m2 HSM
  have H_ := Lib.hid (HX.out.next HB.out); clear HX; have HX := H_; clear H_
  have H_ := Lib.hid (HM.out.next HB.out); clear HM; have HM := H_; clear H_
  have H_ := Lib.hid (H1.out.next HB.out); clear H1; have H1 := H_; clear H_
  have H_ := Lib.hid (Hb8.out.next HB.out); clear Hb8; have Hb8 := H_; clear H_
  have H_ := Lib.hid (HY.out.next HB.out); clear HY; have HY := H_; clear H_
  have H_ := Lib.hid (H2.out.next HB.out); clear H2; have H2 := H_; clear H_
  have H_ := Lib.hid (Hb10.out.next HB.out); clear Hb10; have Hb10 := H_; clear H_
  have H_ := Lib.hid (HZ.out.next HB.out); clear HZ; have HZ := H_; clear H_
  have H_ := Lib.hid (H3.out.next HB.out); clear H3; have H3 := H_; clear H_
  have H_ := Lib.hid (Hb12.out.next HB.out); clear Hb12; have Hb12 := H_; clear H_
  clear HB
  have k0 := cell_of (o := 0) Hb12.out.at_ rfl
  have k1 := cell_of (o := 1) Hb12.out.at_ rfl
  have k2 := cell_of (o := 2) Hb12.out.at_ rfl
  go_wp2_with fail
  go_ret
  exact ⟨rfl, HX.out.below⟩
end Go.Proofs.YticngcjfofcoiaaDoor
