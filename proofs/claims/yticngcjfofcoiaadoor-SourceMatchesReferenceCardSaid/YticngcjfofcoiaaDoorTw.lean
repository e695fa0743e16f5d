/- The walk of SourceMatchesReference. -/
import Derived.Test.YticngcjfofcoiaaDoorZd
namespace Go.Proofs.YticngcjfofcoiaaDoor
open Go.RowKit Go.Rg Go.Proofs.YticngcjfofcoiaaDoorW.PrintWords
set_option linter.unusedVariables false
set_option linter.unusedSimpArgs false
set_option maxRecDepth 100000
set_option maxHeartbeats 4000000 in
theorem Match_walk (XA : Option Addr) (xc : Nat) (x : List (Int × Int × Int)) (YA : Option Addr) (yc : Nat) (y : List Src) (set : Int) (ZA : Option Addr) (zc : Nat) (z : List Int) (n0 : Int) (WO : Option Addr) (wo : Nat) (ws : List (List Int)) (CO : Option Addr) (co : Nat) (cs : List Int) (which : Int) (w : World) (hx : Kd.C k3 w XA x.length x) (hy : Kd.C kS w YA y.length y) (hz : (Kd.int .i64).C w ZA z.length z) (hzc : z.length ≤ zc) (hT : Tab w) (ho : OddAt WO wo ws CO co cs w) (hwh : (Lit.int .i64 which).wf = true) :
  Calls Tryd.prog 5 #[.slice XA x.length xc, .slice YA y.length yc, .int .i64 set, .slice ZA z.length zc, .agg #[.int .i64 n0, .slice WO ws.length wo, .slice CO cs.length co], .int .i64 which] w fun e w' => e = .returned (.bool true) ∧ Below w.heap.size w w' := by
 have HWH := Lib.hid hwh; clear hwh
 have hmz := max_len hz
 have hmw := max_len ho.rows
 have hmc := max_len ho.cut
 obtain ⟨gb, hgb⟩ : ∃ b, w.heap.size = b := ⟨_, rfl⟩
 have hb0 := (Below.refl w.heap.size w).alloc (Nat.le_refl _) (.cells #[.int .i64 n0, .slice WO ws.length wo, .slice CO cs.length co] 30)
 have hk0 := heap_new (W := w) (o := .cells #[.int .i64 n0, .slice WO ws.length wo, .slice CO cs.length co] 30) hgb
 obtain ⟨w0, hw0⟩ : ∃ W, w.alloc (.cells #[.int .i64 n0, .slice WO ws.length wo, .slice CO cs.length co] 30) = W := ⟨_, rfl⟩
 rw [hw0] at hb0 hk0
 have HM := Lib.hid (show MRX w XA x YA y ZA zc z gb n0 WO wo ws CO co cs w0 from ⟨hb0, hT.next hb0 hT.pos, Kd.C_below hx hb0, Kd.C_below hy hb0, IntAt.next ⟨hz, hzc⟩ hb0, ho.next hb0, hk0⟩); clear hx hy hz hT ho hb0 hk0
 go_enter Tryd.func5, Tryd.ntmps5
 have hq0 : True := trivial
 go_wp2_with fail
 refine (sane_any w0 HM.out.tab).mono ?_
 rintro e w1 ⟨rfl, hb⟩
 have HB := Lib.hid hb; clear hb hw0 hgb hq0
 have H_ := Lib.hid (HM.out.next HB.out); clear HM; have HM := H_; clear H_
 clear HB
 go_wp2_with fail
 refine (made_call XA xc x w1 HM.out.xr).mono ?_
 rintro e w2 ⟨A, c, l, rfl, HQ⟩
 have HB := Lib.hid HQ.out.2.2.2
 have HL10 := Lib.hid HQ.out.2.2.1
 have HA := Lib.hid HQ.out.1; clear HQ
 have H_ := Lib.hid (HM.out.next HB.out); clear HM; have HM := H_; clear H_
 clear HB
 go_wp2_with fail
 refine (few_any YA yc y w2 HM.out.yr).mono ?_
 rintro e w3 ⟨FB, fd, rfl, HQ⟩
 have HB := Lib.hid HQ.out.2
 have HFS := Lib.hid HQ.out.1; clear HQ
 have HFL := Lib.hid (show (fewS y).length ≤ 10 by unfold fewS; rw [List.length_map, List.length_take]; omega)
 obtain ⟨fl, hfl⟩ : ∃ q, fewS y = q := ⟨_, rfl⟩
 rw [hfl] at HFS HFL ⊢
 clear hfl
 have H_ := Lib.hid (HM.out.next HB.out); clear HM; have HM := H_; clear H_
 have H_ := Lib.hid (HA.out.next HB.out); clear HA; have HA := H_; clear H_
 clear HB
 obtain ⟨g1, hg1⟩ : ∃ b, w3.heap.size = b := ⟨_, rfl⟩
 have hA_ := (Below.refl w3.heap.size w3).alloc (Nat.le_refl _) (.cells #[.slice A l.length c, .slice FB fl.length fd] 24)
 have hN_ := heap_new (W := w3) (o := .cells #[.slice A l.length c, .slice FB fl.length fd] 24) hg1
 obtain ⟨w4, hw4⟩ : ∃ W2, w3.alloc (.cells #[.slice A l.length c, .slice FB fl.length fd] 24) = W2 := ⟨_, rfl⟩
 rw [hw4] at hA_ hN_
 have HB := Lib.hid hA_
 have HG1 := Lib.hid (BlkAt.mk hN_); clear hA_ hN_
 have H_ := Lib.hid (HM.out.next HB.out); clear HM; have HM := H_; clear H_
 have H_ := Lib.hid (HA.out.next HB.out); clear HA; have HA := H_; clear H_
 have H_ := Lib.hid (HFS.out.next HB.out); clear HFS; have HFS := H_; clear H_
 clear HB
 obtain ⟨ad1, had1⟩ : ∃ a : Addr, (⟨g1, 0, none⟩ : Addr) = a := ⟨_, rfl⟩
 have HD1 := Lib.hid had1
 go_wp2_with fail
 clear hg1 hw4
 try rw [had1]
 clear had1
 have HE1 := Lib.hid (BwAt.mk (Below.refl w4.heap.size w4))
 have H0_ := Lib.hid (Below.refl w4.heap.size w4)
 go_wp2_with fail
 go_loopw [47] (fun iv wr => ∃ i : Nat, i ≤ 2 ∧ iv = .int .i64 i ∧ Hid (Below w4.heap.size w4 wr)) (fun iv wr => 2 - (intOf iv).toNat)
 case atStart => exact ⟨0, by omega, rfl, H0_⟩
 case round =>
  clear H0_
  obtain ⟨i, hi, rfl, HB⟩ := hrel
  obtain ⟨w5, hw5⟩ : ∃ W, wr = W := ⟨_, rfl⟩
  rw [hw5] at HB ⊢
  clear hw5
  have H_ := Lib.hid (HM.out.next HB.out); clear HM; have HM := H_; clear H_
  have H_ := Lib.hid (HA.out.next HB.out); clear HA; have HA := H_; clear H_
  have H_ := Lib.hid (HFS.out.next HB.out); clear HFS; have HFS := H_; clear H_
  have H_ := Lib.hid (HG1.out.next HB.out); clear HG1; have HG1 := H_; clear H_
  have H_ := Lib.hid (HE1.out.next HB.out); clear HE1; have HE1 := H_; clear H_
  clear HB
  by_cases li : i < 2
  ·have liI : (i : Int) < 2 := by omega
   have hsrc : ∃ (SA : Option Addr) (sc : Nat) (sl : List Src), sl.length ≤ 10 ∧ w5.cell? (ad1.add i) = some (.slice SA sl.length sc) ∧ SrcAt SA sc sl w5 := by
    rw [← HD1.out, add_plain]
    obtain rfl | rfl : i = 0 ∨ i = 1 := by omega
    ·exact ⟨A, c, l, HL10.out, cell_of (o := 0) HG1.out.at_ rfl, HA.out⟩
    ·exact ⟨FB, fd, fl, HFL.out, cell_of (o := 1) HG1.out.at_ rfl, HFS.out⟩
   obtain ⟨SA, sc, sl, hsl, hcell, hS⟩ := hsrc
   have HSL := Lib.hid hsl
   have hsl64 : sl.length ≤ 9223372036854775807 := by omega
   have HS := Lib.hid hS; clear hsl hS
   obtain ⟨qv, hqv⟩ := both_valid sl
   have HV := Lib.hid hqv
   have hnv : (qv != qv) = false := by cases qv <;> rfl
   obtain ⟨qs, hqs⟩ := both_same sl l
   have HSM := Lib.hid hqs
   have hns : (qs != qs) = false := by cases qs <;> rfl
   clear hqv hqs
   go_wp2_with fail
   refine ((HV.out SA sc w5 HS.out).1).mono ?_
   rintro e w6 ⟨rfl, hb⟩
   have HB := Lib.hid hb; clear hb
   have H_ := Lib.hid (HM.out.next HB.out); clear HM; have HM := H_; clear H_
   have H_ := Lib.hid (HA.out.next HB.out); clear HA; have HA := H_; clear H_
   have H_ := Lib.hid (HFS.out.next HB.out); clear HFS; have HFS := H_; clear H_
   have H_ := Lib.hid (HG1.out.next HB.out); clear HG1; have HG1 := H_; clear H_
   have H_ := Lib.hid (HE1.out.next HB.out); clear HE1; have HE1 := H_; clear H_
   have H_ := Lib.hid (HS.out.next HB.out); clear HS; have HS := H_; clear H_
   clear HB
   clear hcell
   go_wp2_with fail
   refine ((HV.out SA sc w6 HS.out).2).mono ?_
   rintro e w7 ⟨rfl, hb⟩
   have HB := Lib.hid hb; clear hb
   have H_ := Lib.hid (HM.out.next HB.out); clear HM; have HM := H_; clear H_
   have H_ := Lib.hid (HA.out.next HB.out); clear HA; have HA := H_; clear H_
   have H_ := Lib.hid (HFS.out.next HB.out); clear HFS; have HFS := H_; clear H_
   have H_ := Lib.hid (HG1.out.next HB.out); clear HG1; have HG1 := H_; clear H_
   have H_ := Lib.hid (HE1.out.next HB.out); clear HE1; have HE1 := H_; clear H_
   have H_ := Lib.hid (HS.out.next HB.out); clear HS; have HS := H_; clear H_
   clear HB
   go_wp2_with fail
   refine ((HSM.out SA sc A c w7 HS.out HA.out).1).mono ?_
   rintro e w8 ⟨rfl, hb⟩
   have HB := Lib.hid hb; clear hb
   have H_ := Lib.hid (HM.out.next HB.out); clear HM; have HM := H_; clear H_
   have H_ := Lib.hid (HA.out.next HB.out); clear HA; have HA := H_; clear H_
   have H_ := Lib.hid (HFS.out.next HB.out); clear HFS; have HFS := H_; clear H_
   have H_ := Lib.hid (HG1.out.next HB.out); clear HG1; have HG1 := H_; clear H_
   have H_ := Lib.hid (HE1.out.next HB.out); clear HE1; have HE1 := H_; clear H_
   have H_ := Lib.hid (HS.out.next HB.out); clear HS; have HS := H_; clear H_
   clear HB
   go_wp2_with fail
   refine ((HSM.out SA sc A c w8 HS.out HA.out).2).mono ?_
   rintro e w9 ⟨rfl, hb⟩
   have HB := Lib.hid hb; clear hb
   have H_ := Lib.hid (HM.out.next HB.out); clear HM; have HM := H_; clear H_
   have H_ := Lib.hid (HA.out.next HB.out); clear HA; have HA := H_; clear H_
   have H_ := Lib.hid (HFS.out.next HB.out); clear HFS; have HFS := H_; clear H_
   have H_ := Lib.hid (HG1.out.next HB.out); clear HG1; have HG1 := H_; clear H_
   have H_ := Lib.hid (HE1.out.next HB.out); clear HE1; have HE1 := H_; clear H_
   have H_ := Lib.hid (HS.out.next HB.out); clear HS; have HS := H_; clear H_
   clear HB
   clear HV HSM
   obtain ⟨fi, fk, ff, fo, hfd⟩ := both_find sl which
   have HFD := Lib.hid hfd; clear hfd
   have hfo : (fo != fo) = false := by cases fo <;> rfl
   have hfi : (fi != fi) = false := by simp
   have hfk : (fk != fk) = false := by simp
   go_wp2_with fail
   refine ((HFD.out SA sc w9 HS.out).1).mono ?_
   rintro e w10 ⟨FA1, fc1, rfl, HQ⟩
   have HB := Lib.hid HQ.out.2
   have HI1 := Lib.hid HQ.out.1; clear HQ
   have H_ := Lib.hid (HM.out.next HB.out); clear HM; have HM := H_; clear H_
   have H_ := Lib.hid (HA.out.next HB.out); clear HA; have HA := H_; clear H_
   have H_ := Lib.hid (HFS.out.next HB.out); clear HFS; have HFS := H_; clear H_
   have H_ := Lib.hid (HG1.out.next HB.out); clear HG1; have HG1 := H_; clear H_
   have H_ := Lib.hid (HE1.out.next HB.out); clear HE1; have HE1 := H_; clear H_
   have H_ := Lib.hid (HS.out.next HB.out); clear HS; have HS := H_; clear H_
   clear HB
   clear hnv hns
   obtain ⟨bf1, hbf1⟩ : ∃ b, w10.heap.size = b := ⟨_, rfl⟩
   have hA_ := (Below.refl w10.heap.size w10).alloc (Nat.le_refl _) (.cells #[.int .i64 fi, .int .i64 fk, .slice FA1 ff.length fc1] 35)
   have hN_ := heap_new (W := w10) (o := .cells #[.int .i64 fi, .int .i64 fk, .slice FA1 ff.length fc1] 35) hbf1
   obtain ⟨w11, hw11⟩ : ∃ W2, w10.alloc (.cells #[.int .i64 fi, .int .i64 fk, .slice FA1 ff.length fc1] 35) = W2 := ⟨_, rfl⟩
   rw [hw11] at hA_ hN_
   have HB := Lib.hid hA_
   have HBF1 := Lib.hid (BlkAt.mk hN_); clear hA_ hN_
   have H_ := Lib.hid (HM.out.next HB.out); clear HM; have HM := H_; clear H_
   have H_ := Lib.hid (HA.out.next HB.out); clear HA; have HA := H_; clear H_
   have H_ := Lib.hid (HFS.out.next HB.out); clear HFS; have HFS := H_; clear H_
   have H_ := Lib.hid (HG1.out.next HB.out); clear HG1; have HG1 := H_; clear H_
   have H_ := Lib.hid (HE1.out.next HB.out); clear HE1; have HE1 := H_; clear H_
   have H_ := Lib.hid (HS.out.next HB.out); clear HS; have HS := H_; clear H_
   have H_ := Lib.hid (HI1.out.next HB.out); clear HI1; have HI1 := H_; clear H_
   clear HB
   go_wp2_with fail
   refine ((HFD.out SA sc w11 HS.out).2).mono ?_
   rintro e w12 ⟨FA2, fc2, rfl, HQ⟩
   have HB := Lib.hid HQ.out.2
   have HI2 := Lib.hid HQ.out.1; clear HQ
   have H_ := Lib.hid (HM.out.next HB.out); clear HM; have HM := H_; clear H_
   have H_ := Lib.hid (HA.out.next HB.out); clear HA; have HA := H_; clear H_
   have H_ := Lib.hid (HFS.out.next HB.out); clear HFS; have HFS := H_; clear H_
   have H_ := Lib.hid (HG1.out.next HB.out); clear HG1; have HG1 := H_; clear H_
   have H_ := Lib.hid (HE1.out.next HB.out); clear HE1; have HE1 := H_; clear H_
   have H_ := Lib.hid (HS.out.next HB.out); clear HS; have HS := H_; clear H_
   have H_ := Lib.hid (HI1.out.next HB.out); clear HI1; have HI1 := H_; clear H_
   have H_ := Lib.hid (HBF1.out.next HB.out); clear HBF1; have HBF1 := H_; clear H_
   clear HB
   obtain ⟨bf2, hbf2⟩ : ∃ b, w12.heap.size = b := ⟨_, rfl⟩
   have hA_ := (Below.refl w12.heap.size w12).alloc (Nat.le_refl _) (.cells #[.int .i64 fi, .int .i64 fk, .slice FA2 ff.length fc2] 35)
   have hN_ := heap_new (W := w12) (o := .cells #[.int .i64 fi, .int .i64 fk, .slice FA2 ff.length fc2] 35) hbf2
   obtain ⟨w13, hw13⟩ : ∃ W2, w12.alloc (.cells #[.int .i64 fi, .int .i64 fk, .slice FA2 ff.length fc2] 35) = W2 := ⟨_, rfl⟩
   rw [hw13] at hA_ hN_
   have HB := Lib.hid hA_
   have HBF2 := Lib.hid (BlkAt.mk hN_); clear hA_ hN_
   have H_ := Lib.hid (HM.out.next HB.out); clear HM; have HM := H_; clear H_
   have H_ := Lib.hid (HA.out.next HB.out); clear HA; have HA := H_; clear H_
   have H_ := Lib.hid (HFS.out.next HB.out); clear HFS; have HFS := H_; clear H_
   have H_ := Lib.hid (HG1.out.next HB.out); clear HG1; have HG1 := H_; clear H_
   have H_ := Lib.hid (HE1.out.next HB.out); clear HE1; have HE1 := H_; clear H_
   have H_ := Lib.hid (HS.out.next HB.out); clear HS; have HS := H_; clear H_
   have H_ := Lib.hid (HI1.out.next HB.out); clear HI1; have HI1 := H_; clear H_
   have H_ := Lib.hid (HBF1.out.next HB.out); clear HBF1; have HBF1 := H_; clear H_
   have H_ := Lib.hid (HI2.out.next HB.out); clear HI2; have HI2 := H_; clear H_
   clear HB
   have c10 := cell_of (o := 0) HBF1.out.at_ rfl
   have c11 := cell_of (o := 1) HBF1.out.at_ rfl
   have c12 := cell_of (o := 2) HBF1.out.at_ rfl
   have c20 := cell_of (o := 0) HBF2.out.at_ rfl
   have c21 := cell_of (o := 1) HBF2.out.at_ rfl
   have c22 := cell_of (o := 2) HBF2.out.at_ rfl
   go_wp2_with fail
   refine (same_ints HI1.out HI2.out).mono ?_
   rintro e w14 ⟨rfl, hb⟩
   have HB := Lib.hid hb; clear hb
   have H_ := Lib.hid (HM.out.next HB.out); clear HM; have HM := H_; clear H_
   have H_ := Lib.hid (HA.out.next HB.out); clear HA; have HA := H_; clear H_
   have H_ := Lib.hid (HFS.out.next HB.out); clear HFS; have HFS := H_; clear H_
   have H_ := Lib.hid (HG1.out.next HB.out); clear HG1; have HG1 := H_; clear H_
   have H_ := Lib.hid (HE1.out.next HB.out); clear HE1; have HE1 := H_; clear H_
   have H_ := Lib.hid (HS.out.next HB.out); clear HS; have HS := H_; clear H_
   have H_ := Lib.hid (HI1.out.next HB.out); clear HI1; have HI1 := H_; clear H_
   have H_ := Lib.hid (HBF1.out.next HB.out); clear HBF1; have HBF1 := H_; clear H_
   have H_ := Lib.hid (HI2.out.next HB.out); clear HI2; have HI2 := H_; clear H_
   have H_ := Lib.hid (HBF2.out.next HB.out); clear HBF2; have HBF2 := H_; clear H_
   clear HB
   clear c10 c11 c12 c20 c21 c22 hfo hfi hfk HFD
   try clear hbf1 hbf2
   clear HI1 HI2 HBF1 HBF2
   go_wp2_with fail
   refine region_seqP (fun _ => False) [([0, 1, 2, 4, 5, 6, 7, 8, 11], 3), ([], 9)] [10] (by kernel_rfl) (by kernel_rfl) (fun _ _ d _ _ h => by cases d <;> exact h) (fun ⟨_, _, h⟩ => by rcases h with ⟨h, _⟩; cases h) ?_
   simp only [seqQ, pick_cons, pick_nil, nthO_succ, nthO_zero]
   have HS0 := Lib.hid (show Fr (fun _ => False) w14 { w14 with drawn := w14.drawn + 1 } from (Fr.refl _ _).drew)
   have HB := Lib.hid (show Below w14.heap.size w14 { w14 with drawn := w14.drawn + 1 } from (Below.refl _ _).drew)
   obtain ⟨w15, hwd⟩ : ∃ wd, { w14 with drawn := w14.drawn + 1 } = wd := ⟨_, rfl⟩
   rw [hwd] at HS0 HB ⊢
   clear hwd
   have H_ := Lib.hid (HM.out.next HB.out); clear HM; have HM := H_; clear H_
   have H_ := Lib.hid (HA.out.next HB.out); clear HA; have HA := H_; clear H_
   have H_ := Lib.hid (HFS.out.next HB.out); clear HFS; have HFS := H_; clear H_
   have H_ := Lib.hid (HG1.out.next HB.out); clear HG1; have HG1 := H_; clear H_
   have H_ := Lib.hid (HE1.out.next HB.out); clear HE1; have HE1 := H_; clear H_
   have H_ := Lib.hid (HS.out.next HB.out); clear HS; have HS := H_; clear H_
   clear HB
   repeat (go_big_quiet_step (fail))
   have hq : (if (4 : Int) < (z.length : Int) then (4 : Int) else (z.length : Int)).toNat = (z.take 4).length := by rw [List.length_take]; split <;> omega
   generalize (if (4 : Int) < (z.length : Int) then (4 : Int) else (z.length : Int)) = qi at *
   rw [hq]
   clear hq
   have HZ4 := Lib.hid HM.out.zr.take4
   obtain ⟨z4, hz4⟩ : ∃ q, z.take 4 = q := ⟨_, rfl⟩
   rw [hz4] at HZ4 ⊢
   clear hz4
   refine wpQuiet_nil ?_
   go_wp2_with fail
   refine (chosen_call sl.length (by have := HSL.out; omega) set w15).mono ?_
   rintro e w16 ⟨XB, xd, xs0, rfl, HQ⟩
   have HB := Lib.hid HQ.out.2.2.2
   have HC := Lib.hid HQ.out.1; clear HQ
   have H_ := Lib.hid (HS0.out.call HB.out); clear HS0; have HS0 := H_; clear H_
   have H_ := Lib.hid (HM.out.next HB.out); clear HM; have HM := H_; clear H_
   have H_ := Lib.hid (HA.out.next HB.out); clear HA; have HA := H_; clear H_
   have H_ := Lib.hid (HFS.out.next HB.out); clear HFS; have HFS := H_; clear H_
   have H_ := Lib.hid (HG1.out.next HB.out); clear HG1; have HG1 := H_; clear H_
   have H_ := Lib.hid (HE1.out.next HB.out); clear HE1; have HE1 := H_; clear H_
   have H_ := Lib.hid (HS.out.next HB.out); clear HS; have HS := H_; clear H_
   have H_ := Lib.hid (HZ4.out.next HB.out); clear HZ4; have HZ4 := H_; clear H_
   clear HB
   obtain ⟨g2, hg2⟩ : ∃ b, w16.heap.size = b := ⟨_, rfl⟩
   have hA_ := (Below.refl w16.heap.size w16).alloc (Nat.le_refl _) (.cells #[.slice XB xs0.length xd, .slice ZA z4.length zc] 26)
   have hN_ := heap_new (W := w16) (o := .cells #[.slice XB xs0.length xd, .slice ZA z4.length zc] 26) hg2
   obtain ⟨w17, hw17⟩ : ∃ W2, w16.alloc (.cells #[.slice XB xs0.length xd, .slice ZA z4.length zc] 26) = W2 := ⟨_, rfl⟩
   rw [hw17] at hA_ hN_
   have HB := Lib.hid hA_
   have HG2 := Lib.hid (BlkAt.mk hN_); clear hA_ hN_
   have H_ := Lib.hid (HM.out.next HB.out); clear HM; have HM := H_; clear H_
   have H_ := Lib.hid (HA.out.next HB.out); clear HA; have HA := H_; clear H_
   have H_ := Lib.hid (HFS.out.next HB.out); clear HFS; have HFS := H_; clear H_
   have H_ := Lib.hid (HG1.out.next HB.out); clear HG1; have HG1 := H_; clear H_
   have H_ := Lib.hid (HE1.out.next HB.out); clear HE1; have HE1 := H_; clear H_
   have H_ := Lib.hid (HS.out.next HB.out); clear HS; have HS := H_; clear H_
   have H_ := Lib.hid (HZ4.out.next HB.out); clear HZ4; have HZ4 := H_; clear H_
   have H_ := Lib.hid (HC.out.next HB.out); clear HC; have HC := H_; clear H_
   clear HB
   go_wp2_with fail
   refine ⟨⟨⟨_, HS0.out⟩, rfl⟩, ?_⟩
   refine wpQuiet_nil ?_
   have hS2 := HS0.out.alloc (.cells #[.slice XB xs0.length xd, .slice ZA z4.length zc] 26)
   rw [hw17] at hS2
   have HS2 := Lib.hid hS2; clear hS2
   go_wp2_with fail
   refine ⟨⟨⟨_, HS2.out⟩, rfl⟩, ?_⟩
   repeat (go_big_quiet_step (fail))
   refine wpQuiet_nil ?_
   clear hg2 hw17 HS0 HS2
   obtain ⟨ad2, had2⟩ : ∃ a : Addr, (⟨g2, 0, none⟩ : Addr) = a := ⟨_, rfl⟩
   have HD2 := Lib.hid had2
   try rw [had2]
   clear had2
   have HE2 := Lib.hid (BwAt.mk (Below.refl w17.heap.size w17))
   have H0_ := Lib.hid (Below.refl w17.heap.size w17)
   go_wp2_with fail
   go_loopw [113] (fun iv wr => ∃ i : Nat, i ≤ 2 ∧ iv = .int .i64 i ∧ Hid (Below w17.heap.size w17 wr)) (fun iv wr => 2 - (intOf iv).toNat)
   case atStart => exact ⟨0, by omega, rfl, H0_⟩
   case round =>
    clear H0_
    obtain ⟨j, hj, rfl, HB⟩ := hrel
    obtain ⟨w18, hw18⟩ : ∃ W, wr = W := ⟨_, rfl⟩
    rw [hw18] at HB ⊢
    clear hw18
    have H_ := Lib.hid (HM.out.next HB.out); clear HM; have HM := H_; clear H_
    have H_ := Lib.hid (HA.out.next HB.out); clear HA; have HA := H_; clear H_
    have H_ := Lib.hid (HFS.out.next HB.out); clear HFS; have HFS := H_; clear H_
    have H_ := Lib.hid (HG1.out.next HB.out); clear HG1; have HG1 := H_; clear H_
    have H_ := Lib.hid (HE1.out.next HB.out); clear HE1; have HE1 := H_; clear H_
    have H_ := Lib.hid (HS.out.next HB.out); clear HS; have HS := H_; clear H_
    have H_ := Lib.hid (HZ4.out.next HB.out); clear HZ4; have HZ4 := H_; clear H_
    have H_ := Lib.hid (HC.out.next HB.out); clear HC; have HC := H_; clear H_
    have H_ := Lib.hid (HG2.out.next HB.out); clear HG2; have HG2 := H_; clear H_
    have H_ := Lib.hid (HE2.out.next HB.out); clear HE2; have HE2 := H_; clear H_
    clear HB
    by_cases lj : j < 2
    ·have ljI : (j : Int) < 2 := by omega
     have hint : ∃ (PA : Option Addr) (pc : Nat) (xs : List Int), w18.cell? (ad2.add j) = some (.slice PA xs.length pc) ∧ IntAt PA pc xs w18 := by
      rw [← HD2.out, add_plain]
      obtain rfl | rfl : j = 0 ∨ j = 1 := by omega
      ·exact ⟨XB, xd, xs0, cell_of (o := 0) HG2.out.at_ rfl, HC.out⟩
      ·exact ⟨ZA, zc, z4, cell_of (o := 1) HG2.out.at_ rfl, HZ4.out⟩
     obtain ⟨PA, pc, xs, hcell, hP⟩ := hint
     have HP := Lib.hid hP; clear hP
     obtain ⟨m1, ws1, cs1, er1, h1⟩ := both_sup sl xs
     have HS1 := Lib.hid h1
     obtain ⟨m2, ws2, cs2, er2, h2⟩ := both_named sl xs
     have HS2 := Lib.hid h2
     clear h1 h2
     have hn1 : (er1 != er1) = false := by simp
     have hn2 : (er2 != er2) = false := by simp
     go_wp2_with fail
     refine ((HS1.out SA sc PA pc w18 HS.out HP.out HM.out.tab).1).mono ?_
     rintro e w19 ⟨WA1, wc1, CA1, cc1, rfl, HQ⟩
     have HB := Lib.hid HQ.out.2
     have HO1 := Lib.hid HQ.out.1; clear HQ
     have H_ := Lib.hid (HM.out.next HB.out); clear HM; have HM := H_; clear H_
     have H_ := Lib.hid (HA.out.next HB.out); clear HA; have HA := H_; clear H_
     have H_ := Lib.hid (HFS.out.next HB.out); clear HFS; have HFS := H_; clear H_
     have H_ := Lib.hid (HG1.out.next HB.out); clear HG1; have HG1 := H_; clear H_
     have H_ := Lib.hid (HE1.out.next HB.out); clear HE1; have HE1 := H_; clear H_
     have H_ := Lib.hid (HS.out.next HB.out); clear HS; have HS := H_; clear H_
     have H_ := Lib.hid (HZ4.out.next HB.out); clear HZ4; have HZ4 := H_; clear H_
     have H_ := Lib.hid (HC.out.next HB.out); clear HC; have HC := H_; clear H_
     have H_ := Lib.hid (HG2.out.next HB.out); clear HG2; have HG2 := H_; clear H_
     have H_ := Lib.hid (HE2.out.next HB.out); clear HE2; have HE2 := H_; clear H_
     have H_ := Lib.hid (HP.out.next HB.out); clear HP; have HP := H_; clear H_
     clear HB
     clear hcell
     obtain ⟨b1, hb1⟩ : ∃ b, w19.heap.size = b := ⟨_, rfl⟩
     have hA_ := (Below.refl w19.heap.size w19).alloc (Nat.le_refl _) (.cells #[.int .i64 m1, .slice WA1 ws1.length wc1, .slice CA1 cs1.length cc1] 30)
     have hN_ := heap_new (W := w19) (o := .cells #[.int .i64 m1, .slice WA1 ws1.length wc1, .slice CA1 cs1.length cc1] 30) hb1
     obtain ⟨w20, hw20⟩ : ∃ W2, w19.alloc (.cells #[.int .i64 m1, .slice WA1 ws1.length wc1, .slice CA1 cs1.length cc1] 30) = W2 := ⟨_, rfl⟩
     rw [hw20] at hA_ hN_
     have HB := Lib.hid hA_
     have HBX1 := Lib.hid (BlkAt.mk hN_); clear hA_ hN_
     have H_ := Lib.hid (HM.out.next HB.out); clear HM; have HM := H_; clear H_
     have H_ := Lib.hid (HA.out.next HB.out); clear HA; have HA := H_; clear H_
     have H_ := Lib.hid (HFS.out.next HB.out); clear HFS; have HFS := H_; clear H_
     have H_ := Lib.hid (HG1.out.next HB.out); clear HG1; have HG1 := H_; clear H_
     have H_ := Lib.hid (HE1.out.next HB.out); clear HE1; have HE1 := H_; clear H_
     have H_ := Lib.hid (HS.out.next HB.out); clear HS; have HS := H_; clear H_
     have H_ := Lib.hid (HZ4.out.next HB.out); clear HZ4; have HZ4 := H_; clear H_
     have H_ := Lib.hid (HC.out.next HB.out); clear HC; have HC := H_; clear H_
     have H_ := Lib.hid (HG2.out.next HB.out); clear HG2; have HG2 := H_; clear H_
     have H_ := Lib.hid (HE2.out.next HB.out); clear HE2; have HE2 := H_; clear H_
     have H_ := Lib.hid (HP.out.next HB.out); clear HP; have HP := H_; clear H_
     have H_ := Lib.hid (HO1.out.next HB.out); clear HO1; have HO1 := H_; clear H_
     clear HB
     go_wp2_with fail
     refine ((HS1.out SA sc PA pc w20 HS.out HP.out HM.out.tab).2).mono ?_
     rintro e w21 ⟨WA2, wc2, CA2, cc2, rfl, HQ⟩
     have HB := Lib.hid HQ.out.2
     have HO2 := Lib.hid HQ.out.1; clear HQ
     have H_ := Lib.hid (HM.out.next HB.out); clear HM; have HM := H_; clear H_
     have H_ := Lib.hid (HA.out.next HB.out); clear HA; have HA := H_; clear H_
     have H_ := Lib.hid (HFS.out.next HB.out); clear HFS; have HFS := H_; clear H_
     have H_ := Lib.hid (HG1.out.next HB.out); clear HG1; have HG1 := H_; clear H_
     have H_ := Lib.hid (HE1.out.next HB.out); clear HE1; have HE1 := H_; clear H_
     have H_ := Lib.hid (HS.out.next HB.out); clear HS; have HS := H_; clear H_
     have H_ := Lib.hid (HZ4.out.next HB.out); clear HZ4; have HZ4 := H_; clear H_
     have H_ := Lib.hid (HC.out.next HB.out); clear HC; have HC := H_; clear H_
     have H_ := Lib.hid (HG2.out.next HB.out); clear HG2; have HG2 := H_; clear H_
     have H_ := Lib.hid (HE2.out.next HB.out); clear HE2; have HE2 := H_; clear H_
     have H_ := Lib.hid (HP.out.next HB.out); clear HP; have HP := H_; clear H_
     have H_ := Lib.hid (HO1.out.next HB.out); clear HO1; have HO1 := H_; clear H_
     have H_ := Lib.hid (HBX1.out.next HB.out); clear HBX1; have HBX1 := H_; clear H_
     clear HB
     obtain ⟨b2, hb2⟩ : ∃ b, w21.heap.size = b := ⟨_, rfl⟩
     have hA_ := (Below.refl w21.heap.size w21).alloc (Nat.le_refl _) (.cells #[.int .i64 m1, .slice WA2 ws1.length wc2, .slice CA2 cs1.length cc2] 30)
     have hN_ := heap_new (W := w21) (o := .cells #[.int .i64 m1, .slice WA2 ws1.length wc2, .slice CA2 cs1.length cc2] 30) hb2
     obtain ⟨w22, hw22⟩ : ∃ W2, w21.alloc (.cells #[.int .i64 m1, .slice WA2 ws1.length wc2, .slice CA2 cs1.length cc2] 30) = W2 := ⟨_, rfl⟩
     rw [hw22] at hA_ hN_
     have HB := Lib.hid hA_
     have HBX2 := Lib.hid (BlkAt.mk hN_); clear hA_ hN_
     have H_ := Lib.hid (HM.out.next HB.out); clear HM; have HM := H_; clear H_
     have H_ := Lib.hid (HA.out.next HB.out); clear HA; have HA := H_; clear H_
     have H_ := Lib.hid (HFS.out.next HB.out); clear HFS; have HFS := H_; clear H_
     have H_ := Lib.hid (HG1.out.next HB.out); clear HG1; have HG1 := H_; clear H_
     have H_ := Lib.hid (HE1.out.next HB.out); clear HE1; have HE1 := H_; clear H_
     have H_ := Lib.hid (HS.out.next HB.out); clear HS; have HS := H_; clear H_
     have H_ := Lib.hid (HZ4.out.next HB.out); clear HZ4; have HZ4 := H_; clear H_
     have H_ := Lib.hid (HC.out.next HB.out); clear HC; have HC := H_; clear H_
     have H_ := Lib.hid (HG2.out.next HB.out); clear HG2; have HG2 := H_; clear H_
     have H_ := Lib.hid (HE2.out.next HB.out); clear HE2; have HE2 := H_; clear H_
     have H_ := Lib.hid (HP.out.next HB.out); clear HP; have HP := H_; clear H_
     have H_ := Lib.hid (HO1.out.next HB.out); clear HO1; have HO1 := H_; clear H_
     have H_ := Lib.hid (HBX1.out.next HB.out); clear HBX1; have HBX1 := H_; clear H_
     have H_ := Lib.hid (HO2.out.next HB.out); clear HO2; have HO2 := H_; clear H_
     clear HB
     go_wp2_with fail
     refine ((HS2.out SA sc PA pc w22 HS.out HP.out HM.out.tab).1).mono ?_
     rintro e w23 ⟨WA3, wc3, CA3, cc3, rfl, HQ⟩
     have HB := Lib.hid HQ.out.2
     have HO3 := Lib.hid HQ.out.1; clear HQ
     have H_ := Lib.hid (HM.out.next HB.out); clear HM; have HM := H_; clear H_
     have H_ := Lib.hid (HA.out.next HB.out); clear HA; have HA := H_; clear H_
     have H_ := Lib.hid (HFS.out.next HB.out); clear HFS; have HFS := H_; clear H_
     have H_ := Lib.hid (HG1.out.next HB.out); clear HG1; have HG1 := H_; clear H_
     have H_ := Lib.hid (HE1.out.next HB.out); clear HE1; have HE1 := H_; clear H_
     have H_ := Lib.hid (HS.out.next HB.out); clear HS; have HS := H_; clear H_
     have H_ := Lib.hid (HZ4.out.next HB.out); clear HZ4; have HZ4 := H_; clear H_
     have H_ := Lib.hid (HC.out.next HB.out); clear HC; have HC := H_; clear H_
     have H_ := Lib.hid (HG2.out.next HB.out); clear HG2; have HG2 := H_; clear H_
     have H_ := Lib.hid (HE2.out.next HB.out); clear HE2; have HE2 := H_; clear H_
     have H_ := Lib.hid (HP.out.next HB.out); clear HP; have HP := H_; clear H_
     have H_ := Lib.hid (HO1.out.next HB.out); clear HO1; have HO1 := H_; clear H_
     have H_ := Lib.hid (HBX1.out.next HB.out); clear HBX1; have HBX1 := H_; clear H_
     have H_ := Lib.hid (HO2.out.next HB.out); clear HO2; have HO2 := H_; clear H_
     have H_ := Lib.hid (HBX2.out.next HB.out); clear HBX2; have HBX2 := H_; clear H_
     clear HB
     obtain ⟨b3, hb3⟩ : ∃ b, w23.heap.size = b := ⟨_, rfl⟩
     have hA_ := (Below.refl w23.heap.size w23).alloc (Nat.le_refl _) (.cells #[.int .i64 m2, .slice WA3 ws2.length wc3, .slice CA3 cs2.length cc3] 30)
     have hN_ := heap_new (W := w23) (o := .cells #[.int .i64 m2, .slice WA3 ws2.length wc3, .slice CA3 cs2.length cc3] 30) hb3
     obtain ⟨w24, hw24⟩ : ∃ W2, w23.alloc (.cells #[.int .i64 m2, .slice WA3 ws2.length wc3, .slice CA3 cs2.length cc3] 30) = W2 := ⟨_, rfl⟩
     rw [hw24] at hA_ hN_
     have HB := Lib.hid hA_
     have HBX3 := Lib.hid (BlkAt.mk hN_); clear hA_ hN_
     have H_ := Lib.hid (HM.out.next HB.out); clear HM; have HM := H_; clear H_
     have H_ := Lib.hid (HA.out.next HB.out); clear HA; have HA := H_; clear H_
     have H_ := Lib.hid (HFS.out.next HB.out); clear HFS; have HFS := H_; clear H_
     have H_ := Lib.hid (HG1.out.next HB.out); clear HG1; have HG1 := H_; clear H_
     have H_ := Lib.hid (HE1.out.next HB.out); clear HE1; have HE1 := H_; clear H_
     have H_ := Lib.hid (HS.out.next HB.out); clear HS; have HS := H_; clear H_
     have H_ := Lib.hid (HZ4.out.next HB.out); clear HZ4; have HZ4 := H_; clear H_
     have H_ := Lib.hid (HC.out.next HB.out); clear HC; have HC := H_; clear H_
     have H_ := Lib.hid (HG2.out.next HB.out); clear HG2; have HG2 := H_; clear H_
     have H_ := Lib.hid (HE2.out.next HB.out); clear HE2; have HE2 := H_; clear H_
     have H_ := Lib.hid (HP.out.next HB.out); clear HP; have HP := H_; clear H_
     have H_ := Lib.hid (HO1.out.next HB.out); clear HO1; have HO1 := H_; clear H_
     have H_ := Lib.hid (HBX1.out.next HB.out); clear HBX1; have HBX1 := H_; clear H_
     have H_ := Lib.hid (HO2.out.next HB.out); clear HO2; have HO2 := H_; clear H_
     have H_ := Lib.hid (HBX2.out.next HB.out); clear HBX2; have HBX2 := H_; clear H_
     have H_ := Lib.hid (HO3.out.next HB.out); clear HO3; have HO3 := H_; clear H_
     clear HB
     go_wp2_with fail
     refine ((HS2.out SA sc PA pc w24 HS.out HP.out HM.out.tab).2).mono ?_
     rintro e w25 ⟨WA4, wc4, CA4, cc4, rfl, HQ⟩
     have HB := Lib.hid HQ.out.2
     have HO4 := Lib.hid HQ.out.1; clear HQ
     have H_ := Lib.hid (HM.out.next HB.out); clear HM; have HM := H_; clear H_
     have H_ := Lib.hid (HA.out.next HB.out); clear HA; have HA := H_; clear H_
     have H_ := Lib.hid (HFS.out.next HB.out); clear HFS; have HFS := H_; clear H_
     have H_ := Lib.hid (HG1.out.next HB.out); clear HG1; have HG1 := H_; clear H_
     have H_ := Lib.hid (HE1.out.next HB.out); clear HE1; have HE1 := H_; clear H_
     have H_ := Lib.hid (HS.out.next HB.out); clear HS; have HS := H_; clear H_
     have H_ := Lib.hid (HZ4.out.next HB.out); clear HZ4; have HZ4 := H_; clear H_
     have H_ := Lib.hid (HC.out.next HB.out); clear HC; have HC := H_; clear H_
     have H_ := Lib.hid (HG2.out.next HB.out); clear HG2; have HG2 := H_; clear H_
     have H_ := Lib.hid (HE2.out.next HB.out); clear HE2; have HE2 := H_; clear H_
     have H_ := Lib.hid (HP.out.next HB.out); clear HP; have HP := H_; clear H_
     have H_ := Lib.hid (HO1.out.next HB.out); clear HO1; have HO1 := H_; clear H_
     have H_ := Lib.hid (HBX1.out.next HB.out); clear HBX1; have HBX1 := H_; clear H_
     have H_ := Lib.hid (HO2.out.next HB.out); clear HO2; have HO2 := H_; clear H_
     have H_ := Lib.hid (HBX2.out.next HB.out); clear HBX2; have HBX2 := H_; clear H_
     have H_ := Lib.hid (HO3.out.next HB.out); clear HO3; have HO3 := H_; clear H_
     have H_ := Lib.hid (HBX3.out.next HB.out); clear HBX3; have HBX3 := H_; clear H_
     clear HB
     obtain ⟨b4, hb4⟩ : ∃ b, w25.heap.size = b := ⟨_, rfl⟩
     have hA_ := (Below.refl w25.heap.size w25).alloc (Nat.le_refl _) (.cells #[.int .i64 m2, .slice WA4 ws2.length wc4, .slice CA4 cs2.length cc4] 30)
     have hN_ := heap_new (W := w25) (o := .cells #[.int .i64 m2, .slice WA4 ws2.length wc4, .slice CA4 cs2.length cc4] 30) hb4
     obtain ⟨w26, hw26⟩ : ∃ W2, w25.alloc (.cells #[.int .i64 m2, .slice WA4 ws2.length wc4, .slice CA4 cs2.length cc4] 30) = W2 := ⟨_, rfl⟩
     rw [hw26] at hA_ hN_
     have HB := Lib.hid hA_
     have HBX4 := Lib.hid (BlkAt.mk hN_); clear hA_ hN_
     have H_ := Lib.hid (HM.out.next HB.out); clear HM; have HM := H_; clear H_
     have H_ := Lib.hid (HA.out.next HB.out); clear HA; have HA := H_; clear H_
     have H_ := Lib.hid (HFS.out.next HB.out); clear HFS; have HFS := H_; clear H_
     have H_ := Lib.hid (HG1.out.next HB.out); clear HG1; have HG1 := H_; clear H_
     have H_ := Lib.hid (HE1.out.next HB.out); clear HE1; have HE1 := H_; clear H_
     have H_ := Lib.hid (HS.out.next HB.out); clear HS; have HS := H_; clear H_
     have H_ := Lib.hid (HZ4.out.next HB.out); clear HZ4; have HZ4 := H_; clear H_
     have H_ := Lib.hid (HC.out.next HB.out); clear HC; have HC := H_; clear H_
     have H_ := Lib.hid (HG2.out.next HB.out); clear HG2; have HG2 := H_; clear H_
     have H_ := Lib.hid (HE2.out.next HB.out); clear HE2; have HE2 := H_; clear H_
     have H_ := Lib.hid (HP.out.next HB.out); clear HP; have HP := H_; clear H_
     have H_ := Lib.hid (HO1.out.next HB.out); clear HO1; have HO1 := H_; clear H_
     have H_ := Lib.hid (HBX1.out.next HB.out); clear HBX1; have HBX1 := H_; clear H_
     have H_ := Lib.hid (HO2.out.next HB.out); clear HO2; have HO2 := H_; clear H_
     have H_ := Lib.hid (HBX2.out.next HB.out); clear HBX2; have HBX2 := H_; clear H_
     have H_ := Lib.hid (HO3.out.next HB.out); clear HO3; have HO3 := H_; clear H_
     have H_ := Lib.hid (HBX3.out.next HB.out); clear HBX3; have HBX3 := H_; clear H_
     have H_ := Lib.hid (HO4.out.next HB.out); clear HO4; have HO4 := H_; clear H_
     clear HB
     clear HS1 HS2
     have c10 := cell_of (o := 0) HBX1.out.at_ rfl
     have c11 := cell_of (o := 1) HBX1.out.at_ rfl
     have c12 := cell_of (o := 2) HBX1.out.at_ rfl
     have c20 := cell_of (o := 0) HBX2.out.at_ rfl
     have c21 := cell_of (o := 1) HBX2.out.at_ rfl
     have c22 := cell_of (o := 2) HBX2.out.at_ rfl
     have c30 := cell_of (o := 0) HBX3.out.at_ rfl
     have c31 := cell_of (o := 1) HBX3.out.at_ rfl
     have c32 := cell_of (o := 2) HBX3.out.at_ rfl
     have c40 := cell_of (o := 0) HBX4.out.at_ rfl
     have c41 := cell_of (o := 1) HBX4.out.at_ rfl
     have c42 := cell_of (o := 2) HBX4.out.at_ rfl
     go_wp2_with fail
     refine (same_odd HO1.out HO2.out).mono ?_
     rintro e w27 ⟨rfl, hb⟩
     have HB := Lib.hid hb; clear hb
     have H_ := Lib.hid (HM.out.next HB.out); clear HM; have HM := H_; clear H_
     have H_ := Lib.hid (HA.out.next HB.out); clear HA; have HA := H_; clear H_
     have H_ := Lib.hid (HFS.out.next HB.out); clear HFS; have HFS := H_; clear H_
     have H_ := Lib.hid (HG1.out.next HB.out); clear HG1; have HG1 := H_; clear H_
     have H_ := Lib.hid (HE1.out.next HB.out); clear HE1; have HE1 := H_; clear H_
     have H_ := Lib.hid (HS.out.next HB.out); clear HS; have HS := H_; clear H_
     have H_ := Lib.hid (HZ4.out.next HB.out); clear HZ4; have HZ4 := H_; clear H_
     have H_ := Lib.hid (HC.out.next HB.out); clear HC; have HC := H_; clear H_
     have H_ := Lib.hid (HG2.out.next HB.out); clear HG2; have HG2 := H_; clear H_
     have H_ := Lib.hid (HE2.out.next HB.out); clear HE2; have HE2 := H_; clear H_
     have H_ := Lib.hid (HP.out.next HB.out); clear HP; have HP := H_; clear H_
     have H_ := Lib.hid (HO1.out.next HB.out); clear HO1; have HO1 := H_; clear H_
     have H_ := Lib.hid (HBX1.out.next HB.out); clear HBX1; have HBX1 := H_; clear H_
     have H_ := Lib.hid (HO2.out.next HB.out); clear HO2; have HO2 := H_; clear H_
     have H_ := Lib.hid (HBX2.out.next HB.out); clear HBX2; have HBX2 := H_; clear H_
     have H_ := Lib.hid (HO3.out.next HB.out); clear HO3; have HO3 := H_; clear H_
     have H_ := Lib.hid (HBX3.out.next HB.out); clear HBX3; have HBX3 := H_; clear H_
     have H_ := Lib.hid (HO4.out.next HB.out); clear HO4; have HO4 := H_; clear H_
     have H_ := Lib.hid (HBX4.out.next HB.out); clear HBX4; have HBX4 := H_; clear H_
     clear HB
     clear c10 c11 c12 c20 c21 c22 c30 c31 c32 c40 c41 c42
     have c30 := cell_of (o := 0) HBX3.out.at_ rfl
     have c31 := cell_of (o := 1) HBX3.out.at_ rfl
     have c32 := cell_of (o := 2) HBX3.out.at_ rfl
     have c40 := cell_of (o := 0) HBX4.out.at_ rfl
     have c41 := cell_of (o := 1) HBX4.out.at_ rfl
     have c42 := cell_of (o := 2) HBX4.out.at_ rfl
     go_wp2_with fail
     refine (same_odd HO3.out HO4.out).mono ?_
     rintro e w28 ⟨rfl, hb⟩
     have HB := Lib.hid hb; clear hb
     have H_ := Lib.hid (HM.out.next HB.out); clear HM; have HM := H_; clear H_
     have H_ := Lib.hid (HA.out.next HB.out); clear HA; have HA := H_; clear H_
     have H_ := Lib.hid (HFS.out.next HB.out); clear HFS; have HFS := H_; clear H_
     have H_ := Lib.hid (HG1.out.next HB.out); clear HG1; have HG1 := H_; clear H_
     have H_ := Lib.hid (HE1.out.next HB.out); clear HE1; have HE1 := H_; clear H_
     have H_ := Lib.hid (HS.out.next HB.out); clear HS; have HS := H_; clear H_
     have H_ := Lib.hid (HZ4.out.next HB.out); clear HZ4; have HZ4 := H_; clear H_
     have H_ := Lib.hid (HC.out.next HB.out); clear HC; have HC := H_; clear H_
     have H_ := Lib.hid (HG2.out.next HB.out); clear HG2; have HG2 := H_; clear H_
     have H_ := Lib.hid (HE2.out.next HB.out); clear HE2; have HE2 := H_; clear H_
     have H_ := Lib.hid (HP.out.next HB.out); clear HP; have HP := H_; clear H_
     have H_ := Lib.hid (HO1.out.next HB.out); clear HO1; have HO1 := H_; clear H_
     have H_ := Lib.hid (HBX1.out.next HB.out); clear HBX1; have HBX1 := H_; clear H_
     have H_ := Lib.hid (HO2.out.next HB.out); clear HO2; have HO2 := H_; clear H_
     have H_ := Lib.hid (HBX2.out.next HB.out); clear HBX2; have HBX2 := H_; clear H_
     have H_ := Lib.hid (HO3.out.next HB.out); clear HO3; have HO3 := H_; clear H_
     have H_ := Lib.hid (HBX3.out.next HB.out); clear HBX3; have HBX3 := H_; clear H_
     have H_ := Lib.hid (HO4.out.next HB.out); clear HO4; have HO4 := H_; clear H_
     have H_ := Lib.hid (HBX4.out.next HB.out); clear HBX4; have HBX4 := H_; clear H_
     clear HB
     clear c30 c31 c32 c40 c41 c42 hn1 hn2
     try clear hb1 hb2 hb3 hb4
     clear HO1 HBX1 HO3 HBX3
     have c20 := cell_extB (B := fun _ => False) (cell_of (o := 0) HBX2.out.at_ rfl) (fun h => h)
     have c21 := cell_extB (B := fun _ => False) (cell_of (o := 1) HBX2.out.at_ rfl) (fun h => h)
     have c22 := cell_extB (B := fun _ => False) (cell_of (o := 2) HBX2.out.at_ rfl) (fun h => h)
     have c40 := cell_extB (B := fun _ => False) (cell_of (o := 0) HBX4.out.at_ rfl) (fun h => h)
     have c41 := cell_extB (B := fun _ => False) (cell_of (o := 1) HBX4.out.at_ rfl) (fun h => h)
     have c42 := cell_extB (B := fun _ => False) (cell_of (o := 2) HBX4.out.at_ rfl) (fun h => h)
     have c50 := cell_extB (B := fun _ => False) (cell_of (o := 0) HM.out.box rfl) (fun h => h)
     have c51 := cell_extB (B := fun _ => False) (cell_of (o := 1) HM.out.box rfl) (fun h => h)
     have c52 := cell_extB (B := fun _ => False) (cell_of (o := 2) HM.out.box rfl) (fun h => h)
     go_wp2_with fail
     refine region_seqP (fun _ => False) [([0, 1, 2, 6], 3), ([], 4)] [5] (by kernel_rfl) (by kernel_rfl) (fun _ _ d _ _ h => by cases d <;> exact h) (fun ⟨_, _, h⟩ => by rcases h with ⟨h, _⟩; cases h) ?_
     simp only [seqQ, pick_cons, pick_nil, nthO_succ, nthO_zero]
     have HS0 := Lib.hid (show Fr (fun _ => False) w28 { w28 with drawn := w28.drawn + 1 } from (Fr.refl _ _).drew)
     have HB := Lib.hid (show Below w28.heap.size w28 { w28 with drawn := w28.drawn + 1 } from (Below.refl _ _).drew)
     obtain ⟨w29, hwd⟩ : ∃ wd, { w28 with drawn := w28.drawn + 1 } = wd := ⟨_, rfl⟩
     rw [hwd] at HS0 HB ⊢
     clear hwd
     have H_ := Lib.hid (HM.out.next HB.out); clear HM; have HM := H_; clear H_
     have H_ := Lib.hid (HA.out.next HB.out); clear HA; have HA := H_; clear H_
     have H_ := Lib.hid (HFS.out.next HB.out); clear HFS; have HFS := H_; clear H_
     have H_ := Lib.hid (HG1.out.next HB.out); clear HG1; have HG1 := H_; clear H_
     have H_ := Lib.hid (HE1.out.next HB.out); clear HE1; have HE1 := H_; clear H_
     have H_ := Lib.hid (HS.out.next HB.out); clear HS; have HS := H_; clear H_
     have H_ := Lib.hid (HZ4.out.next HB.out); clear HZ4; have HZ4 := H_; clear H_
     have H_ := Lib.hid (HC.out.next HB.out); clear HC; have HC := H_; clear H_
     have H_ := Lib.hid (HG2.out.next HB.out); clear HG2; have HG2 := H_; clear H_
     have H_ := Lib.hid (HE2.out.next HB.out); clear HE2; have HE2 := H_; clear H_
     have H_ := Lib.hid (HP.out.next HB.out); clear HP; have HP := H_; clear H_
     have H_ := Lib.hid (HO2.out.next HB.out); clear HO2; have HO2 := H_; clear H_
     have H_ := Lib.hid (HBX2.out.next HB.out); clear HBX2; have HBX2 := H_; clear H_
     have H_ := Lib.hid (HO4.out.next HB.out); clear HO4; have HO4 := H_; clear H_
     have H_ := Lib.hid (HBX4.out.next HB.out); clear HBX4; have HBX4 := H_; clear H_
     clear HB
     repeat (go_big_quiet_step (fail))
     refine wpQuiet_nil ?_
     clear c20 c21 c22 c40 c41 c42 c50 c51 c52
     clear HBX2 HBX4
     go_wp2_with fail
     refine (short_any n0 WO wo ws CO co cs w29 HM.out.odd).mono ?_
     rintro e w30 ⟨OA, oc, rfl, HQ⟩
     have HB := Lib.hid HQ.out.2
     have HO5 := Lib.hid HQ.out.1; clear HQ
     have H_ := Lib.hid (HS0.out.call HB.out); clear HS0; have HS0 := H_; clear H_
     obtain ⟨sw, hsw⟩ : ∃ s, shortW ws = s := ⟨_, rfl⟩
     obtain ⟨s4, hs4⟩ : ∃ s, cs.take 4 = s := ⟨_, rfl⟩
     rw [hsw, hs4] at HO5 ⊢
     clear hsw hs4
     have H_ := Lib.hid (HM.out.next HB.out); clear HM; have HM := H_; clear H_
     have H_ := Lib.hid (HA.out.next HB.out); clear HA; have HA := H_; clear H_
     have H_ := Lib.hid (HFS.out.next HB.out); clear HFS; have HFS := H_; clear H_
     have H_ := Lib.hid (HG1.out.next HB.out); clear HG1; have HG1 := H_; clear H_
     have H_ := Lib.hid (HE1.out.next HB.out); clear HE1; have HE1 := H_; clear H_
     have H_ := Lib.hid (HS.out.next HB.out); clear HS; have HS := H_; clear H_
     have H_ := Lib.hid (HZ4.out.next HB.out); clear HZ4; have HZ4 := H_; clear H_
     have H_ := Lib.hid (HC.out.next HB.out); clear HC; have HC := H_; clear H_
     have H_ := Lib.hid (HG2.out.next HB.out); clear HG2; have HG2 := H_; clear H_
     have H_ := Lib.hid (HE2.out.next HB.out); clear HE2; have HE2 := H_; clear H_
     have H_ := Lib.hid (HP.out.next HB.out); clear HP; have HP := H_; clear H_
     have H_ := Lib.hid (HO2.out.next HB.out); clear HO2; have HO2 := H_; clear H_
     have H_ := Lib.hid (HO4.out.next HB.out); clear HO4; have HO4 := H_; clear H_
     clear HB
     obtain ⟨g3, hg3⟩ : ∃ b, w30.heap.size = b := ⟨_, rfl⟩
     have hA_ := (Below.refl w30.heap.size w30).alloc (Nat.le_refl _) (.cells #[.int .i64 m1, .slice WA2 ws1.length wc2, .slice CA2 cs1.length cc2, .int .i64 m2, .slice WA4 ws2.length wc4, .slice CA4 cs2.length cc4, .int .i64 n0, .slice OA sw.length oc, .slice CO s4.length co] 30)
     have hN_ := heap_new (W := w30) (o := .cells #[.int .i64 m1, .slice WA2 ws1.length wc2, .slice CA2 cs1.length cc2, .int .i64 m2, .slice WA4 ws2.length wc4, .slice CA4 cs2.length cc4, .int .i64 n0, .slice OA sw.length oc, .slice CO s4.length co] 30) hg3
     obtain ⟨w31, hw31⟩ : ∃ W2, w30.alloc (.cells #[.int .i64 m1, .slice WA2 ws1.length wc2, .slice CA2 cs1.length cc2, .int .i64 m2, .slice WA4 ws2.length wc4, .slice CA4 cs2.length cc4, .int .i64 n0, .slice OA sw.length oc, .slice CO s4.length co] 30) = W2 := ⟨_, rfl⟩
     rw [hw31] at hA_ hN_
     have HB := Lib.hid hA_
     have HG3 := Lib.hid (BlkAt.mk hN_); clear hA_ hN_
     have H_ := Lib.hid (HM.out.next HB.out); clear HM; have HM := H_; clear H_
     have H_ := Lib.hid (HA.out.next HB.out); clear HA; have HA := H_; clear H_
     have H_ := Lib.hid (HFS.out.next HB.out); clear HFS; have HFS := H_; clear H_
     have H_ := Lib.hid (HG1.out.next HB.out); clear HG1; have HG1 := H_; clear H_
     have H_ := Lib.hid (HE1.out.next HB.out); clear HE1; have HE1 := H_; clear H_
     have H_ := Lib.hid (HS.out.next HB.out); clear HS; have HS := H_; clear H_
     have H_ := Lib.hid (HZ4.out.next HB.out); clear HZ4; have HZ4 := H_; clear H_
     have H_ := Lib.hid (HC.out.next HB.out); clear HC; have HC := H_; clear H_
     have H_ := Lib.hid (HG2.out.next HB.out); clear HG2; have HG2 := H_; clear H_
     have H_ := Lib.hid (HE2.out.next HB.out); clear HE2; have HE2 := H_; clear H_
     have H_ := Lib.hid (HP.out.next HB.out); clear HP; have HP := H_; clear H_
     have H_ := Lib.hid (HO2.out.next HB.out); clear HO2; have HO2 := H_; clear H_
     have H_ := Lib.hid (HO4.out.next HB.out); clear HO4; have HO4 := H_; clear H_
     have H_ := Lib.hid (HO5.out.next HB.out); clear HO5; have HO5 := H_; clear H_
     clear HB
     go_wp2_with fail
     refine ⟨⟨⟨_, HS0.out⟩, rfl⟩, ?_⟩
     refine wpQuiet_nil ?_
     have hS2 := HS0.out.alloc (.cells #[.int .i64 m1, .slice WA2 ws1.length wc2, .slice CA2 cs1.length cc2, .int .i64 m2, .slice WA4 ws2.length wc4, .slice CA4 cs2.length cc4, .int .i64 n0, .slice OA sw.length oc, .slice CO s4.length co] 30)
     rw [hw31] at hS2
     have HS2 := Lib.hid hS2; clear hS2
     go_wp2_with fail
     refine ⟨⟨⟨_, HS2.out⟩, rfl⟩, ?_⟩
     repeat (go_big_quiet_step (fail))
     refine wpQuiet_nil ?_
     clear hg3 hw31 HS0 HS2
     obtain ⟨ad3, had3⟩ : ∃ a : Addr, (⟨g3, 0, none⟩ : Addr) = a := ⟨_, rfl⟩
     have HD3 := Lib.hid had3
     try rw [had3]
     clear had3
     have HE3 := Lib.hid (BwAt.mk (Below.refl w31.heap.size w31))
     have H0_ := Lib.hid (Below.refl w31.heap.size w31)
     go_wp2_with fail
     go_loopw [167] (fun iv wr => ∃ i : Nat, i ≤ 3 ∧ iv = .int .i64 i ∧ Hid (Below w31.heap.size w31 wr)) (fun iv wr => 3 - (intOf iv).toNat)
     case atStart => exact ⟨0, by omega, rfl, H0_⟩
     case round =>
      clear H0_
      obtain ⟨k, hk, rfl, HB⟩ := hrel
      obtain ⟨w32, hw32⟩ : ∃ W, wr = W := ⟨_, rfl⟩
      rw [hw32] at HB ⊢
      clear hw32
      have H_ := Lib.hid (HM.out.next HB.out); clear HM; have HM := H_; clear H_
      have H_ := Lib.hid (HA.out.next HB.out); clear HA; have HA := H_; clear H_
      have H_ := Lib.hid (HFS.out.next HB.out); clear HFS; have HFS := H_; clear H_
      have H_ := Lib.hid (HG1.out.next HB.out); clear HG1; have HG1 := H_; clear H_
      have H_ := Lib.hid (HE1.out.next HB.out); clear HE1; have HE1 := H_; clear H_
      have H_ := Lib.hid (HS.out.next HB.out); clear HS; have HS := H_; clear H_
      have H_ := Lib.hid (HZ4.out.next HB.out); clear HZ4; have HZ4 := H_; clear H_
      have H_ := Lib.hid (HC.out.next HB.out); clear HC; have HC := H_; clear H_
      have H_ := Lib.hid (HG2.out.next HB.out); clear HG2; have HG2 := H_; clear H_
      have H_ := Lib.hid (HE2.out.next HB.out); clear HE2; have HE2 := H_; clear H_
      have H_ := Lib.hid (HP.out.next HB.out); clear HP; have HP := H_; clear H_
      have H_ := Lib.hid (HO2.out.next HB.out); clear HO2; have HO2 := H_; clear H_
      have H_ := Lib.hid (HO4.out.next HB.out); clear HO4; have HO4 := H_; clear H_
      have H_ := Lib.hid (HO5.out.next HB.out); clear HO5; have HO5 := H_; clear H_
      have H_ := Lib.hid (HG3.out.next HB.out); clear HG3; have HG3 := H_; clear H_
      have H_ := Lib.hid (HE3.out.next HB.out); clear HE3; have HE3 := H_; clear H_
      clear HB
      by_cases lk : k < 3
      ·have lkI : (k : Int) < 3 := by omega
       have hodd : ∃ (m : Int) (QA : Option Addr) (qc : Nat) (qw : List (List Int)) (RA : Option Addr) (rc : Nat) (qz : List Int), w32.cell? (ad3.add (k * 3)) = some (.int .i64 m) ∧ w32.cell? ⟨(ad3.add (k * 3)).block, (ad3.add (k * 3)).off + 1, none⟩ = some (.slice QA qw.length qc) ∧ w32.cell? ⟨(ad3.add (k * 3)).block, (ad3.add (k * 3)).off + 2, none⟩ = some (.slice RA qz.length rc) ∧ OddAt QA qc qw RA rc qz w32 := by
        rw [← HD3.out, add_plain]
        obtain rfl | rfl | rfl : k = 0 ∨ k = 1 ∨ k = 2 := by omega
        ·exact ⟨m1, WA2, wc2, ws1, CA2, cc2, cs1, cell_of (o := 0) HG3.out.at_ rfl, cell_of (o := 1) HG3.out.at_ rfl, cell_of (o := 2) HG3.out.at_ rfl, HO2.out⟩
        ·exact ⟨m2, WA4, wc4, ws2, CA4, cc4, cs2, cell_of (o := 3) HG3.out.at_ rfl, cell_of (o := 4) HG3.out.at_ rfl, cell_of (o := 5) HG3.out.at_ rfl, HO4.out⟩
        ·exact ⟨n0, OA, oc, sw, CO, co, s4, cell_of (o := 6) HG3.out.at_ rfl, cell_of (o := 7) HG3.out.at_ rfl, cell_of (o := 8) HG3.out.at_ rfl, HO5.out⟩
       obtain ⟨m, QA, qc, qw, RA, rc, qz, e0, e1, e2, hO⟩ := hodd
       have HO6 := Lib.hid hO; clear hO
       obtain ⟨qk, hqk⟩ := both_check sl xs m qw qz
       have HCK := Lib.hid hqk; clear hqk
       have hnk : (qk != qk) = false := by cases qk <;> rfl
       obtain ⟨b6, hb6⟩ : ∃ b, w32.heap.size = b := ⟨_, rfl⟩
       have hA_ := (Below.refl w32.heap.size w32).alloc (Nat.le_refl _) (.cells #[.int .i64 m, .slice QA qw.length qc, .slice RA qz.length rc] 30)
       have hN_ := heap_new (W := w32) (o := .cells #[.int .i64 m, .slice QA qw.length qc, .slice RA qz.length rc] 30) hb6
       obtain ⟨w33, hw33⟩ : ∃ W2, w32.alloc (.cells #[.int .i64 m, .slice QA qw.length qc, .slice RA qz.length rc] 30) = W2 := ⟨_, rfl⟩
       rw [hw33] at hA_ hN_
       have HB := Lib.hid hA_
       have HBX6 := Lib.hid (BlkAt.mk hN_); clear hA_ hN_
       have H_ := Lib.hid (HM.out.next HB.out); clear HM; have HM := H_; clear H_
       have H_ := Lib.hid (HA.out.next HB.out); clear HA; have HA := H_; clear H_
       have H_ := Lib.hid (HFS.out.next HB.out); clear HFS; have HFS := H_; clear H_
       have H_ := Lib.hid (HG1.out.next HB.out); clear HG1; have HG1 := H_; clear H_
       have H_ := Lib.hid (HE1.out.next HB.out); clear HE1; have HE1 := H_; clear H_
       have H_ := Lib.hid (HS.out.next HB.out); clear HS; have HS := H_; clear H_
       have H_ := Lib.hid (HZ4.out.next HB.out); clear HZ4; have HZ4 := H_; clear H_
       have H_ := Lib.hid (HC.out.next HB.out); clear HC; have HC := H_; clear H_
       have H_ := Lib.hid (HG2.out.next HB.out); clear HG2; have HG2 := H_; clear H_
       have H_ := Lib.hid (HE2.out.next HB.out); clear HE2; have HE2 := H_; clear H_
       have H_ := Lib.hid (HP.out.next HB.out); clear HP; have HP := H_; clear H_
       have H_ := Lib.hid (HO2.out.next HB.out); clear HO2; have HO2 := H_; clear H_
       have H_ := Lib.hid (HO4.out.next HB.out); clear HO4; have HO4 := H_; clear H_
       have H_ := Lib.hid (HO5.out.next HB.out); clear HO5; have HO5 := H_; clear H_
       have H_ := Lib.hid (HG3.out.next HB.out); clear HG3; have HG3 := H_; clear H_
       have H_ := Lib.hid (HE3.out.next HB.out); clear HE3; have HE3 := H_; clear H_
       have H_ := Lib.hid (HO6.out.next HB.out); clear HO6; have HO6 := H_; clear H_
       clear HB
       have c60 := cell_ext (cell_of (o := 0) HBX6.out.at_ rfl)
       have c61 := cell_ext (cell_of (o := 1) HBX6.out.at_ rfl)
       have c62 := cell_ext (cell_of (o := 2) HBX6.out.at_ rfl)
       have HC1 := Lib.hid (fun x : Ext w33 => (HCK.out SA sc PA pc QA qc RA rc x.val (HS.out.next (x.2.below (fun _ _ h => h) (Nat.le_refl _))) (HP.out.next (x.2.below (fun _ _ h => h) (Nat.le_refl _))) (HM.out.next (x.2.below (fun _ _ h => h) (Nat.le_refl _))).tab (HO6.out.next (x.2.below (fun _ _ h => h) (Nat.le_refl _)))).1)
       have HC2 := Lib.hid (fun x : Ext w33 => (HCK.out SA sc PA pc QA qc RA rc x.val (HS.out.next (x.2.below (fun _ _ h => h) (Nat.le_refl _))) (HP.out.next (x.2.below (fun _ _ h => h) (Nat.le_refl _))) (HM.out.next (x.2.below (fun _ _ h => h) (Nat.le_refl _))).tab (HO6.out.next (x.2.below (fun _ _ h => h) (Nat.le_refl _)))).2)
       go_wp2_with fail
       clear e0 e1 e2 hb6 hw33
       refine region_ext (by kernel_rfl) (by kernel_rfl) ?_
       repeat (go_big_quiet_step (first | (go_at_call 29; with_reducible exact call_ext (HC1.out _)) | (go_at_call 30; with_reducible exact call_ext (HC2.out _))))
       refine wpQuiet_nil ?_
       rintro W' ⟨X, rfl⟩
       have HB := Lib.hid (X.2.below (n := w33.heap.size) (fun _ _ h => h) (Nat.le_refl _))
       obtain ⟨w34, hwx⟩ : ∃ W, X.val = W := ⟨_, rfl⟩
       rw [hwx] at HB ⊢
       clear hwx c60 c61 c62 HC1 HC2 HCK
       have H_ := Lib.hid (HM.out.next HB.out); clear HM; have HM := H_; clear H_
       have H_ := Lib.hid (HA.out.next HB.out); clear HA; have HA := H_; clear H_
       have H_ := Lib.hid (HFS.out.next HB.out); clear HFS; have HFS := H_; clear H_
       have H_ := Lib.hid (HG1.out.next HB.out); clear HG1; have HG1 := H_; clear H_
       have H_ := Lib.hid (HE1.out.next HB.out); clear HE1; have HE1 := H_; clear H_
       have H_ := Lib.hid (HS.out.next HB.out); clear HS; have HS := H_; clear H_
       have H_ := Lib.hid (HZ4.out.next HB.out); clear HZ4; have HZ4 := H_; clear H_
       have H_ := Lib.hid (HC.out.next HB.out); clear HC; have HC := H_; clear H_
       have H_ := Lib.hid (HG2.out.next HB.out); clear HG2; have HG2 := H_; clear H_
       have H_ := Lib.hid (HE2.out.next HB.out); clear HE2; have HE2 := H_; clear H_
       have H_ := Lib.hid (HP.out.next HB.out); clear HP; have HP := H_; clear H_
       have H_ := Lib.hid (HO2.out.next HB.out); clear HO2; have HO2 := H_; clear H_
       have H_ := Lib.hid (HO4.out.next HB.out); clear HO4; have HO4 := H_; clear H_
       have H_ := Lib.hid (HO5.out.next HB.out); clear HO5; have HO5 := H_; clear H_
       have H_ := Lib.hid (HG3.out.next HB.out); clear HG3; have HG3 := H_; clear H_
       have H_ := Lib.hid (HE3.out.next HB.out); clear HE3; have HE3 := H_; clear H_
       have H_ := Lib.hid (HO6.out.next HB.out); clear HO6; have HO6 := H_; clear H_
       have H_ := Lib.hid (HBX6.out.next HB.out); clear HBX6; have HBX6 := H_; clear H_
       clear HB
       clear HO6 HBX6
       go_wp2_with fail
       go_roundw
       case rel => exact ⟨k + 1, by omega, by go_num, Lib.hid HE3.out.below⟩
       case measure => exact meas_up1 lk
      ·obtain rfl : k = 3 := by omega
       clear hk lk
       go_wp2_with fail
       go_roundw
       case rel => exact ⟨j + 1, by omega, by go_num, Lib.hid HE2.out.below⟩
       case measure => exact meas_up1 lj
    ·obtain rfl : j = 2 := by omega
     clear hj lj HZ4 HC HG2 HE2
     have hpk : Calls Tryd.prog 31 #[.int .i64 which, .int .i64 12] w18 fun e w' => ∃ q : Nat, q < 12 ∧ e = .returned (.int .i64 q) ∧ w' = w18 := pick_call which 12 HWH.out (by decide) w18
     have HPK := Lib.hid hpk; clear hpk
     go_wp2_with fail
     refine HPK.out.mono ?_
     rintro e w19 ⟨pw, hpw, rfl, rfl⟩
     clear HPK hpw
     obtain ⟨g4, hg4⟩ : ∃ b, w19.heap.size = b := ⟨_, rfl⟩
     have hA_ := (Below.refl w19.heap.size w19).alloc (Nat.le_refl _) (.cells #[.int .i64 which, .int .i64 pw] 3)
     have hN_ := heap_new (W := w19) (o := .cells #[.int .i64 which, .int .i64 pw] 3) hg4
     obtain ⟨w20, hw20⟩ : ∃ W2, w19.alloc (.cells #[.int .i64 which, .int .i64 pw] 3) = W2 := ⟨_, rfl⟩
     rw [hw20] at hA_ hN_
     have HB := Lib.hid hA_
     have HG4 := Lib.hid (BlkAt.mk hN_); clear hA_ hN_
     have H_ := Lib.hid (HM.out.next HB.out); clear HM; have HM := H_; clear H_
     have H_ := Lib.hid (HA.out.next HB.out); clear HA; have HA := H_; clear H_
     have H_ := Lib.hid (HFS.out.next HB.out); clear HFS; have HFS := H_; clear H_
     have H_ := Lib.hid (HG1.out.next HB.out); clear HG1; have HG1 := H_; clear H_
     have H_ := Lib.hid (HE1.out.next HB.out); clear HE1; have HE1 := H_; clear H_
     have H_ := Lib.hid (HS.out.next HB.out); clear HS; have HS := H_; clear H_
     clear HB
     obtain ⟨ad4, had4⟩ : ∃ a : Addr, (⟨g4, 0, none⟩ : Addr) = a := ⟨_, rfl⟩
     have HD4 := Lib.hid had4
     go_wp2_with fail
     clear hg4 hw20
     try rw [had4]
     clear had4
     have HE4 := Lib.hid (BwAt.mk (Below.refl w20.heap.size w20))
     have H0_ := Lib.hid (Below.refl w20.heap.size w20)
     go_wp2_with fail
     go_loopw [187] (fun iv wr => ∃ i : Nat, i ≤ 2 ∧ iv = .int .i64 i ∧ Hid (Below w20.heap.size w20 wr)) (fun iv wr => 2 - (intOf iv).toNat)
     case atStart => exact ⟨0, by omega, rfl, H0_⟩
     case round =>
      clear H0_
      obtain ⟨q, hq, rfl, HB⟩ := hrel
      obtain ⟨w21, hw21⟩ : ∃ W, wr = W := ⟨_, rfl⟩
      rw [hw21] at HB ⊢
      clear hw21
      have H_ := Lib.hid (HM.out.next HB.out); clear HM; have HM := H_; clear H_
      have H_ := Lib.hid (HA.out.next HB.out); clear HA; have HA := H_; clear H_
      have H_ := Lib.hid (HFS.out.next HB.out); clear HFS; have HFS := H_; clear H_
      have H_ := Lib.hid (HG1.out.next HB.out); clear HG1; have HG1 := H_; clear H_
      have H_ := Lib.hid (HE1.out.next HB.out); clear HE1; have HE1 := H_; clear H_
      have H_ := Lib.hid (HS.out.next HB.out); clear HS; have HS := H_; clear H_
      have H_ := Lib.hid (HG4.out.next HB.out); clear HG4; have HG4 := H_; clear H_
      have H_ := Lib.hid (HE4.out.next HB.out); clear HE4; have HE4 := H_; clear H_
      clear HB
      by_cases lq : q < 2
      ·have lqI : (q : Int) < 2 := by omega
       have hv : ∃ v : Int, w21.cell? (ad4.add q) = some (.int .i64 v) := by
        rw [← HD4.out, add_plain]
        obtain rfl | rfl : q = 0 ∨ q = 1 := by omega
        ·exact ⟨which, cell_of (o := 0) HG4.out.at_ rfl⟩
        ·exact ⟨pw, cell_of (o := 1) HG4.out.at_ rfl⟩
       obtain ⟨v, hcell⟩ := hv
       obtain ⟨os, oe, ho⟩ := both_org sl v
       have HOG := Lib.hid ho; clear ho
       have hno : (oe != oe) = false := by simp
       go_wp2_with fail
       refine ((HOG.out SA sc w21 HS.out HM.out.tab).1).mono ?_
       rintro e w22 ⟨PA1, pc1, rfl, HQ⟩
       have HB := Lib.hid HQ.out.2
       have HI1 := Lib.hid HQ.out.1; clear HQ
       have H_ := Lib.hid (HM.out.next HB.out); clear HM; have HM := H_; clear H_
       have H_ := Lib.hid (HA.out.next HB.out); clear HA; have HA := H_; clear H_
       have H_ := Lib.hid (HFS.out.next HB.out); clear HFS; have HFS := H_; clear H_
       have H_ := Lib.hid (HG1.out.next HB.out); clear HG1; have HG1 := H_; clear H_
       have H_ := Lib.hid (HE1.out.next HB.out); clear HE1; have HE1 := H_; clear H_
       have H_ := Lib.hid (HS.out.next HB.out); clear HS; have HS := H_; clear H_
       have H_ := Lib.hid (HG4.out.next HB.out); clear HG4; have HG4 := H_; clear H_
       have H_ := Lib.hid (HE4.out.next HB.out); clear HE4; have HE4 := H_; clear H_
       clear HB
       clear hcell
       go_wp2_with fail
       refine ((HOG.out SA sc w22 HS.out HM.out.tab).2).mono ?_
       rintro e w23 ⟨PA2, pc2, rfl, HQ⟩
       have HB := Lib.hid HQ.out.2
       have HI2 := Lib.hid HQ.out.1; clear HQ
       have H_ := Lib.hid (HM.out.next HB.out); clear HM; have HM := H_; clear H_
       have H_ := Lib.hid (HA.out.next HB.out); clear HA; have HA := H_; clear H_
       have H_ := Lib.hid (HFS.out.next HB.out); clear HFS; have HFS := H_; clear H_
       have H_ := Lib.hid (HG1.out.next HB.out); clear HG1; have HG1 := H_; clear H_
       have H_ := Lib.hid (HE1.out.next HB.out); clear HE1; have HE1 := H_; clear H_
       have H_ := Lib.hid (HS.out.next HB.out); clear HS; have HS := H_; clear H_
       have H_ := Lib.hid (HG4.out.next HB.out); clear HG4; have HG4 := H_; clear H_
       have H_ := Lib.hid (HE4.out.next HB.out); clear HE4; have HE4 := H_; clear H_
       have H_ := Lib.hid (HI1.out.next HB.out); clear HI1; have HI1 := H_; clear H_
       clear HB
       go_wp2_with fail
       refine (same_ints HI1.out HI2.out).mono ?_
       rintro e w24 ⟨rfl, hb⟩
       have HB := Lib.hid hb; clear hb
       have H_ := Lib.hid (HM.out.next HB.out); clear HM; have HM := H_; clear H_
       have H_ := Lib.hid (HA.out.next HB.out); clear HA; have HA := H_; clear H_
       have H_ := Lib.hid (HFS.out.next HB.out); clear HFS; have HFS := H_; clear H_
       have H_ := Lib.hid (HG1.out.next HB.out); clear HG1; have HG1 := H_; clear H_
       have H_ := Lib.hid (HE1.out.next HB.out); clear HE1; have HE1 := H_; clear H_
       have H_ := Lib.hid (HS.out.next HB.out); clear HS; have HS := H_; clear H_
       have H_ := Lib.hid (HG4.out.next HB.out); clear HG4; have HG4 := H_; clear H_
       have H_ := Lib.hid (HE4.out.next HB.out); clear HE4; have HE4 := H_; clear H_
       have H_ := Lib.hid (HI1.out.next HB.out); clear HI1; have HI1 := H_; clear H_
       have H_ := Lib.hid (HI2.out.next HB.out); clear HI2; have HI2 := H_; clear H_
       clear HB
       clear hno HOG
       clear HI1 HI2
       go_wp2_with fail
       go_roundw
       case rel => exact ⟨q + 1, by omega, by go_num, Lib.hid HE4.out.below⟩
       case measure => exact meas_up1 lq
      ·obtain rfl : q = 2 := by omega
       clear hq lq
       go_wp2_with fail
       go_roundw
       case rel => exact ⟨i + 1, by omega, by go_num, Lib.hid HE1.out.below⟩
       case measure => exact meas_up1 li
  ·obtain rfl : i = 2 := by omega
   clear hi li
   go_wp2_with fail
   go_ret
   exact ⟨rfl, HM.out.below⟩
end Go.Proofs.YticngcjfofcoiaaDoor
