/- Rights: the law RightsLawful answers true at every input, as the given card states it, rights.kinds being tied to the program's text; no further condition. -/
import Derived.Test.YtnabgijdbcdpmaaDoorZf
import Derived.Test.YtnabgijdbcdpmaaDoorRows
import Derived.Test.YtnabgijdbcdpmaaDoorTie
import Derived.Test.YtnabgijdbcdpmaaDoorCards
import Derived.SevenTiedAt
namespace Go.Proofs.YtnabgijdbcdpmaaDoor
open Go.RowKit Go.Rg Go.Proofs.YtnabgijdbcdpmaaDoor.PRightsMatchesReference Go.Proofs.YtnabgijdbcdpmaaDoorW.PrintWords
set_option linter.unusedVariables false
set_option linter.unusedSimpArgs false

set_option maxRecDepth 100000 in
set_option maxHeartbeats 8000000 in
theorem lawful_law (XA : Option Addr) (xn xc : Nat) (n : Int) (NA : Option Addr) (nc : Nat) (ns : List Int) (SA : Option Addr) (sc : Nat) (ss : List Int) (FA : Option Addr) (fc : Nat) (fs : List Int) (w : World) (hK : Kinds w) (hx : X5 w XA xn) (hn : rng n)
    (hN : (Kd.int .i64).C w NA ns.length ns) (hNc : ns.length ≤ nc) (hNr : ∀ x ∈ ns, rng x) (hS : (Kd.int .i64).C w SA ss.length ss) (hSr : ∀ x ∈ ss, rng x) (hF : (Kd.int .i64).C w FA fs.length fs) (hFr : ∀ x ∈ fs, rng x) :
    Calls Tryd.prog 4 #[.slice XA xn xc, .int .i64 n, .slice NA ns.length nc, .slice SA ss.length sc, .slice FA fs.length fc] w fun e w' => e = .returned (.bool true) ∧ Below w.heap.size w w' := by
  have HN := Lib.hid (And.intro hN (And.intro hNc (And.intro hNr hn))); clear hN hNr hn hNc
  have HS := Lib.hid (And.intro hS hSr); clear hS hSr
  have HF := Lib.hid (And.intro hF hFr); clear hF hFr
  have HX := Lib.hid hx; clear hx
  have HK := Lib.hid hK; clear hK
  go_enter Tryd.func4, Tryd.ntmps4
  go_wp2_with fail
  refine (sane_any _ HK.out).mono ?_
  rintro e w1 ⟨rfl, hb1⟩
  have HB1 := Lib.hid hb1; clear hb1
  go_wp2_with fail
  refine (Made_any XA xc xn _ (HX.out.below HB1.out)).mono ?_
  rintro e w2 ⟨v, l, rfl, hR, hv, hll, hb2⟩
  obtain ⟨LA, lc, rfl, hlc, hRC⟩ := Kd.R_reads hR
  have HB2 := Lib.hid (And.intro (HB1.out.trans (hb2.mono HB1.out.size)) (And.intro hRC hv)); clear hb2 hR hRC hv HB1 hll
  go_wp2_with fail
  refine (MadeWant_any n NA nc ns _ (Kd.C_below HN.out.1 HB2.out.1) HN.out.2.1 HN.out.2.2.2 HN.out.2.2.1).mono ?_
  rintro e w3 ⟨wt, WA, wn, rfl, hW, hvw, hus, hb3⟩
  have HB3 := Lib.hid (And.intro (HB2.out.1.trans (hb3.mono HB2.out.1.size)) (And.intro (Kd.C_below HB2.out.2.1 hb3) (And.intro HB2.out.2.2 (And.intro hW (And.intro hvw hus))))); clear hb3 HB2 hW hvw hus
  unfold wtv
  go_wp2_with fail
  have hA3 := (Below.refl w3.heap.size w3).alloc (Nat.le_refl _) (.cells (wtc wt WA wn) 29)
  have hk3 := heap_new (o := .cells (wtc wt WA wn) 29) (W := w3) rfl
  have HA3 := Lib.hid (And.intro (HB3.out.1.trans (hA3.mono HB3.out.1.size)) (And.intro (Kd.C_below HB3.out.2.1 hA3) (And.intro (Kd.C_below HB3.out.2.2.2.1 hA3) hk3))); clear hA3 hk3
  unfold wtc at HA3
  generalize hWB : w3.heap.size = WB at *
  generalize w3.alloc (.cells #[.int .i64 wt.te, .int .i64 wt.cl, .int .i64 wt.at_, .int .i64 wt.us, .slice WA wt.needs.length wn] 29) = W3 at *
  refine (MadeUsed_any SA sc ss W3 (Kd.C_below HS.out.1 HA3.out.1) HS.out.2).mono ?_
  rintro e w4 ⟨v, u, rfl, hU, hu12, huo, hsm, hb4⟩
  obtain ⟨UA, uc, rfl, huc, hUC⟩ := Kd.R_reads hU
  have hL : LX w LA lc l UA uc u wt WA wn WB w4 := ⟨HA3.out.1.trans (hb4.mono HA3.out.1.size), ⟨HK.out.next (HA3.out.1.trans (hb4.mono HA3.out.1.size)), Kd.C_below HA3.out.2.1 hb4, hUC, Kd.C_below HA3.out.2.2.1 hb4⟩, (hb4.block WB (Array.getElem?_eq_some_iff.1 HA3.out.2.2.2).1).trans HA3.out.2.2.2⟩
  have hg : givenB l u wt = true := givenB_iff.2 ⟨HB3.out.2.2.1, hu12, huo, HB3.out.2.2.2.2.1⟩
  have hG := And.intro hg (And.intro hu12 (And.intro hsm HB3.out.2.2.2.2.2))
  have HG := Lib.hid hG; clear hG hg hu12 huo hsm hU hb4 hUC HA3 HB3 hWB
  have HL := Lib.hid hL; clear hL
  have c0 := HL.out.c0
  have c1 := HL.out.c1
  have c2 := HL.out.c2
  have c3 := HL.out.c3
  have c4 := HL.out.c4
  go_wp2_with fail
  have hSo := Solve_any LA lc l UA uc u wt WA wn w4 HL.out.args
  unfold wtv at hSo
  refine hSo.mono ?_
  clear hSo c0 c1 c2 c3 c4
  rintro e w5 ⟨v1, v2, rfl, hP, hQ, hb5⟩
  have hE : solveE l u wt = 0 := by unfold solveE; rw [if_pos HG.out.1]
  rw [hE]
  clear hE
  obtain ⟨PA, pc, rfl, hpc, hPC⟩ := Kd.R_reads hP
  have HL5 := Lib.hid (HL.out.next hb5)
  have HP := Lib.hid (And.intro hPC hpc); clear hPC hpc hP hQ hb5 HL
  have c0 := HL5.out.c0
  have c1 := HL5.out.c1
  have c2 := HL5.out.c2
  have c3 := HL5.out.c3
  have c4 := HL5.out.c4
  go_wp2_with fail
  have hFi := first_any wt WA wn FA fc fs w5 HL5.out.args.rw (Kd.C_below HF.out.1 HL5.out.below) HF.out.2 (by have := (given_of HG.out.1).2.2.2.2; omega)
  unfold wtv at hFi
  refine hFi.mono ?_
  clear hFi c0 c1 c2 c3 c4
  rintro e w6 ⟨v, o, rfl, hO, hok, hb6⟩
  obtain ⟨OA, oc, rfl, hoc, hOC⟩ := Kd.R_reads hO
  have HL6 := Lib.hid (HL5.out.next hb6)
  have HP6 := Lib.hid (Kd.C_below HP.out.1 hb6)
  have HO := Lib.hid (And.intro hOC hoc); clear hOC hoc hO hok hb6 HL5
  have c0 := HL6.out.c0
  have c1 := HL6.out.c1
  have c2 := HL6.out.c2
  have c3 := HL6.out.c3
  have c4 := HL6.out.c4
  go_wp2_with fail
  have hLa := Lawful_any LA lc l UA uc u wt WA wn OA oc o w6 HL6.out.args HO.out.1 HO.out.2
  unfold wtv at hLa
  refine hLa.mono ?_
  clear hLa c0 c1 c2 c3 c4
  rintro e w7 ⟨rfl, hb7⟩
  have HL7 := Lib.hid (HL6.out.next hb7)
  have HP7 := Lib.hid (And.intro (Kd.C_below HP6.out hb7) HP.out.2)
  have HO7 := Lib.hid (And.intro (Kd.C_below HO.out.1 hb7) HO.out.2); clear hb7 HL6 HP6 HP HO
  have hsp := solve1_spec HG.out.1
  generalize hpp : solve1 l u wt = p at *
  have hlen : p.length ≤ 9223372036854775807 := max_len HP7.out.1
  rcases hsp with ⟨he, hno, hna⟩ | ⟨hne, hso, hla, hfi⟩
  · have hlo := hna o
    have HLO := Lib.hid hlo
    subst he
    rw [hlo]
    clear hlo hna hno hpp
    go_wp2_with fail
    go_ret
    exact ⟨rfl, HL7.out.below⟩
  · have hpl : 0 < p.length := List.length_pos_iff.2 hne
    have hple : ((p.length : Int) == 0) = false := by simp; exact hne
    have HLA := Lib.hid (And.intro hla (And.intro hfi hso)); clear hla hfi hso hne hpp
    have c0 := HL7.out.c0
    have c1 := HL7.out.c1
    have c2 := HL7.out.c2
    have c3 := HL7.out.c3
    have c4 := HL7.out.c4
    go_wp2_with fail
    have hLb := Lawful_any LA lc l UA uc u wt WA wn PA pc p w7 HL7.out.args HP7.out.1 HP7.out.2
    rw [HLA.out.1] at hLb
    unfold wtv at hLb
    refine hLb.mono ?_
    clear hLb c0 c1 c2 c3 c4
    rintro e w8 ⟨rfl, hb8⟩
    have HL8 := Lib.hid (HL7.out.next hb8)
    have HP8 := Lib.hid (And.intro (Kd.C_below HP7.out.1 hb8) HP7.out.2)
    have HO8 := Lib.hid (And.intro (Kd.C_below HO7.out.1 hb8) HO7.out.2); clear hb8 HL7 HP7 HO7
    have c0 := HL8.out.c0
    have c1 := HL8.out.c1
    have c2 := HL8.out.c2
    have c3 := HL8.out.c3
    have c4 := HL8.out.c4
    go_wp2_with fail
    have hIP := isPkg_any LA lc l wt WA wn PA pc p w8 HL8.out.args.rl HL8.out.args.rw HP8.out.1 HP8.out.2
    rw [(mem_packs l wt p).1 (lawB_iff.1 HLA.out.1).2.1] at hIP
    unfold wtv at hIP
    refine hIP.mono ?_
    clear hIP c0 c1 c2 c3 c4
    rintro e w9 ⟨rfl, hb9⟩
    have HL9 := Lib.hid (HL8.out.next hb9)
    have HP9 := Lib.hid (And.intro (Kd.C_below HP8.out.1 hb9) HP8.out.2)
    have HO9 := Lib.hid (And.intro (Kd.C_below HO8.out.1 hb9) HO8.out.2); clear hb9 HL8 HP8 HO8
    go_wp2_with fail
    have hll := max_len HL9.out.args.rl
    go_loopw [20] (fun iv wr => ∃ k : Nat, iv = .int .i64 k ∧ k ≤ l.length ∧ Hid (Below w9.heap.size w9 wr)) (fun iv wr => l.length - (intOf iv).toNat)
    case atStart => exact ⟨0, rfl, Nat.zero_le _, Lib.hid (Below.refl _ _)⟩
    case round =>
      obtain ⟨k, rfl, hk, HI⟩ := hrel
      have HLr := Lib.hid (HL9.out.next HI.out)
      by_cases hlt : k < l.length
      · have hltI : (k : Int) < (l.length : Int) := by omega
        obtain ⟨ad, e, x0, x1, x2, x3, x4, x5, x6, x7⟩ := at_T40 HLr.out.args.rl (k : Int) (by omega) hltI
        cases e
        simp only [Int.toNat_natCast] at x0 x1 x2 x3 x4 x5 x6 x7
        have hrd : rd_T40 l (k : Int) = l[k] := by unfold rd_T40; simp [hlt]
        rw [hrd] at x0 x1 x2 x3 x4 x5 x6 x7
        clear hrd
        have hcl := fun ha hp => law_clause HLA.out.1 (List.getElem_mem hlt) ha hp
        have hvc := (vldL_iff.1 (givenB_iff.1 HG.out.1).1).2 _ (List.getElem_mem hlt)
        generalize l[k] = X at *
        obtain ⟨f0, f1, f2, f3, f4, f5, f6, f7⟩ := X
        simp only at x0 x1 x2 x3 x4 x5 x6 x7 hcl
        have hbd := vld_bd hvc
        simp only at hbd
        have HCL := Lib.hid hcl; clear hcl hvc
        have HXS := Lib.hid (And.intro x0 (And.intro x1 (And.intro x2 (And.intro x3 (And.intro x4 (And.intro x5 (And.intro x6 x7)))))))
        have hbA := (Below.refl wr.heap.size wr).alloc (Nat.le_refl _) (.cells (clc ⟨f0, f1, f2, f3, f4, f5, f6, f7⟩) 40)
        have hkA := heap_new (o := .cells (clc ⟨f0, f1, f2, f3, f4, f5, f6, f7⟩) 40) (W := wr) rfl
        have HLA1 := HLr.out.next hbA
        have hApp := applies_any ⟨f0, f1, f2, f3, f4, f5, f6, f7⟩ wt WA wn _ HLA1.args.kinds HLA1.args.rw
        unfold clc at hbA hkA HLA1 hApp
        unfold clv wtv at hApp
        simp only at hbA hkA HLA1 hApp
        have d0 := cell_of (o := 0) hkA rfl
        have d1 := cell_of (o := 1) hkA rfl
        have d2 := cell_of (o := 2) hkA rfl
        have d3 := cell_of (o := 3) hkA rfl
        have d4 := cell_of (o := 4) hkA rfl
        have d5 := cell_of (o := 5) hkA rfl
        have d6 := cell_of (o := 6) hkA rfl
        have d7 := cell_of (o := 7) hkA rfl
        have c0 := HLA1.c0
        have c1 := HLA1.c1
        have c2 := HLA1.c2
        have c3 := HLA1.c3
        have c4 := HLA1.c4
        have HLA2 := Lib.hid (And.intro HLA1 (And.intro hbA hkA)); clear HLA1 hbA hkA
        have HAPP := Lib.hid hApp; clear hApp
        go_wp2_with fail
        refine HAPP.out.mono ?_
        clear x0 x1 x2 x3 x4 x5 x6 x7 d0 d1 d2 d3 d4 d5 d6 d7 c0 c1 c2 c3 c4
        rintro e wa ⟨rfl, hba⟩
        have hCBz : wr.heap.size < (wr.alloc (.cells #[.int .i64 f0, .int .i64 f1, .int .i64 f2, .int .i64 f3, .int .i64 f4, .int .i64 f5, .int .i64 f6, .int .i64 f7] 40)).heap.size := by simp
        have HLb := Lib.hid (And.intro (HLA2.out.1.next hba) (And.intro (HI.out.trans ((HLA2.out.2.1.mono HI.out.size).trans (hba.mono (Nat.le_trans HI.out.size (Nat.le_of_lt hCBz))))) ((hba.block _ hCBz).trans HLA2.out.2.2))); clear hba HLA2 hCBz HAPP HLr
        generalize hCB : wr.heap.size = CB at *
        clear hCB
        cases hap : applies ⟨f0, f1, f2, f3, f4, f5, f6, f7⟩ wt with
        | false =>
          go_wp2_with fail
          go_roundw
          case rel => exact ⟨k + 1, by go_num, by omega, Lib.hid HLb.out.2.1⟩
          case measure => simp [intOf]; omega
        | true =>
          have HAP := Lib.hid (HCL.out hap); clear HCL hap
          have d0 := cell_of (o := 0) HLb.out.2.2 rfl
          go_wp2_with fail
          refine (has_any PA pc p f0 wa (Kd.C_below HP9.out.1 HLb.out.2.1)).mono ?_
          clear d0
          rintro e wb ⟨rfl, hbb⟩
          have HLc := Lib.hid (And.intro (HLb.out.1.next hbb) (And.intro (HLb.out.2.1.trans (hbb.mono HLb.out.2.1.size)) ((hbb.block _ (Array.getElem?_eq_some_iff.1 HLb.out.2.2).1).trans HLb.out.2.2))); clear hbb HLb
          cases hhp : hasI p f0 with
          | false =>
            go_wp2_with fail
            go_roundw
            case rel => exact ⟨k + 1, by go_num, by omega, Lib.hid HLc.out.2.1⟩
            case measure => simp [intOf]; omega
          | true =>
            have HAQ := Lib.hid (HAP.out hhp); clear HAP hhp
            obtain ⟨p0, p1, p2, p3, p4, p5, p6, p7⟩ := hbd
            have hn0 : decide (f0 < 0) = false := by simp; omega
            have hn1 : decide (11 < f0) = false := by simp; omega
            have d0 := cell_of (o := 0) HLc.out.2.2 rfl
            go_wp2_with fail
            clear d0
            have u1 : f0 < (u.length : Int) := by have := HG.out.2.1; omega
            obtain ⟨u2, u3⟩ := used_bd (givenB_iff.1 HG.out.1).2.2.1 HG.out.2.1 p0 p1
            obtain ⟨gd, e, hu⟩ := Kd.at_int HLc.out.1.args.ru f0 p0 u1
            cases e
            have huX := cell_ext hu
            clear hu
            have hus := HG.out.2.2.2
            have hus1 := (vldW_bd (givenB_iff.1 HG.out.1).2.2.2).2.2.2.2.2.2.1
            have hw1 : wrap64 (rd u f0 + wt.us) = rd u f0 + wt.us := wrap_in (by omega) (by omega)
            have b3X := cell_ext HLc.out.1.c3
            have hH : ∀ x : Ext wb, _ := fun x => has_any PA pc p f7 x.val (Kd.C_below (Kd.C_below HP9.out.1 HLc.out.2.1) (x.2.below (fun _ _ h => h) (Nat.le_refl _)))
            have e0 := cell_ext (cell_of (o := 0) HLc.out.2.2 rfl)
            have e1 := cell_ext (cell_of (o := 1) HLc.out.2.2 rfl)
            have e6 := cell_ext (cell_of (o := 6) HLc.out.2.2 rfl)
            have e7 := cell_ext (cell_of (o := 7) HLc.out.2.2 rfl)
            have hf1 : f1 = 1 ∨ f1 = 2 ∨ f1 = 3 ∨ f1 = 4 := by omega
            rcases hf1 with rfl | rfl | rfl | rfl
            · have HH := Lib.hid hH; clear hH
              refine region_ext (by kernel_rfl) (by kernel_rfl) ?_
              repeat (go_big_quiet_step (fail))
              refine wpQuiet_nil ?_
              rintro W' ⟨X, rfl⟩
              go_wp2_with fail
              go_roundw
              case rel => exact ⟨k + 1, by go_num, by omega, Lib.hid (HLc.out.2.1.trans (X.2.below (fun _ _ h => h) HLc.out.2.1.size))⟩
              case measure => simp [intOf]; omega
            · exact absurd rfl HAQ.out.1
            · have hlim := HAQ.out.2.1 rfl
              have hl2 : decide (f6 < rd u f0 + wt.us) = false := by simp; omega
              generalize rd u f0 = uf at *
              have HH := Lib.hid hH; clear hH
              refine region_ext (by kernel_rfl) (by kernel_rfl) ?_
              repeat (go_big_quiet_step (fail))
              refine wpQuiet_nil ?_
              rintro W' ⟨X, rfl⟩
              go_wp2_with fail
              go_roundw
              case rel => exact ⟨k + 1, by go_num, by omega, Lib.hid (HLc.out.2.1.trans (X.2.below (fun _ _ h => h) HLc.out.2.1.size))⟩
              case measure => simp [intOf]; omega
            · have hap := HAQ.out.2.2 rfl
              rw [hap] at hH
              have HH := Lib.hid hH; clear hH hap
              refine region_ext (by kernel_rfl) (by kernel_rfl) ?_
              repeat (go_big_quiet_step ((go_at_call 31; with_reducible exact call_ext (HH.out _))))
              refine wpQuiet_nil ?_
              rintro W' ⟨X, rfl⟩
              go_wp2_with fail
              go_roundw
              case rel => exact ⟨k + 1, by go_num, by omega, Lib.hid (HLc.out.2.1.trans (X.2.below (fun _ _ h => h) HLc.out.2.1.size))⟩
              case measure => simp [intOf]; omega
      · obtain rfl : k = l.length := by omega
        cases hlo : lawB l u wt o with
        | false =>
          go_wp2_with fail
          go_ret
          exact ⟨rfl, HLr.out.below⟩
        | true =>
          have hbf := HLA.out.2.1 o hlo
          go_wp2_with fail
          have hBe := before_any OA oc o PA pc p wr (Kd.C_below HO9.out.1 HI.out) (Kd.C_below HP9.out.1 HI.out)
          rw [hbf] at hBe
          refine hBe.mono ?_
          clear hBe
          rintro e wz ⟨rfl, hbz⟩
          go_wp2_with fail
          go_ret
          exact ⟨rfl, (HLr.out.next hbz).below⟩
end Go.Proofs.YtnabgijdbcdpmaaDoor

namespace Go.Proofs.YtnabgijdbcdpmaaDoor.rightsLawful
open Go.ChangeShapes Go.WideShapes Go.ChangeAt Go.RowKit
set_option linter.unusedVariables false
set_option linter.unusedSimpArgs false
set_option maxRecDepth 100000 in
theorem lifted (os : Os) (started : os.Started) (H : Type) (enc : TypeId × Value → H) :
    ReturnsInHanded {} Tryd.checked os 4 .any (fun w args => (Rows.rightsLawfulSpec.pre enc Tryd.prog Tryd.f4 [] false w args ∧ laidMetH Tryd.prog laid1 w) ∧ sizedMet enc Tryd.prog Tryd.f4 (OpenSpec.ofChange Rows.rightsLawfulSpec) false w args)
      (Rows.rightsLawfulSpec.post enc Tryd.prog Tryd.f4 false true false false) := by
  refine returnsInHanded_of_change_and (C := Tryd.checked) (X := fun w _ => laidMetH Tryd.prog laid1 w) (fun _ _ _ hh h => h.of_heap hh) own started (by kernel_rfl) Tryd.func4
    (ChangeSpec.witness_shaped (enc := enc) (C := Tryd.checked) (os := os) (X := fun w _ => laidMetH Tryd.prog laid1 w) false (World.doorLaid Tryd.prog 600 os) #[.slice none 0 0, .int .i64 0, .slice none 0 0, .slice none 0 0, .slice none 0 0] 8 rfl (World.shaped_of_RefB (by kernel_rfl) (by kernel_rfl)) (by kernel_rfl) (by kernel_rfl) (by kernel_rfl) (door_met os _)) ?_
  intro W base args ds gs before hval0 hW _ _ hL _
  have hval : ∀ (j : Nat) t v, Tryd.f4.params[j]? = some t → args[j]? = some v → Value.okWide Tryd.prog W .any base t v := hval0
  have hW' := hW
  obtain ⟨p, q, hA0, hV, rfl, hfz, hnd⟩ := hW
  have hA : DataW.TrodAll enc Tryd.prog W 0 (fun _ => true) true Tryd.f4.params.toList args.toList ds p := hA0
  rw [Tryd.params4] at hA hval
  obtain ⟨v0, vs0, d0, ds0, p0, q0, hargs, rfl, rfl, h0, r0⟩ := trodAll_cons hA
  obtain ⟨v1, vs1, d1, ds1, p1, q1, rfl, rfl, rfl, h1, r1⟩ := trodAll_cons r0
  obtain ⟨v2, vs2, d2, ds2, p2, q2, rfl, rfl, rfl, h2, r2⟩ := trodAll_cons r1
  obtain ⟨v3, vs3, d3, ds3, p3, q3, rfl, rfl, rfl, h3, r3⟩ := trodAll_cons r2
  obtain ⟨v4, vs4, d4, ds4, p4, q4, rfl, rfl, rfl, h4, r4⟩ := trodAll_cons r3
  obtain ⟨rfl, rfl, rfl⟩ := trodAll_nil r4
  obtain rfl : args = #[v0, v1, v2, v3, v4] := by cases args; simp_all
  obtain ⟨rfl, rfl⟩ := trodVars_none hV
  have k0 := h0
  have lt0 : ∀ x ∈ p0, x.block < W.heap.size := by obtain ⟨m, hm⟩ := k0; exact DataW.trod_lt m _ _ _ hm
  obtain ⟨A0, n0, c0, rfl, hc0, hX0⟩ := open_row22 (hval 0 22 v0 rfl rfl) h0
  obtain ⟨a1, rfl, rfl, rfl, w1⟩ := open_int Tryd.underlying3 (hval 1 3 v1 rfl rfl) h1
  have k2 := h2
  have lt2 : ∀ x ∈ p2, x.block < W.heap.size := by obtain ⟨m, hm⟩ := k2; exact DataW.trod_lt m _ _ _ hm
  obtain ⟨A2, c2, x2, rfl, hc2, hC2, hg2⟩ := open_row23 (hval 2 23 v2 rfl rfl) h2
  have k3 := h3
  have lt3 : ∀ x ∈ p3, x.block < W.heap.size := by obtain ⟨m, hm⟩ := k3; exact DataW.trod_lt m _ _ _ hm
  obtain ⟨A3, c3, x3, rfl, hc3, hC3, hg3⟩ := open_row23 (hval 3 23 v3 rfl rfl) h3
  have k4 := h4
  have lt4 : ∀ x ∈ p4, x.block < W.heap.size := by obtain ⟨m, hm⟩ := k4; exact DataW.trod_lt m _ _ _ hm
  obtain ⟨A4, c4, x4, rfl, hc4, hC4, hg4⟩ := open_row23 (hval 4 23 v4 rfl rfl) h4
  clear hA0 hval0
  refine (lawful_law A0 n0 c0 a1 A2 c2 x2 A3 c3 x3 A4 c4 x4 W (of_laid hL) hX0 (lit_rng w1) hC2 hc2 hg2 hC3 hg3 hC4 hg4).mono fun e W' ⟨he, hg⟩ => ?_
  subst he
  exact ⟨_, rfl, _, _, _, [], _, [], hW', trodAll_mk1 (shut_bool Tryd.underlying4 _), (trodAll_cons_mk (Below.trod laidOut (by kernel_rfl) (of_decide_eq_true (by kernel_rfl)) k0 hg lt0) (trodAll_cons_mk (shut_int Tryd.underlying3 w1) (trodAll_cons_mk (Below.trod laidOut (by kernel_rfl) (of_decide_eq_true (by kernel_rfl)) k2 hg lt2) (trodAll_cons_mk (Below.trod laidOut (by kernel_rfl) (of_decide_eq_true (by kernel_rfl)) k3 hg lt3) (trodAll_cons_mk (Below.trod laidOut (by kernel_rfl) (of_decide_eq_true (by kernel_rfl)) k4 hg lt4) trodAll_mk0))))), rfl, hg.frame _, fun h => by cases h⟩

theorem over : Rows.rightsLawfulRow.holds Tryd.pinned (OpenSpec.ofChange Rows.rightsLawfulSpec) :=
  OpenClaim.holds_of_wide 4 Tryd.f4 rfl rfl rfl rfl rfl rfl rfl ⟨rfl, rfl, rfl, rfl, rfl⟩ rfl rfl rfl rfl rfl (by kernel_rfl) Tryd.func4 (by kernel_rfl)
    (of_decide_eq_true (by kernel_rfl)) (by unfold Func.isWrapper; first | (rw [if_pos (by decide +kernel)]; kernel_rfl) | (rw [if_neg (by decide +kernel)]; exact ⟨rfl, rfl⟩))
    (fun os started H enc _ => lifted os started H enc)
theorem said : Rows.RightsLawfulSaid := over

/-- ████ THE STATEMENT ████ -/
theorem proved : Rows.RightsLawfulCardSaid :=
  Claim7.holds_tied_plain_at .later [] [.funcs] true (true, "c882bbf18fe2638fa03ec3f0946baf73ba33234a0127255e741620561da83a79") false
    said (fun _ h => by cases h) (by kernel_rfl) (fun _ h => by cases h) rightsLawful_row_tie rfl ⟨rfl, rfl⟩ (by kernel_rfl) rfl
    (fun f fn hf hfn => by
      obtain rfl : f = 4 := Option.some.inj ((show Tryd.prog.funcNamed "newswire/newswirelaw29.RightsLawful" = some 4 by kernel_rfl).symm.trans hf) |>.symm
      obtain rfl : fn = Tryd.f4 := (Option.some.inj (Tryd.func4.symm.trans hfn)).symm
      exact ⟨by kernel_rfl, fun j t ht => by
        rw [Tryd.params4] at ht
        have hm : t ∈ [22, 3, 23, 23, 23] := by simpa using Array.mem_of_getElem? ht
        have hall : ([22, 3, 23, 23, 23].all fun u => !Tryd.prog.wantsStandIn u) = true := by kernel_rfl
        exact (show Tryd.prog.wantsStandIn t = false by simpa using List.all_eq_true.1 hall t hm)⟩)
    (by kernel_rfl)
#print axioms proved
end Go.Proofs.YtnabgijdbcdpmaaDoor.rightsLawful
