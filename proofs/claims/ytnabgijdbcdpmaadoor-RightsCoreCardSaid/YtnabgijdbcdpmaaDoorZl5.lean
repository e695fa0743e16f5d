/- Rights: the law RightsCore answers true at every input, as the given card states it, rights.kinds being tied to the program's text; no further condition. -/
import Derived.Test.YtnabgijdbcdpmaaDoorZf
import Derived.Test.YtnabgijdbcdpmaaDoorRows
import Derived.Test.YtnabgijdbcdpmaaDoorTie
import Derived.Test.YtnabgijdbcdpmaaDoorCards
import Derived.SevenTiedAt
namespace Go.Proofs.YtnabgijdbcdpmaaDoor
open Go.RowKit Go.Rg Go.Proofs.YtnabgijdbcdpmaaDoor.PRightsMatchesReference Go.Proofs.YtnabgijdbcdpmaaDoorW.PrintWords
set_option linter.unusedVariables false
set_option linter.unusedSimpArgs false

theorem forb_nil {l : List Cl} {u : List Int} {wt : Wt} {p : List Int} (h : lawB l u wt p = true) : forbB l u wt [] = false := by
  rw [Bool.eq_false_iff]
  intro hf
  obtain ⟨c, hc, _⟩ := (forbB_iff.1 hf).2.2.2 p (lawB_iff.1 h).2.1
  simp [these] at hc
/-- The clauses that are left of the first k. -/
def rulesTo (l : List Cl) (less : List Int) (k : Nat) : List Cl := ((l.zipIdx.take k).filter fun x => decide (x.1.f1 = 1) || hasI less (x.2 : Int)).map Prod.fst
theorem rulesTo_all (l : List Cl) (less : List Int) : rulesTo l less l.length = rules l less := by
  unfold rulesTo rules
  rw [List.take_of_length_le (by simp)]
theorem rulesTo_succ {l : List Cl} {less : List Int} {k : Nat} (h : k < l.length) : rulesTo l less (k + 1) = rulesTo l less k ++ if (decide (l[k].f1 = 1) || hasI less (k : Int)) = true then [l[k]] else [] := by
  unfold rulesTo
  rw [List.take_succ_eq_append_getElem (by simpa using h), List.filter_append, List.map_append]
  congr 1
  have e : l.zipIdx[k]'(by simpa using h) = (l[k], k) := by simp
  rw [e, List.filter_cons]
  split <;> simp
theorem rulesTo_len (l : List Cl) (less : List Int) (k : Nat) : (rulesTo l less k).length ≤ k := by
  unfold rulesTo
  rw [List.length_map]
  exact Nat.le_trans (List.length_filter_le _ _) (by rw [List.length_take]; omega)
theorem core_other {l : List Cl} {u : List Int} {wt : Wt} (hg : givenB l u wt = true) (hn : solvP l u wt = none) {o : List Int} (h : o.length < (solve2 l u wt).length) : forbB l u wt o = false := by
  rw [Bool.eq_false_iff]
  intro hf
  have := (core_min hg hn).2 o hf
  omega

set_option maxRecDepth 100000 in
set_option maxHeartbeats 16000000 in
theorem core_law (XA : Option Addr) (xn xc : Nat) (n : Int) (NA : Option Addr) (nc : Nat) (ns : List Int) (SA : Option Addr) (sc : Nat) (ss : List Int) (st : Int) (hst : rng st) (w : World) (hK : Kinds w) (hx : X5 w XA xn) (hn : rng n) (hN : (Kd.int .i64).C w NA ns.length ns) (hNr : ∀ x ∈ ns, rng x) (hS : (Kd.int .i64).C w SA ss.length ss) (hSr : ∀ x ∈ ss, rng x) :
    Calls Tryd.prog 5 #[.slice XA xn xc, .int .i64 n, .slice NA ns.length nc, .slice SA ss.length sc, .int .i64 st] w fun e w' => e = .returned (.bool true) ∧ Below w.heap.size w w' := by
  have HN := Lib.hid (And.intro hN (And.intro hNr hn)); clear hN hNr hn
  have HS := Lib.hid (And.intro hS hSr); clear hS hSr
  have HX := Lib.hid hx; clear hx
  have HK := Lib.hid hK; clear hK
  go_enter Tryd.func5, Tryd.ntmps5
  go_wp2_with fail
  refine (sane_any _ HK.out).mono ?_
  rintro e w1 ⟨rfl, hb1⟩
  have HB1 := Lib.hid hb1; clear hb1
  go_wp2_with fail
  refine (Made_any XA xc xn _ (HX.out.below HB1.out)).mono ?_
  rintro e w2 ⟨v, l, rfl, hR, hv, hll, hb2⟩
  obtain ⟨LA, lc, rfl, hlc, hRC⟩ := Kd.R_reads hR
  have HB2 := Lib.hid (And.intro (HB1.out.trans (hb2.mono HB1.out.size)) (And.intro hRC hv)); clear hb2 hR hRC hv HB1 hll
  go_wp2_with fail
  refine (MadeWant_any n NA nc ns _ (Kd.C_below HN.out.1 HB2.out.1) HN.out.2.2 HN.out.2.1).mono ?_
  rintro e w3 ⟨wt, WA, wn, rfl, hW, hvw, hus, hb3⟩
  have HB3 := Lib.hid (And.intro (HB2.out.1.trans (hb3.mono HB2.out.1.size)) (And.intro (Kd.C_below HB2.out.2.1 hb3) (And.intro HB2.out.2.2 (And.intro hW (And.intro hvw hus))))); clear hb3 HB2 hW hvw hus
  unfold wtv
  go_wp2_with fail
  have hA3 := (Below.refl w3.heap.size w3).alloc (Nat.le_refl _) (.cells (wtc wt WA wn) 29)
  have hk3 := heap_new (o := .cells (wtc wt WA wn) 29) (W := w3) rfl
  have HA3 := Lib.hid (And.intro (HB3.out.1.trans (hA3.mono HB3.out.1.size)) (And.intro (Kd.C_below HB3.out.2.1 hA3) (And.intro (Kd.C_below HB3.out.2.2.2.1 hA3) hk3))); clear hA3 hk3
  unfold wtc at HA3
  generalize hWB : w3.heap.size = WB at *
  generalize w3.alloc (.cells #[.int .i64 wt.te, .int .i64 wt.cl, .int .i64 wt.at_, .int .i64 wt.us, .slice WA wt.needs.length wn] 29) = W3 at *
  refine (MadeUsed_any SA sc ss W3 (Kd.C_below HS.out.1 HA3.out.1) HS.out.2).mono ?_
  rintro e w4 ⟨v, u, rfl, hU, hu12, huo, hsm, hb4⟩
  obtain ⟨UA, uc, rfl, huc, hUC⟩ := Kd.R_reads hU
  have hL : LX w LA lc l UA uc u wt WA wn WB w4 := ⟨HA3.out.1.trans (hb4.mono HA3.out.1.size), ⟨HK.out.next (HA3.out.1.trans (hb4.mono HA3.out.1.size)), Kd.C_below HA3.out.2.1 hb4, hUC, Kd.C_below HA3.out.2.2.1 hb4⟩, (hb4.block WB (Array.getElem?_eq_some_iff.1 HA3.out.2.2.2).1).trans HA3.out.2.2.2⟩
  have hg : givenB l u wt = true := givenB_iff.2 ⟨HB3.out.2.2.1, hu12, huo, HB3.out.2.2.2.2.1⟩
  have hG := And.intro hg (And.intro hu12 (And.intro hsm HB3.out.2.2.2.2.2))
  have HG := Lib.hid hG; clear hG hg hu12 huo hsm hb4 hUC HA3 HB3 hU hWB
  have HL := Lib.hid hL; clear hL
  have c0 := HL.out.c0
  have c1 := HL.out.c1
  have c2 := HL.out.c2
  have c3 := HL.out.c3
  have c4 := HL.out.c4
  go_wp2_with fail
  have hSo := Solve_any LA lc l UA uc u wt WA wn w4 HL.out.args
  unfold wtv at hSo
  refine hSo.mono ?_
  clear hSo
  rintro e w5 ⟨v1, v2, rfl, hP, hQ, hb5⟩
  clear c0 c1 c2 c3 c4
  have hE : solveE l u wt = 0 := by unfold solveE; rw [if_pos HG.out.1]
  rw [hE]
  clear hE
  obtain ⟨PA, pc, rfl, hpc, hPC⟩ := Kd.R_reads hP
  obtain ⟨QA, qc, rfl, hqc, hQC⟩ := Kd.R_reads hQ
  have HL5 := Lib.hid (HL.out.next hb5)
  have HQ := Lib.hid (And.intro hQC hqc); clear hQC hqc hQ hP hPC hb5 HL
  have hsp := solve1_spec HG.out.1
  have hll := max_len HL5.out.args.rl
  have hqm := max_len HQ.out.1
  rcases hsp with ⟨he, hno, hna⟩ | ⟨hne, hso, hla, hfi⟩
  case inr =>
    have h2 := solve2_some HG.out.1 hso
    rw [h2] at HQ ⊢
    have hpm : 0 < (solve1 l u wt).length := List.length_pos_iff.2 hne
    generalize solve1 l u wt = p at *
    have HLA := Lib.hid hla; clear hla hfi hso h2
    have hpI : (0 : Int) < (p.length : Int) := by omega
    have c0 := HL5.out.c0
    have c1 := HL5.out.c1
    have c2 := HL5.out.c2
    have c3 := HL5.out.c3
    have c4 := HL5.out.c4
    go_wp2_with fail
    have hFo := Forbids_any LA lc l UA uc u wt WA wn QA qc [] w5 HL5.out.args HQ.out.1 HQ.out.2
    rw [forb_nil HLA.out] at hFo
    unfold wtv at hFo
    refine hFo.mono ?_
    clear hFo c0 c1 c2 c3 c4
    rintro e w6 ⟨rfl, hb6⟩
    go_wp2_with fail
    go_ret
    exact ⟨rfl, (HL5.out.next hb6).below⟩
  case inl =>
    rw [he]
    have HNO := Lib.hid (And.intro hno (And.intro (core_min HG.out.1 hno).1 (And.intro (fun (i : Nat) => core_less HG.out.1 hno (i := i)) (fun (o : List Int) => core_other HG.out.1 hno (o := o))))); clear hno hna he
    have hq12 : (solve2 l u wt).length ≤ 12 := by
      have h1 := (forbB_iff.1 HNO.out.2.1)
      have h2 := idxs_mask (given_of HG.out.1).1 h1.2.1 h1.2.2.1
      rw [← h2]
      unfold idxs
      rw [List.length_map]
      exact Nat.le_trans (List.length_filter_le _ _) (by simp)
    generalize solve2 l u wt = core at *
    have c0 := HL5.out.c0
    have c1 := HL5.out.c1
    have c2 := HL5.out.c2
    have c3 := HL5.out.c3
    have c4 := HL5.out.c4
    go_wp2_with fail
    have hFo := Forbids_any LA lc l UA uc u wt WA wn QA qc core w5 HL5.out.args HQ.out.1 HQ.out.2
    rw [HNO.out.2.1] at hFo
    unfold wtv at hFo
    refine hFo.mono ?_
    clear hFo c0 c1 c2 c3 c4
    rintro e w6 ⟨rfl, hb6⟩
    have HL6 := Lib.hid (HL5.out.next hb6)
    have HQ6 := Lib.hid (And.intro (Kd.C_below HQ.out.1 hb6) HQ.out.2); clear hb6 HL5 HQ
    go_wp2_with fail
    go_loopw [18] (fun iv wr => ∃ i : Nat, iv = .int .i64 i ∧ i ≤ core.length ∧ Hid (Below w6.heap.size w6 wr)) (fun iv wr => core.length - (intOf iv).toNat)
    case atStart => exact ⟨0, rfl, Nat.zero_le _, Lib.hid (Below.refl _ _)⟩
    case round =>
      obtain ⟨i, rfl, hi, HI⟩ := hrel
      have HLr := Lib.hid (HL6.out.next HI.out)
      by_cases hlt : i < core.length
      · have hltI : (i : Int) < (core.length : Int) := by omega
        obtain ⟨qd, e, _⟩ := Kd.at_int (Kd.C_below HQ6.out.1 HI.out) (i : Int) (by omega) hltI
        cases e
        go_wp2_with fail
        refine (without_any qd qc core i wr (Kd.C_below HQ6.out.1 HI.out) HQ6.out.2 hlt hq12).mono ?_
        rintro e w7 ⟨v, rfl, hV, hb7⟩
        obtain ⟨VA, vc, rfl, hvc, hVC⟩ := Kd.R_reads hV
        have HL7 := Lib.hid (HLr.out.next hb7)
        have HI7 := Lib.hid (HI.out.trans (hb7.mono HI.out.size))
        have HV7 := Lib.hid (And.intro hVC hvc); clear hVC hvc hV hb7 HLr HI
        obtain ⟨hfl, hsl⟩ := HNO.out.2.2.1 i hlt
        have hvm := max_len HV7.out.1
        generalize wout core i = less at *
        have HSL := Lib.hid (And.intro hfl hsl); clear hfl hsl
        have c0 := HL7.out.c0
        have c1 := HL7.out.c1
        have c2 := HL7.out.c2
        have c3 := HL7.out.c3
        have c4 := HL7.out.c4
        go_wp2_with fail
        have hFo := Forbids_any LA lc l UA uc u wt WA wn VA vc less w7 HL7.out.args HV7.out.1 HV7.out.2
        rw [HSL.out.1] at hFo
        unfold wtv at hFo
        refine hFo.mono ?_
        clear hFo c0 c1 c2 c3 c4
        rintro e w8 ⟨rfl, hb8⟩
        have HL8 := Lib.hid (HL7.out.next hb8)
        have HI8 := Lib.hid (HI7.out.trans (hb8.mono HI7.out.size))
        have HV8 := Lib.hid (And.intro (Kd.C_below HV7.out.1 hb8) HV7.out.2); clear hb8 HL7 HI7 HV7
        go_wp2_with fail
        go_loopw [20, 21] (fun ov jv wr2 => ∃ j : Nat, jv = .int .i64 j ∧ j ≤ l.length ∧ Hid (Kd.R k40 40 wr2 w8.heap.size (fun k => w8.heap.size ≤ k) ov (rulesTo l less j) ∧ Below w8.heap.size w8 wr2)) (fun ov jv wr2 => l.length - (intOf jv).toNat)
        case atStart => exact ⟨0, rfl, Nat.zero_le _, Lib.hid ⟨Kd.R_nil _ _ _ _ _, Below.refl _ _⟩⟩
        case round =>
          obtain ⟨j, rfl, hj, HJ⟩ := hrel
          have HLj := Lib.hid (HL8.out.next HJ.out.2)
          by_cases hjl : j < l.length
          · have hjlI : (j : Int) < (l.length : Int) := by omega
            obtain ⟨ad, e, x0, x1, x2, x3, x4, x5, x6, x7⟩ := at_T40 HLj.out.args.rl (j : Int) (by omega) hjlI
            cases e
            simp only [Int.toNat_natCast] at x0 x1 x2 x3 x4 x5 x6 x7
            have hrd : rd_T40 l (j : Int) = l[j] := by unfold rd_T40; simp [hjl]
            rw [hrd] at x0 x1 x2 x3 x4 x5 x6 x7
            clear hrd
            have hrs := rulesTo_succ (less := less) hjl
            have hrl := rulesTo_len l less j
            have hl12 := (given_of HG.out.1).1
            generalize l[j] = X at *
            obtain ⟨f0, f1, f2, f3, f4, f5, f6, f7⟩ := X
            simp only at x0 x1 x2 x3 x4 x5 x6 x7 hrs
            have q1 : (f1 == 1) = decide (f1 = 1) := beqD _ _
            have hH := has_any VA vc less (j : Int) wr (Kd.C_below HV8.out.1 HJ.out.2)
            generalize decide (f1 = 1) = b1 at *
            generalize hasI less (j : Int) = b2 at *
            have HRS := Lib.hid hrs; clear hrs
            have HH := Lib.hid hH; clear hH
            obtain ⟨RA, rc, rfl, hrc, _⟩ := Kd.R_reads HJ.out.1
            cases b1
            case' false => cases b2
            case false.false =>
              go_wp2_with fail
              refine HH.out.mono ?_
              rintro e w9 ⟨rfl, hb9⟩
              have HJ9 := Lib.hid (And.intro (Kd.R_below HJ.out.1 hb9) (HJ.out.2.trans (hb9.mono HJ.out.2.size))); clear hb9
              clear x0 x1 x2 x3 x4 x5 x6 x7
              go_wp2_with fail
              go_roundw
              case rel => exact ⟨j + 1, by go_num, by omega, Lib.hid ⟨by rw [HRS.out]; simpa using HJ9.out.1, HJ9.out.2⟩⟩
              case measure => simp [intOf]; omega
            case false.true =>
              go_wp2_with fail
              refine HH.out.mono ?_
              rintro e w9 ⟨rfl, hb9⟩
              have HJ9 := Lib.hid (And.intro (Kd.R_below HJ.out.1 hb9) (HJ.out.2.trans (hb9.mono HJ.out.2.size)))
              have y0 := pw_cell_below hb9 x0
              have y1 := pw_cell_below hb9 x1
              have y2 := pw_cell_below hb9 x2
              have y3 := pw_cell_below hb9 x3
              have y4 := pw_cell_below hb9 x4
              have y5 := pw_cell_below hb9 x5
              have y6 := pw_cell_below hb9 x6
              have y7 := pw_cell_below hb9 x7
              clear hb9 x0 x1 x2 x3 x4 x5 x6 x7
              have hA9 := (Below.refl w9.heap.size w9).alloc (Nat.le_refl _) (.cells (clc ⟨f0, f1, f2, f3, f4, f5, f6, f7⟩) 40)
              have hRow := clrowC ⟨f0, f1, f2, f3, f4, f5, f6, f7⟩ (heap_new (o := .cells (clc ⟨f0, f1, f2, f3, f4, f5, f6, f7⟩) 40) (W := w9) rfl)
              have HOX := Lib.hid (And.intro (Kd.R_below HJ9.out.1 hA9) (And.intro hRow (And.intro (HJ9.out.2.trans (hA9.mono HJ9.out.2.size)) (Nat.le_trans HJ9.out.2.size hA9.size)))); clear hA9 hRow
              unfold clc at HOX
              simp only at HOX
              go_wp2_with (at_builtin; go_loud (refine Kd.R_append_rows k40 (w0 := w8) (Rr := k40.K _) w8.heap.size rfl (.tmp 106) (.tmp 111) 24 40 (.agg #[.int .i64 0, .int .i64 0, .int .i64 0, .int .i64 0, .int .i64 0, .int .i64 0, .int .i64 0, .int .i64 0]) 64 rfl Tryd.underlying24 info40 rfl (by decide) (by decide) _ (rulesTo l less j) [⟨f0, f1, f2, f3, f4, f5, f6, f7⟩] _ 1 1 (fun k => w8.heap.size ≤ k) (fun _ => False) rfl rfl HOX.out.1 HOX.out.2.1 (fun x cs h => by rw [k40_open h]; exact k40_mkM _ _ _ x) (fun _ h => h.elim) (fun k hk => Nat.le_trans HOX.out.2.2.2 hk) HOX.out.2.2.1 HOX.out.2.2.2 (by omega) ?_; intro v1 w10 h1 h2 h3 h4))
              have HK := Lib.hid (And.intro h1 h2); clear h1 h2 h3 h4
              go_wp2_with fail
              go_roundw
              case rel => exact ⟨j + 1, by go_num, by omega, Lib.hid ⟨by rw [HRS.out]; simpa using HK.out.1, HK.out.2⟩⟩
              case measure => simp [intOf]; omega
            case true =>
              have hA9 := (Below.refl wr.heap.size wr).alloc (Nat.le_refl _) (.cells (clc ⟨f0, f1, f2, f3, f4, f5, f6, f7⟩) 40)
              have hRow := clrowC ⟨f0, f1, f2, f3, f4, f5, f6, f7⟩ (heap_new (o := .cells (clc ⟨f0, f1, f2, f3, f4, f5, f6, f7⟩) 40) (W := wr) rfl)
              have HOX := Lib.hid (And.intro (Kd.R_below HJ.out.1 hA9) (And.intro hRow (And.intro (HJ.out.2.trans (hA9.mono HJ.out.2.size)) (Nat.le_trans HJ.out.2.size hA9.size)))); clear hA9 hRow
              unfold clc at HOX
              simp only at HOX
              go_wp2_with (at_builtin; go_loud (refine Kd.R_append_rows k40 (w0 := w8) (Rr := k40.K _) w8.heap.size rfl (.tmp 106) (.tmp 111) 24 40 (.agg #[.int .i64 0, .int .i64 0, .int .i64 0, .int .i64 0, .int .i64 0, .int .i64 0, .int .i64 0, .int .i64 0]) 64 rfl Tryd.underlying24 info40 rfl (by decide) (by decide) _ (rulesTo l less j) [⟨f0, f1, f2, f3, f4, f5, f6, f7⟩] _ 1 1 (fun k => w8.heap.size ≤ k) (fun _ => False) rfl rfl HOX.out.1 HOX.out.2.1 (fun x cs h => by rw [k40_open h]; exact k40_mkM _ _ _ x) (fun _ h => h.elim) (fun k hk => Nat.le_trans HOX.out.2.2.2 hk) HOX.out.2.2.1 HOX.out.2.2.2 (by omega) ?_; intro v1 w10 h1 h2 h3 h4))
              have HK := Lib.hid (And.intro h1 h2); clear h1 h2 h3 h4
              go_wp2_with fail
              go_roundw
              case rel => exact ⟨j + 1, by go_num, by omega, Lib.hid ⟨by rw [HRS.out]; simpa using HK.out.1, HK.out.2⟩⟩
              case measure => simp [intOf]; omega
          · obtain rfl : j = l.length := by omega
            have hra := rulesTo_all l less
            obtain ⟨RA, rc, rfl, hrc, hRC⟩ := Kd.R_reads HJ.out.1
            rw [hra] at hRC hrc ⊢
            clear hra
            have hgr := given_sub (rules_sub l less) HG.out.1
            have HR9 := Lib.hid (And.intro (show Args wr RA rc (rules l less) UA uc u wt WA wn from ⟨HLj.out.args.kinds, hRC, HLj.out.args.ru, HLj.out.args.rw⟩) hgr); clear hRC hgr hrc
            have c0 := HLj.out.c0
            have c1 := HLj.out.c1
            have c2 := HLj.out.c2
            have c3 := HLj.out.c3
            have c4 := HLj.out.c4
            go_wp2_with fail
            have hSo := Solve_any RA rc (rules l less) UA uc u wt WA wn wr HR9.out.1
            unfold wtv at hSo
            refine hSo.mono ?_
            clear hSo c0 c1 c2 c3 c4
            rintro e w11 ⟨z1, z2, rfl, hZ, hZ2, hb11⟩
            have hE : solveE (rules l less) u wt = 0 := by unfold solveE; rw [if_pos HR9.out.2]
            rw [hE]
            clear hE
            obtain ⟨ZA, zc, rfl, hzc, hZC⟩ := Kd.R_reads hZ
            have hzl : 0 < (solve1 (rules l less) u wt).length := List.length_pos_iff.2 HSL.out.2
            have hzm := max_len hZC
            have hz0 : (((solve1 (rules l less) u wt).length : Int) == 0) = false := by simpa using HSL.out.2
            have HB11 := Lib.hid ((HI8.out.trans (HJ.out.2.mono HI8.out.size)).trans (hb11.mono (Nat.le_trans HI8.out.size HJ.out.2.size))); clear hb11 hZ hZ2 hZC hzc
            generalize solve1 (rules l less) u wt = zl at *
            go_wp2_with fail
            go_roundw
            case rel => exact ⟨i + 1, by go_num, by omega, Lib.hid HB11.out⟩
            case measure => simp [intOf]; omega
      · obtain rfl : i = core.length := by omega
        go_wp2_with fail
        go_loopw [25, 26] (fun ov jv wr2 => ∃ (j : Nat) (o : List Int), jv = .int .i64 j ∧ j ≤ l.length ∧ Hid ((Kd.int .i64).R 3 wr2 w6.heap.size (fun k => w6.heap.size ≤ k) ov o ∧ o.length ≤ j ∧ Below w6.heap.size w6 wr2)) (fun ov jv wr2 => l.length - (intOf jv).toNat)
        case atStart => exact ⟨0, [], rfl, Nat.zero_le _, Lib.hid ⟨Kd.R_nil _ _ _ _ _, Nat.le_refl _, HI.out⟩⟩
        case round =>
          obtain ⟨j, o, rfl, hj, HJ⟩ := hrel
          obtain ⟨OA, oc, rfl, hoc, hOC⟩ := Kd.R_reads HJ.out.1
          have HO := Lib.hid (And.intro hOC hoc); clear hOC hoc
          have hoj := HJ.out.2.1
          have hl12 := (given_of HG.out.1).1
          by_cases hjl : j < l.length
          · have hjlI : (j : Int) < (l.length : Int) := by omega
            have hP := pickL_any st 4096 hst.1 hst.2 (by decide) wr
            obtain ⟨hp0, hp1⟩ := pickV_bd (a := st) (n := 4096) (by decide)
            generalize pickV st 4096 = r at *
            have hq0 : (0 : Int) ≤ r / 2 ^ j := Int.ediv_nonneg hp0 (Int.pow_nonneg (by decide))
            have HP := Lib.hid hP; clear hP
            go_wp2_with fail
            refine HP.out.mono ?_
            rintro e w9 ⟨rfl, hd⟩
            have HJ9 := Lib.hid (And.intro (Kd.R_below HJ.out.1 hd) (HJ.out.2.2.trans (hd.mono HJ.out.2.2.size))); clear hd HP HO HJ
            cases hb : (r / 2 ^ j % 2 == 1) with
            | false =>
              go_wp2_with fail
              go_roundw
              case rel => exact ⟨j + 1, o, by go_num, by omega, Lib.hid ⟨HJ9.out.1, by omega, HJ9.out.2⟩⟩
              case measure => simp [intOf]; omega
            | true =>
              have hA9 := (Below.refl w9.heap.size w9).alloc (Nat.le_refl _) (.cells #[.int .i64 j] 3)
              have hRow := introw (xs := [(j : Int)]) (by simp) (heap_new (o := .cells #[.int .i64 j] 3) (W := w9) rfl)
              have HOX := Lib.hid (And.intro (Kd.R_below HJ9.out.1 hA9) (And.intro hRow (And.intro (HJ9.out.2.trans (hA9.mono HJ9.out.2.size)) (Nat.le_trans HJ9.out.2.size hA9.size)))); clear hA9 hRow
              go_wp2_with (at_builtin; go_loud (refine Kd.R_append_rows (Kd.int .i64) (w0 := w6) (Rr := fun x cs => cs = [.int .i64 x]) w6.heap.size rfl (.tmp 140) (.tmp 142) 23 3 (.int .i64 0) 8 rfl Tryd.underlying23 info3 rfl (by decide) (by decide) _ o [(j : Int)] _ 1 1 (fun k => w6.heap.size ≤ k) (fun _ => False) rfl rfl HOX.out.1 HOX.out.2.1 (fun _ _ h => h) (fun _ h => h.elim) (fun k hk => Nat.le_trans HOX.out.2.2.2 hk) HOX.out.2.2.1 HOX.out.2.2.2 (by omega) ?_; intro v1 w10 h1 h2 h3 h4))
              have HK := Lib.hid (And.intro h1 h2); clear h1 h2 h3 h4
              go_wp2_with fail
              go_roundw
              case rel => exact ⟨j + 1, _, by go_num, by omega, Lib.hid ⟨HK.out.1, by simp; omega, HK.out.2⟩⟩
              case measure => simp [intOf]; omega
          · obtain rfl : j = l.length := by omega
            have HLf := Lib.hid (HL6.out.next HJ.out.2.2)
            by_cases hge : core.length ≤ o.length
            · have hgeI : (core.length : Int) ≤ (o.length : Int) := by omega
              go_wp2_with fail
              go_ret
              exact ⟨rfl, HLf.out.below⟩
            · have hgeI : ¬ ((core.length : Int) ≤ (o.length : Int)) := by omega
              have hgeD : decide ((core.length : Int) ≤ (o.length : Int)) = false := by simpa using hgeI
              have hFB := HNO.out.2.2.2 o (by omega)
              have c0 := HLf.out.c0
              have c1 := HLf.out.c1
              have c2 := HLf.out.c2
              have c3 := HLf.out.c3
              have c4 := HLf.out.c4
              have HFB := Lib.hid hFB; clear hFB
              go_wp2_with fail
              have hFo := Forbids_any LA lc l UA uc u wt WA wn OA oc o wr HLf.out.args HO.out.1 HO.out.2
              rw [HFB.out] at hFo
              unfold wtv at hFo
              refine hFo.mono ?_
              clear hFo c0 c1 c2 c3 c4
              rintro e w12 ⟨rfl, hb12⟩
              go_wp2_with fail
              go_ret
              exact ⟨rfl, (HLf.out.next hb12).below⟩
end Go.Proofs.YtnabgijdbcdpmaaDoor

namespace Go.Proofs.YtnabgijdbcdpmaaDoor.rightsCore
open Go.ChangeShapes Go.WideShapes Go.ChangeAt Go.RowKit
set_option linter.unusedVariables false
set_option linter.unusedSimpArgs false
set_option maxRecDepth 100000 in
theorem lifted (os : Os) (started : os.Started) (H : Type) (enc : TypeId × Value → H) :
    ReturnsInHanded {} Tryd.checked os 5 .any (fun w args => (Rows.rightsCoreSpec.pre enc Tryd.prog Tryd.f5 [] false w args ∧ laidMetH Tryd.prog laid1 w) ∧ sizedMet enc Tryd.prog Tryd.f5 (OpenSpec.ofChange Rows.rightsCoreSpec) false w args)
      (Rows.rightsCoreSpec.post enc Tryd.prog Tryd.f5 false true false false) := by
  refine returnsInHanded_of_change_and (C := Tryd.checked) (X := fun w _ => laidMetH Tryd.prog laid1 w) (fun _ _ _ hh h => h.of_heap hh) own started (by kernel_rfl) Tryd.func5
    (ChangeSpec.witness_shaped (enc := enc) (C := Tryd.checked) (os := os) (X := fun w _ => laidMetH Tryd.prog laid1 w) false (World.doorLaid Tryd.prog 600 os) #[.slice none 0 0, .int .i64 0, .slice none 0 0, .slice none 0 0, .int .i64 0] 8 rfl (World.shaped_of_RefB (by kernel_rfl) (by kernel_rfl)) (by kernel_rfl) (by kernel_rfl) (by kernel_rfl) (door_met os _)) ?_
  intro W base args ds gs before hval0 hW _ _ hL _
  have hval : ∀ (j : Nat) t v, Tryd.f5.params[j]? = some t → args[j]? = some v → Value.okWide Tryd.prog W .any base t v := hval0
  have hW' := hW
  obtain ⟨p, q, hA0, hV, rfl, hfz, hnd⟩ := hW
  have hA : DataW.TrodAll enc Tryd.prog W 0 (fun _ => true) true Tryd.f5.params.toList args.toList ds p := hA0
  rw [Tryd.params5] at hA hval
  obtain ⟨v0, vs0, d0, ds0, p0, q0, hargs, rfl, rfl, h0, r0⟩ := trodAll_cons hA
  obtain ⟨v1, vs1, d1, ds1, p1, q1, rfl, rfl, rfl, h1, r1⟩ := trodAll_cons r0
  obtain ⟨v2, vs2, d2, ds2, p2, q2, rfl, rfl, rfl, h2, r2⟩ := trodAll_cons r1
  obtain ⟨v3, vs3, d3, ds3, p3, q3, rfl, rfl, rfl, h3, r3⟩ := trodAll_cons r2
  obtain ⟨v4, vs4, d4, ds4, p4, q4, rfl, rfl, rfl, h4, r4⟩ := trodAll_cons r3
  obtain ⟨rfl, rfl, rfl⟩ := trodAll_nil r4
  obtain rfl : args = #[v0, v1, v2, v3, v4] := by cases args; simp_all
  obtain ⟨rfl, rfl⟩ := trodVars_none hV
  have k0 := h0
  have lt0 : ∀ x ∈ p0, x.block < W.heap.size := by obtain ⟨m, hm⟩ := k0; exact DataW.trod_lt m _ _ _ hm
  obtain ⟨A0, n0, c0, rfl, hc0, hX0⟩ := open_row22 (hval 0 22 v0 rfl rfl) h0
  obtain ⟨a1, rfl, rfl, rfl, w1⟩ := open_int Tryd.underlying3 (hval 1 3 v1 rfl rfl) h1
  have k2 := h2
  have lt2 : ∀ x ∈ p2, x.block < W.heap.size := by obtain ⟨m, hm⟩ := k2; exact DataW.trod_lt m _ _ _ hm
  obtain ⟨A2, c2, x2, rfl, hc2, hC2, hg2⟩ := open_row23 (hval 2 23 v2 rfl rfl) h2
  have k3 := h3
  have lt3 : ∀ x ∈ p3, x.block < W.heap.size := by obtain ⟨m, hm⟩ := k3; exact DataW.trod_lt m _ _ _ hm
  obtain ⟨A3, c3, x3, rfl, hc3, hC3, hg3⟩ := open_row23 (hval 3 23 v3 rfl rfl) h3
  obtain ⟨a4, rfl, rfl, rfl, w4⟩ := open_int Tryd.underlying3 (hval 4 3 v4 rfl rfl) h4
  clear hA0 hval0
  refine (core_law A0 n0 c0 a1 A2 c2 x2 A3 c3 x3 a4 (lit_rng w4) W (of_laid hL) hX0 (lit_rng w1) hC2 hg2 hC3 hg3).mono fun e W' ⟨he, hg⟩ => ?_
  subst he
  exact ⟨_, rfl, _, _, _, [], _, [], hW', trodAll_mk1 (shut_bool Tryd.underlying4 _), (trodAll_cons_mk (Below.trod laidOut (by kernel_rfl) (of_decide_eq_true (by kernel_rfl)) k0 hg lt0) (trodAll_cons_mk (shut_int Tryd.underlying3 w1) (trodAll_cons_mk (Below.trod laidOut (by kernel_rfl) (of_decide_eq_true (by kernel_rfl)) k2 hg lt2) (trodAll_cons_mk (Below.trod laidOut (by kernel_rfl) (of_decide_eq_true (by kernel_rfl)) k3 hg lt3) (trodAll_cons_mk (shut_int Tryd.underlying3 w4) trodAll_mk0))))), rfl, hg.frame _, fun h => by cases h⟩

theorem over : Rows.rightsCoreRow.holds Tryd.pinned (OpenSpec.ofChange Rows.rightsCoreSpec) :=
  OpenClaim.holds_of_wide 5 Tryd.f5 rfl rfl rfl rfl rfl rfl rfl ⟨rfl, rfl, rfl, rfl, rfl⟩ rfl rfl rfl rfl rfl (by kernel_rfl) Tryd.func5 (by kernel_rfl)
    (of_decide_eq_true (by kernel_rfl)) (by unfold Func.isWrapper; first | (rw [if_pos (by decide +kernel)]; kernel_rfl) | (rw [if_neg (by decide +kernel)]; exact ⟨rfl, rfl⟩))
    (fun os started H enc _ => lifted os started H enc)
theorem said : Rows.RightsCoreSaid := over

/-- ████ THE STATEMENT ████ -/
theorem proved : Rows.RightsCoreCardSaid :=
  Claim7.holds_tied_plain_at .later [] [.funcs] true (true, "c882bbf18fe2638fa03ec3f0946baf73ba33234a0127255e741620561da83a79") false
    said (fun _ h => by cases h) (by kernel_rfl) (fun _ h => by cases h) rightsCore_row_tie rfl ⟨rfl, rfl⟩ (by kernel_rfl) rfl
    (fun f fn hf hfn => by
      obtain rfl : f = 5 := Option.some.inj ((show Tryd.prog.funcNamed "newswire/newswirelaw29.RightsCore" = some 5 by kernel_rfl).symm.trans hf) |>.symm
      obtain rfl : fn = Tryd.f5 := (Option.some.inj (Tryd.func5.symm.trans hfn)).symm
      exact ⟨by kernel_rfl, fun j t ht => by
        rw [Tryd.params5] at ht
        have hm : t ∈ [22, 3, 23, 23, 3] := by simpa using Array.mem_of_getElem? ht
        have hall : ([22, 3, 23, 23, 3].all fun u => !Tryd.prog.wantsStandIn u) = true := by kernel_rfl
        exact (show Tryd.prog.wantsStandIn t = false by simpa using List.all_eq_true.1 hall t hm)⟩)
    (by kernel_rfl)
#print axioms proved
end Go.Proofs.YtnabgijdbcdpmaaDoor.rightsCore
