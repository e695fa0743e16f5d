/- The contract of Check. -/
import Derived.Test.YticngcjfofcoiaaDoorOr
namespace Go.Proofs.YticngcjfofcoiaaDoor
open Go.RowKit Go.Rg Go.Proofs.YticngcjfofcoiaaDoorW.PrintWords
set_option linter.unusedVariables false
set_option linter.unusedSimpArgs false
set_option maxRecDepth 100000
def stepB (l : List Src) (u : Nat) (v : List Int) (i : Nat) : Bool := (fndS l (rd v i)).isSome && (!(orL u ((v.take i).map Int.toNat)).testBit (rd v i).toNat && (if i = 0 then (ogL l).testBit (rd v i).toNat else (nxL l (rd v (i - 1 : Nat)).toNat).contains (rd v i).toNat))
def wayB (l : List Src) (xs : List Int) (u : Nat) (v : List Int) : Bool := decide (0 < v.length) && ((List.range v.length).all (stepB l u v) && (sdL xs).testBit (rd v (v.length - 1 : Nat)).toNat)
def usedW (ws : List (List Int)) (k : Nat) : Nat := orL 0 ((ws.take k).flatten.map Int.toNat)
def waysB (l : List Src) (xs : List Int) (ws : List (List Int)) : Bool := (List.range ws.length).all fun k => wayB l xs (usedW ws k) (ws.getD k [])
noncomputable def deadB (l : List Src) (xs cs : List Int) : Bool := decide (setOf (rchB (nxL l) (sdL xs) (ogL l) (sdL cs)) &&& sdL xs = 0)
noncomputable def checkB (l : List Src) (xs : List Int) (n : Int) (ws : List (List Int)) (cs : List Int) : Bool := validS l && (asrt l xs && (asrt l cs && (decide (n = ws.length) && (decide (n = cs.length) && (waysB l xs ws && deadB l xs cs)))))
theorem all_no {p : Nat → Bool} {n i : Nat} (hi : i < n) (h : p i = false) : (List.range n).all p = false := by
 rw [List.all_eq_false]
 exact ⟨i, List.mem_range.2 hi, by rw [h]; decide⟩
theorem usedW_succ {ws : List (List Int)} {k : Nat} {v : List Int} (h : ws[k]? = some v) : usedW ws (k + 1) = orL (usedW ws k) (v.map Int.toNat) := by
 obtain ⟨hk, e⟩ := List.getElem?_eq_some_iff.1 h
 unfold usedW orL
 rw [List.take_succ_eq_append_getElem hk, e, List.flatten_append, List.map_append, List.foldl_append]
 simp
theorem and16 {a b : Nat} (ha : a < 65536) (hb : b < 65536) : (Go.bits .and .u16 (a : Int) (b : Int) == 0) = decide (a &&& b = 0) := by
 rw [and_u16 a b ha hb, beqD]
 exact decide_eq_decide.2 (by omega)
theorem step_no {l : List Src} {xs : List Int} {u i : Nat} {v : List Int} (hi : i < v.length) (h : stepB l u v i = false) : wayB l xs u v = false := by
 unfold wayB
 rw [all_no hi h]
 simp
theorem ways_no {l : List Src} {xs : List Int} {ws : List (List Int)} {k : Nat} {v : List Int} (hk : ws[k]? = some v) (h : wayB l xs (usedW ws k) v = false) : waysB l xs ws = false := by
 obtain ⟨h1, h2⟩ := List.getElem?_eq_some_iff.1 hk
 unfold waysB
 refine all_no h1 ?_
 have : ws.getD k [] = v := by simp [List.getD, hk]
 rw [this, h]
theorem fnd_nat {l : List Src} (hv : validS l = true) {y : Int} (h : (fndS l y).isSome = true) : ∃ Y : Nat, y = Y ∧ Y < 12 := by
 obtain ⟨s, hs⟩ := Option.isSome_iff_exists.1 h
 have h1 := List.mem_of_find?_eq_some hs
 have h2 := List.find?_some hs
 have h3 := valid_src hv h1
 have : s.id = y := by simpa using h2
 exact ⟨y.toNat, by omega, by omega⟩
theorem step_fnd {l : List Src} {u n i : Nat} {v : List Int} (h : (List.range n).all (stepB l u v) = true) (hi : i < n) : (fndS l (rd v i)).isSome = true := by
 have := List.all_eq_true.1 h i (List.mem_range.2 hi)
 unfold stepB at this
 rw [Bool.and_eq_true] at this
 exact this.1
theorem rd_at {v : List Int} {i : Nat} (h : i < v.length) : rd v i = v[i] := by simp [rd, h]
theorem orI_step {u i Y : Nat} {v : List Int} (hi : i < v.length) (hy : rd v i = (Y : Int)) : orL u ((v.take (i + 1)).map Int.toNat) = orL u ((v.take i).map Int.toNat) ||| 2 ^ Y := by
 rw [List.take_succ_eq_append_getElem hi, List.map_append, ← rd_at hi, hy, show ([(Y : Int)].map Int.toNat) = [Y] from rfl, orL_snoc]
set_option maxHeartbeats 8000000 in
theorem check_any (LA : Option Addr) (c : Nat) (l : List Src) (XA : Option Addr) (xc : Nat) (xs : List Int) (n : Int) (WA : Option Addr) (wc : Nat) (ws : List (List Int)) (CA : Option Addr) (cc : Nat) (cs : List Int) (w : World) (hr : Kd.C kS w LA l.length l) (hl : ∀ s ∈ l, s.frm.length ≤ 1000) (hx : (Kd.int .i64).C w XA xs.length xs) (hw : kW.C w WA ws.length ws) (hc : (Kd.int .i64).C w CA cs.length cs) (hT : Tab w) :
  Calls Tryd.prog 29 #[.slice LA l.length c, .slice XA xs.length xc, .agg #[.int .i64 n, .slice WA ws.length wc, .slice CA cs.length cc]] w fun e w' => e = .returned (.bool (checkB l xs n ws cs)) ∧ Below w.heap.size w w' := by
 have hmw : ws.length ≤ 9223372036854775807 := hw.2.1
 have hmc : cs.length ≤ 9223372036854775807 := hc.2.1
 have hb0 := (Below.refl w.heap.size w).alloc (Nat.le_refl _) (.cells #[.int .i64 n, .slice WA ws.length wc, .slice CA cs.length cc] 30)
 have h5 : (w.alloc (.cells #[.int .i64 n, .slice WA ws.length wc, .slice CA cs.length cc] 30)).heap[w.heap.size]? = some (.cells #[.int .i64 n, .slice WA ws.length wc, .slice CA cs.length cc] 30) := heap_new rfl
 have hva := valid_any LA c l _ (Kd.C_below hr hb0) hl
 have HV := Lib.hid hva; clear hva
 have HR := Lib.hid (And.intro hr (And.intro hl (And.intro hx (And.intro hw (And.intro hc hT))))); clear hr hl hx hw hc hT
 have H5 := Lib.hid (And.intro h5 hb0); clear h5 hb0
 obtain ⟨w0, hw0⟩ : ∃ w0, w.alloc (.cells #[.int .i64 n, .slice WA ws.length wc, .slice CA cs.length cc] 30) = w0 := ⟨_, rfl⟩
 rw [hw0] at HV H5
 have HW0 := Lib.hid hw0; clear hw0
 go_enter Tryd.func29, Tryd.ntmps29
 cases g1 : validS l with
 |false =>
  rw [g1] at HV
  have HN := Lib.hid (show checkB l xs n ws cs = false by unfold checkB; simp [g1])
  clear g1
  go_wp2_with fail
  rw [HW0.out]
  refine HV.out.mono ?_
  rintro e w1 ⟨rfl, hb1⟩
  have HB := Lib.hid (H5.out.2.trans (hb1.mono H5.out.2.size)); clear hb1 HV
  go_wp2_with fail
  go_ret
  exact ⟨ret_bool HN.out.symm, HB.out⟩
 |true =>
  rw [g1] at HV
  have HG1 := Lib.hid g1
  go_wp2_with fail
  rw [HW0.out]
  refine HV.out.mono ?_
  rintro e w1 ⟨rfl, hb1⟩
  have hb := H5.out.2.trans (hb1.mono H5.out.2.size)
  have h5 := (hb1.block _ (Array.getElem?_eq_some_iff.1 H5.out.1).1).trans H5.out.1
  have has := asrt_any LA c l XA xc xs w1 (Kd.C_below HR.out.1 hb) HR.out.2.1 (Kd.C_below HR.out.2.2.1 hb)
  have HAS := Lib.hid has
  have H1 := Lib.hid (And.intro h5 hb); clear h5 hb hb1 has HV H5 HW0
  cases g2 : asrt l xs with
  |false =>
   rw [g2] at HAS
   have HN := Lib.hid (show checkB l xs n ws cs = false by unfold checkB; simp [g2])
   clear g1 g2
   go_wp2_with fail
   refine HAS.out.mono ?_
   rintro e w2 ⟨rfl, hb2⟩
   have HB := Lib.hid (H1.out.2.trans (hb2.mono H1.out.2.size)); clear hb2 HAS
   go_wp2_with fail
   go_ret
   exact ⟨ret_bool HN.out.symm, HB.out⟩
  |true =>
   rw [g2] at HAS
   have HG2 := Lib.hid g2
   go_wp2_with fail
   refine HAS.out.mono ?_
   rintro e w2 ⟨rfl, hb2⟩
   have hb := H1.out.2.trans (hb2.mono H1.out.2.size)
   have h5 := (hb2.block _ (Array.getElem?_eq_some_iff.1 H1.out.1).1).trans H1.out.1
   have hac := asrt_any LA c l CA cc cs w2 (Kd.C_below HR.out.1 hb) HR.out.2.1 (Kd.C_below HR.out.2.2.2.2.1 hb)
   have HAC := Lib.hid hac
   have e2 : w2.cell? ⟨w.heap.size, 2, none⟩ = some (.slice CA cs.length cc) := cell_of h5 rfl
   have H2 := Lib.hid (And.intro h5 hb); clear h5 hb hb2 hac HAS H1
   cases g3 : asrt l cs with
   |false =>
    rw [g3] at HAC
    have HN := Lib.hid (show checkB l xs n ws cs = false by unfold checkB; simp [g3])
    clear g1 g2 g3
    go_wp2_with fail
    refine HAC.out.mono ?_
    rintro e w3 ⟨rfl, hb3⟩
    have HB := Lib.hid (H2.out.2.trans (hb3.mono H2.out.2.size)); clear hb3 HAC
    go_wp2_with fail
    go_ret
    exact ⟨ret_bool HN.out.symm, HB.out⟩
   |true =>
    rw [g3] at HAC
    have HG3 := Lib.hid g3
    go_wp2_with fail
    refine HAC.out.mono ?_
    rintro e w3 ⟨rfl, hb3⟩
    have hb := H2.out.2.trans (hb3.mono H2.out.2.size)
    have h5 := (hb3.block _ (Array.getElem?_eq_some_iff.1 H2.out.1).1).trans H2.out.1
    have e0 : w3.cell? ⟨w.heap.size, 0, none⟩ = some (.int .i64 n) := cell_of h5 rfl
    have e1 : w3.cell? ⟨w.heap.size, 1, none⟩ = some (.slice WA ws.length wc) := cell_of h5 rfl
    have e2 : w3.cell? ⟨w.heap.size, 2, none⟩ = some (.slice CA cs.length cc) := cell_of h5 rfl
    have H3 := Lib.hid (And.intro h5 hb); clear h5 hb hb3 HAC H2
    by_cases g4 : n = ws.length
    ·have g4' : (n != (ws.length : Int)) = false := by simp [g4]
     by_cases g5 : n = cs.length
     ·have g5' : (n != (cs.length : Int)) = false := by simp [g5]
      have hchk : checkB l xs n ws cs = (waysB l xs ws && deadB l xs cs) := by unfold checkB; simp [g1, g2, g3, ← g4, ← g5]
      have HCH := Lib.hid hchk
      clear hchk g1 g2 g3 g4 g5
      have hsp := spin_any LA c l XA xc xs w3 (Kd.C_below HR.out.1 H3.out.2) (valid_spin HG1.out) (valid_len HG1.out) (Kd.C_below HR.out.2.2.1 H3.out.2) (fun x hx => valid_rng HG1.out HG2.out hx)
      have HSP := Lib.hid hsp; clear hsp
      go_wp2_with fail
      refine HSP.out.mono ?_
      rintro e w4 ⟨nv, rfl, hX, hb4⟩
      obtain ⟨WB, hWB⟩ : ∃ b, w3.heap.size = b := ⟨_, rfl⟩
      rw [hWB] at hX ⊢
      have hb := H3.out.2.trans (hb4.mono H3.out.2.size)
      have h5 := (hb4.block _ (Array.getElem?_eq_some_iff.1 H3.out.1).1).trans H3.out.1
      have e1 : w4.cell? ⟨w.heap.size, 1, none⟩ = some (.slice WA ws.length wc) := cell_of h5 rfl
      have H4 := Lib.hid (And.intro h5 (And.intro hb hX)); clear h5 hb hb4 hX HSP e0 e2 H3 hWB
      go_wp2_with fail
      clear e1
      have hu0 : usedW ws 0 < 4096 := by show orL 0 ((ws.take 0).flatten.map Int.toNat) < 4096; rw [List.take_zero]; decide
      go_loopw [8, 56] (fun uv kv wr => ∃ k : Nat, k ≤ ws.length ∧ uv = .int .u16 ((usedW ws k : Nat) : Int) ∧ kv = .int .i64 k ∧ Hid ((List.range k).all (fun k => wayB l xs (usedW ws k) (ws.getD k [])) = true ∧ usedW ws k < 4096 ∧ Below w4.heap.size w4 wr)) (fun uv kv wr => ws.length - (intOf kv).toNat)
      case atStart => exact ⟨0, Nat.zero_le _, rfl, rfl, Lib.hid ⟨rfl, hu0, Below.refl _ _⟩⟩
      case round =>
       obtain ⟨k, hk, rfl, rfl, HI⟩ := hrel
       by_cases hkl : k < ws.length
       ·have hkI : (k : Int) < (ws.length : Int) := by omega
        obtain ⟨v, hv⟩ : ∃ v, ws[k]? = some v := ⟨_, List.getElem?_eq_getElem hkl⟩
        have hbw := H4.out.2.1.trans (HI.out.2.2.mono H4.out.2.1.size)
        obtain ⟨wd, VA0, vc0, e, xv, hvc, hCv0⟩ := at_W (Kd.C_below HR.out.2.2.2.1 H4.out.2.1) hv
        cases e
        have hCv := hCv0
        have xv := pw_cell_below HI.out.2.2 xv
        have hvm : v.length ≤ 9223372036854775807 := hCv.2.1
        have hus := usedW_succ hv
        have hwk : ∀ b, wayB l xs (usedW ws k) v = b → ((List.range k).all (fun k => wayB l xs (usedW ws k) (ws.getD k [])) = true → (List.range (k + 1)).all (fun k => wayB l xs (usedW ws k) (ws.getD k [])) = b) := fun b hb h => by
         have hg : ws.getD k [] = v := by simp [List.getD, hv]
         rw [List.range_succ, List.all_append, h]
         show (true && (wayB l xs (usedW ws k) (ws.getD k []) && true)) = b
         rw [hg, hb, Bool.true_and, Bool.and_true]
        have hU4 := HI.out.2.1
        obtain ⟨U, hU⟩ : ∃ U, usedW ws k = U := ⟨_, rfl⟩
        have HUU := Lib.hid hU
        rw [hU] at hus hwk hU4 ⊢
        clear hCv0 hbw
        by_cases h0 : v.length = 0
        ·have hz : ((v.length : Int) == 0) = true := by simp [h0]
         have HN := Lib.hid (show checkB l xs n ws cs = false by
          rw [HCH.out, ways_no hv (by rw [HUU.out]; unfold wayB; simp [h0])]; rfl)
         have HBW := Lib.hid (H4.out.2.1.trans (HI.out.2.2.mono H4.out.2.1.size))
         clear h0 hus hwk hU4 hU hv
         go_wp2_with fail
         go_ret
         exact ⟨ret_bool HN.out.symm, HBW.out⟩
        ·have hz : ((v.length : Int) == 0) = false := by simp [h0]
         have HUS := Lib.hid (And.intro hus (And.intro hwk hU4))
         have hv' : ∀ b : Bool, True := fun _ => trivial
         clear hus hwk hv'
         rw [← hU] at hU4
         rw [hU] at hU4
         go_wp2_with fail
         have HII := Lib.hid HI.out; clear HI
         go_loopw [8, 65] (fun uv iv wr => ∃ i : Nat, i ≤ v.length ∧ uv = .int .u16 ((orL U ((v.take i).map Int.toNat) : Nat) : Int) ∧ iv = .int .i64 i ∧ Hid ((List.range i).all (stepB l U v) = true ∧ orL U ((v.take i).map Int.toNat) < 4096 ∧ Below w4.heap.size w4 wr)) (fun uv iv wr => v.length - (intOf iv).toNat)
         case atStart => exact ⟨0, Nat.zero_le _, rfl, rfl, Lib.hid ⟨rfl, hU4, HII.out.2.2⟩⟩
         case round =>
          obtain ⟨i, hi, rfl, rfl, HJ⟩ := hrel
          by_cases hil : i < v.length
          ·have HUV : usedW ws k = U := HUU.out
           clear hU4 h0
           have hiI : (i : Int) < (v.length : Int) := by omega
           have hbw := H4.out.2.1.trans (HJ.out.2.2.mono H4.out.2.1.size)
           obtain ⟨yd, e, hy⟩ := Kd.at_int (xs := v) (n := v.length) (Kd.C_below hCv HJ.out.2.2) (i : Int) (by omega) hiI
           cases e
           simp only [Int.toNat_natCast] at hy
           have hfd := find_any LA c l (rd v (i : Int)) wr (Kd.C_below HR.out.1 hbw) HR.out.2.1
           have HFD := Lib.hid hfd; clear hfd
           obtain ⟨y, hyv⟩ : ∃ y, rd v (i : Int) = y := ⟨_, rfl⟩
           rw [hyv] at hy HFD
           have HCV := Lib.hid hCv
           have HVK := Lib.hid hv
           go_wp2_with fail
           refine HFD.out.mono ?_
           rintro e w5 ⟨fv, rfl, hRf, hb5⟩
           obtain ⟨VA, vc, rfl⟩ := Kd.R_slice hRf
           obtain ⟨s, hs⟩ : ∃ s, (fndS l y).getD s0 = s := ⟨_, rfl⟩
           rw [hs]
           have hbA := HJ.out.2.2.trans ((hb5.alloc hb5.size (.cells #[.int .i64 s.id, .int .i64 s.kind, .slice VA s.frm.length vc] 35)).mono HJ.out.2.2.size)
           clear hb5 hRf hy HFD hbw hs
           generalize s.frm.length = sl at *
           generalize s.id = si at *
           generalize s.kind = sk at *
           have HBA := Lib.hid (And.intro hbA (H4.out.2.1.trans (hbA.mono H4.out.2.1.size))); clear hbA
           cases hth : (fndS l y).isSome with
           |false =>
            have HST : stepB l U v i = false := by unfold stepB; rw [hyv, hth]; rfl
            have HN := Lib.hid (show checkB l xs n ws cs = false by rw [HCH.out, ways_no HVK.out (by rw [HUU.out]; exact step_no hil HST)]; rfl)
            clear HST hth hyv hv hCv
            go_wp2_with fail
            go_ret
            exact ⟨ret_bool HN.out.symm, HBA.out.2⟩
           |true =>
            obtain ⟨Y, rfl, hY⟩ := fnd_nat HG1.out hth
            have hYI : (Y : Int) < 12 := by omega
            have hst : stepB l U v i = (!(orL U ((v.take i).map Int.toNat)).testBit Y && (if i = 0 then (ogL l).testBit Y else (nxL l (rd v (i - 1 : Nat)).toNat).contains Y)) := by unfold stepB; rw [hyv, hth, Int.toNat_natCast, Bool.true_and]
            have hos := orI_step (u := U) hil hyv
            have hu4 := HJ.out.2.1
            obtain ⟨u, hu⟩ : ∃ u, orL U ((v.take i).map Int.toNat) = u := ⟨_, rfl⟩
            rw [hu] at hst hos hu4
            rw [hu]
            have hhas := has_any u Y (by omega) (by omega) (w5.alloc (.cells #[.int .i64 si, .int .i64 sk, .slice VA sl vc] 35))
            have HHAS := Lib.hid hhas
            have HYV := Lib.hid hyv
            clear hhas hu hth hyv
            cases hq1 : u.testBit Y with
            |true =>
             rw [hq1] at HHAS
             have HST : stepB l U v i = false := by rw [hst, hq1]; rfl
             have HN := Lib.hid (show checkB l xs n ws cs = false by rw [HCH.out, ways_no HVK.out (by rw [HUU.out]; exact step_no hil HST)]; rfl)
             clear HST hst hv hCv hq1 hu4 hos
             go_wp2_with fail
             refine HHAS.out.mono ?_
             rintro e w6 ⟨rfl, rfl⟩
             go_wp2_with fail
             go_ret
             exact ⟨ret_bool HN.out.symm, HBA.out.2⟩
            |false =>
             rw [hq1] at HHAS
             rw [hq1, Bool.not_false, Bool.true_and] at hst
             have HOS := Lib.hid (And.intro hos hu4)
             have HOR := Lib.hid (or16 (a := u) (v := Y) (by omega) (by omega))
             have hXA := H4.out.2.2.fr HBA.out.1
             by_cases h0 : i = 0
             ·rw [if_pos h0] at hst
              have hi0 : ((i : Int) == 0) = true := by simp [h0]
              have hi00 : (i == 0) = true := by simp [h0]
              have hg0 : decide ((0 : Int) < (i : Int)) = false := decide_eq_false (by omega)
              have hg00 : decide (0 < i) = false := decide_eq_false (by omega)
              have cO := cell_ext (show (w5.alloc (.cells #[.int .i64 si, .int .i64 sk, .slice VA sl vc] 35)).cell? ⟨WB, 12, none⟩ = some (.int .u16 ((ogL l : Nat) : Int)) from cell_of hXA.blk rfl)
              have hC2 : ∀ Xt : Ext (w5.alloc (.cells #[.int .i64 si, .int .i64 sk, .slice VA sl vc] 35)), Calls Tryd.prog 42 #[.int .u16 ((ogL l : Nat) : Int), .int .i64 (Y : Int)] Xt.val fun e W' => e = .returned (.bool ((ogL l).testBit Y)) ∧ Below Xt.val.heap.size Xt.val W' := fun Xt => by
               refine (has_any (ogL l) Y (by have := valid_og HG1.out; omega) (by omega) Xt.val).mono ?_
               rintro e w' ⟨rfl, rfl⟩
               exact ⟨rfl, Below.refl _ _⟩
              have HC2 := Lib.hid hC2
              clear h0 hC2 hos hu4 hq1 hXA
              cases hq2 : (ogL l).testBit Y with
              |false =>
               rw [hq2] at HC2
               have HST : stepB l U v i = false := by rw [hst, hq2]
               have HN := Lib.hid (show checkB l xs n ws cs = false by rw [HCH.out, ways_no HVK.out (by rw [HUU.out]; exact step_no hil HST)]; rfl)
               clear HST hst hv hCv hq2
               go_wp2_with fail
               refine HHAS.out.mono ?_
               rintro e w6 ⟨rfl, rfl⟩
               go_wp2_with fail
               refine region_ext (by kernel_rfl) (by kernel_rfl) ?_
               repeat (go_big_quiet_step (first | (go_at_call 42; with_reducible exact call_ext (HC2.out _))))
               refine wpQuiet_nil ?_
               rintro W' ⟨X2, rfl⟩
               have HE := Lib.hid (HBA.out.2.trans (X2.2.below (fun _ _ h => h) HBA.out.2.size))
               clear cO HC2
               go_wp2_with fail
               go_ret
               exact ⟨ret_bool HN.out.symm, HE.out⟩
              |true =>
               rw [hq2] at HC2
               have HN := Lib.hid (upto_succ HJ.out.1 (show stepB l U v i = true by rw [hst, hq2]))
               clear hst hq2 hv hCv
               go_wp2_with fail
               refine HHAS.out.mono ?_
               rintro e w6 ⟨rfl, rfl⟩
               go_wp2_with fail
               refine region_ext (by kernel_rfl) (by kernel_rfl) ?_
               repeat (go_big_quiet_step (first | (go_at_call 42; with_reducible exact call_ext (HC2.out _))))
               refine wpQuiet_nil ?_
               rintro W' ⟨X2, rfl⟩
               have HE := Lib.hid (HBA.out.1.trans (X2.2.below (fun _ _ h => h) HBA.out.1.size))
               clear cO HC2
               go_wp2_with fail
               rw [HOR.out]
               go_wp2_with fail
               go_roundw
               case rel => exact ⟨i + 1, by omega, by rw [HOS.out.1], by go_num, Lib.hid ⟨HN.out, by rw [HOS.out.1]; exact Nat.or_lt_two_pow (n := 12) HOS.out.2 (pow_lt12 hY), HE.out⟩⟩
               case measure => exact meas_up1 hil
             ·rw [if_neg h0] at hst
              have hi0 : ((i : Int) == 0) = false := by simp [h0]
              have hi00 : (i == 0) = false := by simp [h0]
              have hg0 : decide ((0 : Int) < (i : Int)) = true := decide_eq_true (by omega)
              have hg00 : decide (0 < i) = true := decide_eq_true (by omega)
              have hwj : wrap64 ((i : Int) - 1) = (i : Int) - 1 := by unfold wrap64; omega
              have htn : ((i : Int) - 1).toNat = i - 1 := by omega
              have hjI : ((i : Int) - 1) < (v.length : Int) := by omega
              have hj0 : (0 : Int) ≤ ((i : Int) - 1) := by omega
              have hjn : ¬ ((i : Int) - 1) < (0 : Int) := by omega
              have hpf := step_fnd HJ.out.1 (i := i - 1) (by omega)
              obtain ⟨pd, e, hp⟩ := Kd.at_int (xs := v) (n := v.length) (Kd.C_below HCV.out HBA.out.1) ((i - 1 : Nat) : Int) (by omega) (by omega)
              cases e
              simp only [Int.toNat_natCast] at hp
              obtain ⟨P, hPe, hP⟩ := fnd_nat HG1.out hpf
              rw [hPe] at hp hst
              rw [Int.toNat_natCast] at hst
              have hPI : (P : Int) < 12 := by omega
              have dp := cell_ext hp
              obtain ⟨NA, nc, cN, hNC⟩ := hXA.web.next P hP
              have dn := cell_ext cN
              have hC2 : ∀ Xt : Ext (w5.alloc (.cells #[.int .i64 si, .int .i64 sk, .slice VA sl vc] 35)), Calls Tryd.prog 44 #[.slice NA (nxL l P).length nc, .int .i64 (Y : Int)] Xt.val fun e W' => e = .returned (.bool ((nxL l P).contains Y)) ∧ Below Xt.val.heap.size Xt.val W' := fun Xt => by
               have hct := containsI_any NA nc ((nxL l P).map Int.ofNat) (Y : Int) Xt.val (by rw [List.length_map]; exact Kd.C_below hNC (Xt.2.below (n := _) (fun _ _ h => h) (Nat.le_refl _)))
               rw [List.length_map, has_cast] at hct
               refine hct.mono ?_
               rintro e w' ⟨rfl, rfl⟩
               exact ⟨rfl, Below.refl _ _⟩
              have HC2 := Lib.hid hC2
              clear h0 hC2 hos hu4 hq1 hXA hp cN hNC hpf hPe
              cases hq2 : (nxL l P).contains Y with
              |false =>
               rw [hq2] at HC2
               have HST : stepB l U v i = false := by rw [hst, hq2]
               have HN := Lib.hid (show checkB l xs n ws cs = false by rw [HCH.out, ways_no HVK.out (by rw [HUU.out]; exact step_no hil HST)]; rfl)
               clear HST hst hv hCv hq2
               go_wp2_with fail
               refine HHAS.out.mono ?_
               rintro e w6 ⟨rfl, rfl⟩
               go_wp2_with fail
               refine region_ext (by kernel_rfl) (by kernel_rfl) ?_
               repeat (go_big_quiet_step (first | (go_at_call 44; with_reducible exact call_ext (HC2.out _))))
               refine wpQuiet_nil ?_
               rintro W' ⟨X2, rfl⟩
               have HE := Lib.hid (HBA.out.2.trans (X2.2.below (fun _ _ h => h) HBA.out.2.size))
               clear dp dn HC2
               go_wp2_with fail
               go_ret
               exact ⟨ret_bool HN.out.symm, HE.out⟩
              |true =>
               rw [hq2] at HC2
               have HN := Lib.hid (upto_succ HJ.out.1 (show stepB l U v i = true by rw [hst, hq2]))
               clear hst hq2 hv hCv
               go_wp2_with fail
               refine HHAS.out.mono ?_
               rintro e w6 ⟨rfl, rfl⟩
               go_wp2_with fail
               refine region_ext (by kernel_rfl) (by kernel_rfl) ?_
               repeat (go_big_quiet_step (first | (go_at_call 44; with_reducible exact call_ext (HC2.out _))))
               refine wpQuiet_nil ?_
               rintro W' ⟨X2, rfl⟩
               have HE := Lib.hid (HBA.out.1.trans (X2.2.below (fun _ _ h => h) HBA.out.1.size))
               clear dp dn HC2
               go_wp2_with fail
               rw [HOR.out]
               go_wp2_with fail
               go_roundw
               case rel => exact ⟨i + 1, by omega, by rw [HOS.out.1], by go_num, Lib.hid ⟨HN.out, by rw [HOS.out.1]; exact Nat.or_lt_two_pow (n := 12) HOS.out.2 (pow_lt12 hY), HE.out⟩⟩
               case measure => exact meas_up1 hil
          ·obtain rfl : i = v.length := by omega
           have hall := HJ.out.1
           have hu4' := HJ.out.2.1
           rw [List.take_length] at hu4' ⊢
           have hlast := step_fnd hall (i := v.length - 1) (by omega)
           obtain ⟨Z, hZe, hZ⟩ := fnd_nat HG1.out hlast
           have hwb : wayB l xs U v = (sdL xs).testBit Z := by
            unfold wayB
            rw [hall, hZe, Int.toNat_natCast]
            simp [Nat.pos_of_ne_zero h0]
           obtain ⟨zd, e, hz⟩ := Kd.at_int (xs := v) (n := v.length) (Kd.C_below hCv HJ.out.2.2) ((v.length - 1 : Nat) : Int) (by omega) (by omega)
           cases e
           simp only [Int.toNat_natCast] at hz
           rw [hZe] at hz
           have hXr := H4.out.2.2.fr HJ.out.2.2
           have cS := cell_ext (show wr.cell? ⟨WB, 13, none⟩ = some (.int .u16 ((sdL xs : Nat) : Int)) from cell_of hXr.blk rfl)
           have dz := cell_ext hz
           have hwl : wrap64 ((v.length : Int) - 1) = (v.length : Int) - 1 := by unfold wrap64; omega
           have htn : ((v.length : Int) - 1).toNat = v.length - 1 := by omega
           have hl0 : (0 : Int) ≤ (v.length : Int) - 1 := by omega
           have hl1 : (v.length : Int) - 1 < (v.length : Int) := by omega
           have hC2 : ∀ Xt : Ext wr, Calls Tryd.prog 42 #[.int .u16 ((sdL xs : Nat) : Int), .int .i64 (Z : Int)] Xt.val fun e W' => e = .returned (.bool ((sdL xs).testBit Z)) ∧ Below Xt.val.heap.size Xt.val W' := fun Xt => by
            refine (has_any (sdL xs) Z (by have := valid_sd HG1.out HG2.out; omega) (by omega) Xt.val).mono ?_
            rintro e w' ⟨rfl, rfl⟩
            exact ⟨rfl, Below.refl _ _⟩
           have HC2 := Lib.hid hC2
           have HBW := Lib.hid (H4.out.2.1.trans (HJ.out.2.2.mono H4.out.2.1.size))
           have HU4 := Lib.hid hu4'
           have HVV := Lib.hid hv
           clear hC2 hz hXr hlast hZe hall hu4' hCv hv hU4 h0
           cases hq : (sdL xs).testBit Z with
           |false =>
            rw [hq] at HC2
            have HN := Lib.hid (show checkB l xs n ws cs = false by rw [HCH.out, ways_no HVV.out (by rw [HUU.out, hwb, hq])]; rfl)
            clear hq hwb hU
            go_wp2_with fail
            refine region_ext (by kernel_rfl) (by kernel_rfl) ?_
            repeat (go_big_quiet_step (first | (go_at_call 42; with_reducible exact call_ext (HC2.out _))))
            refine wpQuiet_nil ?_
            rintro W' ⟨X2, rfl⟩
            have HE := Lib.hid (HBW.out.trans (X2.2.below (fun _ _ h => h) HBW.out.size))
            clear cS dz HC2
            go_wp2_with fail
            go_ret
            exact ⟨ret_bool HN.out.symm, HE.out⟩
           |true =>
            rw [hq] at HC2
            have HN := Lib.hid (HUS.out.2.1 true (by rw [hwb, hq]) HII.out.1)
            clear hq hwb hU
            go_wp2_with fail
            refine region_ext (by kernel_rfl) (by kernel_rfl) ?_
            repeat (go_big_quiet_step (first | (go_at_call 42; with_reducible exact call_ext (HC2.out _))))
            refine wpQuiet_nil ?_
            rintro W' ⟨X2, rfl⟩
            have HE := Lib.hid (HJ.out.2.2.trans (X2.2.below (fun _ _ h => h) HJ.out.2.2.size))
            clear cS dz HC2
            go_wp2_with fail
            go_roundw
            case rel => exact ⟨k + 1, by omega, by rw [HUS.out.1], by go_num, Lib.hid ⟨HN.out, by rw [HUS.out.1]; exact HU4.out, HE.out⟩⟩
            case measure => exact meas_up1 hkl
       ·obtain rfl : k = ws.length := by omega
        have hbw := H4.out.2.1.trans (HI.out.2.2.mono H4.out.2.1.size)
        have hA := (HI.out.2.2.block _ (Array.getElem?_eq_some_iff.1 H4.out.1).1).trans H4.out.1
        have e2 : wr.cell? ⟨w.heap.size, 2, none⟩ = some (.slice CA cs.length cc) := cell_of hA rfl
        have hww : waysB l xs ws = true := HI.out.1
        have HWW := Lib.hid hww
        have HI3 := Lib.hid HI.out.2.2
        clear hbw hA hww HI
        go_wp2_with fail
        go_loopw [15, 134] (fun uv jv W => ∃ j : Nat, j ≤ cs.length ∧ uv = .int .u16 ((sdL (cs.take j) : Nat) : Int) ∧ jv = .int .i64 j ∧ Hid (Below w4.heap.size w4 W)) (fun uv jv W => cs.length - (intOf jv).toNat)
        case atStart => exact ⟨0, Nat.zero_le _, rfl, rfl, HI3⟩
        case round =>
         obtain ⟨j, hj, rfl, rfl, HJ⟩ := hrel
         by_cases hjl : j < cs.length
         ·have hjI : (j : Int) < (cs.length : Int) := by omega
          have hbw := H4.out.2.1.trans (HJ.out.mono H4.out.2.1.size)
          obtain ⟨yd, e, hy⟩ := Kd.at_int (xs := cs) (n := cs.length) (Kd.C_below HR.out.2.2.2.2.1 hbw) (j : Int) (by omega) hjI
          cases e
          simp only [Int.toNat_natCast] at hy
          have hy12 := valid_rng HG1.out HG3.out (List.getElem_mem hjl)
          obtain ⟨v, hvv⟩ : ∃ v : Nat, cs[j] = (v : Int) := ⟨cs[j].toNat, by omega⟩
          have hrd : rd cs (j : Int) = (v : Int) := by simp [rd, hjl, hvv]
          rw [hrd] at hy
          rw [hvv] at hy12
          have hv12 : v < 12 := by omega
          have hst : sdL (cs.take (j + 1)) = sdL (cs.take j) ||| 2 ^ v := by unfold sdL; rw [List.take_succ_eq_append_getElem hjl, List.map_append, hvv, show ([(v : Int)].map Int.toNat) = [v] from rfl, orL_snoc]
          have h4 : sdL (cs.take j) < 4096 := orL_lt (by decide) (fun y hy => by
           obtain ⟨z, hz, rfl⟩ := List.mem_map.1 hy
           have := valid_rng HG1.out HG3.out (List.mem_of_mem_take hz)
           omega)
          obtain ⟨SD, hSD⟩ : ∃ SD, sdL (cs.take j) = SD := ⟨_, rfl⟩
          rw [hSD] at hst h4 ⊢
          have HOR := Lib.hid (or16 (a := SD) (v := v) (by omega) (by omega))
          have HST := Lib.hid hst
          clear hst hSD hy12 hvv hrd h4 hbw
          go_wp2_with fail
          rw [HOR.out]
          go_wp2_with fail
          go_roundw
          case rel => exact ⟨j + 1, by omega, by rw [HST.out], by go_num, HJ⟩
          case measure => exact meas_up1 hjl
         ·obtain rfl : j = cs.length := by omega
          rw [List.take_length]
          have hXr := H4.out.2.2.fr HJ.out
          have hbw := H4.out.2.1.trans (HJ.out.mono H4.out.2.1.size)
          have cS := cell_ext (show wr.cell? ⟨WB, 13, none⟩ = some (.int .u16 ((sdL xs : Nat) : Int)) from cell_of hXr.blk rfl)
          have hC1 : ∀ Xt : Ext wr, Calls Tryd.prog 41 #[.pointer (some ⟨WB, 0, none⟩), .int .u16 ((sdL cs : Nat) : Int)] Xt.val fun e W' => e = .returned (.int .u16 ((setOf (rchB (nxL l) (sdL xs) (ogL l) (sdL cs)) : Nat) : Int)) ∧ Below Xt.val.heap.size Xt.val W' := fun Xt => by
           have hbt := Xt.2.below (n := wr.heap.size) (fun _ _ h => h) (Nat.le_refl _)
           have h := reached_val WB (nxL l) (ogL l) (sdL xs) 0 (sdL cs) Xt.val (hXr.fr hbt).web (valid_nx HG1.out) (HR.out.2.2.2.2.2.next (hbw.trans (hbt.mono hbw.size)) HR.out.2.2.2.2.2.pos) (valid_og HG1.out) (by decide) (valid_sd HG1.out HG3.out)
           rw [Nat.or_zero] at h
           exact h
          have hR4 := setOf_lt (rchB (nxL l) (sdL xs) (ogL l) (sdL cs))
          have hdd : deadB l xs cs = decide (setOf (rchB (nxL l) (sdL xs) (ogL l) (sdL cs)) &&& sdL xs = 0) := rfl
          obtain ⟨R, hRe⟩ : ∃ R, setOf (rchB (nxL l) (sdL xs) (ogL l) (sdL cs)) = R := ⟨_, rfl⟩
          rw [hRe] at hC1 hR4 hdd
          have HC1 := Lib.hid hC1
          have HN := Lib.hid (show (Go.bits .and .u16 (R : Int) ((sdL xs : Nat) : Int) == 0) = checkB l xs n ws cs by
           rw [and16 (by omega) (by have := valid_sd HG1.out HG2.out; omega), HCH.out, HWW.out, hdd, Bool.true_and])
          have HBW := Lib.hid hbw
          clear hC1 hR4 hdd hRe hbw hXr
          go_wp2_with fail
          refine region_ext (by kernel_rfl) (by kernel_rfl) ?_
          repeat (go_big_quiet_step (first | (go_at_call 41; with_reducible exact call_ext (HC1.out _))))
          refine wpQuiet_nil ?_
          rintro W' ⟨X2, rfl⟩
          have HE := Lib.hid (HBW.out.trans (X2.2.below (fun _ _ h => h) HBW.out.size))
          clear cS HC1
          go_wp2_with fail
          go_ret
          exact ⟨ret_bool HN.out, HE.out⟩
     ·have g5' : (n != (cs.length : Int)) = true := by simp [g5]
      have HN := Lib.hid (show checkB l xs n ws cs = false by unfold checkB; simp [g5])
      clear g1 g2 g3 g4 g5
      go_wp2_with fail
      go_ret
      exact ⟨ret_bool HN.out.symm, H3.out.2⟩
    ·have g4' : (n != (ws.length : Int)) = true := by simp [g4]
     have HN := Lib.hid (show checkB l xs n ws cs = false by unfold checkB; simp [g4])
     clear g1 g2 g3 g4
     go_wp2_with fail
     go_ret
     exact ⟨ret_bool HN.out.symm, H3.out.2⟩
end Go.Proofs.YticngcjfofcoiaaDoor
