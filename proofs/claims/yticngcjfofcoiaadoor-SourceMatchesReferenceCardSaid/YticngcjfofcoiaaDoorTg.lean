/- The contract of the reference's Check. -/
import Derived.Test.YticngcjfofcoiaaDoorZg
namespace Go.Proofs.YticngcjfofcoiaaDoor
open Go.RowKit Go.Rg Go.Proofs.YticngcjfofcoiaaDoorW.PrintWords
set_option linter.unusedVariables false
set_option linter.unusedSimpArgs false
set_option maxRecDepth 100000
structure KX (w : World) (A : Option Addr) (c : Nat) (l : List Src) (B : Option Addr) (d : Nat) (xs : List Int) (b : Nat) (n : Int) (WA : Option Addr) (wc : Nat) (ws : List (List Int)) (CA : Option Addr) (cc : Nat) (cs : List Int) (W : World) : Prop where
 below : Below w.heap.size w W
 src : SrcAt A c l W
 int : IntAt B d xs W
 rows : kW.C W WA ws.length ws
 cut : (Kd.int .i64).C W CA cs.length cs
 box : W.heap[b]? = some (.cells #[.int .i64 n, .slice WA ws.length wc, .slice CA cs.length cc] 30)
theorem KX.next {w : World} {A : Option Addr} {c : Nat} {l : List Src} {B : Option Addr} {d : Nat} {xs : List Int} {b : Nat} {n : Int} {WA : Option Addr} {wc : Nat} {ws : List (List Int)} {CA : Option Addr} {cc : Nat} {cs : List Int} {W W' : World} (h : KX w A c l B d xs b n WA wc ws CA cc cs W) (hb : Below W.heap.size W W') : KX w A c l B d xs b n WA wc ws CA cc cs W' :=
 ⟨h.below.trans (hb.mono h.below.size), h.src.next hb, h.int.next hb, Kd.C_below h.rows hb, Kd.C_below h.cut hb, (hb.block _ (Array.getElem?_eq_some_iff.1 h.box).1).trans h.box⟩
set_option maxHeartbeats 2000000 in
theorem rcheck_any (A : Option Addr) (c : Nat) (l : List Src) (B : Option Addr) (d : Nat) (xs : List Int) (n : Int) (WA : Option Addr) (wc : Nat) (ws : List (List Int)) (CA : Option Addr) (cc : Nat) (cs : List Int) (w : World) (hs : SrcAt A c l w) (hx : IntAt B d xs w) (hw : kW.C w WA ws.length ws) (hc : (Kd.int .i64).C w CA cs.length cs) :
  Calls Tryd.prog 30 #[.slice A l.length c, .slice B xs.length d, .agg #[.int .i64 n, .slice WA ws.length wc, .slice CA cs.length cc]] w fun e w' => e = .returned (.bool (checkB l xs n ws cs)) ∧ Below w.heap.size w w' := by
 have hml := max_len hs.rl
 have hmx := max_len hx.rx
 have hmw := max_len hw
 have hmc := max_len hc
 obtain ⟨b, hb⟩ : ∃ b, w.heap.size = b := ⟨_, rfl⟩
 have hA := (Below.refl w.heap.size w).alloc (Nat.le_refl _) (.cells #[.int .i64 n, .slice WA ws.length wc, .slice CA cs.length cc] 30)
 have k0 := heap_new (W := w) (o := (.cells #[.int .i64 n, .slice WA ws.length wc, .slice CA cs.length cc] 30)) hb
 obtain ⟨w1, hw1⟩ : ∃ W, w.alloc (.cells #[.int .i64 n, .slice WA ws.length wc, .slice CA cs.length cc] 30) = W := ⟨_, rfl⟩
 rw [hw1] at hA k0
 have H1 := Lib.hid (show KX w A c l B d xs b n WA wc ws CA cc cs w1 from ⟨hA, hs.next hA, hx.next hA, Kd.C_below hw hA, Kd.C_below hc hA, k0⟩); clear hA k0 hs hx hw hc
 have HVC := Lib.hid (rvalid_any A c l w1 H1.out.src.rl H1.out.src.short)
 go_enter Tryd.func30, Tryd.ntmps30
 go_wp2_with fail
 clear hw1
 refine HVC.out.mono ?_
 rintro e w2 ⟨rfl, hb2⟩
 have H2 := Lib.hid (H1.out.next hb2); clear hb2 H1 HVC
 cases hv : validS l with
 |false =>
  have HN := Lib.hid (show checkB l xs n ws cs = false by unfold checkB; rw [hv]; rfl)
  go_wp2_with fail
  go_ret
  exact ⟨ret_bool HN.out.symm, H2.out.below⟩
 |true =>
  have HAC := Lib.hid (rasrt_any A c l B d xs w2 H2.out.src.rl H2.out.int.rx)
  go_wp2_with fail
  refine HAC.out.mono ?_
  rintro e w3 ⟨rfl, hb3⟩
  have H3 := Lib.hid (H2.out.next hb3); clear hb3 H2 HAC
  cases ha : asrt l xs with
  |false =>
   have HN := Lib.hid (show checkB l xs n ws cs = false by unfold checkB; rw [ha]; simp)
   go_wp2_with fail
   go_ret
   exact ⟨ret_bool HN.out.symm, H3.out.below⟩
  |true =>
   have HG := Lib.hid (And.intro hv ha); clear hv ha
   have c0 := cell_of (o := 0) H3.out.box rfl
   have c1 := cell_of (o := 1) H3.out.box rfl
   have c2 := cell_of (o := 2) H3.out.box rfl
   by_cases hn1 : n = (ws.length : Int)
   ·have hb1 : (n != (ws.length : Int)) = false := by rw [bneD]; exact decide_eq_false (fun h => h hn1)
    by_cases hn2 : n = (cs.length : Int)
    ·have hb2 : (n != (cs.length : Int)) = false := by rw [bneD]; exact decide_eq_false (fun h => h hn2)
     have HNN := Lib.hid (And.intro hn1 hn2); clear hn1 hn2
     have HAC := Lib.hid (rasrt_any A c l CA cc cs w3 H3.out.src.rl H3.out.cut)
     go_wp2_with fail
     refine HAC.out.mono ?_
     rintro e w4 ⟨rfl, hb4⟩
     have H4 := Lib.hid (H3.out.next hb4); clear hb4 H3 HAC c0 c1 c2 hb1 hb2
     cases hca : asrt l cs with
     |false =>
      have HN := Lib.hid (show checkB l xs n ws cs = false by unfold checkB; rw [hca]; simp)
      go_wp2_with fail
      go_ret
      exact ⟨ret_bool HN.out.symm, H4.out.below⟩
     |true =>
      have HCA := Lib.hid hca; clear hca
      go_wp2_with fail
      go_loopw [7, 8] (fun uv kv W => ∃ k u : Nat, k ≤ ws.length ∧ kv = .int .i64 k ∧ uv = .int .i64 (u : Int) ∧ Hid (u = usedW ws k ∧ KX w A c l B d xs b n WA wc ws CA cc cs W ∧ ((List.range k).all fun k => wayB l xs (usedW ws k) (ws.getD k [])) = true ∧ u < 4096)) (fun uv kv W => ws.length - (intOf kv).toNat)
      case atStart => exact ⟨0, 0, Nat.zero_le _, rfl, rfl, Lib.hid ⟨rfl, H4.out, rfl, by decide⟩⟩
      case round =>
       clear H4
       obtain ⟨k, u, hk, rfl, rfl, HI⟩ := hrel
       have c1 := cell_of (o := 1) HI.out.2.1.box rfl
       by_cases hlt : k < ws.length
       ·have hltI : (k : Int) < (ws.length : Int) := by omega
        obtain ⟨v, hv⟩ : ∃ v, ws[k]? = some v := ⟨_, List.getElem?_eq_getElem hlt⟩
        obtain ⟨ad, VA, vc, e, xv, hvc, hCv⟩ := at_W HI.out.2.1.rows hv
        cases e
        have hgd : ws.getD k [] = v := by simp [List.getD, hv]
        have HV := Lib.hid (And.intro hv (And.intro hgd hCv))
        have HWY := Lib.hid (way_any A c l B d xs VA vc v wr HI.out.2.1.src HI.out.2.1.int.rx hCv)
        have hmv := max_len hCv
        clear hv hgd hCv
        go_wp2_with fail
        refine HWY.out.mono ?_
        rintro e w5 ⟨rfl, hb5⟩
        have H5 := Lib.hid (And.intro (HI.out.2.1.next hb5) (And.intro (Kd.C_below HV.out.2.2 hb5) (pw_cell_below hb5 xv))); clear hb5 xv c1 HWY
        cases hwr : wayR l xs v with
        |false =>
         have HN := Lib.hid (show checkB l xs n ws cs = false by
          have h1 : wayB l xs (usedW ws k) v = false := by rw [way_eq HG.out.1 HG.out.2, hwr]; rfl
          unfold checkB
          rw [ways_no HV.out.1 h1]; simp)
         clear hwr
         go_wp2_with fail
         go_ret
         exact ⟨ret_bool HN.out.symm, H5.out.1.below⟩
        |true =>
         have HW := Lib.hid hwr; clear hwr
         have HU := Lib.hid HI.out.2.2.2
         go_wp2_with fail
         go_loopw [7, 9] (fun uv jv W => ∃ j t : Nat, j ≤ v.length ∧ jv = .int .i64 j ∧ uv = .int .i64 (t : Int) ∧ Hid (t = orL u ((v.take j).map Int.toNat) ∧ W = w5 ∧ ∀ i : Nat, i < j → u.testBit (rd v i).toNat = false)) (fun uv jv W => v.length - (intOf jv).toNat)
         case atStart => exact ⟨0, u, Nat.zero_le _, rfl, rfl, Lib.hid ⟨rfl, rfl, fun i hi => by omega⟩⟩
         case round =>
          obtain ⟨j, t, hj, rfl, rfl, HJ⟩ := hrel
          have hww : wr = w5 := HJ.out.2.1
          subst hww
          have c1 := cell_of (o := 1) H5.out.1.box rfl
          have xv := H5.out.2.2
          by_cases hjl : j < v.length
          ·have hjI : (j : Int) < (v.length : Int) := by omega
           obtain ⟨fd, e, xy⟩ := Kd.at_int H5.out.2.1 (j : Int) (by omega) hjI
           cases e
           simp only [Int.toNat_natCast] at xy
           have hyp := fnd_pos HG.out.1 (way_fnd HW.out hjl)
           obtain ⟨Y, hY⟩ : ∃ Y : Nat, rd v (j : Int) = Y := ⟨(rd v (j : Int)).toNat, by omega⟩
           rw [hY] at xy hyp
           have ht4 : t < 4096 := by rw [HJ.out.1]; exact used_lt HG.out.1 HW.out HU.out j
           have hbit : t.testBit Y = u.testBit Y := by
            rw [HJ.out.1, orL_bit]
            have h1 := way_once HW.out hjl
            have h2 : ((v.take j).map Int.toNat).contains Y = false := by
             rw [← Bool.not_eq_true, List.contains_iff_mem, List.mem_map]
             rintro ⟨z, hz, e⟩
             obtain ⟨m, hm1, hm2⟩ := List.mem_take_iff_getElem.1 hz
             have h3 := fnd_pos HG.out.1 (way_fnd HW.out (show m < v.length by omega))
             rw [rd_at (by omega), hm2] at h3
             rw [← Bool.not_eq_true, List.contains_iff_mem, hY, show (Y : Int) = z by omega] at h1
             exact h1 hz
            rw [h2, Bool.or_false]
           have HHS := Lib.hid (rhas_any t Y ht4 (by omega) wr)
           have HBI := Lib.hid (rbit_any Y (by omega) wr)
           have HY := Lib.hid (And.intro hY (And.intro hbit (And.intro hyp ht4)))
           clear hY hbit hyp ht4
           go_wp2_with fail
           refine HHS.out.mono ?_
           rintro e w6 ⟨rfl, rfl⟩
           cases hb : t.testBit Y with
           |true =>
            have HN := Lib.hid (show checkB l xs n ws cs = false by
             have h1 : wayB l xs (usedW ws k) v = false := by
              rw [way_eq HG.out.1 HG.out.2, ← HI.out.1]
              have h2 : (v.all fun y => !u.testBit y.toNat) = false := by
               rw [← Bool.not_eq_true, rd_all]
               intro h
               have h3 := h j hjl
               rw [HY.out.1, Int.toNat_natCast, ← HY.out.2.1, hb] at h3
               cases h3
              rw [h2]; simp
             unfold checkB
             rw [ways_no HV.out.1 h1]; simp)
            clear hb
            go_wp2_with fail
            go_ret
            exact ⟨ret_bool HN.out.symm, H5.out.1.below⟩
           |false =>
            have HSU := Lib.hid (show orL u ((v.take (j + 1)).map Int.toNat) = t + 2 ^ Y by
             have h := used_add HG.out.1 HW.out hjl HU.out (by rw [HY.out.1, Int.toNat_natCast, ← HY.out.2.1, hb]) (by rw [← HJ.out.1]; exact HY.out.2.2.2)
             rw [h, ← HJ.out.1, HY.out.1, Int.toNat_natCast])
            have hlt2 := used_lt HG.out.1 HW.out HU.out (j + 1)
            rw [HSU.out] at hlt2
            have HNB := Lib.hid (show ∀ i : Nat, i < j + 1 → u.testBit (rd v i).toNat = false from fun i hi => by
             rcases Nat.lt_or_ge i j with h | h
             ·exact HJ.out.2.2 i h
             ·obtain rfl : i = j := by omega
              rw [HY.out.1, Int.toNat_natCast, ← HY.out.2.1, hb])
            clear hb
            obtain ⟨q, hq⟩ : ∃ q, 2 ^ Y = q := ⟨_, rfl⟩
            rw [hq] at HBI HSU hlt2
            have hwrap : wrap64 ((t : Int) + (q : Int)) = ((t + q : Nat) : Int) := by unfold wrap64; omega
            have HWP := Lib.hid hwrap
            clear hq hwrap hlt2
            go_wp2_with fail
            refine HBI.out.mono ?_
            rintro e w7 ⟨rfl, rfl⟩
            go_wp2_with fail
            go_roundw
            case rel => exact ⟨j + 1, t + q, by omega, by go_num, by first | rw [HWP.out] | rfl, Lib.hid ⟨HSU.out.symm, by first | trivial | rfl, HNB.out⟩⟩
            case measure => exact meas_up1 hjl
          ·obtain rfl : j = v.length := by omega
           have HN := Lib.hid (show t = usedW ws (k + 1) by rw [usedW_succ HV.out.1, ← HI.out.1, HJ.out.1, List.take_length])
           have HOK := Lib.hid (upto_succ HI.out.2.2.1 (show wayB l xs (usedW ws k) (ws.getD k []) = true by
            rw [HV.out.2.1, way_eq HG.out.1 HG.out.2, HW.out, Bool.true_and, rd_all]
            intro i hi
            rw [← HI.out.1, HJ.out.2.2 i hi]; rfl))
           have HT4 := Lib.hid (show t < 4096 by rw [HJ.out.1]; exact used_lt HG.out.1 HW.out HU.out _)
           go_wp2_with fail
           go_roundw
           case rel => exact ⟨k + 1, t, by omega, by go_num, rfl, Lib.hid ⟨HN.out, H5.out.1, HOK.out, HT4.out⟩⟩
           case measure => exact meas_up1 hlt
       ·obtain rfl : k = ws.length := by omega
        have HWS := Lib.hid (show waysB l xs ws = true from HI.out.2.2.1)
        have H6 := Lib.hid HI.out.2.1; clear HI
        go_wp2_with fail
        go_loopw [10, 11] (fun uv jv W => ∃ j t : Nat, j ≤ cs.length ∧ jv = .int .i64 j ∧ uv = .int .i64 (t : Int) ∧ Hid (t = sdL (cs.take j) ∧ W = wr)) (fun uv jv W => cs.length - (intOf jv).toNat)
        case atStart => exact ⟨0, 0, Nat.zero_le _, rfl, rfl, Lib.hid ⟨rfl, rfl⟩⟩
        case round =>
         obtain ⟨j, t, hj, rfl, rfl, HJ⟩ := hrel
         have hww := HJ.out.2
         subst hww
         have c2 := cell_of (o := 2) H6.out.box rfl
         by_cases hjl : j < cs.length
         ·have hjI : (j : Int) < (cs.length : Int) := by omega
          obtain ⟨fd, e, xy⟩ := Kd.at_int H6.out.cut (j : Int) (by omega) hjI
          cases e
          simp only [Int.toNat_natCast] at xy
          have hyp := valid_rng HG.out.1 HCA.out (show rd cs j ∈ cs by rw [rd_at hjl]; exact List.getElem_mem hjl)
          obtain ⟨Y, hY⟩ : ∃ Y : Nat, rd cs (j : Int) = Y := ⟨(rd cs (j : Int)).toNat, by omega⟩
          rw [hY] at xy hyp
          have HBI := Lib.hid (rbit_any Y (by omega) wr)
          have HSU := Lib.hid (show sdL (cs.take (j + 1)) = t + 2 ^ Y by
           have h := cut_add HG.out.1 HCA.out hjl
           rw [h, ← HJ.out.1, hY, Int.toNat_natCast])
          have hlt2 := sdL_lt HG.out.1 HCA.out (j + 1)
          rw [HSU.out] at hlt2
          obtain ⟨q, hq⟩ : ∃ q, 2 ^ Y = q := ⟨_, rfl⟩
          rw [hq] at HBI HSU hlt2
          have hwrap : wrap64 ((t : Int) + (q : Int)) = ((t + q : Nat) : Int) := by unfold wrap64; omega
          have HWP := Lib.hid hwrap
          clear hq hwrap hlt2 hY hyp
          go_wp2_with fail
          refine HBI.out.mono ?_
          rintro e w7 ⟨rfl, rfl⟩
          go_wp2_with fail
          go_roundw
          case rel => exact ⟨j + 1, t + q, by omega, by go_num, by first | rw [HWP.out] | rfl, Lib.hid ⟨HSU.out.symm, by first | trivial | rfl⟩⟩
          case measure => exact meas_up1 hjl
         ·obtain rfl : j = cs.length := by omega
          have hts := HJ.out.1
          rw [List.take_length] at hts
          have HCU := Lib.hid (cuts_any A c l B d xs t wr H6.out.src H6.out.int (yes_given HG.out.1 HG.out.2) (by have h := sdL_lt HG.out.1 HCA.out cs.length; rw [List.take_length, ← hts] at h; exact h))
          have HN := Lib.hid (show checkB l xs n ws cs = cutX l xs t by unfold checkB; rw [HG.out.1, HG.out.2, HCA.out, HWS.out, decide_eq_true HNN.out.1, decide_eq_true HNN.out.2, dead_eq, hts]; rfl)
          clear hts
          obtain ⟨q, hq⟩ : ∃ q, cutX l xs t = q := ⟨_, rfl⟩
          rw [hq] at HCU HN
          clear hq
          go_wp2_with fail
          refine HCU.out.mono ?_
          rintro e w8 ⟨rfl, rfl⟩
          go_wp2_with fail
          go_ret
          exact ⟨ret_bool HN.out.symm, H6.out.below⟩
    ·have hb2 : (n != (cs.length : Int)) = true := by rw [bneD]; exact decide_eq_true hn2
     have HN := Lib.hid (show checkB l xs n ws cs = false by unfold checkB; rw [decide_eq_false hn2]; simp); clear hn1 hn2
     go_wp2_with fail
     go_ret
     exact ⟨ret_bool HN.out.symm, H3.out.below⟩
   ·have hb1 : (n != (ws.length : Int)) = true := by rw [bneD]; exact decide_eq_true hn1
    have HN := Lib.hid (show checkB l xs n ws cs = false by unfold checkB; rw [decide_eq_false hn1]; simp); clear hn1
    go_wp2_with fail
    go_ret
    exact ⟨ret_bool HN.out.symm, H3.out.below⟩
end Go.Proofs.YticngcjfofcoiaaDoor
