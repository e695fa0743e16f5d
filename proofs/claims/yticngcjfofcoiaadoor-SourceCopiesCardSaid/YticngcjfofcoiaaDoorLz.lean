/- The walk of SourceCopies. -/
import Derived.Test.YticngcjfofcoiaaDoorCp
namespace Go.Proofs.YticngcjfofcoiaaDoor
open Go.RowKit Go.Rg Go.Proofs.YticngcjfofcoiaaDoorW.PrintWords
set_option linter.unusedVariables false
set_option linter.unusedSimpArgs false
set_option maxRecDepth 100000
set_option maxHeartbeats 8000000 in
theorem Copies_walk (XA : Option Addr) (xc : Nat) (x : List (Int × Int × Int)) (set which : Int) (w : World) (hx : Kd.C k3 w XA x.length x) (hT : Tab w) (hwh : (Lit.int .i64 which).wf = true) :
    Calls Tryd.prog 7 #[.slice XA x.length xc, .int .i64 set, .int .i64 which] w fun e w' => e = .returned (.bool true) ∧ Below w.heap.size w w' := by
  have HIN := Lib.hid (And.intro hx hT); clear hx hT
  have HWH := Lib.hid hwh; clear hwh
  go_enter Tryd.func7, Tryd.ntmps7
  go_wp2_with fail
  refine (sane_any w HIN.out.2).mono ?_
  rintro e w1 ⟨rfl, hb⟩
  have HB := Lib.hid hb; clear hb
  go_wp2_with fail
  refine (made_callR XA xc x w1 (Kd.C_below HIN.out.1 HB.out)).mono ?_
  rintro e w2 ⟨A, c, l, rfl, HM⟩
  have HB2 := Lib.hid (HB.out.trans (HM.out.2.2.2.mono HB.out.size))
  have HL := Lib.hid (And.intro HM.out.2.1 HM.out.2.2.1)
  have HS := Lib.hid (SrcRow.mk (Kd.R_mono (Kd.R_lower HM.out.1 HB.out.size) (fun k hk => trivial))); clear HM HB
  go_wp2_with fail
  refine (chosen_call l.length (by have := HL.out.2; omega) set w2).mono ?_
  rintro e w3 ⟨B, d, xs, rfl, HC⟩
  have HC2 := Lib.hid HC.out.2.1
  have HXL := Lib.hid HC.out.2.2.1
  have HB3 := Lib.hid (HB2.out.trans (HC.out.2.2.2.mono HB2.out.size))
  have HSR := Lib.hid (HS.out.next HC.out.2.2.2)
  have HX := Lib.hid (show HX w A c l B d xs w3 from ⟨HB3.out, HIN.out.2.next HB3.out HIN.out.2.pos, by
    obtain ⟨A', c', e', hc', hC'⟩ := Kd.R_reads HSR.out.r
    cases e'
    exact ⟨hC', hc', made_short HL.out.1⟩, HC.out.1⟩); clear HB2 HB3 HS HC HIN
  have HG := Lib.hid (made_given HL.out.1 HL.out.2 HC2.out)
  go_wp2_with fail
  refine (sup_call HX.out.src HX.out.int HX.out.tab HG.out).mono ?_
  rintro e w4 ⟨n1, Wn1, wcn1, Cn1, ccn1, rfl, HQ⟩
  have HB := Lib.hid HQ.out.2
  have H1 := Lib.hid HQ.out.1; clear HQ
  have H_ := Lib.hid (HX.out.next HB.out); clear HX; have HX := H_; clear H_
  have H_ := Lib.hid (HSR.out.next HB.out); clear HSR; have HSR := H_; clear H_
  clear HB
  obtain ⟨b9, hb9⟩ : ∃ b, w4.heap.size = b := ⟨_, rfl⟩
  have hbx := box_new (W := w4) n1 Wn1 wcn1 Cn1 ccn1 hb9
  obtain ⟨w5, hw5⟩ : ∃ W2, w4.alloc (.cells #[.int .i64 n1, .slice Wn1 n1 wcn1, .slice Cn1 n1 ccn1] 30) = W2 := ⟨_, rfl⟩
  rw [hw5] at hbx
  have HB := Lib.hid hbx.1
  have Hb9 := Lib.hid (BlkAt.mk hbx.2); clear hbx
  have H_ := Lib.hid (HX.out.next HB.out); clear HX; have HX := H_; clear H_
  have H_ := Lib.hid (HSR.out.next HB.out); clear HSR; have HSR := H_; clear H_
  have H_ := Lib.hid (H1.out.next HB.out); clear H1; have H1 := H_; clear H_
  clear HB
  by_cases hx0 : xs.length = 0
  · have hd0 : decide (0 < xs.length) = false := decide_eq_false (by omega)
    clear hx0
    go_wp2_with fail
    clear hd0
    have H0 := Lib.hid (Below.refl w5.heap.size w5)
    have hm : xs.length ≤ 10 := by have := HL.out.2; have := HXL.out; omega
    have HMX := Lib.hid hm; clear hm
    have hmx := max_len HX.out.int.rx
    go_loopw [14, 15] (fun lv iv W => ∃ i : Nat, i ≤ xs.length ∧ iv = .int .i64 i ∧ Hid ((Kd.int .i64).R 3 W w5.heap.size (fun k => w5.heap.size ≤ k) lv (ownL l (xs.take i)) ∧ Below w5.heap.size w5 W)) (fun lv iv W => xs.length - (intOf iv).toNat)
    case atStart => exact ⟨0, Nat.zero_le _, rfl, Lib.hid ⟨Kd.R_nil _ _ _ _ _, H0.out⟩⟩
    case round =>
      clear H0
      obtain ⟨i, hi, rfl, HI⟩ := hrel
      by_cases hlt : i < xs.length
      · have hltI : (i : Int) < (xs.length : Int) := by omega
        obtain ⟨y, hy⟩ : ∃ y, xs[i]? = some y := ⟨_, List.getElem?_eq_getElem hlt⟩
        have HY := Lib.hid hy
        have hyr := HC2.out.2 y (List.mem_of_getElem? hy)
        obtain ⟨xd, e, xv⟩ := Kd.at_int (HX.out.next HI.out.2).int.rx (i : Int) (by omega) hltI
        cases e
        have hrd : rd xs (i : Int) = y := by rw [rd_at hlt]; exact (List.getElem?_eq_some_iff.1 hy).2
        simp only [Int.toNat_natCast] at xv
        rw [hrd] at xv
        clear hrd hy
        obtain ⟨yn, rfl⟩ := Int.eq_ofNat_of_zero_le hyr.1
        have hyl : yn < l.length := by omega
        obtain ⟨s, hs⟩ : ∃ s, l[yn]? = some s := ⟨l[yn], List.getElem?_eq_getElem hyl⟩
        obtain ⟨ad, FA, fc, e, x0, x1, x2, hfc, hCf⟩ := at_S (HX.out.next HI.out.2).src.rl hs
        cases e
        have HST := Lib.hid (own_step (xs := xs) (i := i) HY.out (by rw [Int.toNat_natCast]; exact hs))
        have hyI : (yn : Int) < (l.length : Int) := by omega
        clear hs hCf hfc x0 x1 hyr
        obtain ⟨fl, hfl⟩ : ∃ n, s.frm.length = n := ⟨_, rfl⟩
        rw [hfl] at x2 HST
        clear hfl
        by_cases hz : fl = 0
        · have hz' : ((fl : Int) == 0) = true := by simp [hz]
          have HN := Lib.hid (show ownL l (xs.take (i + 1)) = ownL l (xs.take i) ++ [(yn : Int)] by rw [HST.out, if_pos hz])
          have hlen := own_len l (xs.take i)
          have hlen2 : (xs.take i).length ≤ 10 := by have := HMX.out; rw [List.length_take]; omega
          have h1o := HI.out.1
          have hz0 := HI.out.2.size
          clear HST hz
          go_wp2_with (at_builtin; go_loud (refine Kd.R_append (Kd.int .i64) (w0 := w5) w5.heap.size rfl (.tmp 86) (.tmp 91) 26 3 (.int .i64 0) 8 rfl Tryd.underlying26 info3 rfl (by decide) (by decide) _ (ownL l (xs.take i)) (yn : Int) [.int .i64 (yn : Int)] (fun k => w5.heap.size ≤ k) (fun _ => False) rfl rfl rfl (fun _ h => h.elim) (fun k hk => Nat.le_trans hz0 hk) h1o HI.out.2 hz0 (by omega) ?_))
          intro v1 w7 h1 h2 h3 h4
          have HQ := Lib.hid (And.intro h1 h2); clear h1 h2 h3 h4 h1o hz0 hlen hlen2
          go_wp2_with fail
          go_roundw
          case rel => exact ⟨i + 1, by omega, by go_num, Lib.hid ⟨by rw [HN.out]; exact HQ.out.1, HQ.out.2⟩⟩
          case measure => exact meas_up1 hlt
        · have hz' : ((fl : Int) == 0) = false := by simp [hz]
          have HN := Lib.hid (show ownL l (xs.take (i + 1)) = ownL l (xs.take i) by rw [HST.out, if_neg hz, List.append_nil])
          clear HST hz
          go_wp2_with fail
          go_roundw
          case rel => exact ⟨i + 1, by omega, by go_num, Lib.hid ⟨by rw [HN.out]; exact HI.out.1, HI.out.2⟩⟩
          case measure => exact meas_up1 hlt
      · obtain rfl : i = xs.length := by omega
        have HRO := HI.out.1
        rw [List.take_length] at HRO
        obtain ⟨OA, oc, rfl, hoc, hOC⟩ := Kd.R_reads HRO
        have HOW := Lib.hid (IntAt.mk hOC hoc)
        have HB := Lib.hid HI.out.2; clear HI HRO hoc hOC
        have HXo := Lib.hid (HX.out.next HB.out)
        have Hb9o := Lib.hid (Hb9.out.next HB.out)
        have HGo := Lib.hid (made_given HL.out.1 HL.out.2 (own_chosen (l := l) HC2.out))
        have HNO := Lib.hid (own_cnt HL.out.1 HL.out.2 HC2.out)
        obtain ⟨ow, how⟩ : ∃ o, ownL l xs = o := ⟨_, rfl⟩
        rw [how] at HOW HGo HNO ⊢
        clear how
        have HCL := Lib.hid (sup_call HXo.out.src HOW.out HXo.out.tab HGo.out)
        clear hmx
        go_wp2_with fail
        refine HCL.out.mono ?_
        rintro e w40 ⟨n3, W3, wc3, C3, cc3, rfl, HQ⟩
        have HE3 : Hid (n3 = ow.length ∧ n3 ≤ n1) := Lib.hid (by
          have h := HNO.out
          rw [← HQ.out.1.num, ← H1.out.num] at h
          exact h)
        obtain ⟨b16, hb16⟩ : ∃ b, w40.heap.size = b := ⟨_, rfl⟩
        have hbx := box_new (W := w40) n3 W3 wc3 C3 cc3 hb16
        have HXe := Lib.hid ((HXo.out.next HQ.out.2).next hbx.1)
        have Hb9e := Lib.hid ((Hb9o.out.next HQ.out.2).next hbx.1)
        obtain ⟨w41, hw41⟩ : ∃ W2, w40.alloc (.cells #[.int .i64 n3, .slice W3 n3 wc3, .slice C3 n3 cc3] 30) = W2 := ⟨_, rfl⟩
        rw [hw41] at hbx HXe Hb9e
        have t0 := cell_of (o := 0) hbx.2 rfl
        have k0 := cell_of (o := 0) Hb9e.out.at_ rfl
        obtain ⟨no, hno⟩ : ∃ n, ow.length = n := ⟨_, rfl⟩
        rw [hno] at HE3
        have hq : ((n3 : Int) == (no : Int)) = true := by have := HE3.out.1; simp [this]
        have hq2 : decide (n3 ≤ n1) = true := decide_eq_true HE3.out.2
        clear HQ HCL hbx
        go_wp2_with (first | rw [hno] | fail)
        go_ret
        exact ⟨rfl, HXe.out.below⟩
  · have hd0 : decide (0 < xs.length) = true := decide_eq_true (by omega)
    have hpx : 0 < xs.length := by omega
    have HPX := Lib.hid hpx; clear hpx hx0
    obtain ⟨gs, hgs⟩ : ∃ b, w5.heap.size = b := ⟨_, rfl⟩
    have hbE := (Below.refl w5.heap.size w5).alloc (Nat.le_refl _) (.cells #[] 35)
    have hE0 : kS.R 35 (w5.alloc (.cells #[] 35)) w.heap.size (fun _ => True) (.slice (some ⟨gs, 0, none⟩) 0 0) [] := empty_rowS hgs (by have := HX.out.below.size; omega)
    have hzE : (w5.alloc (.cells #[] 35)).heap.size = gs + 1 := by simp [hgs]
    have HE := Lib.hid (And.intro hE0 (And.intro hbE (And.intro (HSR.out.next hbE).rows (And.intro hzE (And.intro (HX.out.below.trans (hbE.mono HX.out.below.size)) hgs))))); clear hE0 hbE hzE
    have HROWS := Lib.hid (show ReadsRow (kS.M (w5.alloc (.cells #[] 35)) w.heap.size fun k => k < gs) kS.sz (w5.alloc (.cells #[] 35)) A l.length l by
      have h := HSR.out.rows
      rw [hgs] at h
      exact h.imp_ HE.out.2.1 (fun p cs hp => kS.M_move (fun k hk => HE.out.2.1.block k (by have := HE.out.2.2.2.2.2; omega)) hp))
    clear hd0
    have hd0 : decide (0 < xs.length) = true := decide_eq_true HPX.out
    go_wp2_with (at_builtin; go_loud (refine Kd.R_append_rows kS (w0 := w) (Rr := kS.M (w5.alloc (.cells #[] 35)) w.heap.size fun k => k < gs) w.heap.size rfl (.tmp 37) (.tmp 38) 24 35 (.agg #[.int .i64 0, .int .i64 0, .slice none 0 0]) 40 rfl Tryd.underlying24 info35 rfl (by decide) (by decide) (.slice (some ⟨gs, 0, none⟩) 0 0) [] l A l.length c (fun _ => True) (fun k => k < gs) rfl rfl HE.out.1 HROWS.out (fun _ _ h => h) (fun k hk => ⟨trivial, by simp [Value.ownBlock]; omega⟩) (fun k hk => trivial) HE.out.2.2.2.2.1 HE.out.2.2.2.2.1.size (by have := HL.out.2; simp only [List.length_nil]; omega) ?_))
    intro v1 w7 h1 h2 h3 h4
    obtain ⟨VA, vc, rfl⟩ := Kd.R_slice h1
    have HB7 := Lib.hid (show Below w5.heap.size w5 w7 from HE.out.2.1.grown h3 (by have := HE.out.2.2.2.1; omega) (fun k hk => by simp [Value.ownBlock] at hk; omega))
    have HOWN := Lib.hid (show ∀ k, (Value.slice VA l.length vc).ownBlock = some k → w5.heap.size ≤ k from fun k hk => by
      rcases h4 with h4 | ⟨b, hb, hle⟩
      · have e := h4.symm.trans hk
        simp [Value.ownBlock] at e
        omega
      · have e : b = k := Option.some.inj (hb.symm.trans hk)
        have := HE.out.2.1.size
        omega)
    have HV1 := Lib.hid (SrcRow.mk h1); clear h1 h2 h3 h4 HROWS HE
    clear hd0
    go_wp2_with fail
    refine (pick_call which xs.length HWH.out HPX.out w7).mono ?_
    rintro e w8 ⟨q, hq, rfl, rfl⟩
    have hqI : (q : Int) < (xs.length : Int) := by omega
    obtain ⟨y, hy⟩ : ∃ y, xs[q]? = some y := ⟨_, List.getElem?_eq_getElem hq⟩
    have HY := Lib.hid (List.mem_of_getElem? hy)
    have HX8 := Lib.hid (HX.out.next HB7.out)
    obtain ⟨xd, e, xv⟩ := Kd.at_int HX8.out.int.rx (q : Int) (by omega) hqI
    cases e
    have hrd : rd xs (q : Int) = y := by rw [rd_at hq]; exact (List.getElem?_eq_some_iff.1 hy).2
    simp only [Int.toNat_natCast] at xv
    rw [hrd] at xv
    clear hrd hy
    obtain ⟨gy, hgy⟩ : ∃ b, w8.heap.size = b := ⟨_, rfl⟩
    have hbY := (Below.refl w8.heap.size w8).alloc (Nat.le_refl _) (.cells #[.int .i64 y] 3)
    have hYb := heap_new (W := w8) (o := .cells #[.int .i64 y] 3) hgy
    have hown : ∀ k, (Value.slice VA l.length vc).ownBlock = some k → k < gy := fun k hk => by have := Kd.R_lt HV1.out.r k hk; omega
    have hsm : kS.M (w8.alloc (.cells #[.int .i64 y] 3)) w.heap.size (fun k => k = gy) ⟨11, 1, [y]⟩ [.int .i64 11, .int .i64 1, .slice (some ⟨gy, 0, none⟩) 1 1] := kS_M (s := ⟨11, 1, [y]⟩) (one_row (x := y) hYb (by have := HX8.out.below.size; omega) rfl)
    have hB5Y := HB7.out.trans (hbY.mono HB7.out.size)
    obtain ⟨wY, hwY⟩ : ∃ W, w8.alloc (.cells #[.int .i64 y] 3) = W := ⟨_, rfl⟩
    have HY2 := Lib.hid (show kS.M wY w.heap.size (fun k => k = gy) ⟨11, 1, [y]⟩ [.int .i64 11, .int .i64 1, .slice (some ⟨gy, 0, none⟩) 1 1] ∧ kS.R 35 wY w.heap.size (fun _ => True) (.slice VA l.length vc) l ∧ Below w5.heap.size w5 wY ∧ Below w.heap.size w wY ∧ ∀ k, (Value.slice VA l.length vc).ownBlock = some k → k < gy from ⟨hwY ▸ hsm, (HV1.out.next (hwY ▸ hbY)).r, hwY ▸ hB5Y, HX.out.below.trans ((hwY ▸ hB5Y).mono HX.out.below.size), hown⟩); clear hsm hbY hYb hown hB5Y
    go_wp2_with (at_builtin; go_loud (refine Kd.R_append kS (w0 := w) w.heap.size rfl (.tmp 39) (.tmp 49) 24 35 (.agg #[.int .i64 0, .int .i64 0, .slice none 0 0]) 40 rfl Tryd.underlying24 info35 rfl (by decide) (by decide) (.slice VA l.length vc) l ⟨11, 1, [y]⟩ [.int .i64 11, .int .i64 1, .slice (some ⟨gy, 0, none⟩) 1 1] (fun _ => True) (fun k => k = gy) rfl rfl HY2.out.1 (fun k hk => ⟨trivial, fun e => by have := HY2.out.2.2.2.2 k e.symm; omega⟩) (fun k hk => trivial) HY2.out.2.1 HY2.out.2.2.2.1 HY2.out.2.2.2.1.size (by have := HL.out.2; omega) ?_))
    intro v2 w9 h1 h2 h3 h4
    obtain ⟨YB, yb, rfl, hyb, hYB⟩ := Kd.R_reads h1
    have HB := Lib.hid (show Below w5.heap.size w5 w9 from HY2.out.2.2.1.grown h3 HY2.out.2.2.1.size HOWN.out)
    obtain ⟨m, hm⟩ : ∃ m, l ++ [(⟨11, 1, [y]⟩ : Src)] = m := ⟨_, rfl⟩
    rw [hm] at hyb hYB ⊢
    have HME := Lib.hid (show m = copyL l y from hm.symm)
    have HM := Lib.hid (SrcAt.mk hYB hyb (by rw [HME.out]; exact copy_short HL.out.1 y)); clear h1 h2 h3 h4 hyb hYB hm HY2 HV1 HOWN HB7 HX8 xv hgy hwY hqI hq hgs HSR

    have H_ := Lib.hid (HX.out.next HB.out); clear HX; have HX := H_; clear H_
    have H_ := Lib.hid (H1.out.next HB.out); clear H1; have H1 := H_; clear H_
    have H_ := Lib.hid (Hb9.out.next HB.out); clear Hb9; have Hb9 := H_; clear H_
    clear HB
    obtain ⟨ge, hge⟩ : ∃ b, w9.heap.size = b := ⟨_, rfl⟩
    have hE0 : (Kd.int .i64).R 3 (w9.alloc (.cells #[] 3)) ge (fun k => ge ≤ k) (.slice (some ⟨ge, 0, none⟩) 0 0) [] := empty_row hge (by omega) (by omega)
    have hbE := (Below.refl w9.heap.size w9).alloc (Nat.le_refl _) (.cells #[] 3)
    have hbG : Below ge w9 (w9.alloc (.cells #[] 3)) := by rw [← hge]; exact hbE
    have hzG : ge ≤ (w9.alloc (.cells #[] 3)).heap.size := by rw [← hge]; exact hbE.size
    have HE := Lib.hid (And.intro hE0 (And.intro hbG (And.intro (Kd.C_below HX.out.int.rx hbE) (And.intro (show xs.length ≤ 10 by have := HL.out.2; have h2 := HXL.out; omega) hzG)))); clear hE0 hbE hbG hzG
    have HGE := Lib.hid hge
    go_wp2_with (at_builtin; go_loud (refine Kd.R_append_rows (Kd.int .i64) (w0 := w9) (Rr := fun x cs => cs = [.int .i64 x]) ge rfl (.tmp 53) (.tmp 54) 26 3 (.int .i64 0) 8 rfl Tryd.underlying26 info3 rfl (by decide) (by decide) _ [] xs _ xs.length d (fun k => ge ≤ k) (fun _ => False) rfl rfl HE.out.1 HE.out.2.2.1 (fun _ _ h => h) (fun _ h => h.elim) (fun k hk => Nat.le_trans HE.out.2.2.2.2 hk) HE.out.2.1 HE.out.2.2.2.2 (by have := HE.out.2.2.2.1; simp only [List.length_nil]; omega) ?_))
    intro v1 w10 h1 h2 h3 h4
    obtain ⟨VI, vi, rfl⟩ := Kd.R_slice h1
    have hz7 : ge ≤ w10.heap.size := by have := h2.size; have := HGE.out; omega
    have HR1 := Lib.hid (And.intro h1 (And.intro h2 hz7)); clear h1 h2 h3 h4 hz7
    obtain ⟨gl, hgl⟩ : ∃ b, w10.heap.size = b := ⟨_, rfl⟩
    have hl2 := ilit w10 [11] (by decide)
    have hl3 : Below w10.heap.size w10 (w10.alloc (.cells #[.int .i64 11] 3)) ∧ (Kd.int .i64).C (w10.alloc (.cells #[.int .i64 11] 3)) (some ⟨gl, 0, none⟩) 1 [11] := by rw [← hgl]; exact hl2
    clear hl2
    have hzL : ge ≤ (w10.alloc (.cells #[.int .i64 11] 3)).heap.size := Nat.le_trans HR1.out.2.2 hl3.1.size
    have HR2 := Lib.hid (And.intro (Kd.R_below HR1.out.1 hl3.1) (And.intro (HR1.out.2.1.trans (hl3.1.mono HR1.out.2.2)) (And.intro hl3.2 (And.intro HE.out.2.2.2.1 hzL)))); clear HR1 hl3 HE hzL
    go_wp2_with (at_builtin; go_loud (refine Kd.R_append_rows (Kd.int .i64) (w0 := w9) (Rr := fun x cs => cs = [.int .i64 x]) ge rfl (.tmp 55) (.tmp 56) 26 3 (.int .i64 0) 8 rfl Tryd.underlying26 info3 rfl (by decide) (by decide) _ xs [11] (some ⟨gl, 0, none⟩) 1 1 (fun k => ge ≤ k) (fun _ => False) rfl rfl HR2.out.1 HR2.out.2.2.1 (fun _ _ h => h) (fun _ h => h.elim) (fun k hk => Nat.le_trans HR2.out.2.2.2.2 hk) HR2.out.2.1 HR2.out.2.2.2.2 (by have := HR2.out.2.2.2.1; omega) ?_))
    intro v2 w11 h1 h2 h3 h4
    obtain ⟨YA, yc, rfl, hyc, hyC⟩ := Kd.R_reads h1
    have HB := Lib.hid (show Below w9.heap.size w9 w11 by rw [HGE.out]; exact h2)
    obtain ⟨ys, hys⟩ : ∃ ys, xs ++ [11] = ys := ⟨_, rfl⟩
    rw [hys] at hyc hyC ⊢
    have HYS := Lib.hid hys
    have HYY := Lib.hid (IntAt.mk hyC hyc); clear h1 h2 h3 h4 hyc hyC HR2 hge hgl hys
    have H_ := Lib.hid (HX.out.next HB.out); clear HX; have HX := H_; clear H_
    have H_ := Lib.hid (H1.out.next HB.out); clear H1; have H1 := H_; clear H_
    have H_ := Lib.hid (Hb9.out.next HB.out); clear Hb9; have Hb9 := H_; clear H_
    have H_ := Lib.hid (HM.out.next HB.out); clear HM; have HM := H_; clear H_
    clear HB
    have HGm : Hid (givenB m ys = true) := Lib.hid (by rw [HME.out, ← HYS.out]; exact copy_given HL.out.1 HL.out.2 HC2.out HY.out)
    go_wp2_with fail
    refine (sup_call HM.out HYY.out HX.out.tab HGm.out).mono ?_
    rintro e w12 ⟨n2, Wn2, wcn2, Cn2, ccn2, rfl, HQ⟩
    have HB := Lib.hid HQ.out.2
    have H2 := Lib.hid HQ.out.1; clear HQ
    have H_ := Lib.hid (HX.out.next HB.out); clear HX; have HX := H_; clear H_
    have H_ := Lib.hid (H1.out.next HB.out); clear H1; have H1 := H_; clear H_
    have H_ := Lib.hid (Hb9.out.next HB.out); clear Hb9; have Hb9 := H_; clear H_
    have H_ := Lib.hid (HM.out.next HB.out); clear HM; have HM := H_; clear H_
    have H_ := Lib.hid (HYY.out.next HB.out); clear HYY; have HYY := H_; clear H_
    clear HB
    obtain ⟨b12, hb12⟩ : ∃ b, w12.heap.size = b := ⟨_, rfl⟩
    have hbx := box_new (W := w12) n2 Wn2 wcn2 Cn2 ccn2 hb12
    obtain ⟨w13, hw13⟩ : ∃ W2, w12.alloc (.cells #[.int .i64 n2, .slice Wn2 n2 wcn2, .slice Cn2 n2 ccn2] 30) = W2 := ⟨_, rfl⟩
    rw [hw13] at hbx
    have HB := Lib.hid hbx.1
    have Hb12 := Lib.hid (BlkAt.mk hbx.2); clear hbx
    have H_ := Lib.hid (HX.out.next HB.out); clear HX; have HX := H_; clear H_
    have H_ := Lib.hid (H1.out.next HB.out); clear H1; have H1 := H_; clear H_
    have H_ := Lib.hid (Hb9.out.next HB.out); clear Hb9; have Hb9 := H_; clear H_
    have H_ := Lib.hid (HM.out.next HB.out); clear HM; have HM := H_; clear H_
    have H_ := Lib.hid (HYY.out.next HB.out); clear HYY; have HYY := H_; clear H_
    have H_ := Lib.hid (H2.out.next HB.out); clear H2; have H2 := H_; clear H_
    clear HB
    have hn2 : n1 = n2 := by
      rw [H2.out.num, H1.out.num, HME.out, ← HYS.out]
      exact Eq.symm <| copy_same HL.out.1 HL.out.2 HC2.out HY.out
    subst hn2
    have k0 := cell_of (o := 0) Hb9.out.at_ rfl
    have m0 := cell_of (o := 0) Hb12.out.at_ rfl
    go_wp2_with fail
    clear k0 m0
    have H0 := Lib.hid (Below.refl w13.heap.size w13)
    have hm : xs.length ≤ 10 := by have := HL.out.2; have := HXL.out; omega
    have HMX := Lib.hid hm; clear hm
    have hmx := max_len HX.out.int.rx
    go_loopw [14, 15] (fun lv iv W => ∃ i : Nat, i ≤ xs.length ∧ iv = .int .i64 i ∧ Hid ((Kd.int .i64).R 3 W w13.heap.size (fun k => w13.heap.size ≤ k) lv (ownL l (xs.take i)) ∧ Below w13.heap.size w13 W)) (fun lv iv W => xs.length - (intOf iv).toNat)
    case atStart => exact ⟨0, Nat.zero_le _, rfl, Lib.hid ⟨Kd.R_nil _ _ _ _ _, H0.out⟩⟩
    case round =>
      clear H0
      obtain ⟨i, hi, rfl, HI⟩ := hrel
      by_cases hlt : i < xs.length
      · have hltI : (i : Int) < (xs.length : Int) := by omega
        obtain ⟨y, hy⟩ : ∃ y, xs[i]? = some y := ⟨_, List.getElem?_eq_getElem hlt⟩
        have HY := Lib.hid hy
        have hyr := HC2.out.2 y (List.mem_of_getElem? hy)
        obtain ⟨xd, e, xv⟩ := Kd.at_int (HX.out.next HI.out.2).int.rx (i : Int) (by omega) hltI
        cases e
        have hrd : rd xs (i : Int) = y := by rw [rd_at hlt]; exact (List.getElem?_eq_some_iff.1 hy).2
        simp only [Int.toNat_natCast] at xv
        rw [hrd] at xv
        clear hrd hy
        obtain ⟨yn, rfl⟩ := Int.eq_ofNat_of_zero_le hyr.1
        have hyl : yn < l.length := by omega
        obtain ⟨s, hs⟩ : ∃ s, l[yn]? = some s := ⟨l[yn], List.getElem?_eq_getElem hyl⟩
        obtain ⟨ad, FA, fc, e, x0, x1, x2, hfc, hCf⟩ := at_S (HX.out.next HI.out.2).src.rl hs
        cases e
        have HST := Lib.hid (own_step (xs := xs) (i := i) HY.out (by rw [Int.toNat_natCast]; exact hs))
        have hyI : (yn : Int) < (l.length : Int) := by omega
        clear hs hCf hfc x0 x1 hyr
        obtain ⟨fl, hfl⟩ : ∃ n, s.frm.length = n := ⟨_, rfl⟩
        rw [hfl] at x2 HST
        clear hfl
        by_cases hz : fl = 0
        · have hz' : ((fl : Int) == 0) = true := by simp [hz]
          have HN := Lib.hid (show ownL l (xs.take (i + 1)) = ownL l (xs.take i) ++ [(yn : Int)] by rw [HST.out, if_pos hz])
          have hlen := own_len l (xs.take i)
          have hlen2 : (xs.take i).length ≤ 10 := by have := HMX.out; rw [List.length_take]; omega
          have h1o := HI.out.1
          have hz0 := HI.out.2.size
          clear HST hz
          go_wp2_with (at_builtin; go_loud (refine Kd.R_append (Kd.int .i64) (w0 := w13) w13.heap.size rfl (.tmp 86) (.tmp 91) 26 3 (.int .i64 0) 8 rfl Tryd.underlying26 info3 rfl (by decide) (by decide) _ (ownL l (xs.take i)) (yn : Int) [.int .i64 (yn : Int)] (fun k => w13.heap.size ≤ k) (fun _ => False) rfl rfl rfl (fun _ h => h.elim) (fun k hk => Nat.le_trans hz0 hk) h1o HI.out.2 hz0 (by omega) ?_))
          intro v1 w7 h1 h2 h3 h4
          have HQ := Lib.hid (And.intro h1 h2); clear h1 h2 h3 h4 h1o hz0 hlen hlen2
          go_wp2_with fail
          go_roundw
          case rel => exact ⟨i + 1, by omega, by go_num, Lib.hid ⟨by rw [HN.out]; exact HQ.out.1, HQ.out.2⟩⟩
          case measure => exact meas_up1 hlt
        · have hz' : ((fl : Int) == 0) = false := by simp [hz]
          have HN := Lib.hid (show ownL l (xs.take (i + 1)) = ownL l (xs.take i) by rw [HST.out, if_neg hz, List.append_nil])
          clear HST hz
          go_wp2_with fail
          go_roundw
          case rel => exact ⟨i + 1, by omega, by go_num, Lib.hid ⟨by rw [HN.out]; exact HI.out.1, HI.out.2⟩⟩
          case measure => exact meas_up1 hlt
      · obtain rfl : i = xs.length := by omega
        have HRO := HI.out.1
        rw [List.take_length] at HRO
        obtain ⟨OA, oc, rfl, hoc, hOC⟩ := Kd.R_reads HRO
        have HOW := Lib.hid (IntAt.mk hOC hoc)
        have HB := Lib.hid HI.out.2; clear HI HRO hoc hOC
        have HXo := Lib.hid (HX.out.next HB.out)
        have Hb9o := Lib.hid (Hb9.out.next HB.out)
        have HGo := Lib.hid (made_given HL.out.1 HL.out.2 (own_chosen (l := l) HC2.out))
        have HNO := Lib.hid (own_cnt HL.out.1 HL.out.2 HC2.out)
        obtain ⟨ow, how⟩ : ∃ o, ownL l xs = o := ⟨_, rfl⟩
        rw [how] at HOW HGo HNO ⊢
        clear how
        have HCL := Lib.hid (sup_call HXo.out.src HOW.out HXo.out.tab HGo.out)
        clear hmx
        go_wp2_with fail
        refine HCL.out.mono ?_
        rintro e w40 ⟨n3, W3, wc3, C3, cc3, rfl, HQ⟩
        have HE3 : Hid (n3 = ow.length ∧ n3 ≤ n1) := Lib.hid (by
          have h := HNO.out
          rw [← HQ.out.1.num, ← H1.out.num] at h
          exact h)
        obtain ⟨b16, hb16⟩ : ∃ b, w40.heap.size = b := ⟨_, rfl⟩
        have hbx := box_new (W := w40) n3 W3 wc3 C3 cc3 hb16
        have HXe := Lib.hid ((HXo.out.next HQ.out.2).next hbx.1)
        have Hb9e := Lib.hid ((Hb9o.out.next HQ.out.2).next hbx.1)
        obtain ⟨w41, hw41⟩ : ∃ W2, w40.alloc (.cells #[.int .i64 n3, .slice W3 n3 wc3, .slice C3 n3 cc3] 30) = W2 := ⟨_, rfl⟩
        rw [hw41] at hbx HXe Hb9e
        have t0 := cell_of (o := 0) hbx.2 rfl
        have k0 := cell_of (o := 0) Hb9e.out.at_ rfl
        obtain ⟨no, hno⟩ : ∃ n, ow.length = n := ⟨_, rfl⟩
        rw [hno] at HE3
        have hq : ((n3 : Int) == (no : Int)) = true := by have := HE3.out.1; simp [this]
        have hq2 : decide (n3 ≤ n1) = true := decide_eq_true HE3.out.2
        clear HQ HCL hbx
        go_wp2_with (first | rw [hno] | fail)
        go_ret
        exact ⟨rfl, HXe.out.below⟩
end Go.Proofs.YticngcjfofcoiaaDoor
