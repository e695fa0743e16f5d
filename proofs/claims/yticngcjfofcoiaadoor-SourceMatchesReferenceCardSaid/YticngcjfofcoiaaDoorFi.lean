/- The contract of first: the first cut. -/
import Derived.Test.YticngcjfofcoiaaDoorZb
namespace Go.Proofs.YticngcjfofcoiaaDoor
open Go.RowKit Go.Rg Go.Proofs.YticngcjfofcoiaaDoorW.PrintWords
set_option linter.unusedVariables false
set_option linter.unusedSimpArgs false
structure FX (w : World) (NB SB : Nat) (R : Nat → Nat → Int) (S : Nat → Bool) (tv : Value) (l : List Nat) (W : World) : Prop where
 below : Below w.heap.size w W
 net : NX NB R W
 sees : ∀ i, i < 26 → W.cell? ⟨SB, i, none⟩ = some (.bool (S i)) ∧ W.frozen? ⟨SB, i, none⟩ = false
 q : (Kd.int .i64).Q 3 W (SB + 1) (fun k => SB + 1 ≤ k) tv (l.map Int.ofNat)
 lt : NB < SB ∧ w.heap.size ≤ SB ∧ SB + 1 ≤ W.heap.size
theorem FX.see {w : World} {NB SB : Nat} {R : Nat → Nat → Int} {S : Nat → Bool} {tv : Value} {l : List Nat} {W : World} (h : FX w NB SB R S tv l W) {x : Nat} (hx : x < 26) : FX w NB SB R (setS S x) tv l (W.setCell ⟨SB, x, none⟩ (.bool true)) := by
 obtain ⟨h1, h2, h3, h4, h5⟩ := h
 refine ⟨h1.setCell (p := ⟨SB, x, none⟩) (show w.heap.size ≤ SB from h5.2.1) _, ⟨fun a b ha hb => ⟨?_, by rw [World.frozen?_setCell]; exact (h2.hn a b ha hb).2⟩⟩, fun i hi => ⟨?_, by rw [World.frozen?_setCell]; exact (h3 i hi).2⟩, Kd.Q_far h4 (fun k hk => by show k ≠ SB; omega) _, ?_⟩
 ·rw [cs_other (ad_ne (by omega))]; exact (h2.hn a b ha hb).1
 ·unfold setS
  by_cases e : i = x
  ·subst e; simpa using cs_same (h3 i hi).1 _
  ·rw [cs_other (fun e' => e (by injection e' with e1 e2; exact e2.symm))]
   rw [decide_eq_false e, Bool.false_or]
   exact (h3 i hi).1
 ·have : (W.setCell ⟨SB, x, none⟩ (.bool true)).heap.size = W.heap.size := by simp [World.setCell]
  rw [this]; exact h5
theorem FX.call {w : World} {NB SB : Nat} {R : Nat → Nat → Int} {S : Nat → Bool} {tv tv' : Value} {l l' : List Nat} {W W' : World} (h : FX w NB SB R S tv l W) (hb : Below (SB + 1) W W') (hq : (Kd.int .i64).Q 3 W' (SB + 1) (fun k => SB + 1 ≤ k) tv' (l'.map Int.ofNat)) : FX w NB SB R S tv' l' W' := by
 obtain ⟨h1, h2, h3, h4, h5⟩ := h
 refine ⟨h1.trans (hb.mono (by omega)), ⟨fun a b ha hb' => ⟨?_, ?_⟩⟩, fun i hi => ⟨?_, ?_⟩, hq, h5.1, h5.2.1, Nat.le_trans h5.2.2 hb.size⟩
 ·rw [World.cell?_of_block (w := W) (hb.block NB (by omega))]; exact (h2.hn a b ha hb').1
 ·rw [World.frozen?_of_block (w := W) (hb.block NB (by omega))]; exact (h2.hn a b ha hb').2
 ·rw [World.cell?_of_block (w := W) (hb.block SB (by omega))]; exact (h3 i hi).1
 ·rw [World.frozen?_of_block (w := W) (hb.block SB (by omega))]; exact (h3 i hi).2
theorem NX.range {NB : Nat} {R : Nat → Nat → Int} {W : World} (h : NX NB R W) {a : Nat} (ha : a < 26) : W.rangeAt NB (a * 26) (rowV R a) := fun j v hj => by
 have hj26 : j < 26 := by have := (List.getElem?_eq_some_iff.1 hj).1; rwa [rowV_len] at this
 rw [rowV_get R a j hj26] at hj
 cases hj
 exact (h.hn a j ha hj26).1
set_option maxRecDepth 100000 in
set_option maxHeartbeats 2000000 in
theorem first_any (WB : Nat) (nx : Nat → List Nat) (og sd wo : Nat) (w : World) (hW : WebX WB nx og sd wo w) (hnx : NxOk nx) (hog : og < 4096) (hsd : sd < 4096) (hwo : wo < 4096) :
  Calls Tryd.prog 56 #[.pointer (some ⟨WB, 0, none⟩)] w fun e w' => ∃ v, e = .returned v ∧ (Kd.int .i64).R 3 w' w.heap.size (fun k => w.heap.size ≤ k) v ((Flow.firstL (netOf nx sd og wo)).map Int.ofNat) ∧ Below w.heap.size w w' := by
 have hC := flow_any WB nx og sd wo og 0 w hW hnx.lt hog (by decide) hwo hsd
 rw [Nat.zero_or] at hC
 have cO := hW.org
 have HC := Lib.hid hC; clear hC
 have HW := Lib.hid hW; clear hW
 have HN := Lib.hid hnx; clear hnx
 have HB := Lib.hid (And.intro hog (And.intro hsd hwo)); clear hog hsd hwo
 go_enter Tryd.func56, Tryd.ntmps56
 go_wp2_with fail
 refine HC.out.mono ?_
 rintro e w1 ⟨n, NB, R, rfl, hNX, hInv, hns, hB⟩
 have HF := Lib.hid (And.intro hInv hns); clear hInv hns
 have HX := Lib.hid (And.intro hNX hB); clear hNX hB
 clear cO HC
 go_wp2_with (refine wpList_seen24 (.const (.bool true)) (.tmp 5) (.tmp 20) rfl rfl rfl rfl rfl rfl rfl (by kernel_rfl) (by kernel_rfl) ?_; intro W4 hW4; have HW4 := Lib.hid hW4; clear hW4)
 have hX4 : FX w NB w1.heap.size R (setS (fun _ => false) 24) (.slice (some ⟨W4.heap.size, 0, none⟩) 1 1) [24] (W4.alloc (.cells #[.int .i64 24] 3)) := by
  have hb4 : Below w1.heap.size w1 W4 := by rw [HW4.out]; exact (Below.refl _ _).alloc (Nat.le_refl _) _
  have hz4 : W4.heap.size = w1.heap.size + 1 := by rw [HW4.out]; simp
  have hh4 : W4.heap[w1.heap.size]? = some (.cells z26s 101) := by rw [HW4.out]; exact heap_new rfl
  have hb5 : Below w1.heap.size w1 (W4.alloc (.cells #[.int .i64 24] 3)) := hb4.alloc hb4.size _
  have hNB : NB < w1.heap.size := World.block_lt_of_cell? w1 _ (HX.out.1.hn 0 0 (by decide) (by decide)).1
  have hh5 := heap_old (o := .cells #[.int .i64 24] 3) hh4
  refine ⟨HX.out.2.trans (hb5.mono HX.out.2.size), ⟨fun a b ha hb => ⟨pw_cell_below hb5 (HX.out.1.hn a b ha hb).1, ?_⟩⟩, fun i hi => ⟨cell_of hh5 (z26s_get i hi), frozen_of hh5⟩, ?_, hNB, HX.out.2.size, by simp; omega⟩
  ·rw [World.frozen?_of_block (w := w1) (hb5.block NB hNB)]
   exact (HX.out.1.hn a b ha hb).2
  ·refine Kd.Q_of_R (ownrow (xs := [(24 : Int)]) (by simp) (heap_new rfl) (by omega) ?_)
   show w1.heap.size + 1 ≤ W4.heap.size
   omega
 have H4 := Lib.hid hX4; clear hX4 HW4
 go_loopw [6] (fun tv wr => ∃ (S : Nat → Bool) (l : List Nat), Hid (FX w NB w1.heap.size R S tv l wr ∧ BI (netOf nx sd og wo) R S l)) (fun tv wr => unseen (seenW w1.heap.size wr) + lenV tv)
 case atStart => exact ⟨_, [24], Lib.hid ⟨H4.out, BI.start rfl R⟩⟩
 case round =>
  obtain ⟨S, l, HI⟩ := hrel
  obtain ⟨A, c, rfl, hlc, hC⟩ := Kd.Q_reads HI.out.1.q
  rw [List.length_map] at hC hlc ⊢
  cases l with
  |nil =>
   rw [List.length_nil] at hlc ⊢
   have hX := HI.out.1
   have HBI := Lib.hid HI.out.2
   have HX3 := Lib.hid (And.intro hX.below (And.intro hX.sees (And.intro hX.lt (HW.out.below hX.below)))); clear hX HI hC
   go_wp2_with fail
   obtain ⟨wa, rfl⟩ : ∃ wa, wa = wr := ⟨_, rfl⟩
   go_loopw [9, 53] (fun ov kv W => ∃ k : Nat, k ≤ 12 ∧ kv = .int .i64 k ∧ Hid ((Kd.int .i64).R 3 W (w1.heap.size + 1) (fun k => w1.heap.size + 1 ≤ k) ov ((cutTo S wo k).map Int.ofNat) ∧ Below (w1.heap.size + 1) wa W ∧ w1.heap.size + 1 ≤ W.heap.size)) (fun ov kv W => 12 - (intOf kv).toNat)
   case atStart => exact ⟨0, Nat.zero_le _, rfl, Lib.hid ⟨Kd.R_nil _ _ _ _ _, Below.refl _ _, HX3.out.2.2.1.2.2⟩⟩
   case round =>
    obtain ⟨k, hk, rfl, HI⟩ := hrel
    by_cases hk12 : k < 12
    ·have hkI : (k : Int) < 12 := by omega
     have hSB := HX3.out.2.2.1.2.2
     have hWB : WB < w1.heap.size := Nat.lt_of_lt_of_le (World.block_lt_of_cell? w _ HW.out.org) HX3.out.2.2.1.2.1
     have cS : wr.cell? ⟨w1.heap.size, k, none⟩ = some (.bool (S k)) := by rw [World.cell?_of_block (w := wa) (HI.out.2.1.block _ (by show w1.heap.size < _; omega))]; exact (HX3.out.2.1 k (by omega)).1
     have cT : wr.cell? ⟨w1.heap.size, 12 + k, none⟩ = some (.bool (S (12 + k))) := by rw [World.cell?_of_block (w := wa) (HI.out.2.1.block _ (by show w1.heap.size < _; omega))]; exact (HX3.out.2.1 (12 + k) (by omega)).1
     have cW : wr.cell? ⟨WB, 14, none⟩ = some (.int .u16 wo) := by rw [World.cell?_of_block (w := wa) (HI.out.2.1.block _ (by show WB < _; omega))]; exact HX3.out.2.2.2.wo
     have hk12w : wrap64 (12 + (k : Int)) = ((12 + k : Nat) : Int) := by unfold wrap64; omega
     have hk12I : ((12 + k : Nat) : Int) < 26 := by omega
     have hstep := cutTo_step S wo k
     have HWO := Lib.hid HB.out.2.2
     cases hs1 : S k with
     |false =>
      have HS := Lib.hid (show cutTo S wo (k + 1) = cutTo S wo k by rw [hstep, hs1]; simp)
      rw [hs1] at cS
      clear hstep hSB hWB cT cW hs1
      go_wp2_with fail
      go_roundw
      case rel => exact ⟨k + 1, by omega, by go_num, Lib.hid ⟨by rw [HS.out]; simpa using HI.out.1, HI.out.2⟩⟩
      case measure => exact meas_up1 hk12
     |true =>
      cases hs2 : S (12 + k) with
      |true =>
       have HS := Lib.hid (show cutTo S wo (k + 1) = cutTo S wo k by rw [hstep, hs1, hs2]; simp)
       rw [hs1] at cS
       rw [hs2] at cT
       clear hstep hSB hWB cW hs1 hs2
       go_wp2_with fail
       go_roundw
       case rel => exact ⟨k + 1, by omega, by go_num, Lib.hid ⟨by rw [HS.out]; simpa using HI.out.1, HI.out.2⟩⟩
       case measure => exact meas_up1 hk12
      |false =>
       have hca := has_any wo k (by have := HWO.out; omega) (by omega) wr
       rw [hs1] at cS
       rw [hs2] at cT
       cases hs3 : wo.testBit k with
       |true =>
        rw [hs3] at hca
        have HCA := Lib.hid hca
        have HS := Lib.hid (show cutTo S wo (k + 1) = cutTo S wo k by rw [hstep, hs1, hs2, hs3]; simp)
        clear hstep hSB hWB hs1 hs2 hs3 hca
        go_wp2_with fail
        refine HCA.out.mono ?_
        rintro e w' ⟨rfl, rfl⟩
        go_wp2_with fail
        go_roundw
        case rel => exact ⟨k + 1, by omega, by go_num, Lib.hid ⟨by rw [HS.out]; simpa using HI.out.1, HI.out.2⟩⟩
        case measure => exact meas_up1 hk12
       |false =>
        rw [hs3] at hca
        have HCA := Lib.hid hca
        have HS := Lib.hid (show cutTo S wo (k + 1) = cutTo S wo k ++ [k] by rw [hstep, hs1, hs2, hs3]; simp)
        clear hstep hSB hWB hs1 hs2 hs3 hca
        go_wp2_with fail
        refine HCA.out.mono ?_
        rintro e w' ⟨rfl, rfl⟩
        go_wp2_with (at_builtin; go_loud (refine Kd.R_append (Kd.int .i64) (w0 := wa) (w1.heap.size + 1) rfl (.tmp 75) (.tmp 77) 26 3 (.int .i64 0) 8 rfl Tryd.underlying26 info3 rfl (by decide) (by decide) _ ((cutTo S wo k).map Int.ofNat) (k : Int) [.int .i64 (k : Int)] (fun k => w1.heap.size + 1 ≤ k) (fun _ => False) rfl rfl rfl (fun _ h => h.elim) (fun k hk => Nat.le_trans HI.out.2.2 hk) HI.out.1 HI.out.2.1 HI.out.2.2 (by have := cutTo_len S wo k; simp; omega) ?_; intro v1 w7 h1 h2 h3 h4))
        have HJ := Lib.hid (And.intro h1 (And.intro h2 (Nat.le_trans HX3.out.2.2.1.2.2 h2.size))); clear h1 h2 h3 h4
        go_wp2_with fail
        go_roundw
        case rel => exact ⟨k + 1, by omega, by go_num, Lib.hid ⟨by rw [HS.out]; simpa using HJ.out.1, HJ.out.2⟩⟩
        case measure => exact meas_up1 hk12
    ·obtain rfl : k = 12 := by omega
     go_wp2_with fail
     go_ret
     refine ⟨_, rfl, ?_, HX3.out.1.trans (HI.out.2.1.mono (by have := HX3.out.2.2.1; omega))⟩
     rw [← HBI.out.first HN.out HF.out.1 HF.out.2]
     exact Kd.R_mono (Kd.R_lower HI.out.1 (by have := HX3.out.2.2.1; omega)) (fun k hk => by have := HX3.out.2.2.1; omega)
  |cons h t =>
   obtain ⟨yd, e, hy⟩ := Kd.at_int (xs := (h :: t).map Int.ofNat) (n := (h :: t).length) hC 0 (by omega) (by simp)
   cases e
   have hh := (HI.out.2.mine h (by simp)).1
   have hhI : (h : Int) < 26 := by omega
   have hrd : rd ((h :: t).map Int.ofNat) 0 = (h : Int) := by simp [rd]
   rw [hrd] at hy
   have hz : 0 < (h :: t).length := by simp
   have hy0 : wr.cell? yd = some (.int .i64 (h : Int)) := by simpa [Addr.add] using hy
   clear hy
   have hyx := cell_ext hy0
   clear hy0
   have hsz : (Tryd.prog.info? 102).map (·.size) = some (rowV R h).length := by rw [rowV_len]; kernel_rfl
   have hrow : ∀ w', (∃ x : Ext wr, w' = x.val) → w'.rangeAt NB (h * 26) (rowV R h) := by
    rintro w' ⟨X, rfl⟩
    have hb := X.2.below (n := w1.heap.size + 1) (fun _ _ h => h) HI.out.1.lt.2.2
    exact (FX.call HI.out.1 hb (Kd.Q_step HI.out.1.q (fun k _ hk => X.2.block k hk (fun h => h)))).net.range hh
   have HC := Lib.hid hC; clear hC
   have hX1 := HI.out.1
   rw [List.length_map] at hX1
   obtain ⟨L, hL⟩ : ∃ L, (h :: t).length = L := ⟨_, rfl⟩
   rw [hL] at hX1 hz hlc ⊢
   go_wp2_with fail
   refine region_ext (by kernel_rfl) (by kernel_rfl) ?_
   repeat (go_big_quiet_step (fail))
   refine wpQuiet_load_mid rfl 102 (.tmp 32) rfl NB (h * 26) rfl (rowV R h) _ hrow Tryd.underlying102 rfl hsz ?_
   simp only [Act.put, List.setIfInBounds_toArray, List.set_cons_succ, List.set_cons_zero]
   repeat (go_big_quiet_step (fail))
   refine wpQuiet_nil ?_
   rintro W' ⟨X, rfl⟩
   have hb := X.2.below (n := w1.heap.size + 1) (fun _ _ h => h) HI.out.1.lt.2.2
   have hFX := FX.call hX1 hb (Kd.Q_step hX1.q (fun k _ hk => X.2.block k hk (fun h => h)))
   have hBJ := BJ.start HI.out.2
   have HH := Lib.hid (And.intro hFX hBJ)
   have HM := Lib.hid (show unseen (seenW w1.heap.size wr) = unseen S from seenW_eq HI.out.1.sees)
   clear hX1 hrow hb hFX hBJ hyx hsz HI HC
   generalize X.val = w2 at *
   go_wp2_with fail
   go_loopw [6, 34] (fun tv kv wr => ∃ (k : Nat) (S' : Nat → Bool) (l : List Nat), k ≤ 26 ∧ kv = .int .i64 k ∧ Hid (FX w NB w1.heap.size R S' tv (h :: l) wr ∧ BJ (netOf nx sd og wo) R S (h :: t) h k S' l)) (fun tv kv wr => 26 - (intOf kv).toNat)
   case atStart => exact ⟨0, S, t, Nat.zero_le _, rfl, HH⟩
   case round =>
    obtain ⟨k, S', l, hk, rfl, HJ⟩ := hrel
    by_cases hk26 : k < 26
    ·have hkI : (k : Int) < 26 := by omega
     have hidx := row_index R h k hk26 wr
     obtain ⟨rm, hrmv⟩ : ∃ rm, R h k = rm := ⟨_, rfl⟩
     rw [hrmv] at hidx
     have HRM := Lib.hid hrmv; clear hrmv
     have hwk : wrap64 ((k : Int) + 1) = (k : Int) + 1 := wrap_in (by omega) (by omega)
     have cS := (HJ.out.1.sees k hk26).1
     have fS := (HJ.out.1.sees k hk26).2
     cases hpos : decide (0 < rm) with
     |false =>
      have HN := Lib.hid (HJ.out.2.skip (fun hr => by rw [HRM.out] at hr; simp at hpos; omega))
      clear cS fS
      go_wp2_with fail
      go_roundw
      case rel => exact ⟨k + 1, S', l, by omega, by go_num, Lib.hid ⟨HJ.out.1, HN.out⟩⟩
      case measure => exact meas_up1 hk26
     |true =>
      cases hsk : S' k with
      |true =>
       rw [hsk] at cS
       have HN := Lib.hid (HJ.out.2.skip (fun _ => hsk))
       clear hsk
       go_wp2_with fail
       go_roundw
       case rel => exact ⟨k + 1, S', l, by omega, by go_num, Lib.hid ⟨HJ.out.1, HN.out⟩⟩
       case measure => exact meas_up1 hk26
      |false =>
       rw [hsk] at cS
       have HN := Lib.hid (HJ.out.2.see rfl hk26 (by rw [HRM.out]; simpa using hpos) hsk)
       have HX2 := Lib.hid (HJ.out.1.see hk26)
       clear hsk
       have htot := HJ.out.2.tot
       go_wp2_with (at_builtin; go_loud (refine Kd.Q_append (Kd.int .i64) (w0 := wr.setCell ⟨w1.heap.size, k, none⟩ (.bool true)) (w1.heap.size + 1) rfl (.tmp 48) (.tmp 50) 26 3 (.int .i64 0) 8 rfl Tryd.underlying26 info3 rfl (by decide) (by decide) _ ((h :: l).map Int.ofNat) (k : Int) [.int .i64 (k : Int)] (fun k => w1.heap.size + 1 ≤ k) (fun _ => False) rfl (ev_size (n := wr.heap.size) rfl (by simp [World.setCell])) rfl (fun _ h => h.elim) (fun k hk => Nat.le_trans HX2.out.lt.2.2 hk) HX2.out.q (Below.refl _ _) HX2.out.lt.2.2 (by simp; omega) ?_; intro v1 w7 h1 h2 h3 h4))
       have hF2 := FX.call (l' := h :: (l ++ [k])) HX2.out h2 (by rw [show h :: (l ++ [k]) = (h :: l) ++ [k] from rfl, List.map_append]; exact h1)
       have HF2 := Lib.hid hF2; clear h1 h2 h3 h4 hF2 HX2
       go_wp2_with fail
       go_roundw
       case rel => exact ⟨k + 1, _, l ++ [k], by omega, by go_num, Lib.hid ⟨HF2.out, HN.out⟩⟩
       case measure => exact meas_up1 hk26
    ·obtain rfl : k = 26 := by omega
     obtain ⟨A2, c2, rfl, hlc2, hC2⟩ := Kd.Q_reads HJ.out.1.q
     have hQ := Kd.Q_drop (k := 1) HJ.out.1.q (by simp)
     have hlen : (1 : Int) ≤ (((h :: l).map Int.ofNat).length : Nat) := by simp; omega
     have hL2 := HJ.out.2.num
     have HJ2 := Lib.hid (And.intro HJ.out.1 (And.intro HJ.out.2 (And.intro hQ hL2))); clear HJ hQ hL2 hC2
     go_wp2_with fail
     refine ⟨⟨S', l, Lib.hid ⟨FX.call HJ2.out.1 (Below.refl _ _) ?_, HJ2.out.2.1.done⟩⟩, ?_⟩
     ·simpa [Addr.add, show (Kd.int .i64).sz = 1 from rfl] using HJ2.out.2.2.1
     ·show unseen _ + l.length < unseen _ + L
      rw [seenW_eq HJ2.out.1.sees, HM.out, ← hL]
      exact HJ2.out.2.2.2
end Go.Proofs.YticngcjfofcoiaaDoor
