/- The contracts of the reference's Same and Find. -/
import Derived.Test.YticngcjfofcoiaaDoorTe
namespace Go.Proofs.YticngcjfofcoiaaDoor
open Go.RowKit Go.Rg Go.Proofs.YticngcjfofcoiaaDoorW.PrintWords
set_option linter.unusedVariables false
set_option linter.unusedSimpArgs false
set_option maxRecDepth 100000
set_option maxHeartbeats 1000000 in
theorem rsame_any (A B : Option Addr) (c d : Nat) (a b : List Src) (w : World) (ha : Kd.C kS w A a.length a) (hb : Kd.C kS w B b.length b) :
  Calls Tryd.prog 23 #[.slice A a.length c, .slice B b.length d] w fun e w' => e = .returned (.bool (decide (a = b))) ∧ Below w.heap.size w w' := by
 have hma := max_len ha
 have hmb := max_len hb
 have HA := Lib.hid (And.intro ha hb); clear ha hb
 by_cases hl : a.length = b.length
 ·have hne : ((a.length : Int) != (b.length : Int)) = false := by rw [bneD]; simp [hl]
  have HL := Lib.hid hl; clear hl
  go_enter Tryd.func23, Tryd.ntmps23
  go_wp2_with fail
  go_loopw [5] (fun iv wr => ∃ i : Nat, i ≤ a.length ∧ iv = .int .i64 i ∧ Hid (a.take i = b.take i ∧ Below w.heap.size w wr)) (fun iv wr => a.length - (intOf iv).toNat)
  case atStart => exact ⟨0, Nat.zero_le _, rfl, Lib.hid ⟨rfl, Below.refl _ _⟩⟩
  case round =>
   obtain ⟨i, hi, rfl, HI⟩ := hrel
   by_cases hil : i < a.length
   ·have hiI : (i : Int) < (a.length : Int) := by omega
    have hib : i < b.length := by have := HL.out; omega
    have hiJ : (i : Int) < (b.length : Int) := by omega
    obtain ⟨s, hs⟩ : ∃ s, a[i]? = some s := ⟨_, List.getElem?_eq_getElem hil⟩
    obtain ⟨t, ht⟩ : ∃ t, b[i]? = some t := ⟨_, List.getElem?_eq_getElem hib⟩
    obtain ⟨ad, FA, fc, e, x0, x1, x2, hfc, hCf⟩ := at_S (Kd.C_below HA.out.1 HI.out.2) hs
    cases e
    obtain ⟨ae, GA, gc, e, y0, y1, y2, hgc, hCg⟩ := at_S (Kd.C_below HA.out.2 HI.out.2) ht
    cases e
    have hsa : a[i] = s := (List.getElem?_eq_some_iff.1 hs).2
    have htb : b[i] = t := (List.getElem?_eq_some_iff.1 ht).2
    have HCX := Lib.hid (fun x : Ext wr => ints_any FA fc s.frm GA gc t.frm x.val (Kd.C_below hCf (x.2.below (fun _ _ h => h) (Nat.le_refl _))) hfc (Kd.C_below hCg (x.2.below (fun _ _ h => h) (Nat.le_refl _))) hgc)
    have hdec := src_eq (s := s) (t := t)
    have HST := Lib.hid (show decide (s = t) = true → a.take (i + 1) = b.take (i + 1) from fun hd => take_stepS hil hib HI.out.1 (by rw [hsa, htb]; exact of_decide_eq_true hd))
    have HNO := Lib.hid (show decide (s = t) = false → decide (a = b) = false from fun hd => decide_eq_false (fun e => by
     subst e
     rw [hs] at ht
     cases ht
     simp at hd))
    have E0 := cell_ext x0
    have E1 := cell_ext x1
    have E2 := cell_ext x2
    have G0 := cell_ext y0
    have G1 := cell_ext y1
    have G2 := cell_ext y2
    clear hs ht hsa htb hCf hCg hfc hgc x0 x1 x2 y0 y1 y2
    generalize decide (s = t) = dd at *
    generalize decide (s.frm = t.frm) = df at *
    generalize s.id = i1 at *
    generalize t.id = i2 at *
    generalize s.kind = k1 at *
    generalize t.kind = k2 at *
    by_cases c1 : i1 = i2
    ·have c1' : (i1 != i2) = false := by simp [c1]
     by_cases c2 : k1 = k2
     ·have c2' : (k1 != k2) = false := by simp [c2]
      have hdd : dd = df := by rw [hdec, decide_eq_true c1, decide_eq_true c2]; rfl
      clear hdec c1 c2
      cases df with
      |true =>
       have HN := Lib.hid (HST.out hdd)
       clear hdd
       go_wp2_with fail
       refine region_ext (by kernel_rfl) (by kernel_rfl) ?_
       repeat (go_big_quiet_step (first | (go_at_call 25; with_reducible exact call_ext (HCX.out _))))
       refine wpQuiet_nil ?_
       rintro W' ⟨X, rfl⟩
       have HB := Lib.hid (HI.out.2.trans (X.2.below (fun _ _ h => h) HI.out.2.size))
       clear E0 E1 E2 G0 G1 G2
       go_wp2_with fail
       go_roundw
       case rel => exact ⟨i + 1, by omega, by go_num, Lib.hid ⟨HN.out, HB.out⟩⟩
       case measure => exact meas_up1 hil
      |false =>
       have HN := Lib.hid (HNO.out hdd)
       clear hdd
       go_wp2_with fail
       refine region_ext (by kernel_rfl) (by kernel_rfl) ?_
       repeat (go_big_quiet_step (first | (go_at_call 25; with_reducible exact call_ext (HCX.out _))))
       refine wpQuiet_nil ?_
       rintro W' ⟨X, rfl⟩
       have HB := Lib.hid (HI.out.2.trans (X.2.below (fun _ _ h => h) HI.out.2.size))
       clear E0 E1 E2 G0 G1 G2
       go_wp2_with fail
       go_ret
       exact ⟨ret_bool HN.out.symm, HB.out⟩
     ·have c2' : (k1 != k2) = true := by simp [c2]
      have HN := Lib.hid (HNO.out (by rw [hdec, decide_eq_false c2]; simp))
      clear hdec c1 c2
      go_wp2_with fail
      refine region_ext (by kernel_rfl) (by kernel_rfl) ?_
      repeat (go_big_quiet_step (first | (go_at_call 25; with_reducible exact call_ext (HCX.out _))))
      refine wpQuiet_nil ?_
      rintro W' ⟨X, rfl⟩
      have HB := Lib.hid (HI.out.2.trans (X.2.below (fun _ _ h => h) HI.out.2.size))
      clear E0 E1 E2 G0 G1 G2
      go_wp2_with fail
      go_ret
      exact ⟨ret_bool HN.out.symm, HB.out⟩
    ·have c1' : (i1 != i2) = true := by simp [c1]
     have HN := Lib.hid (HNO.out (by rw [hdec, decide_eq_false c1]; rfl))
     clear hdec c1
     go_wp2_with fail
     refine region_ext (by kernel_rfl) (by kernel_rfl) ?_
     repeat (go_big_quiet_step (first | (go_at_call 25; with_reducible exact call_ext (HCX.out _))))
     refine wpQuiet_nil ?_
     rintro W' ⟨X, rfl⟩
     have HB := Lib.hid (HI.out.2.trans (X.2.below (fun _ _ h => h) HI.out.2.size))
     clear E0 E1 E2 G0 G1 G2
     go_wp2_with fail
     go_ret
     exact ⟨ret_bool HN.out.symm, HB.out⟩
   ·obtain rfl : i = a.length := by omega
    have hq := HI.out.1
    rw [List.take_length, HL.out, List.take_length] at hq
    have HN := Lib.hid (show decide (a = b) = true from decide_eq_true hq); clear hq
    go_wp2_with fail
    go_ret
    exact ⟨ret_bool HN.out.symm, HI.out.2⟩
 ·have hne : ((a.length : Int) != (b.length : Int)) = true := by rw [bneD]; simp; omega
  have HN := Lib.hid (show decide (a = b) = false from decide_eq_false (fun e => hl (by rw [e]))); clear hl
  go_enter Tryd.func23, Tryd.ntmps23
  go_wp2_with fail
  go_ret
  exact ⟨ret_bool HN.out.symm, Below.refl _ _⟩
set_option maxHeartbeats 1000000 in
theorem rfind_any (A : Option Addr) (c : Nat) (l : List Src) (x : Int) (w : World) (hs : SrcAt A c l w) :
  Calls Tryd.prog 24 #[.slice A l.length c, .int .i64 x] w (FindPost l x w) := by
 have hm := max_len hs.rl
 obtain ⟨b, hb⟩ : ∃ b, w.heap.size = b := ⟨_, rfl⟩
 have hA := (Below.refl w.heap.size w).alloc (Nat.le_refl _) (.cells #[.int .i64 0, .int .i64 0, .slice none 0 0] 35)
 have k0 := heap_new (W := w) (o := (.cells #[.int .i64 0, .int .i64 0, .slice none 0 0] 35)) hb
 obtain ⟨w1, hw1⟩ : ∃ W, w.alloc (.cells #[.int .i64 0, .int .i64 0, .slice none 0 0] 35) = W := ⟨_, rfl⟩
 have hz1 : w1.heap.size = b + 1 := by rw [← hw1]; simp [hb]
 rw [hw1] at hA k0
 have hix := rindex_any A c l x w1 (hs.next hA).rl
 have H1 := Lib.hid (And.intro hA (And.intro k0 (And.intro hz1 (And.intro hs hb)))); clear hA k0 hz1 hs
 rcases fIdx_find l x with ⟨hn, hf⟩ | ⟨k, s, hsk, hn, hf⟩
 ·rw [hf] at hix
  have HIX := Lib.hid hix; clear hix hf
  unfold FindPost
  rw [hn]
  clear hn
  go_enter Tryd.func24, Tryd.ntmps24
  go_wp2_with fail
  clear hw1
  refine HIX.out.mono ?_
  rintro e w2 ⟨rfl, hb2⟩
  have eb := (hb2.block b (by have := H1.out.2.2.1; omega)).trans H1.out.2.1
  have r0 := cell_of (o := 0) eb rfl
  have r1 := cell_of (o := 1) eb rfl
  have r2 := cell_of (o := 2) eb rfl
  have f0 := frozen_of (o := 0) eb
  have f1 := frozen_of (o := 1) eb
  have f2 := frozen_of (o := 2) eb
  have HEB := Lib.hid (And.intro eb (H1.out.1.trans (hb2.mono H1.out.1.size))); clear eb hb2
  go_wp2_with fail
  refine bodyPost_ret (v := .tuple #[.agg #[.int .i64 0, .int .i64 0, .slice none 0 0], .bool false]) ?_ rfl ⟨.slice none 0 0, rfl, Kd.R_nil _ _ _ _ _, ((HEB.out.2.setCell (p := ⟨b, 0, none⟩) (by have := H1.out.2.2.2.2; show w.heap.size ≤ b; omega) _).setCell (p := ⟨b, 1, none⟩) (by have := H1.out.2.2.2.2; show w.heap.size ≤ b; omega) _).setCell (p := ⟨b, 2, none⟩) (by have := H1.out.2.2.2.2; show w.heap.size ≤ b; omega) _⟩
  have hh := set3 (y0 := .int .i64 0) (y1 := .int .i64 0) (y2 := .slice none 0 0) HEB.out.1
  have e0 := cell_of (o := 0) hh rfl
  have e1 := cell_of (o := 1) hh rfl
  have e2 := cell_of (o := 2) hh rfl
  simp [results, Tryd.results24, go_sem, e0, e1, e2]
 ·rw [hf] at hix
  have HIX := Lib.hid hix; clear hix hf
  unfold FindPost
  rw [hn]
  have hsl := H1.out.2.2.2.1.short s (List.mem_of_getElem? hsk)
  have hkl := (List.getElem?_eq_some_iff.1 hsk).1
  have hkI : (k : Int) < (l.length : Int) := by omega
  have HS := Lib.hid (And.intro hsk hsl); clear hn hsk hsl
  go_enter Tryd.func24, Tryd.ntmps24
  go_wp2_with fail
  clear hw1
  refine HIX.out.mono ?_
  rintro e w2 ⟨rfl, hb2⟩
  have hbw := H1.out.1.trans (hb2.mono H1.out.1.size)
  have eb := (hb2.block b (by have := H1.out.2.2.1; omega)).trans H1.out.2.1
  obtain ⟨ad, FA, fc, e, x0, x1, x2, hfc, hCf⟩ := at_S H1.out.2.2.2.1.rl HS.out.1
  cases e
  have hbl : (ad.add (k * 3)).block < b := by have := World.block_lt_of_cell? w _ x0; have h2 := H1.out.2.2.2.2; rw [← h2]; exact this
  have d0 := cell_extB (B := fun k => b ≤ k) (pw_cell_below hbw x0) (by show ¬ b ≤ (ad.add (k * 3)).block; omega)
  have d1 := cell_extB (B := fun k => b ≤ k) (pw_cell_below hbw x1) (by show ¬ b ≤ (ad.add (k * 3)).block; omega)
  have d2 := cell_extB (B := fun k => b ≤ k) (pw_cell_below hbw x2) (by show ¬ b ≤ (ad.add (k * 3)).block; omega)
  have H2 := Lib.hid (And.intro hbw (And.intro eb (And.intro (Kd.C_below hCf hbw) (And.intro hfc H1.out.2.2.2.2)))); clear eb hbw hCf hfc hb2 x0 x1 x2 HIX hbl hb
  go_wp2_with fail
  refine region_seqP (fun k => b ≤ k) [([0, 1, 2, 3, 4, 5, 6, 7, 8, 9, 11, 12, 13, 14, 15], 10), ([], 16), ([], 17), ([], 18)] [19] (by kernel_rfl) (by kernel_rfl) (fun _ _ d _ _ h => by cases d <;> exact h) (fun ⟨_, _, h⟩ => by obtain ⟨_, h, _⟩ := h; cases h) ?_
  obtain ⟨wd, hwd⟩ : ∃ wd, wd = { w2 with drawn := w2.drawn + 1 } := ⟨_, rfl⟩
  rw [← hwd]
  have hF := (show Fr (fun k => b ≤ k) w2 wd by rw [hwd]; exact (Fr.refl _ _).drew)
  have hbd : Below w2.heap.size w2 wd := by rw [hwd]; exact (Below.refl _ _).drew
  have HD := Lib.hid (And.intro hbd hF); clear hwd hbd hF
  simp only [seqQ, pick_cons, pick_nil, nthO_succ, nthO_zero]
  repeat (go_big_quiet_step (fail))
  refine wpQuiet_nil ?_
  clear d0 d1 d2
  obtain ⟨ge, hge⟩ : ∃ q, wd.heap.size = q := ⟨_, rfl⟩
  have hE0 : (Kd.int .i64).R 3 (wd.alloc (.cells #[] 3)) ge (fun k => ge ≤ k) (.slice (some ⟨ge, 0, none⟩) 0 0) [] := empty_row hge (by omega) (by omega)
  have hbE := (Below.refl wd.heap.size wd).alloc (Nat.le_refl _) (.cells #[] 3)
  have hbG : Below ge wd (wd.alloc (.cells #[] 3)) := by rw [← hge]; exact hbE
  have hzG : ge ≤ (wd.alloc (.cells #[] 3)).heap.size := by rw [← hge]; exact hbE.size
  have HE := Lib.hid (And.intro hE0 (And.intro hbG (And.intro (Kd.C_below (Kd.C_below H2.out.2.2.1 HD.out.1) hbE) (And.intro hzG (HD.out.2.alloc (.cells #[] 3)))))); clear hE0 hbE hbG hzG
  have hbge : b ≤ ge := by have h1 := HD.out.1.size; have h2 := (Array.getElem?_eq_some_iff.1 H2.out.2.1).1; omega
  have HGE := Lib.hid (And.intro hge hbge)
  have hsl := HS.out.2
  go_wp2_with fail
  refine ⟨⟨⟨_, HE.out.2.2.2.2⟩, rfl⟩, ?_⟩
  refine wpQuiet_nil ?_
  refine Kd.R_append_rows (Kd.int .i64) (w0 := wd) (Rr := fun x cs => cs = [.int .i64 x]) ge rfl (.tmp 23) (.tmp 28) 26 3 (.int .i64 0) 8 rfl Tryd.underlying26 info3 rfl (by decide) (by decide) _ [] s.frm FA s.frm.length fc (fun k => ge ≤ k) (fun _ => False) rfl rfl HE.out.1 HE.out.2.2.1 (fun _ _ h => h) (fun _ h => h.elim) (fun k hk => Nat.le_trans HE.out.2.2.2.1 hk) HE.out.2.1 HE.out.2.2.2.1 (by simp only [List.length_nil]; omega) ?_
  intro v1 w5 h1 h2 h3 h4
  have hown : ∀ k, (Value.slice (some ⟨ge, 0, none⟩) 0 0).ownBlock = some k → ge ≤ k := fun k hk => HE.out.1.1 k hk
  rw [List.nil_append] at h1
  obtain ⟨VA, vc, rfl⟩ := Kd.R_slice h1
  have hF5 := HE.out.2.2.2.2.grown h3 (fun k hk _ => by have := hown k hk; omega)
  have hb5 : Below w2.heap.size w2 w5 := HD.out.1.trans (h2.mono (by have := HD.out.1.size; have := HGE.out.1; omega))
  have eb5 := (hb5.block b (Array.getElem?_eq_some_iff.1 H2.out.2.1).1).trans H2.out.2.1
  have hR5 := Kd.R_lower (Kd.R_mono h1 (ok' := fun k => w.heap.size ≤ k) (fun k hk => by have := H2.out.2.2.2.2; omega)) (show w.heap.size ≤ ge by have := H2.out.2.2.2.2; omega)
  obtain ⟨n, hn⟩ : ∃ n, s.frm.length = n := ⟨_, rfl⟩
  rw [hn] at hR5 ⊢
  have hRs := Kd.R_set (Kd.R_set (Kd.R_set hR5 eb5 (fun q hq => by rw [kI_only hq]; decide) 0 (.int .i64 s.id)) (heap_set (o := 0) _ eb5) (fun q hq => by rw [kI_only hq]; decide) 1 (.int .i64 s.kind)) (heap_set (o := 1) _ (heap_set (o := 0) _ eb5)) (fun q hq => by rw [kI_only hq]; decide) 2 (.slice VA n vc)
  have hF6 := ((hF5.setCell ⟨b, 0, none⟩ (.int .i64 s.id) (fun _ => by show b ≤ b; omega)).setCell ⟨b, 1, none⟩ (.int .i64 s.kind) (fun _ => by show b ≤ b; omega)).setCell ⟨b, 2, none⟩ (.slice VA n vc) (fun _ => by show b ≤ b; omega)
  have H5 := Lib.hid (And.intro hF5 (And.intro hF6 (And.intro hRs (And.intro eb5 (H2.out.1.trans (hb5.mono H2.out.1.size))))))
  have r0 := cell_of (o := 0) eb5 rfl
  have r1 := cell_of (o := 1) eb5 rfl
  have r2 := cell_of (o := 2) eb5 rfl
  have f0 := frozen_of (o := 0) eb5
  have f1 := frozen_of (o := 1) eb5
  have f2 := frozen_of (o := 2) eb5
  clear h1 h2 h3 h4 hF5 hF6 hb5 eb5 hR5 hRs hown hn hge hbge HE hsl
  refine ⟨⟨⟨_, H5.out.1⟩, rfl⟩, ?_⟩
  refine wpQuiet_nil ?_
  go_wp2_with fail
  refine ⟨⟨⟨_, H5.out.1⟩, rfl⟩, ?_⟩
  refine wpQuiet_nil ?_
  go_wp2_with fail
  refine ⟨⟨⟨_, H5.out.2.1⟩, rfl⟩, ?_⟩
  repeat (go_big_quiet_step (fail))
  refine wpQuiet_nil ?_
  go_wp2_with fail
  refine bodyPost_ret (v := .tuple #[.agg #[.int .i64 s.id, .int .i64 s.kind, .slice VA n vc], .bool true]) ?_ rfl ⟨.slice VA n vc, rfl, H5.out.2.2.1, ((H5.out.2.2.2.2.setCell (p := ⟨b, 0, none⟩) (by have := H2.out.2.2.2.2; show w.heap.size ≤ b; omega) _).setCell (p := ⟨b, 1, none⟩) (by have := H2.out.2.2.2.2; show w.heap.size ≤ b; omega) _).setCell (p := ⟨b, 2, none⟩) (by have := H2.out.2.2.2.2; show w.heap.size ≤ b; omega) _⟩
  have hh := set3 (y0 := .int .i64 s.id) (y1 := .int .i64 s.kind) (y2 := .slice VA n vc) H5.out.2.2.2.1
  have e0 := cell_of (o := 0) hh rfl
  have e1 := cell_of (o := 1) hh rfl
  have e2 := cell_of (o := 2) hh rfl
  simp [results, Tryd.results24, go_sem, e0, e1, e2]
end Go.Proofs.YticngcjfofcoiaaDoor
