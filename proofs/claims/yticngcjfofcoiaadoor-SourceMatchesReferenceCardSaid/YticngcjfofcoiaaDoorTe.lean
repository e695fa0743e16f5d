/- The contracts of the reference's Support and Named. -/
import Derived.Test.YticngcjfofcoiaaDoorTa
import Derived.Test.YticngcjfofcoiaaDoorRj
namespace Go.Proofs.YticngcjfofcoiaaDoor
open Go.RowKit Go.Rg Go.Proofs.YticngcjfofcoiaaDoorW.PrintWords
set_option linter.unusedVariables false
set_option linter.unusedSimpArgs false
set_option maxRecDepth 100000
theorem sup_no {l : List Src} {xs : List Int} {wo : Nat} {w W : World} (hg : givenB l xs = false) (hb : Below w.heap.size w W) : SupPost l xs wo w (.returned (.tuple #[.agg #[.int .i64 0, .slice none 0 0, .slice none 0 0], .int .i64 70])) W := by
 have h1 : cntS l xs wo = 0 := by unfold cntS; rw [hg]; rfl
 have h2 : waysS l xs wo = [] := by unfold waysS; rw [hg]; rfl
 have h3 : cutS l xs wo = [] := by unfold cutS; rw [hg]; rfl
 have h4 : errS l xs = 70 := by unfold errS; rw [hg]; rfl
 exact ⟨.slice none 0 0, .slice none 0 0, by rw [h1, h4]; rfl, by rw [h2]; exact Kd.R_nil _ _ _ _ _, by rw [h3]; exact Kd.R_nil _ _ _ _ _, hb⟩
theorem no_valid {l : List Src} {xs : List Int} (h : validS l = false) : givenB l xs = false := by unfold givenB; rw [h]; rfl
theorem no_asrt {l : List Src} {xs : List Int} (h : asrt l xs = false) : givenB l xs = false := by unfold givenB; rw [h]; simp
theorem yes_given {l : List Src} {xs : List Int} (h1 : validS l = true) (h : asrt l xs = true) : givenB l xs = true := by unfold givenB; rw [h, h1]; rfl
theorem woL_add {l : List Src} {k : Nat} {s : Src} (hv : validS l = true) (hs : l[k]? = some s) : woL (l.take (k + 1)) = if s.kind = 1 then woL (l.take k) else woL (l.take k) + 2 ^ s.id.toNat := by
 have hm := List.mem_of_getElem? hs
 have hr := valid_src hv hm
 have hkd : s.kind = 1 ∨ s.kind = 2 := hr.2.2.2.1
 rw [take_at hs, woL_snoc]
 rcases hkd with h | h
 ·rw [if_pos h, if_neg (by omega)]
 ·rw [if_neg (show ¬ s.kind = 1 by omega), if_pos (show s.kind = 2 ∧ 0 ≤ s.id ∧ s.id < 12 from ⟨h, by omega, by omega⟩)]
  refine (or_add (woL_lt _) (by omega) ?_).symm
  rw [← Bool.not_eq_true, woL_bit]
  rintro ⟨t, ht, h1, h2⟩
  obtain ⟨m, hm1, hm2⟩ := List.mem_take_iff_getElem.1 ht
  have hlt := valid_ids hv (show m < k by omega) (List.getElem?_eq_some_iff.1 hs).1
  have e1 : idAt l m = t.id := by unfold idAt; rw [List.getD_eq_getElem?_getD, List.getElem?_eq_getElem (by omega)]; simp [hm2]
  have e2 : idAt l k = s.id := by unfold idAt; rw [List.getD_eq_getElem?_getD, hs]; rfl
  rw [e1, e2] at hlt
  omega
set_option maxHeartbeats 1000000 in
theorem rSupport_any (A : Option Addr) (c : Nat) (l : List Src) (B : Option Addr) (d : Nat) (xs : List Int) (w : World) (hs : SrcAt A c l w) (hi : IntAt B d xs w) :
  Calls Tryd.prog 26 #[.slice A l.length c, .slice B xs.length d] w (SupPost l xs 0 w) := by
 have hml := max_len hs.rl
 have hmx := max_len hi.rx
 obtain ⟨b, hb⟩ : ∃ b, w.heap.size = b := ⟨_, rfl⟩
 have hA := (Below.refl w.heap.size w).alloc (Nat.le_refl _) (.cells #[.int .i64 0, .slice none 0 0, .slice none 0 0] 30)
 have k0 := heap_new (W := w) (o := (.cells #[.int .i64 0, .slice none 0 0, .slice none 0 0] 30)) hb
 obtain ⟨w1, hw1⟩ : ∃ W, w.alloc (.cells #[.int .i64 0, .slice none 0 0, .slice none 0 0] 30) = W := ⟨_, rfl⟩
 have hz1 : w1.heap.size = b + 1 := by rw [← hw1]; simp [hb]
 rw [hw1] at hA k0
 have HVC := Lib.hid (rvalid_any A c l w1 (hs.next hA).rl (hs.next hA).short)
 have H1 := Lib.hid (And.intro hA (And.intro k0 (And.intro hz1 (And.intro (hs.next hA) (And.intro (hi.next hA) hb))))); clear hA k0 hz1 hs hi
 go_enter Tryd.func26, Tryd.ntmps26
 go_wp2_with fail
 clear hw1
 refine HVC.out.mono ?_
 rintro e w2 ⟨rfl, hb2⟩
 have H2 := Lib.hid (And.intro (H1.out.1.trans (hb2.mono H1.out.1.size)) (And.intro ((hb2.block _ (by have := H1.out.2.2.1; omega)).trans H1.out.2.1) (And.intro (H1.out.2.2.2.1.next hb2) (And.intro (H1.out.2.2.2.2.1.next hb2) H1.out.2.2.2.2.2)))); clear hb2 HVC H1
 cases hv : validS l with
 |false =>
  have HN := Lib.hid (no_valid (xs := xs) hv)
  have eb := H2.out.2.1
  have r0 := cell_of (o := 0) eb rfl
  have r1 := cell_of (o := 1) eb rfl
  have r2 := cell_of (o := 2) eb rfl
  have f0 := frozen_of (o := 0) eb
  have f1 := frozen_of (o := 1) eb
  have f2 := frozen_of (o := 2) eb
  have HEB := Lib.hid eb; clear eb
  go_wp2_with fail
  refine bodyPost_ret (v := .tuple #[.agg #[.int .i64 0, .slice none 0 0, .slice none 0 0], .int .i64 70]) ?_ rfl (sup_no HN.out (((H2.out.1.setCell (p := ⟨b, 0, none⟩) (by have := H2.out.2.2.2.2; show w.heap.size ≤ b; omega) _).setCell (p := ⟨b, 1, none⟩) (by have := H2.out.2.2.2.2; show w.heap.size ≤ b; omega) _).setCell (p := ⟨b, 2, none⟩) (by have := H2.out.2.2.2.2; show w.heap.size ≤ b; omega) _))
  have hh := set3 (y0 := .int .i64 0) (y1 := .slice none 0 0) (y2 := .slice none 0 0) HEB.out
  have e0 := cell_of (o := 0) hh rfl
  have e1 := cell_of (o := 1) hh rfl
  have e2 := cell_of (o := 2) hh rfl
  simp [results, Tryd.results26, go_sem, e0, e1, e2]
 |true =>
  have HAC := Lib.hid (rasrt_any A c l B d xs w2 H2.out.2.2.1.rl H2.out.2.2.2.1.rx)
  go_wp2_with fail
  refine HAC.out.mono ?_
  rintro e w3 ⟨rfl, hb3⟩
  have H3 := Lib.hid (And.intro (H2.out.1.trans (hb3.mono H2.out.1.size)) (And.intro ((hb3.block _ (Array.getElem?_eq_some_iff.1 H2.out.2.1).1).trans H2.out.2.1) (And.intro (H2.out.2.2.1.next hb3) (And.intro (H2.out.2.2.2.1.next hb3) H2.out.2.2.2.2)))); clear hb3 HAC H2
  cases ha : asrt l xs with
  |false =>
   have HN := Lib.hid (no_asrt (xs := xs) ha)
   have eb := H3.out.2.1
   have r0 := cell_of (o := 0) eb rfl
   have r1 := cell_of (o := 1) eb rfl
   have r2 := cell_of (o := 2) eb rfl
   have f0 := frozen_of (o := 0) eb
   have f1 := frozen_of (o := 1) eb
   have f2 := frozen_of (o := 2) eb
   have HEB := Lib.hid eb; clear eb
   go_wp2_with fail
   refine bodyPost_ret (v := .tuple #[.agg #[.int .i64 0, .slice none 0 0, .slice none 0 0], .int .i64 70]) ?_ rfl (sup_no HN.out (((H3.out.1.setCell (p := ⟨b, 0, none⟩) (by have := H3.out.2.2.2.2; show w.heap.size ≤ b; omega) _).setCell (p := ⟨b, 1, none⟩) (by have := H3.out.2.2.2.2; show w.heap.size ≤ b; omega) _).setCell (p := ⟨b, 2, none⟩) (by have := H3.out.2.2.2.2; show w.heap.size ≤ b; omega) _))
   have hh := set3 (y0 := .int .i64 0) (y1 := .slice none 0 0) (y2 := .slice none 0 0) HEB.out
   have e0 := cell_of (o := 0) hh rfl
   have e1 := cell_of (o := 1) hh rfl
   have e2 := cell_of (o := 2) hh rfl
   simp [results, Tryd.results26, go_sem, e0, e1, e2]
  |true =>
   have HGV := Lib.hid (yes_given hv ha); clear hv ha hb
   have HC := Lib.hid (rcount_any A c l B d xs 0 _ H3.out.2.2.1 H3.out.2.2.2.1 (HGV.out) (by decide))
   go_wp2_with fail
   refine HC.out.mono ?_
   rintro e w9 ⟨wv, cv, rfl, hRw, hRc, hb9⟩
   obtain ⟨WA, wc, rfl⟩ := Kd.R_slice hRw
   obtain ⟨VA, vc, rfl⟩ := Kd.R_slice hRc
   have hlo := H3.out.1.size
   have hRw' := Kd.R_mono (Kd.R_lower hRw hlo) (ok' := fun k => w.heap.size ≤ k) (fun k hk => Nat.le_trans hlo hk)
   have hRc' := Kd.R_mono (Kd.R_lower hRc hlo) (ok' := fun k => w.heap.size ≤ k) (fun k hk => Nat.le_trans hlo hk)
   have h6 := (hb9.block _ (Array.getElem?_eq_some_iff.1 H3.out.2.1).1).trans H3.out.2.1
   have c0 := cell_of (o := 0) h6 rfl
   have c1 := cell_of (o := 1) h6 rfl
   have c2 := cell_of (o := 2) h6 rfl
   have f0 := frozen_of (o := 0) h6
   have f1 := frozen_of (o := 1) h6
   have f2 := frozen_of (o := 2) h6
   have HF := Lib.hid (And.intro h6 (And.intro (H3.out.1.trans (hb9.mono H3.out.1.size)) (And.intro hRw' (And.intro hRc' H3.out.2.2.2.2)))); clear h6 hb9 hRw hRc hRw' hRc' HC hlo
   have HGE := Lib.hid (given_err (HGV.out))
   generalize (toI (waysS l xs (0))).length = n1 at *
   generalize ((cutS l xs (0)).map Int.ofNat).length = n2 at *
   go_wp2_with fail
   have hs3 := set3 (y0 := .int .i64 (cntS l xs (0) : Nat)) (y1 := .slice WA n1 wc) (y2 := .slice VA n2 vc) HF.out.1
   have hf := sup_fill (n := .int .i64 (cntS l xs (0) : Nat)) HF.out.1 HF.out.2.2.1 HF.out.2.2.2.1
   refine bodyPost_ret (v := .tuple #[.agg #[.int .i64 (cntS l xs (0) : Nat), .slice WA n1 wc, .slice VA n2 vc], .int .i64 0]) ?_ rfl ⟨_, _, by rw [HGE.out], hf.1, hf.2, ((HF.out.2.1.setCell (p := ⟨b, 0, none⟩) (by have := HF.out.2.2.2.2; show w.heap.size ≤ b; omega) _).setCell (p := ⟨b, 1, none⟩) (by have := HF.out.2.2.2.2; show w.heap.size ≤ b; omega) _).setCell (p := ⟨b, 2, none⟩) (by have := HF.out.2.2.2.2; show w.heap.size ≤ b; omega) _⟩
   have e0 := cell_of (o := 0) hs3 rfl
   have e1 := cell_of (o := 1) hs3 rfl
   have e2 := cell_of (o := 2) hs3 rfl
   simp [results, Tryd.results26, go_sem, e0, e1, e2]
set_option maxHeartbeats 1000000 in
theorem rNamed_any (A : Option Addr) (c : Nat) (l : List Src) (B : Option Addr) (d : Nat) (xs : List Int) (w : World) (hs : SrcAt A c l w) (hi : IntAt B d xs w) :
  Calls Tryd.prog 27 #[.slice A l.length c, .slice B xs.length d] w (SupPost l xs (woL l) w) := by
 have hml := max_len hs.rl
 have hmx := max_len hi.rx
 obtain ⟨b, hb⟩ : ∃ b, w.heap.size = b := ⟨_, rfl⟩
 have hA := (Below.refl w.heap.size w).alloc (Nat.le_refl _) (.cells #[.int .i64 0, .slice none 0 0, .slice none 0 0] 30)
 have k0 := heap_new (W := w) (o := (.cells #[.int .i64 0, .slice none 0 0, .slice none 0 0] 30)) hb
 obtain ⟨w1, hw1⟩ : ∃ W, w.alloc (.cells #[.int .i64 0, .slice none 0 0, .slice none 0 0] 30) = W := ⟨_, rfl⟩
 have hz1 : w1.heap.size = b + 1 := by rw [← hw1]; simp [hb]
 rw [hw1] at hA k0
 have HVC := Lib.hid (rvalid_any A c l w1 (hs.next hA).rl (hs.next hA).short)
 have H1 := Lib.hid (And.intro hA (And.intro k0 (And.intro hz1 (And.intro (hs.next hA) (And.intro (hi.next hA) hb))))); clear hA k0 hz1 hs hi
 go_enter Tryd.func27, Tryd.ntmps27
 go_wp2_with fail
 clear hw1
 refine HVC.out.mono ?_
 rintro e w2 ⟨rfl, hb2⟩
 have H2 := Lib.hid (And.intro (H1.out.1.trans (hb2.mono H1.out.1.size)) (And.intro ((hb2.block _ (by have := H1.out.2.2.1; omega)).trans H1.out.2.1) (And.intro (H1.out.2.2.2.1.next hb2) (And.intro (H1.out.2.2.2.2.1.next hb2) H1.out.2.2.2.2.2)))); clear hb2 HVC H1
 cases hv : validS l with
 |false =>
  have HN := Lib.hid (no_valid (xs := xs) hv)
  have eb := H2.out.2.1
  have r0 := cell_of (o := 0) eb rfl
  have r1 := cell_of (o := 1) eb rfl
  have r2 := cell_of (o := 2) eb rfl
  have f0 := frozen_of (o := 0) eb
  have f1 := frozen_of (o := 1) eb
  have f2 := frozen_of (o := 2) eb
  have HEB := Lib.hid eb; clear eb
  go_wp2_with fail
  refine bodyPost_ret (v := .tuple #[.agg #[.int .i64 0, .slice none 0 0, .slice none 0 0], .int .i64 70]) ?_ rfl (sup_no HN.out (((H2.out.1.setCell (p := ⟨b, 0, none⟩) (by have := H2.out.2.2.2.2; show w.heap.size ≤ b; omega) _).setCell (p := ⟨b, 1, none⟩) (by have := H2.out.2.2.2.2; show w.heap.size ≤ b; omega) _).setCell (p := ⟨b, 2, none⟩) (by have := H2.out.2.2.2.2; show w.heap.size ≤ b; omega) _))
  have hh := set3 (y0 := .int .i64 0) (y1 := .slice none 0 0) (y2 := .slice none 0 0) HEB.out
  have e0 := cell_of (o := 0) hh rfl
  have e1 := cell_of (o := 1) hh rfl
  have e2 := cell_of (o := 2) hh rfl
  simp [results, Tryd.results27, go_sem, e0, e1, e2]
 |true =>
  have HAC := Lib.hid (rasrt_any A c l B d xs w2 H2.out.2.2.1.rl H2.out.2.2.2.1.rx)
  go_wp2_with fail
  refine HAC.out.mono ?_
  rintro e w3 ⟨rfl, hb3⟩
  have H3 := Lib.hid (And.intro (H2.out.1.trans (hb3.mono H2.out.1.size)) (And.intro ((hb3.block _ (Array.getElem?_eq_some_iff.1 H2.out.2.1).1).trans H2.out.2.1) (And.intro (H2.out.2.2.1.next hb3) (And.intro (H2.out.2.2.2.1.next hb3) H2.out.2.2.2.2)))); clear hb3 HAC H2
  cases ha : asrt l xs with
  |false =>
   have HN := Lib.hid (no_asrt (xs := xs) ha)
   have eb := H3.out.2.1
   have r0 := cell_of (o := 0) eb rfl
   have r1 := cell_of (o := 1) eb rfl
   have r2 := cell_of (o := 2) eb rfl
   have f0 := frozen_of (o := 0) eb
   have f1 := frozen_of (o := 1) eb
   have f2 := frozen_of (o := 2) eb
   have HEB := Lib.hid eb; clear eb
   go_wp2_with fail
   refine bodyPost_ret (v := .tuple #[.agg #[.int .i64 0, .slice none 0 0, .slice none 0 0], .int .i64 70]) ?_ rfl (sup_no HN.out (((H3.out.1.setCell (p := ⟨b, 0, none⟩) (by have := H3.out.2.2.2.2; show w.heap.size ≤ b; omega) _).setCell (p := ⟨b, 1, none⟩) (by have := H3.out.2.2.2.2; show w.heap.size ≤ b; omega) _).setCell (p := ⟨b, 2, none⟩) (by have := H3.out.2.2.2.2; show w.heap.size ≤ b; omega) _))
   have hh := set3 (y0 := .int .i64 0) (y1 := .slice none 0 0) (y2 := .slice none 0 0) HEB.out
   have e0 := cell_of (o := 0) hh rfl
   have e1 := cell_of (o := 1) hh rfl
   have e2 := cell_of (o := 2) hh rfl
   simp [results, Tryd.results27, go_sem, e0, e1, e2]
  |true =>
   have HGV := Lib.hid (And.intro (yes_given hv ha) hv); clear hv ha hb
   go_wp2_with fail
   go_loopw [6, 7] (fun uv iv W => ∃ k : Nat, k ≤ l.length ∧ iv = .int .i64 k ∧ uv = .int .i64 ((woL (l.take k) : Nat) : Int) ∧ Hid (W = w3)) (fun uv iv W => l.length - (intOf iv).toNat)
   case atStart => exact ⟨0, Nat.zero_le _, rfl, rfl, Lib.hid rfl⟩
   case round =>
    obtain ⟨k, hk, rfl, rfl, HW⟩ := hrel
    have hww : wr = w3 := HW.out
    subst hww
    by_cases hlt : k < l.length
    ·have hltI : (k : Int) < (l.length : Int) := by omega
     obtain ⟨s, hs⟩ : ∃ s, l[k]? = some s := ⟨l[k], List.getElem?_eq_getElem hlt⟩
     obtain ⟨ad, FA, fc, e, x0, x1, x2, hfc, hCf⟩ := at_S H3.out.2.2.1.rl hs
     cases e
     have hst := woL_add HGV.out.2 hs
     have hr := valid_src HGV.out.2 (List.mem_of_getElem? hs)
     have hwl := woL_lt (l.take (k + 1))
     obtain ⟨id, hid⟩ : ∃ id : Nat, s.id = id := ⟨s.id.toNat, by omega⟩
     obtain ⟨kd, hkd⟩ : ∃ kd, s.kind = kd := ⟨_, rfl⟩
     obtain ⟨OG, hOG⟩ : ∃ OG, woL (l.take k) = OG := ⟨_, rfl⟩
     rw [hid] at x0 hst
     rw [hkd] at x1 hst
     rw [hOG] at hst ⊢
     rw [Int.toNat_natCast] at hst
     have HBI := Lib.hid (rbit_any id (by omega) wr)
     clear hid hkd hOG hs hfc hCf hr
     by_cases c1 : kd = 1
     ·have c1' : (kd != 1) = false := by simp [c1]
      have HN := Lib.hid (show woL (l.take (k + 1)) = OG by rw [hst, if_pos c1])
      clear c1 hst hwl
      go_wp2_with fail
      go_roundw
      case rel => exact ⟨k + 1, by omega, by go_num, by rw [HN.out], Lib.hid (by first | trivial | rfl)⟩
      case measure => exact meas_up1 hlt
     ·have c1' : (kd != 1) = true := by simp [c1]
      have hst2 : woL (l.take (k + 1)) = OG + 2 ^ id := by rw [hst, if_neg c1]
      have HN := Lib.hid hst2
      have hwrap : wrap64 ((OG : Int) + ((2 ^ id : Nat) : Int)) = ((OG + 2 ^ id : Nat) : Int) := by unfold wrap64; omega
      obtain ⟨q, hq⟩ : ∃ q, 2 ^ id = q := ⟨_, rfl⟩
      rw [hq] at HBI HN hwrap
      have HWR := Lib.hid hwrap
      clear c1 hst hst2 hwl hq hwrap
      go_wp2_with fail
      refine HBI.out.mono ?_
      rintro e w5 ⟨rfl, rfl⟩
      go_wp2_with fail
      go_roundw
      case rel => exact ⟨k + 1, by omega, by go_num, by rw [HN.out]; first | rw [HWR.out] | rfl, Lib.hid (by first | trivial | rfl)⟩
      case measure => exact meas_up1 hlt
    ·obtain rfl : k = l.length := by omega
     rw [List.take_length]
     have HC := Lib.hid (rcount_any A c l B d xs (woL l) _ H3.out.2.2.1 H3.out.2.2.2.1 (HGV.out.1) (woL_lt l))
     go_wp2_with fail
     refine HC.out.mono ?_
     rintro e w9 ⟨wv, cv, rfl, hRw, hRc, hb9⟩
     obtain ⟨WA, wc, rfl⟩ := Kd.R_slice hRw
     obtain ⟨VA, vc, rfl⟩ := Kd.R_slice hRc
     have hlo := H3.out.1.size
     have hRw' := Kd.R_mono (Kd.R_lower hRw hlo) (ok' := fun k => w.heap.size ≤ k) (fun k hk => Nat.le_trans hlo hk)
     have hRc' := Kd.R_mono (Kd.R_lower hRc hlo) (ok' := fun k => w.heap.size ≤ k) (fun k hk => Nat.le_trans hlo hk)
     have h6 := (hb9.block _ (Array.getElem?_eq_some_iff.1 H3.out.2.1).1).trans H3.out.2.1
     have c0 := cell_of (o := 0) h6 rfl
     have c1 := cell_of (o := 1) h6 rfl
     have c2 := cell_of (o := 2) h6 rfl
     have f0 := frozen_of (o := 0) h6
     have f1 := frozen_of (o := 1) h6
     have f2 := frozen_of (o := 2) h6
     have HF := Lib.hid (And.intro h6 (And.intro (H3.out.1.trans (hb9.mono H3.out.1.size)) (And.intro hRw' (And.intro hRc' H3.out.2.2.2.2)))); clear h6 hb9 hRw hRc hRw' hRc' HC hlo
     have HGE := Lib.hid (given_err (HGV.out.1))
     generalize (toI (waysS l xs ((woL l)))).length = n1 at *
     generalize ((cutS l xs ((woL l))).map Int.ofNat).length = n2 at *
     go_wp2_with fail
     have hs3 := set3 (y0 := .int .i64 (cntS l xs ((woL l)) : Nat)) (y1 := .slice WA n1 wc) (y2 := .slice VA n2 vc) HF.out.1
     have hf := sup_fill (n := .int .i64 (cntS l xs ((woL l)) : Nat)) HF.out.1 HF.out.2.2.1 HF.out.2.2.2.1
     refine bodyPost_ret (v := .tuple #[.agg #[.int .i64 (cntS l xs ((woL l)) : Nat), .slice WA n1 wc, .slice VA n2 vc], .int .i64 0]) ?_ rfl ⟨_, _, by rw [HGE.out], hf.1, hf.2, ((HF.out.2.1.setCell (p := ⟨b, 0, none⟩) (by have := HF.out.2.2.2.2; show w.heap.size ≤ b; omega) _).setCell (p := ⟨b, 1, none⟩) (by have := HF.out.2.2.2.2; show w.heap.size ≤ b; omega) _).setCell (p := ⟨b, 2, none⟩) (by have := HF.out.2.2.2.2; show w.heap.size ≤ b; omega) _⟩
     have e0 := cell_of (o := 0) hs3 rfl
     have e1 := cell_of (o := 1) hs3 rfl
     have e2 := cell_of (o := 2) hs3 rfl
     simp [results, Tryd.results27, go_sem, e0, e1, e2]
end Go.Proofs.YticngcjfofcoiaaDoor
