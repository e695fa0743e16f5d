/- The contract of Named. -/
import Derived.Test.YticngcjfofcoiaaDoorSu
namespace Go.Proofs.YticngcjfofcoiaaDoor
open Go.RowKit Go.Rg Go.Proofs.YticngcjfofcoiaaDoorW.PrintWords
set_option linter.unusedVariables false
set_option linter.unusedSimpArgs false
set_option maxRecDepth 100000
def woL (l : List Src) : Nat := l.foldl (fun u s => if s.kind = 2 ∧ 0 ≤ s.id ∧ s.id < 12 then u ||| 2 ^ s.id.toNat else u) 0
theorem woL_snoc (l : List Src) (s : Src) : woL (l ++ [s]) = if s.kind = 2 ∧ 0 ≤ s.id ∧ s.id < 12 then woL l ||| 2 ^ s.id.toNat else woL l := by simp [woL]
theorem woL_lt : ∀ (l : List Src), woL l < 4096 := by
 have key : ∀ (l : List Src) (a : Nat), a < 4096 → l.foldl (fun u s => if s.kind = 2 ∧ 0 ≤ s.id ∧ s.id < 12 then u ||| 2 ^ s.id.toNat else u) a < 4096 := by
  intro l
  induction l with
  |nil => intro a ha; exact ha
  |cons s l ih =>
   intro a ha
   refine ih _ ?_
   dsimp only
   split
   ·exact Nat.or_lt_two_pow (n := 12) ha (pow_lt12 (by omega))
   ·exact ha
 exact fun l => key l 0 (by decide)
theorem woL_bit : ∀ (l : List Src) (i : Nat), (woL l).testBit i = true ↔ ∃ s ∈ l, (s.kind = 2 ∧ 0 ≤ s.id ∧ s.id < 12) ∧ s.id.toNat = i := by
 have key : ∀ (l : List Src) (a i : Nat), (l.foldl (fun u s => if s.kind = 2 ∧ 0 ≤ s.id ∧ s.id < 12 then u ||| 2 ^ s.id.toNat else u) a).testBit i = true ↔ a.testBit i = true ∨ ∃ s ∈ l, (s.kind = 2 ∧ 0 ≤ s.id ∧ s.id < 12) ∧ s.id.toNat = i := by
  intro l
  induction l with
  |nil => intro a i; simp
  |cons s l ih =>
   intro a i
   rw [List.foldl_cons, ih]
   simp only [List.mem_cons, exists_eq_or_imp]
   by_cases h : s.kind = 2 ∧ 0 ≤ s.id ∧ s.id < 12
   ·rw [if_pos h, Nat.testBit_or, Nat.testBit_two_pow]
    simp [h, or_assoc]
   ·rw [if_neg h]
    simp [h]
 intro l i
 rw [woL, key]
 simp
set_option maxHeartbeats 4000000 in
theorem Named_any (A : Option Addr) (c : Nat) (l : List Src) (B : Option Addr) (d : Nat) (xs : List Int) (w : World) (hr : Kd.C kS w A l.length l) (hl : ∀ s ∈ l, s.frm.length ≤ 1000) (hx : (Kd.int .i64).C w B xs.length xs) (hT : Tab w) :
  Calls Tryd.prog 14 #[.slice A l.length c, .slice B xs.length d] w (SupPost l xs (woL l) w) := by
 have hm := max_len hr
 have hb6 := (Below.refl w.heap.size w).alloc (Nat.le_refl _) (.cells #[.int .i64 0, .slice none 0 0, .slice none 0 0] 30)
 have h6 : (w.alloc (.cells #[.int .i64 0, .slice none 0 0, .slice none 0 0] 30)).heap[w.heap.size]? = some (.cells #[.int .i64 0, .slice none 0 0, .slice none 0 0] 30) := heap_new rfl
 have HR := Lib.hid (And.intro hr (And.intro hl (And.intro hx hT))); clear hr hl hx hT
 have H6 := Lib.hid (And.intro h6 hb6); clear h6
 have HB6 := Lib.hid hb6; clear hb6
 unfold SupPost
 go_enter Tryd.func14, Tryd.ntmps14
 go_wp2_with fail
 have H00 := Lib.hid (Below.refl (w.alloc (.cells #[.int .i64 0, .slice none 0 0, .slice none 0 0] 30)).heap.size (w.alloc (.cells #[.int .i64 0, .slice none 0 0, .slice none 0 0] 30)))
 obtain ⟨w0, hw0⟩ : ∃ w0, w.alloc (.cells #[.int .i64 0, .slice none 0 0, .slice none 0 0] 30) = w0 := ⟨_, rfl⟩
 rw [hw0] at H6 H00 HB6 ⊢
 have hz0 : w0.heap.size = w.heap.size + 1 := by rw [← hw0]; simp
 clear hw0
 go_loopw [6, 11] (fun uv iv wr => ∃ k : Nat, k ≤ l.length ∧ uv = .int .u16 ((woL (l.take k) : Nat) : Int) ∧ iv = .int .i64 k ∧ Hid (Below w0.heap.size w0 wr)) (fun uv iv wr => l.length - (intOf iv).toNat)
 case atStart => exact ⟨0, Nat.zero_le _, rfl, rfl, H00⟩
 case round =>
  obtain ⟨k, hk, rfl, rfl, HI⟩ := hrel
  by_cases hlt : k < l.length
  ·have hltI : (k : Int) < (l.length : Int) := by omega
   obtain ⟨s, hs⟩ : ∃ s, l[k]? = some s := ⟨l[k], List.getElem?_eq_getElem hlt⟩
   have hbw := HB6.out.trans (HI.out.mono (by omega))
   obtain ⟨ad, FA, fc, e, x0, x1, x2, hfc, hCf⟩ := at_S (Kd.C_below HR.out.1 hbw) hs
   cases e
   have hst : woL (l.take (k + 1)) = if s.kind = 2 ∧ 0 ≤ s.id ∧ s.id < 12 then woL (l.take k) ||| 2 ^ s.id.toNat else woL (l.take k) := by rw [take_at hs, woL_snoc]
   obtain ⟨y, hy⟩ : ∃ y, s.id = y := ⟨_, rfl⟩
   obtain ⟨kd, hkd⟩ : ∃ kd, s.kind = kd := ⟨_, rfl⟩
   rw [hy, hkd] at hst
   rw [hy] at x0
   rw [hkd] at x1
   have hb0 := (Below.refl wr.heap.size wr).alloc (Nat.le_refl _) (.cells #[.int .i64 y, .int .i64 kd, .slice FA s.frm.length fc] 35)
   have hw4 := woL_lt (l.take k)
   clear hy hkd hs hfc hCf hbw
   by_cases c1 : kd = 2
   ·have c1' : (kd == 2) = true := by simp [c1]
    by_cases c2 : y ≥ 0
    ·by_cases c3 : y < 12
     ·obtain ⟨id, rfl⟩ := Int.eq_ofNat_of_zero_le c2
      have hid12 : id < 12 := by omega
      rw [if_pos ⟨c1, c2, c3⟩, Int.toNat_natCast] at hst
      obtain ⟨OG, hOG⟩ : ∃ OG, woL (l.take k) = OG := ⟨_, rfl⟩
      rw [hOG] at hst hw4 ⊢
      have HOR := Lib.hid (or16 (a := OG) (v := id) (by omega) (by omega))
      have HN := Lib.hid hst
      have hbA := HI.out.trans (hb0.mono HI.out.size)
      have HA := Lib.hid hbA; clear hbA hb0 hst hOG hw4 c1
      go_wp2_with fail
      rw [HOR.out]
      go_wp2_with fail
      go_roundw
      case rel => exact ⟨k + 1, by omega, by rw [HN.out], by go_num, HA⟩
      case measure => exact meas_up1 hlt
     ·have HN := Lib.hid (show woL (l.take (k + 1)) = woL (l.take k) by rw [hst, if_neg (by omega)])
      clear c1 hw4
      have hbA := HI.out.trans (hb0.mono HI.out.size)
      have HA := Lib.hid hbA; clear hbA hb0 hst
      go_wp2_with fail
      go_roundw
      case rel => exact ⟨k + 1, by omega, by rw [HN.out], by go_num, HA⟩
      case measure => exact meas_up1 hlt
    ·have HN := Lib.hid (show woL (l.take (k + 1)) = woL (l.take k) by rw [hst, if_neg (by omega)])
     clear c1 hw4
     have hbA := HI.out.trans (hb0.mono HI.out.size)
     have HA := Lib.hid hbA; clear hbA hb0 hst
     go_wp2_with fail
     go_roundw
     case rel => exact ⟨k + 1, by omega, by rw [HN.out], by go_num, HA⟩
     case measure => exact meas_up1 hlt
   ·have c1' : (kd == 2) = false := by simp [c1]
    have HN := Lib.hid (show woL (l.take (k + 1)) = woL (l.take k) by rw [hst, if_neg (by omega)])
    clear hw4
    have hbA := HI.out.trans (hb0.mono HI.out.size)
    have HA := Lib.hid hbA; clear hbA hb0 hst
    go_wp2_with fail
    go_roundw
    case rel => exact ⟨k + 1, by omega, by rw [HN.out], by go_num, HA⟩
    case measure => exact meas_up1 hlt
  ·obtain rfl : k = l.length := by omega
   have hbw := HB6.out.trans (HI.out.mono (by omega))
   have hC := support_any A c l B d xs (woL l) wr (Kd.C_below HR.out.1 hbw) HR.out.2.1 (Kd.C_below HR.out.2.2.1 hbw) (HR.out.2.2.2.next hbw HR.out.2.2.2.pos) (woL_lt l)
   have h6 := (HI.out.block _ (by omega)).trans H6.out.1
   have HC := Lib.hid hC
   have HX := Lib.hid (And.intro h6 hbw); clear h6 hbw hC HI H6 HB6
   rw [List.take_length]
   go_wp2_with fail
   refine HC.out.mono ?_
   rintro e w1 ⟨wv, cv, rfl, hRw, hRc, hb1⟩
   obtain ⟨WA, wc, rfl⟩ := Kd.R_slice hRw
   obtain ⟨VA, vc, rfl⟩ := Kd.R_slice hRc
   have hzw := HX.out.2.size
   have h6 := (hb1.block _ (Array.getElem?_eq_some_iff.1 HX.out.1).1).trans HX.out.1
   have c0 : w1.cell? ⟨w.heap.size, 0, none⟩ = some (.int .i64 0) := cell_of h6 rfl
   have c1 : w1.cell? ⟨w.heap.size, 1, none⟩ = some (.slice none 0 0) := cell_of h6 rfl
   have c2 : w1.cell? ⟨w.heap.size, 2, none⟩ = some (.slice none 0 0) := cell_of h6 rfl
   have f0 := fun o => frozen_of (o := o) h6
   have hRw' := Kd.R_mono (Kd.R_lower hRw hzw) (ok' := fun k => w.heap.size ≤ k) (fun k hk => by omega)
   have hRc' := Kd.R_mono (Kd.R_lower hRc hzw) (ok' := fun k => w.heap.size ≤ k) (fun k hk => by omega)
   have HF := Lib.hid (And.intro h6 (And.intro (HX.out.2.trans (hb1.mono hzw)) (And.intro hRw' hRc'))); clear h6 hb1 hRw hRc hRw' hRc' HC HX hzw
   generalize (toI (waysS l xs (woL l))).length = n1 at *
   generalize ((cutS l xs (woL l)).map Int.ofNat).length = n2 at *
   go_wp2_with fail
   have hs3 := set3 (y0 := .int .i64 (cntS l xs (woL l) : Nat)) (y1 := .slice WA n1 wc) (y2 := .slice VA n2 vc) HF.out.1
   have hf := sup_fill (n := .int .i64 (cntS l xs (woL l) : Nat)) HF.out.1 HF.out.2.2.1 HF.out.2.2.2
   refine bodyPost_ret (v := .tuple #[.agg #[.int .i64 (cntS l xs (woL l) : Nat), .slice WA n1 wc, .slice VA n2 vc], .int .i64 (errS l xs)]) ?_ rfl ⟨_, _, rfl, hf.1, hf.2, ((HF.out.2.1.setCell (by simp) _).setCell (by simp) _).setCell (by simp) _⟩
   have e0 := cell_of (o := 0) hs3 rfl
   have e1 := cell_of (o := 1) hs3 rfl
   have e2 := cell_of (o := 2) hs3 rfl
   simp [results, Tryd.results14, go_sem, e0, e1, e2]
end Go.Proofs.YticngcjfofcoiaaDoor
