/- The contracts of IndexFunc with Find's test, and of Find. -/
import Derived.Test.YticngcjfofcoiaaDoorSr
namespace Go.Proofs.YticngcjfofcoiaaDoor
open Go.RowKit Go.Rg Go.Proofs.YticngcjfofcoiaaDoorW.PrintWords
set_option linter.unusedVariables false
set_option linter.unusedSimpArgs false
set_option maxRecDepth 10000
theorem indexS_any (A : Option Addr) (c : Nat) (l : List Src) (B : Nat) (x : Int) (w : World) (hr : Kd.C kS w A l.length l) (hB : w.cell? ⟨B, 0, none⟩ = some (.int .i64 x)) :
  Calls Tryd.prog 36 #[.slice A l.length c, .func (.func 37) #[] #[.pointer (some ⟨B, 0, none⟩)]] w fun e w' => e = .returned (.int .i64 (fIdx (fun s : Src => s.id == x) l)) ∧ Below w.heap.size w w' := by
 have hm := max_len hr
 have HR0 := Lib.hid (And.intro hr hB); clear hr hB
 have eg : ∀ (args : Array Value) (w : World), (callFunc 37 args).run Tryd.prog w = .ok (.enter 37 args) w := fun _ _ => rfl
 go_enter Tryd.func36, Tryd.ntmps36
 go_wp2_with fail
 go_loopw [8] (fun i wr => ∃ k : Nat, k ≤ l.length ∧ Hid ((l.take k).any (fun s : Src => s.id == x) = false) ∧ i = .int .i64 k ∧ Hid (Below w.heap.size w wr)) (fun i wr => l.length - (intOf i).toNat)
 case atStart => exact ⟨0, Nat.zero_le _, Lib.hid (by simp), rfl, Lib.hid (Below.refl _ _)⟩
 case round =>
  obtain ⟨k, hk, HA, rfl, HB⟩ := hrel
  by_cases hlt : k < l.length
  ·have hltI : (k : Int) < (l.length : Int) := by omega
   obtain ⟨s, hs⟩ : ∃ s, l[k]? = some s := ⟨l[k], List.getElem?_eq_getElem hlt⟩
   obtain ⟨ad, FA, fc, e, x0, x1, x2, hf, hC⟩ := at_S (Kd.C_below HR0.out.1 HB.out) hs
   cases e
   have hsk : l[k] = s := (List.getElem?_eq_some_iff.1 hs).2
   have hcall := test_any s.id s.kind (.slice FA s.frm.length fc) B x wr (pw_cell_below HB.out HR0.out.2)
   have HCALL := Lib.hid hcall; clear hcall
   have HS := Lib.hid hsk; clear hsk hs
   clear hC hf
   go_wp2_with fail
   refine HCALL.out.mono ?_
   rintro e w1 ⟨rfl, hb1⟩
   have HB1 := Lib.hid (HB.out.trans (hb1.mono HB.out.size)); clear hb1
   clear HCALL x0 x1 x2
   cases hq : (s.id == x) with
   |true =>
    have HQ := Lib.hid hq; clear hq
    go_wp2_with fail
    go_ret
    exact ⟨ret_int (fIdx_at hlt HA.out (by rw [HS.out]; exact HQ.out)).symm, HB1.out⟩
   |false =>
    have HQ := Lib.hid hq; clear hq
    go_wp2_with fail
    go_roundw
    case rel => exact ⟨k + 1, by omega, Lib.hid (any_take_succ hlt HA.out (by rw [HS.out]; exact HQ.out)), by go_num, HB1⟩
    case measure => exact meas_up1 hlt
  ·obtain rfl : k = l.length := by omega
   go_wp2_with fail
   go_ret
   exact ⟨ret_int (fIdx_none (by have := HA.out; rwa [List.take_length] at this)).symm, HB.out⟩
theorem set3 {W : World} {b : Nat} {x0 x1 x2 y0 y1 y2 : Value} {t : TypeId} {fz : Nat × Nat} (h : W.heap[b]? = some (.cells #[x0, x1, x2] t fz)) : (((W.setCell ⟨b, 0, none⟩ y0).setCell ⟨b, 1, none⟩ y1).setCell ⟨b, 2, none⟩ y2).heap[b]? = some (.cells #[y0, y1, y2] t fz) := heap_set (o := 2) y2 (heap_set (o := 1) y1 (heap_set (o := 0) y0 h))
def fndS (l : List Src) (x : Int) : Option Src := l.find? fun s => s.id == x
def FindPost (l : List Src) (x : Int) (w : World) (e : Ending) (w' : World) : Prop :=
 ∃ v, e = .returned (.tuple #[.agg #[.int .i64 ((fndS l x).getD s0).id, .int .i64 ((fndS l x).getD s0).kind, v], .bool (fndS l x).isSome]) ∧ (Kd.int .i64).R 3 w' w.heap.size (fun k => w.heap.size ≤ k) v ((fndS l x).getD s0).frm ∧ Below w.heap.size w w'
theorem fIdx_find (l : List Src) (x : Int) : (fndS l x = none ∧ fIdx (fun s : Src => s.id == x) l = -1) ∨ ∃ (k : Nat) (s : Src), l[k]? = some s ∧ fndS l x = some s ∧ fIdx (fun s : Src => s.id == x) l = k := by
 cases h : l.findIdx? (fun s => s.id == x) with
 |none =>
  refine .inl ⟨?_, by unfold fIdx; rw [h]⟩
  unfold fndS
  rw [List.find?_eq_none]
  rw [List.findIdx?_eq_none_iff] at h
  intro s hs
  rw [h s hs]
  decide
 |some k =>
  obtain ⟨hk, hp, hj⟩ := List.findIdx?_eq_some_iff_getElem.1 h
  refine .inr ⟨k, l[k], List.getElem?_eq_getElem hk, ?_, by unfold fIdx; rw [h]⟩
  unfold fndS
  rw [List.find?_eq_some_iff_getElem]
  exact ⟨hp, k, hk, rfl, fun j hjk => by have := hj j hjk; simpa using this⟩
theorem find_any (A : Option Addr) (c : Nat) (l : List Src) (x : Int) (w : World) (hr : Kd.C kS w A l.length l) (hl : ∀ s ∈ l, s.frm.length ≤ 1000) :
  Calls Tryd.prog 15 #[.slice A l.length c, .int .i64 x] w (FindPost l x w) := by
 have hm := max_len hr
 have hb0 := ((Below.refl w.heap.size w).alloc (Nat.le_refl _) (.cells #[.int .i64 x] 3)).alloc (by simp) (.cells #[.int .i64 0, .int .i64 0, .slice none 0 0] 35)
 have hC := indexS_any A c l w.heap.size x _ (Kd.C_below hr hb0) (cell_of (o := 0) (heap_old (heap_new rfl)) rfl)
 rcases fIdx_find l x with ⟨hn, hf⟩ | ⟨k, s, hs, hn, hf⟩
 ·rw [hf] at hC
  unfold FindPost
  rw [hn]
  have HC := Lib.hid hC; clear hC hf hn
  have HB := Lib.hid hb0; clear hb0
  have HR := Lib.hid hr; clear hr
  go_enter Tryd.func15, Tryd.ntmps15
  go_wp2_with fail
  refine HC.out.mono ?_
  rintro e w1 ⟨rfl, hb1⟩
  have hbw := HB.out.trans (hb1.mono HB.out.size)
  have hh4 : w1.heap[w.heap.size + 1]? = some (.cells #[.int .i64 0, .int .i64 0, .slice none 0 0] 35) := (hb1.block _ (by simp)).trans (heap_new (by simp))
  have c0 := cell_of (o := 0) hh4 rfl
  have c1 : w1.cell? ⟨w.heap.size + 1, 1, none⟩ = some (.int .i64 0) := cell_of hh4 rfl
  have c2 : w1.cell? ⟨w.heap.size + 1, 2, none⟩ = some (.slice none 0 0) := cell_of hh4 rfl
  have f0 := fun o => frozen_of (o := o) hh4
  have HH := Lib.hid (And.intro hh4 hbw); clear hh4 hbw hb1
  go_wp2_with fail
  have hz := (Array.getElem?_eq_some_iff.1 HH.out.1).1
  have hs3 := set3 (y0 := .int .i64 0) (y1 := .int .i64 0) (y2 := .slice none 0 0) HH.out.1
  refine bodyPost_ret (v := .tuple #[.agg #[.int .i64 0, .int .i64 0, .slice none 0 0], .bool false]) ?_ rfl ⟨.slice none 0 0, rfl, Kd.R_nil _ _ _ _ _, ((HH.out.2.setCell (by simp) _).setCell (by simp) _).setCell (by simp) _⟩
  have e0 := cell_of (o := 0) hs3 rfl
  have e1 := cell_of (o := 1) hs3 rfl
  have e2 := cell_of (o := 2) hs3 rfl
  simp [results, Tryd.results15, go_sem, e0, e1, e2]
 ·rw [hf] at hC
  unfold FindPost
  rw [hn]
  have hsl := hl s (List.mem_of_getElem? hs)
  have HC := Lib.hid hC; clear hC hf hn hl
  have HB := Lib.hid hb0; clear hb0
  have HR := Lib.hid hr; clear hr
  have hkl := (List.getElem?_eq_some_iff.1 hs).1
  have hkI : (k : Int) < (l.length : Int) := by omega
  go_enter Tryd.func15, Tryd.ntmps15
  go_wp2_with fail
  refine HC.out.mono ?_
  rintro e w1 ⟨rfl, hb1⟩
  have hbw := HB.out.trans (hb1.mono HB.out.size)
  have hh4 : w1.heap[w.heap.size + 1]? = some (.cells #[.int .i64 0, .int .i64 0, .slice none 0 0] 35) := (hb1.block _ (by simp)).trans (heap_new (by simp))
  obtain ⟨ad, FA, fc, e, x0, x1, x2, hfc, hCf⟩ := at_S (Kd.C_below HR.out hbw) hs
  cases e
  have hb2 := (Below.refl w1.heap.size w1).alloc (Nat.le_refl _) (.cells #[.int .i64 s.id, .int .i64 s.kind, .slice FA s.frm.length fc] 35)
  have hcl := cloneI_all FA fc s.frm _ (Kd.C_below hCf hb2) hsl
  have HCL := Lib.hid hcl; clear hcl
  have hh7 : (w1.alloc (.cells #[.int .i64 s.id, .int .i64 s.kind, .slice FA s.frm.length fc] 35)).heap[w1.heap.size]? = some (.cells #[.int .i64 s.id, .int .i64 s.kind, .slice FA s.frm.length fc] 35) := heap_new rfl
  have c2 : (w1.alloc (.cells #[.int .i64 s.id, .int .i64 s.kind, .slice FA s.frm.length fc] 35)).cell? ⟨w1.heap.size, 2, none⟩ = some (.slice FA s.frm.length fc) := cell_of hh7 rfl
  have HH := Lib.hid (And.intro hh4 (And.intro hbw (And.intro hb2 hh7))); clear hh4 hbw hb1 hb2 hh7 hfc hCf hs HC
  go_wp2_with fail
  refine HCL.out.mono ?_
  rintro e w3 ⟨v, rfl, hfr⟩
  obtain ⟨VA, vc, rfl⟩ := Kd.R_slice hfr.1
  have hb3 := HH.out.2.2.1.trans (hfr.2.mono HH.out.2.2.1.size)
  have hh7 := (hfr.2.block _ (by simp)).trans HH.out.2.2.2
  have hh4 := (hb3.block _ (Array.getElem?_eq_some_iff.1 HH.out.1).1).trans HH.out.1
  have hz4 := (Array.getElem?_eq_some_iff.1 HH.out.1).1
  have f7 := fun o => frozen_of (o := o) hh7
  have g2 : w3.cell? ⟨w1.heap.size, 2, none⟩ = some (.slice FA s.frm.length fc) := cell_of hh7 rfl
  have hh7s := heap_set (o := 2) (.slice VA s.frm.length vc) hh7
  have hh4s := heap_set_ne (p := ⟨w1.heap.size, 2, none⟩) (.slice VA s.frm.length vc) (by show w.heap.size + 1 ≠ w1.heap.size; omega) hh4
  have hbs := (HH.out.2.1.trans (hb3.mono HH.out.2.1.size)).setCell (p := ⟨w1.heap.size, 2, none⟩) (by show w.heap.size ≤ w1.heap.size; omega) (.slice VA s.frm.length vc)
  have hRs : (Kd.int .i64).R 3 (w3.setCell ⟨w1.heap.size, 2, none⟩ (.slice VA s.frm.length vc)) w.heap.size (fun k => w.heap.size ≤ k) (.slice VA s.frm.length vc) s.frm := Kd.R_mono (Kd.R_lower (Kd.R_set hfr.1 hh7 (fun q hq => by rw [kI_only hq]; decide) 2 _) (by simp; omega)) (fun k hk => by simp at hk; omega)
  have HF := Lib.hid (And.intro hh7s (And.intro hh4s (And.intro hbs hRs))); clear hh7s hh4s hbs hRs hh7 hh4 hb3 hfr HH HCL x0 x1 x2 c2
  have p0 : (w3.setCell ⟨w1.heap.size, 2, none⟩ (.slice VA s.frm.length vc)).cell? ⟨w1.heap.size, 0, none⟩ = some (.int .i64 s.id) := cell_of HF.out.1 rfl
  have p1 : (w3.setCell ⟨w1.heap.size, 2, none⟩ (.slice VA s.frm.length vc)).cell? ⟨w1.heap.size, 1, none⟩ = some (.int .i64 s.kind) := cell_of HF.out.1 rfl
  have p2 : (w3.setCell ⟨w1.heap.size, 2, none⟩ (.slice VA s.frm.length vc)).cell? ⟨w1.heap.size, 2, none⟩ = some (.slice VA s.frm.length vc) := cell_of HF.out.1 rfl
  have q0 : (w3.setCell ⟨w1.heap.size, 2, none⟩ (.slice VA s.frm.length vc)).cell? ⟨w.heap.size + 1, 0, none⟩ = some (.int .i64 0) := cell_of HF.out.2.1 rfl
  have q1 : (w3.setCell ⟨w1.heap.size, 2, none⟩ (.slice VA s.frm.length vc)).cell? ⟨w.heap.size + 1, 1, none⟩ = some (.int .i64 0) := cell_of HF.out.2.1 rfl
  have q2 : (w3.setCell ⟨w1.heap.size, 2, none⟩ (.slice VA s.frm.length vc)).cell? ⟨w.heap.size + 1, 2, none⟩ = some (.slice none 0 0) := cell_of HF.out.2.1 rfl
  have r0 := fun o => frozen_of (o := o) HF.out.2.1
  go_wp2_with fail
  obtain ⟨W4, hW4⟩ : ∃ W4, w3.setCell ⟨w1.heap.size, 2, none⟩ (.slice VA s.frm.length vc) = W4 := ⟨_, rfl⟩
  rw [hW4] at HF ⊢
  have hs3 := set3 (y0 := .int .i64 s.id) (y1 := .int .i64 s.kind) (y2 := .slice VA s.frm.length vc) HF.out.2.1
  refine bodyPost_ret (v := .tuple #[.agg #[.int .i64 s.id, .int .i64 s.kind, .slice VA s.frm.length vc], .bool true]) ?_ rfl ⟨.slice VA s.frm.length vc, rfl, ?_, ((HF.out.2.2.1.setCell (by simp) _).setCell (by simp) _).setCell (by simp) _⟩
  ·have e0 := cell_of (o := 0) hs3 rfl
   have e1 := cell_of (o := 1) hs3 rfl
   have e2 := cell_of (o := 2) hs3 rfl
   simp [results, Tryd.results15, go_sem, e0, e1, e2]
  ·have n35 : ∀ q, q ∈ (3 : Nat) :: (Kd.int .i64).E → q ≠ 35 := fun q hq => by rw [kI_only hq]; decide
   have a1 := heap_set (o := 0) (.int .i64 s.id) HF.out.2.1
   have a2 := heap_set (o := 1) (.int .i64 s.kind) a1
   exact Kd.R_set (Kd.R_set (Kd.R_set HF.out.2.2.2 HF.out.2.1 n35 0 _) a1 n35 1 _) a2 n35 2 _
end Go.Proofs.YticngcjfofcoiaaDoor
/- The contract of asserting. -/
namespace Go.Proofs.YticngcjfofcoiaaDoor
open Go.RowKit Go.Rg Go.Proofs.YticngcjfofcoiaaDoorW.PrintWords
set_option linter.unusedVariables false
set_option linter.unusedSimpArgs false
set_option maxRecDepth 100000
def okAt (l : List Src) (xs : List Int) (i : Nat) : Bool := (fndS l (rd xs i)).isSome && (decide (i = 0) || decide (rd xs (i - 1 : Nat) < rd xs i))
def asrt (l : List Src) (xs : List Int) : Bool := (List.range xs.length).all (okAt l xs)
theorem asrt_no {l : List Src} {xs : List Int} {i : Nat} (hi : i < xs.length) (h : okAt l xs i = false) : asrt l xs = false := by
 unfold asrt
 rw [List.all_eq_false]
 exact ⟨i, List.mem_range.2 hi, by rw [h]; decide⟩
theorem upto_succ {p : Nat → Bool} {i : Nat} (h : (List.range i).all p = true) (hp : p i = true) : (List.range (i + 1)).all p = true := by
 rw [List.range_succ, List.all_append, h]
 simp [hp]
theorem asrt_any (A : Option Addr) (c : Nat) (l : List Src) (B : Option Addr) (d : Nat) (xs : List Int) (w : World) (hr : Kd.C kS w A l.length l) (hl : ∀ s ∈ l, s.frm.length ≤ 1000) (hx : (Kd.int .i64).C w B xs.length xs) :
  Calls Tryd.prog 43 #[.slice A l.length c, .slice B xs.length d] w fun e w' => e = .returned (.bool (asrt l xs)) ∧ Below w.heap.size w w' := by
 have hm := max_len hx
 have HR := Lib.hid (And.intro hr (And.intro hl hx)); clear hr hl hx
 go_enter Tryd.func43, Tryd.ntmps43
 go_wp2_with fail
 go_loopw [11] (fun iv wr => ∃ i : Nat, i ≤ xs.length ∧ iv = .int .i64 i ∧ Hid ((List.range i).all (okAt l xs) = true ∧ Below w.heap.size w wr)) (fun iv wr => xs.length - (intOf iv).toNat)
 case atStart => exact ⟨0, Nat.zero_le _, rfl, Lib.hid ⟨rfl, Below.refl _ _⟩⟩
 case round =>
  obtain ⟨i, hi, rfl, HI⟩ := hrel
  by_cases hlt : i < xs.length
  ·have hltI : (i : Int) < (xs.length : Int) := by omega
   obtain ⟨ad, e, hy⟩ := Kd.at_int (Kd.C_below HR.out.2.2 HI.out.2) (i : Int) (by omega) hltI
   cases e
   simp only [Int.toNat_natCast] at hy
   have hfd := find_any A c l (rd xs i) wr (Kd.C_below HR.out.1 HI.out.2) HR.out.2.1
   have HFD := Lib.hid hfd; clear hfd
   obtain ⟨y, hyv⟩ : ∃ y, rd xs (i : Int) = y := ⟨_, rfl⟩
   rw [hyv] at hy HFD
   go_wp2_with fail
   refine HFD.out.mono ?_
   rintro e w1 ⟨v, rfl, hR, hb⟩
   obtain ⟨VA, vc, rfl⟩ := Kd.R_slice hR
   have HB := Lib.hid (HI.out.2.trans (hb.mono HI.out.2.size)); clear hb hR hy HFD
   obtain ⟨s, hs⟩ : ∃ s, (fndS l y).getD s0 = s := ⟨_, rfl⟩
   rw [hs]
   cases hth : (fndS l y).isSome with
   |false =>
    have HN := Lib.hid (asrt_no hlt (show okAt l xs i = false by unfold okAt; rw [hyv, hth]; rfl)); clear hth hs hyv
    go_wp2_with fail
    go_ret
    exact ⟨ret_bool HN.out.symm, HB.out.alloc HB.out.size _⟩
   |true =>
    have hbA := HB.out.alloc HB.out.size (.cells #[.int .i64 s.id, .int .i64 s.kind, .slice VA s.frm.length vc] 35)
    by_cases h0 : i = 0
    ·subst h0
     have HN := Lib.hid (upto_succ HI.out.1 (show okAt l xs 0 = true by unfold okAt; rw [hyv, hth]; rfl)); clear hth hs hyv
     have HA := Lib.hid hbA; clear hbA
     go_wp2_with fail
     go_roundw
     case rel => exact ⟨0 + 1, by omega, by go_num, Lib.hid ⟨HN.out, HA.out⟩⟩
     case measure => exact meas_up1 hlt
    ·obtain ⟨j, rfl⟩ : ∃ j, i = j + 1 := ⟨i - 1, by omega⟩
     have hjI : (j : Int) < (xs.length : Int) := by omega
     obtain ⟨ad2, e2, hy2⟩ := Kd.at_int (Kd.C_below HR.out.2.2 hbA) (j : Int) (by omega) hjI
     cases e2
     simp only [Int.toNat_natCast] at hy2
     obtain ⟨z, hz⟩ : ∃ z, rd xs (j : Int) = z := ⟨_, rfl⟩
     rw [hz] at hy2
     have hok : okAt l xs (j + 1) = decide (z < y) := by
      unfold okAt
      rw [hyv, hth, show ((j + 1 - 1 : Nat) : Int) = (j : Int) by simp, hz]
      simp
     have hgt : ((j + 1 : Nat) : Int) > 0 := by omega
     have hwj : wrap64 (((j + 1 : Nat) : Int) - 1) = (j : Int) := by unfold wrap64; omega
     have HA := Lib.hid hbA; clear hbA hth hs hyv hz
     by_cases hzy : z < y
     ·have hge : ¬ z ≥ y := by omega
      have HN := Lib.hid (upto_succ HI.out.1 (show okAt l xs (j + 1) = true by rw [hok]; exact decide_eq_true hzy)); clear hok
      go_wp2_with fail
      go_roundw
      case rel => exact ⟨j + 1 + 1, by omega, by go_num, Lib.hid ⟨HN.out, HA.out⟩⟩
      case measure => exact meas_up1 hlt
     ·have hge : z ≥ y := by omega
      have HN := Lib.hid (asrt_no hlt (show okAt l xs (j + 1) = false by rw [hok]; exact decide_eq_false hzy)); clear hok
      go_wp2_with fail
      go_ret
      exact ⟨ret_bool HN.out.symm, HA.out⟩
  ·obtain rfl : i = xs.length := by omega
   have HN := Lib.hid (show asrt l xs = true from HI.out.1)
   go_wp2_with fail
   go_ret
   exact ⟨ret_bool HN.out.symm, HI.out.2⟩
end Go.Proofs.YticngcjfofcoiaaDoor
