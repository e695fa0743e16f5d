/- The contract of Same. -/
import Derived.Test.YticngcjfofcoiaaDoorSm
namespace Go.Proofs.YticngcjfofcoiaaDoor
open Go.RowKit Go.Rg Go.Proofs.YticngcjfofcoiaaDoorW.PrintWords
set_option linter.unusedVariables false
set_option linter.unusedSimpArgs false
set_option maxRecDepth 100000
theorem src_eq {s t : Src} : decide (s = t) = (decide (s.id = t.id) && (decide (s.kind = t.kind) && decide (s.frm = t.frm))) := by
 rcases s with ⟨a, b, c⟩
 rcases t with ⟨a', b', c'⟩
 by_cases h1 : a = a' <;> by_cases h2 : b = b' <;> by_cases h3 : c = c' <;> simp [h1, h2, h3]
theorem eqS_any (s t : Src) (A B : Option Addr) (c d : Nat) (w : World) (hs : (Kd.int .i64).C w A s.frm.length s.frm) (hl : s.frm.length ≤ c) (ht : (Kd.int .i64).C w B t.frm.length t.frm) (hm : t.frm.length ≤ d) :
  Calls Tryd.prog 47 #[.agg #[.int .i64 s.id, .int .i64 s.kind, .slice A s.frm.length c], .agg #[.int .i64 t.id, .int .i64 t.kind, .slice B t.frm.length d]] w fun e w' => e = .returned (.bool (decide (s = t))) ∧ Below w.heap.size w w' := by
 have hb0 := ((Below.refl w.heap.size w).alloc (Nat.le_refl _) (.cells #[.int .i64 s.id, .int .i64 s.kind, .slice A s.frm.length c] 35)).alloc (by simp) (.cells #[.int .i64 t.id, .int .i64 t.kind, .slice B t.frm.length d] 35)
 have heq := equalI_any A c s.frm B d t.frm _ (Kd.C_below hs hb0) hl (Kd.C_below ht hb0) hm
 have HB := Lib.hid hb0
 rw [src_eq]
 clear hs ht hl hm hb0
 generalize s.id = i1 at *
 generalize t.id = i2 at *
 generalize s.kind = k1 at *
 generalize t.kind = k2 at *
 generalize decide (s.frm = t.frm) = q at *
 have HE := Lib.hid heq; clear heq
 go_enter Tryd.func47, Tryd.ntmps47
 by_cases g1 : i1 = i2
 ·have g1' : (i1 == i2) = true := by simp [g1]
  by_cases g2 : k1 = k2
  ·have g2' : (k1 == k2) = true := by simp [g2]
   have HG := Lib.hid (And.intro g1 g2); clear g1 g2
   go_wp2_with fail
   refine HE.out.mono ?_
   rintro e w' ⟨rfl, hb⟩
   have HX := Lib.hid (HB.out.trans (hb.mono HB.out.size)); clear hb HE HB
   go_wp2_with fail
   go_ret
   exact ⟨ret_bool (by rw [decide_eq_true HG.out.1, decide_eq_true HG.out.2]; rfl), HX.out⟩
  ·have g2' : (k1 == k2) = false := by simp [g2]
   have HG := Lib.hid g2; clear g1 g2
   go_wp2_with fail
   go_ret
   exact ⟨ret_bool (by rw [decide_eq_false HG.out]; simp), HB.out⟩
 ·have g1' : (i1 == i2) = false := by simp [g1]
  have HG := Lib.hid g1; clear g1
  go_wp2_with fail
  go_ret
  exact ⟨ret_bool (by rw [decide_eq_false HG.out]; simp), HB.out⟩
theorem take_stepS {a b : List Src} {i : Nat} (ha : i < a.length) (hb : i < b.length) (h : a.take i = b.take i) (he : a[i] = b[i]) : a.take (i + 1) = b.take (i + 1) := by
 rw [List.take_succ_eq_append_getElem ha, List.take_succ_eq_append_getElem hb, h, he]
set_option maxHeartbeats 2000000 in
theorem equalF_any (A B : Option Addr) (c d : Nat) (a b : List Src) (w : World) (ha : Kd.C kS w A a.length a) (hb : Kd.C kS w B b.length b) :
  Calls Tryd.prog 46 #[.slice A a.length c, .slice B b.length d, .func (.func 47) #[] #[]] w fun e w' => e = .returned (.bool (decide (a = b))) ∧ Below w.heap.size w w' := by
 have hma := max_len ha
 have hmb := max_len hb
 have HA := Lib.hid (And.intro ha hb); clear ha hb
 have eg : ∀ (args : Array Value) (w : World), (callFunc 47 args).run Tryd.prog w = .ok (.enter 47 args) w := fun _ _ => rfl
 go_enter Tryd.func46, Tryd.ntmps46
 by_cases hl : a.length = b.length
 ·have hne : ((a.length : Int) != (b.length : Int)) = false := by rw [bneD]; simp [hl]
  have HL := Lib.hid hl
  clear hl
  go_wp2_with fail
  go_loopw [17] (fun iv wr => ∃ i : Nat, i ≤ a.length ∧ iv = .int .i64 i ∧ Hid (a.take i = b.take i ∧ Below w.heap.size w wr)) (fun iv wr => a.length - (intOf iv).toNat)
  case atStart => exact ⟨0, Nat.zero_le _, rfl, Lib.hid ⟨rfl, Below.refl _ _⟩⟩
  case round =>
   obtain ⟨i, hi, rfl, HI⟩ := hrel
   by_cases hil : i < a.length
   ·have hiI : (i : Int) < (a.length : Int) := by omega
    have hib : i < b.length := by have := HL.out; omega
    have hiJ : (i : Int) < (b.length : Int) := by omega
    obtain ⟨s, hs⟩ : ∃ s, a[i]? = some s := ⟨_, List.getElem?_eq_getElem hil⟩
    obtain ⟨t, ht⟩ : ∃ t, b[i]? = some t := ⟨_, List.getElem?_eq_getElem hib⟩
    obtain ⟨ad, FA, fc, e, x0, x1, x2, hfc, hCf⟩ := at_S (Kd.C_below HA.out.1 HI.out.2) hs
    cases e
    have hb1 := (Below.refl wr.heap.size wr).alloc (Nat.le_refl _) (.cells #[.int .i64 s.id, .int .i64 s.kind, .slice FA s.frm.length fc] 35)
    obtain ⟨ae, GA, gc, e, y0, y1, y2, hgc, hCg⟩ := at_S (Kd.C_below (Kd.C_below HA.out.2 HI.out.2) hb1) ht
    cases e
    have hb2 := hb1.alloc (by simp) (.cells #[.int .i64 t.id, .int .i64 t.kind, .slice GA t.frm.length gc] 35)
    have hcall := eqS_any s t FA GA fc gc _ (Kd.C_below hCf hb2) hfc (Kd.C_below hCg ((Below.refl _ _).alloc (Nat.le_refl _) (.cells #[.int .i64 t.id, .int .i64 t.kind, .slice GA t.frm.length gc] 35))) hgc
    have hsa : a[i] = s := (List.getElem?_eq_some_iff.1 hs).2
    have htb : b[i] = t := (List.getElem?_eq_some_iff.1 ht).2
    have HB2 := Lib.hid (HI.out.2.trans (hb2.mono HI.out.2.size))
    cases hd : decide (s = t) with
    |true =>
     rw [hd] at hcall
     have HC := Lib.hid hcall
     have HN := Lib.hid (take_stepS hil hib HI.out.1 (by rw [hsa, htb]; exact of_decide_eq_true hd))
     clear hcall hsa htb hd hs ht hCf hCg hb1 hb2 hfc hgc
     go_wp2_with fail
     refine HC.out.mono ?_
     rintro e w' ⟨rfl, hb⟩
     have HX := Lib.hid (HB2.out.trans (hb.mono HB2.out.size)); clear hb HC HB2 x0 x1 x2 y0 y1 y2
     go_wp2_with fail
     go_roundw
     case rel => exact ⟨i + 1, by omega, by go_num, Lib.hid ⟨HN.out, HX.out⟩⟩
     case measure => exact meas_up1 hil
    |false =>
     rw [hd] at hcall
     have HC := Lib.hid hcall
     have HN := Lib.hid (show decide (a = b) = false from decide_eq_false (fun e => by
      subst e
      rw [hs] at ht
      cases ht
      simp at hd))
     clear hcall hsa htb hd hs ht hCf hCg hb1 hb2 hfc hgc
     go_wp2_with fail
     refine HC.out.mono ?_
     rintro e w' ⟨rfl, hb⟩
     have HX := Lib.hid (HB2.out.trans (hb.mono HB2.out.size)); clear hb HC HB2 x0 x1 x2 y0 y1 y2
     go_wp2_with fail
     go_ret
     exact ⟨ret_bool HN.out.symm, HX.out⟩
   ·obtain rfl : i = a.length := by omega
    have HN := Lib.hid (show decide (a = b) = true by
     have h := HI.out.1
     rw [List.take_length, HL.out, List.take_length] at h
     exact decide_eq_true h)
    go_wp2_with fail
    go_ret
    exact ⟨ret_bool HN.out.symm, HI.out.2⟩
 ·have hne : ((a.length : Int) != (b.length : Int)) = true := by rw [bneD]; simp; omega
  have HN := Lib.hid (show decide (a = b) = false from decide_eq_false (fun e => hl (by rw [e])))
  clear hl
  go_wp2_with fail
  go_ret
  exact ⟨ret_bool HN.out.symm, Below.refl _ _⟩
theorem Same_any (A B : Option Addr) (c d : Nat) (a b : List Src) (w : World) (ha : Kd.C kS w A a.length a) (hb : Kd.C kS w B b.length b) :
  Calls Tryd.prog 22 #[.slice A a.length c, .slice B b.length d] w fun e w' => e = .returned (.bool (decide (a = b))) ∧ Below w.heap.size w w' := by
 have HC := Lib.hid (equalF_any A B c d a b w ha hb)
 clear ha hb
 generalize decide (a = b) = q at *
 go_enter Tryd.func22, Tryd.ntmps22
 go_wp2_with fail
 refine HC.out.mono ?_
 rintro e w' ⟨rfl, hb⟩
 go_wp2_with fail
 go_ret
 exact ⟨rfl, hb⟩
end Go.Proofs.YticngcjfofcoiaaDoor
