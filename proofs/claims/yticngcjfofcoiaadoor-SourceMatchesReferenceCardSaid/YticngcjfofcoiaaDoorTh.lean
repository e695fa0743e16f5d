/- The contract of the reference's Origins. -/
import Derived.Test.YticngcjfofcoiaaDoorTg
namespace Go.Proofs.YticngcjfofcoiaaDoor
open Go.RowKit Go.Rg Go.Proofs.YticngcjfofcoiaaDoorW.PrintWords
set_option linter.unusedVariables false
set_option linter.unusedSimpArgs false
set_option maxRecDepth 100000
def OrgPost (l : List Src) (x : Int) (w : World) (e : Ending) (w' : World) : Prop := ∃ v, e = .returned (.tuple #[v, .int .i64 (orgE l x)]) ∧ (Kd.int .i64).R 3 w' w.heap.size (fun k => w.heap.size ≤ k) v ((orgL l x).map Int.ofNat) ∧ Below w.heap.size w w'
theorem org_no {l : List Src} {x : Int} {w w' : World} (h : ¬ (validS l = true ∧ (fndS l x).isSome = true)) (hb : Below w.heap.size w w') : OrgPost l x w (.returned (.tuple #[.slice none 0 0, .int .i64 70])) w' :=
 ⟨.slice none 0 0, by unfold orgE; rw [if_neg h], by unfold orgL; rw [if_neg h]; exact Kd.R_nil _ _ _ _ _, hb⟩
theorem org_any (A : Option Addr) (c : Nat) (l : List Src) (x : Int) (w : World) (hs : SrcAt A c l w) (hT : Tab w) : Calls Tryd.prog 18 #[.slice A l.length c, .int .i64 x] w (OrgPost l x w) := by
 by_cases h : validS l = true ∧ (fndS l x).isSome = true
 ·refine (Origins_yes A c l x w hs.rl hs.short hT h.1 h.2).mono ?_
  rintro e w' ⟨v, rfl, hR, hb⟩
  exact ⟨v, by unfold orgE; rw [if_pos h], by unfold orgL; rw [if_pos h]; exact hR, hb⟩
 ·refine (Origins_no A c l x w hs.rl hs.short h).mono ?_
  rintro e w' ⟨rfl, hb⟩
  exact org_no h hb
set_option maxHeartbeats 2000000 in
theorem rorigins_any (A : Option Addr) (c : Nat) (l : List Src) (x : Int) (w : World) (hs : SrcAt A c l w) : Calls Tryd.prog 32 #[.slice A l.length c, .int .i64 x] w (OrgPost l x w) := by
 have hml := max_len hs.rl
 have HVC := Lib.hid (rvalid_any A c l w hs.rl hs.short)
 have H1 := Lib.hid hs
 have H0 := Lib.hid hs; clear hs
 have hpost : ∀ e w', OrgPost l x w e w' → OrgPost l x w e w' := fun _ _ h => h
 go_enter Tryd.func32, Tryd.ntmps32
 go_wp2_with fail
 clear hpost
 refine HVC.out.mono ?_
 rintro e w2 ⟨rfl, hb2⟩
 have H2 := Lib.hid (And.intro (H1.out.next hb2) hb2); clear hb2 H1 HVC
 cases hv : validS l with
 |false =>
  have HN := Lib.hid (org_no (x := x) (w := w) (w' := w2) (fun h => by rw [hv] at h; cases h.1) H2.out.2)
  clear hv
  go_wp2_with fail
  refine bodyPost_ret (v := .tuple #[.slice none 0 0, .int .i64 70]) ?_ rfl HN.out
  simp [results, Tryd.results32, go_sem]
 |true =>
  have hix := rindex_any A c l x w2 H2.out.1.rl
  have hng := idx_neg l x
  obtain ⟨ix, hixe⟩ : ∃ ix, fIdx (fun s : Src => s.id == x) l = ix := ⟨_, rfl⟩
  rw [hixe] at hix hng
  have HIX := Lib.hid hix; clear hix hixe
  cases hf : (fndS l x).isSome with
  |false =>
   have HN := Lib.hid (fun W (h : Below w.heap.size w W) => org_no (x := x) (w := w) (w' := W) (fun h => by rw [hf] at h; cases h.2) h)
   rw [hf] at hng
   have hng : decide (ix < 0) = true := hng
   clear hv hf
   go_wp2_with fail
   refine HIX.out.mono ?_
   rintro e w3 ⟨rfl, hb3⟩
   have HB := Lib.hid (H2.out.2.trans (hb3.mono H2.out.2.size)); clear hb3
   go_wp2_with fail
   refine bodyPost_ret (v := .tuple #[.slice none 0 0, .int .i64 70]) ?_ rfl (HN.out _ HB.out)
   simp [results, Tryd.results32, go_sem]
  |true =>
   have HG := Lib.hid (And.intro hv hf)
   rw [hf] at hng
   have hng : decide (ix < 0) = false := hng
   have hxp := fnd_pos hv hf
   obtain ⟨X, rfl⟩ : ∃ X : Nat, x = X := ⟨x.toNat, by omega⟩
   have HX12 := Lib.hid (show X < 12 by omega)
   have hl12 := valid_len hv
   have HL12 := Lib.hid hl12
   clear hv hf hxp hl12
   go_wp2_with fail
   refine HIX.out.mono ?_
   rintro e w3 ⟨rfl, hb3⟩
   have H3 := Lib.hid (And.intro (H2.out.1.next hb3) (H2.out.2.trans (hb3.mono H2.out.2.size))); clear hb3 HIX H2
   go_wp2_with fail
   clear hng
   go_loopw [6, 7] (fun lv iv W => ∃ k : Nat, k ≤ l.length ∧ iv = .int .i64 k ∧ Hid ((Kd.int .i64).R 3 W w.heap.size (fun j => w.heap.size ≤ j) lv (outO l X k) ∧ Below w.heap.size w W)) (fun lv iv W => l.length - (intOf iv).toNat)
   case atStart => exact ⟨0, Nat.zero_le _, rfl, Lib.hid ⟨Kd.R_nil _ _ _ _ _, H3.out.2⟩⟩
   case round =>
    clear H3
    obtain ⟨i, hi, rfl, HI⟩ := hrel
    obtain ⟨OA, oc, rfl⟩ := Kd.R_slice HI.out.1
    obtain ⟨on, hon⟩ : ∃ n, (outO l X i).length = n := ⟨_, rfl⟩
    rw [hon]
    have HON := Lib.hid hon; clear hon
    have HSA := Lib.hid (H0.out.next HI.out.2)
    by_cases hlt : i < l.length
    ·have hltI : (i : Int) < (l.length : Int) := by omega
     obtain ⟨s, hs⟩ : ∃ s, l[i]? = some s := ⟨_, List.getElem?_eq_getElem hlt⟩
     obtain ⟨ad, FA, fc, e, x0, x1, x2, hfc, hCf⟩ := at_S HSA.out.rl hs
     cases e
     have hr := valid_src HG.out.1 (List.mem_of_getElem? hs)
     have hmf := max_len hCf
     have HS := Lib.hid (And.intro hs hr)
     have HSU := Lib.hid (outO_succ (x := X) hs)
     obtain ⟨n, hn⟩ : ∃ n, s.frm.length = n := ⟨_, rfl⟩
     rw [hn] at x2 hmf
     have HN0 := Lib.hid hn
     clear hn hCf hfc hs hr x1
     by_cases h0 : n = 0
     ·have hg0 : ¬ (0 : Int) < (n : Int) := by omega
      have HF0 := Lib.hid (show s.frm.length = 0 by rw [HN0.out, h0])
      clear h0
      go_wp2_with fail
      go_loopw [8, 9] (fun uv jv W => ∃ j t : Nat, j ≤ l.length ∧ jv = .int .i64 j ∧ uv = .int .i64 (t : Int) ∧ Hid (t = oth l i j ∧ W = wr)) (fun uv jv W => l.length - (intOf jv).toNat)
      case atStart => exact ⟨0, 0, Nat.zero_le _, rfl, rfl, Lib.hid ⟨rfl, rfl⟩⟩
      case round =>
       obtain ⟨j, t, hj, rfl, rfl, HJ⟩ := hrel
       have hww := HJ.out.2
       subst hww
       by_cases hjl : j < l.length
       ·have hjI : (j : Int) < (l.length : Int) := by omega
        obtain ⟨q, hq⟩ : ∃ q, l[j]? = some q := ⟨_, List.getElem?_eq_getElem hjl⟩
        obtain ⟨a2, GA, gc, e, y0, y1, y2, hgc, hCg⟩ := at_S HSA.out.rl hq
        cases e
        have hqr := valid_src HG.out.1 (List.mem_of_getElem? hq)
        have hoa := oth_add HG.out.1 (i := i) hq
        have hol := oth_lt HG.out.1 (i := i) (m := j + 1) (by omega)
        obtain ⟨Y, hY⟩ : ∃ Y : Nat, q.id = Y := ⟨q.id.toNat, by omega⟩
        have HBI := Lib.hid (rbit_any Y (by omega) wr)
        rw [hY] at y0 hoa
        rw [Int.toNat_natCast] at hoa
        obtain ⟨m, hm⟩ : ∃ m, q.frm.length = m := ⟨_, rfl⟩
        rw [hm] at y2 hoa
        have hmm : m ≤ 9223372036854775807 := by rw [← hm]; exact max_len hCg
        clear hq hCg hgc y1 hqr hY hm
        by_cases hji : j = i
        ·have hne : ((j : Int) != (i : Int)) = false := by rw [bneD]; exact decide_eq_false (fun h => h (by omega))
         have HN := Lib.hid (show t = oth l i (j + 1) by rw [hoa, if_neg (fun h => h.1 hji)]; exact HJ.out.1)
         clear hji hoa hol
         go_wp2_with fail
         go_roundw
         case rel => exact ⟨j + 1, t, by omega, by go_num, rfl, Lib.hid ⟨HN.out, by first | trivial | rfl⟩⟩
         case measure => exact meas_up1 hjl
        ·have hne : ((j : Int) != (i : Int)) = true := by rw [bneD]; exact decide_eq_true (by omega)
         by_cases hm0 : m = 0
         ·have hmb : ((m : Int) == 0) = true := by rw [beqD]; exact decide_eq_true (by omega)
          have hoa2 : oth l i (j + 1) = t + 2 ^ Y := by rw [hoa, if_pos ⟨hji, hm0⟩, HJ.out.1]
          have HN := Lib.hid hoa2
          rw [hoa2] at hol
          obtain ⟨z, hz⟩ : ∃ z, 2 ^ Y = z := ⟨_, rfl⟩
          rw [hz] at HBI HN hol
          have HWP := Lib.hid (show wrap64 ((t : Int) + (z : Int)) = ((t + z : Nat) : Int) by unfold wrap64; omega)
          clear hji hoa hoa2 hol hz hm0
          go_wp2_with fail
          refine HBI.out.mono ?_
          rintro e w5 ⟨rfl, rfl⟩
          go_wp2_with fail
          go_roundw
          case rel => exact ⟨j + 1, t + z, by omega, by go_num, by first | rw [HWP.out] | rfl, Lib.hid ⟨HN.out.symm, by first | trivial | rfl⟩⟩
          case measure => exact meas_up1 hjl
         ·have hmb : ((m : Int) == 0) = false := by rw [beqD]; exact decide_eq_false (by omega)
          have HN := Lib.hid (show t = oth l i (j + 1) by rw [hoa, if_neg (fun h => hm0 h.2)]; exact HJ.out.1)
          clear hji hoa hol hm0
          go_wp2_with fail
          go_roundw
          case rel => exact ⟨j + 1, t, by omega, by go_num, rfl, Lib.hid ⟨HN.out, by first | trivial | rfl⟩⟩
          case measure => exact meas_up1 hjl
       ·obtain rfl : j = l.length := by omega
        have ht4 : t < 4096 := by rw [HJ.out.1]; exact oth_lt HG.out.1 (Nat.le_refl _)
        have hfe := from_eq HG.out.1 (List.mem_of_getElem? HS.out.1) HF0.out (X := t) (by rw [HJ.out.1]; exact oth_all HG.out.1 HS.out.1) X
        have HRE := Lib.hid (rreached_any _ c l t wr HSA.out HG.out.1 ht4)
        have hsb := setOf_bit (rchB (nxL l) 0 (ogL l) t) X
        rw [hfe, decide_eq_true HX12.out, Bool.true_and] at hsb
        have hsl := setOf_lt (rchB (nxL l) 0 (ogL l) t)
        obtain ⟨R, hR⟩ : ∃ R, setOf (rchB (nxL l) 0 (ogL l) t) = R := ⟨_, rfl⟩
        rw [hR] at HRE hsb hsl
        have hhs := rhas_any R X hsl (by have := HX12.out; omega) wr
        rw [hsb] at hhs
        have HPK := Lib.hid (show pickO l X s = fromB l X s.id.toNat by unfold pickO; rw [decide_eq_true HF0.out]; rfl)
        obtain ⟨Y, hY⟩ : ∃ Y : Nat, s.id = Y := ⟨s.id.toNat, by have := HS.out.2; omega⟩
        rw [hY] at x0
        have HY := Lib.hid hY
        clear hR hsb hsl hfe ht4 hY
        cases hfb : fromB l X s.id.toNat with
        |false =>
         rw [hfb] at hhs
         have HHS := Lib.hid hhs
         have HN := Lib.hid (show outO l X (i + 1) = outO l X i by rw [HSU.out, HPK.out, hfb]; rfl)
         clear hhs hfb
         go_wp2_with fail
         refine HRE.out.mono ?_
         rintro e w5 ⟨rfl, rfl⟩
         go_wp2_with fail
         refine HHS.out.mono ?_
         rintro e w6 ⟨rfl, rfl⟩
         go_wp2_with fail
         go_roundw
         case rel => exact ⟨i + 1, by omega, by go_num, Lib.hid ⟨by rw [HN.out]; first | exact HI.out.1 | (rw [← HON.out]; exact HI.out.1), HI.out.2⟩⟩
         case measure => exact meas_up1 hlt
        |true =>
         rw [hfb] at hhs
         have HHS := Lib.hid hhs
         have HN := Lib.hid (show outO l X (i + 1) = outO l X i ++ [(Y : Int)] by rw [HSU.out, HPK.out, hfb, ← HY.out]; rfl)
         have hll : (outO l X i).length ≤ 12 := Nat.le_trans (outO_len l X i) HL12.out
         have h1o := HI.out.1
         have hz0 := HI.out.2.size
         clear hhs hfb
         rw [HON.out] at h1o
         have HLL := Lib.hid (And.intro hll (And.intro h1o hz0)); clear hll h1o hz0
         go_wp2_with fail
         refine HRE.out.mono ?_
         rintro e w5 ⟨rfl, rfl⟩
         go_wp2_with fail
         refine HHS.out.mono ?_
         rintro e w6 ⟨rfl, rfl⟩
         go_wp2_with (at_builtin; go_loud (refine Kd.R_append (Kd.int .i64) (w0 := w) w.heap.size rfl (.tmp 63) (.tmp 69) 26 3 (.int .i64 0) 8 rfl Tryd.underlying26 info3 rfl (by decide) (by decide) _ (outO l X i) (Y : Int) [.int .i64 (Y : Int)] (fun j => w.heap.size ≤ j) (fun _ => False) rfl rfl rfl (fun _ h => h.elim) (fun j hj => Nat.le_trans HLL.out.2.2 hj) HLL.out.2.1 HI.out.2 HLL.out.2.2 (by have := HLL.out.1; omega) ?_))
         intro v1 w7 h1 h2 h3 h4
         have HQ := Lib.hid (And.intro h1 h2)
         clear h1 h2 h3 h4
         go_wp2_with fail
         go_roundw
         case rel => exact ⟨i + 1, by omega, by go_num, Lib.hid ⟨by rw [HN.out]; exact HQ.out.1, HQ.out.2⟩⟩
         case measure => exact meas_up1 hlt
     ·have hg0 : (0 : Int) < (n : Int) := by omega
      have HN := Lib.hid (show outO l X (i + 1) = outO l X i by
       have hp : pickO l X s = false := by unfold pickO; rw [HN0.out, decide_eq_false h0]; rfl
       rw [HSU.out, hp]; rfl)
      clear h0
      go_wp2_with fail
      go_roundw
      case rel => exact ⟨i + 1, by omega, by go_num, Lib.hid ⟨by rw [HN.out]; first | exact HI.out.1 | (rw [← HON.out]; exact HI.out.1), HI.out.2⟩⟩
      case measure => exact meas_up1 hlt
    ·obtain rfl : i = l.length := by omega
     have HN := Lib.hid (show OrgPost l (X : Int) w (.returned (.tuple #[.slice OA on oc, .int .i64 0])) wr from ⟨_, by unfold orgE; rw [if_pos HG.out], by
      unfold orgL
      rw [if_pos HG.out, Int.toNat_natCast, ← outO_all HG.out.1 X, ← HON.out]
      exact HI.out.1, HI.out.2⟩)
     go_wp2_with fail
     refine bodyPost_ret (v := .tuple #[.slice OA on oc, .int .i64 0]) ?_ rfl HN.out
     simp [results, Tryd.results32, go_sem]
end Go.Proofs.YticngcjfofcoiaaDoor
