/- The contract of the reference's Made: some valid list. -/
import Derived.Test.YticngcjfofcoiaaDoorSa
namespace Go.Proofs.YticngcjfofcoiaaDoor
open Go.RowKit Go.Rg Go.Proofs.YticngcjfofcoiaaDoorW.PrintWords
set_option linter.unusedVariables false
set_option linter.unusedSimpArgs false
set_option maxRecDepth 100000
theorem pick_some (a n : Int) (hn : 0 < n) (w : World) : Calls Tryd.prog 33 #[.int .i64 a, .int .i64 n] w fun e w' => ∃ r : Int, e = .returned (.int .i64 r) ∧ w' = w := by
 have hne : (n == 0) = false := by simp; omega
 by_cases h : a < 0
 ·go_enter Tryd.func33, Tryd.ntmps33
  go_wp2_with fail
  go_ret
  first | exact ⟨_, rfl, rfl⟩ | exact ⟨_, rfl⟩ | simp
 ·go_enter Tryd.func33, Tryd.ntmps33
  go_wp2_with fail
  go_ret
  first | exact ⟨_, rfl, rfl⟩ | exact ⟨_, rfl⟩ | simp
def k3 : Kd (Int × Int × Int) := Kd.pair (Kd.int .i64) (Kd.pair (Kd.int .i64) (Kd.int .i64))
theorem at_3 {w : World} {A : Option Addr} {n : Nat} {l : List (Int × Int × Int)} (h : Kd.C k3 w A n l) {i : Nat} {s : Int × Int × Int} (hi : l[i]? = some s) : ∃ (ad : Addr), A = some ad ∧ w.cell? (ad.add (i * 3)) = some (.int .i64 s.1) ∧ w.cell? ⟨(ad.add (i * 3)).block, (ad.add (i * 3)).off + 1, none⟩ = some (.int .i64 s.2.1) ∧ w.cell? ⟨(ad.add (i * 3)).block, (ad.add (i * 3)).off + 2, none⟩ = some (.int .i64 s.2.2) := by
 have hlt := (List.getElem?_eq_some_iff.1 hi).1
 have hn : l.length = n := h.1
 obtain ⟨ad, c, e, _, hK, hc0⟩ := Kd.C_get h (0, 0, 0) (i : Int) (by omega) (by omega)
 have hg : l.getD (i : Int).toNat (0, 0, 0) = s := by simp [List.getD, hi]
 rw [hg] at hK
 have hc : ∀ j u, c[j]? = some u → w.cell? (ad.add (i * 3 + j)) = some u := hc0
 obtain ⟨_, _, rfl, rfl, ⟨_, _, rfl, rfl, rfl⟩⟩ := hK
 exact ⟨ad, e, hc 0 _ rfl, by rw [← add_field _ _ 1 (by omega)]; exact hc 1 _ rfl, by rw [← add_field _ _ 2 (by omega)]; exact hc 2 _ rfl⟩
theorem info35 : (Tryd.prog.info? 35).map (fun i => (i.zero, i.size, i.bytes)) = some (some (.agg #[.int .i64 0, .int .i64 0, .slice none 0 0]), 3, 40) := by kernel_rfl
structure MadeS (n i : Nat) (s : Src) : Prop where
 id : s.id = i
 kind : s.kind = 1 ∨ s.kind = 2
 len : s.frm.length ≤ 3
 asc : s.frm.Pairwise (· < ·)
 rng : ∀ y ∈ s.frm, 0 ≤ y ∧ y < n ∧ y ≠ i
def MadeL (n : Nat) (l : List Src) : Prop := ∀ i s, l[i]? = some s → MadeS n i s
theorem MadeL.snoc {n : Nat} {l : List Src} {s : Src} (h : MadeL n l) (hs : MadeS n l.length s) : MadeL n (l ++ [s]) := by
 intro i t hi
 rcases Nat.lt_or_ge i l.length with h1 | h1
 ·rw [List.getElem?_append_left h1] at hi
  exact h i t hi
 ·rw [List.getElem?_append_right h1] at hi
  have : i = l.length := by
   obtain ⟨h2, _⟩ := List.getElem?_eq_some_iff.1 hi
   simp at h2
   omega
  subst this
  simp at hi
  exact hi ▸ hs
theorem kS_M {w : World} {base : Nat} {ok : Nat → Prop} {s : Src} {v : Value} (h : (Kd.int .i64).R 3 w base ok v s.frm) : kS.M w base ok s [.int .i64 s.id, .int .i64 s.kind, v] :=
 ⟨[.int .i64 s.id], [.int .i64 s.kind, v], rfl, rfl, ⟨[.int .i64 s.kind], [v], rfl, rfl, ⟨v, rfl, h⟩⟩⟩
structure MX (w : World) (b6 : Nat) (i : Nat) (kd : Int) (lv fv : Value) (l : List Src) (frm : List Int) (W : World) : Prop where
 below : Below w.heap.size w W
 lst : kS.R 35 W w.heap.size (fun k => w.heap.size ≤ k ∧ k < b6) lv l
 box : W.heap[b6]? = some (.cells #[.int .i64 (i : Int), .int .i64 kd, fv] 35)
 row : (Kd.int .i64).R 3 W w.heap.size (fun k => b6 < k) fv frm
 lo : w.heap.size ≤ b6
structure FrmK (i k : Nat) (frm : List Int) : Prop where
 len : frm.length ≤ 3
 asc : frm.Pairwise (· < ·)
 rng : ∀ y ∈ frm, 0 ≤ y ∧ y < k ∧ y ≠ i
theorem FrmK.zero (i : Nat) : FrmK i 0 [] := ⟨by simp, List.Pairwise.nil, fun y h => by cases h⟩
theorem FrmK.skip {i k : Nat} {frm : List Int} (h : FrmK i k frm) : FrmK i (k + 1) frm := ⟨h.len, h.asc, fun y hy => by have := h.rng y hy; exact ⟨this.1, by omega, this.2.2⟩⟩
theorem FrmK.push {i k : Nat} {frm : List Int} (h : FrmK i k frm) (hl : frm.length < 3) (hk : ¬ k = i) : FrmK i (k + 1) (frm ++ [(k : Int)]) := by
 refine ⟨by simp; omega, List.pairwise_append.2 ⟨h.asc, by simp, fun a ha b hb => ?_⟩, fun y hy => ?_⟩
 ·rw [List.mem_singleton] at hb
  have := h.rng a ha
  omega
 ·rcases List.mem_append.1 hy with hy | hy
  ·have := h.rng y hy; exact ⟨this.1, by omega, this.2.2⟩
  ·rw [List.mem_singleton] at hy; exact ⟨by omega, by omega, by omega⟩
theorem FrmK.src {i k n : Nat} {frm : List Int} (h : FrmK i k frm) {kd : Int} (hkd : kd = 1 ∨ kd = 2) (hk : k ≤ n) : MadeS n i ⟨i, kd, frm⟩ := ⟨rfl, hkd, h.len, h.asc, fun y hy => by have := h.rng y hy; exact ⟨this.1, by omega, this.2.2⟩⟩
theorem MX.keep {w : World} {b6 i : Nat} {kd : Int} {lv fv : Value} {l : List Src} {frm : List Int} {W W2 : World} (h : MX w b6 i kd lv fv l frm W) (hg : W.grownBy W2 fv.ownBlock) : W2.heap[b6]? = some (.cells #[.int .i64 (i : Int), .int .i64 kd, fv] 35) := by
 rw [hg.block b6 (Array.getElem?_eq_some_iff.1 h.box).1 (fun e => by
  obtain ⟨cs, hc⟩ := Kd.R_typed h.row b6 e.symm
  rw [h.box] at hc
  cases hc)]
 exact h.box
theorem MX.push {w : World} {b6 i : Nat} {kd : Int} {lv fv v1 : Value} {l : List Src} {frm frm' : List Int} {W W2 : World} (h : MX w b6 i kd lv fv l frm W) (hb : Below w.heap.size W W2) (hg : W.grownBy W2 fv.ownBlock) (hr : (Kd.int .i64).R 3 W2 w.heap.size (fun k => b6 < k) v1 frm') : MX w b6 i kd lv v1 l frm' (W2.setCell ⟨b6, 2, none⟩ v1) := by
 have hk := h.keep hg
 have h35 : ∀ q, q ∈ (3 : Nat) :: (Kd.int .i64).E → q ≠ 35 := fun q hq => by rw [kI_only hq]; decide
 refine ⟨(h.below.trans hb).setCell (p := ⟨b6, 2, none⟩) h.lo _, ?_, heap_set (o := 2) v1 hk, Kd.R_set hr hk h35 2 _, h.lo⟩
 refine Kd.R_step (Kd.R_step h.lst (fun k hk' hl => hg.block k hl (fun e3 => ?_))) (fun k hk' _ => ?_)
 ·have h1 := h.row.1 k e3.symm
  omega
 ·have hne : k ≠ b6 := by omega
  cases hx : W2.heap[k]? with
  |none =>
   have : ¬ k < W2.heap.size := fun hlt => by rw [Array.getElem?_eq_getElem hlt] at hx; cases hx
   omega
  |some o => exact heap_set_ne (p := ⟨b6, 2, none⟩) _ hne hx
theorem MX.lt {w : World} {b6 i : Nat} {kd : Int} {lv fv : Value} {l : List Src} {frm : List Int} {W : World} (h : MX w b6 i kd lv fv l frm W) : b6 < W.heap.size := (Array.getElem?_eq_some_iff.1 h.box).1
set_option maxHeartbeats 8000000 in
theorem made_any (XA : Option Addr) (xc : Nat) (x : List (Int × Int × Int)) (w : World) (hx : Kd.C k3 w XA x.length x) :
  Calls Tryd.prog 11 #[.slice XA x.length xc] w fun e w' => ∃ v l, e = .returned v ∧ kS.R 35 w' w.heap.size (fun k => w.heap.size ≤ k) v l ∧ MadeL l.length l ∧ l.length ≤ 10 ∧ Below w.heap.size w w' := by
 have hm := max_len hx
 have HX := Lib.hid hx; clear hx
 go_enter Tryd.func11, Tryd.ntmps11
 go_wp2_with fail
 ·obtain ⟨n, hn⟩ : ∃ n : Nat, (10 : Int) = n := ⟨10, rfl⟩
  have hn10 : n ≤ 10 := by omega
  have hnx : n ≤ x.length := by omega
  rw [hn]
  clear hn
  go_loopw [3, 5] (fun lv iv wr => ∃ i : Nat, i ≤ n ∧ iv = .int .i64 i ∧ ∃ l : List Src, Hid (kS.R 35 wr w.heap.size (fun k => w.heap.size ≤ k) lv l ∧ MadeL n l ∧ l.length = i ∧ Below w.heap.size w wr)) (fun lv iv wr => n - (intOf iv).toNat)
  case atStart => exact ⟨0, Nat.zero_le _, rfl, [], Lib.hid ⟨Kd.R_nil _ _ _ _ _, fun i s h => by simp at h, rfl, Below.refl _ _⟩⟩
  case round =>
   obtain ⟨i, hi, rfl, l, HI⟩ := hrel
   by_cases hil : i < n
   ·have hiI : (i : Int) < (n : Int) := by omega
    have hixI : (i : Int) < (x.length : Int) := by omega
    obtain ⟨t, ht⟩ : ∃ t, x[i]? = some t := ⟨x[i]'(by omega), List.getElem?_eq_getElem (by omega)⟩
    obtain ⟨ad, e, y0, y1, y2⟩ := at_3 HX.out ht
    cases e
    have hb0 := HI.out.2.2.2
    have hz0 := hb0.size
    have hR0 := HI.out.1
    obtain ⟨t0, t1, t2⟩ := t
    dsimp only at y0 y1 y2
    obtain ⟨b6, hb6⟩ : ∃ b, wr.heap.size = b := ⟨_, rfl⟩
    have hbA := (Below.refl wr.heap.size wr).alloc (Nat.le_refl _) (.cells #[.int .i64 (i : Int), .int .i64 1, .slice none 0 0] 35)
    have hMX : ∀ kd : Int, MX w b6 i kd u3 (.slice none 0 0) l [] (wr.alloc (.cells #[.int .i64 (i : Int), .int .i64 kd, .slice none 0 0] 35)) := fun kd => by
     have hbA := (Below.refl wr.heap.size wr).alloc (Nat.le_refl _) (.cells #[.int .i64 (i : Int), .int .i64 kd, .slice none 0 0] 35)
     exact ⟨hb0.alloc (by omega) _, Kd.R_mono (Kd.R_below (Kd.R_bound hR0) hbA) (fun k hk => ⟨hk.1, by have := hk.2.2.1; omega⟩), heap_new hb6, Kd.R_nil _ _ _ _ _, by omega⟩
    have x0 := pw_cell_below (hMX 1).below y0
    have HY := Lib.hid (And.intro y0 (And.intro y1 y2)); clear y0 y1 y2
    have HII := Lib.hid HI.out.2; clear HI
    clear hb0 hz0 ht hR0 hbA
    go_wp2_with fail
    refine (pick_some t0 4 (by decide) _).mono ?_
    rintro e wq ⟨r0, rfl, rfl⟩
    cases hr0 : (r0 == 0) with
    |true =>
     have HM := Lib.hid (show MX w b6 i 2 u3 (.slice none 0 0) l [] (wr.alloc (.cells #[.int .i64 (i : Int), .int .i64 2, .slice none 0 0] 35)) from hMX 2)
     clear hMX
     go_wp2_with fail
     clear hr0
     obtain ⟨wa, hwa⟩ : ∃ wa, wr.alloc (.cells #[.int .i64 (i : Int), .int .i64 2, .slice none 0 0] 35) = wa := ⟨_, rfl⟩
     rw [hwa] at HM ⊢
     clear hwa x0
     go_loopw [7] (fun kv wr => ∃ k : Nat, k ≤ n ∧ kv = .int .i64 k ∧ ∃ (frm : List Int) (fv : Value), Hid (MX w b6 i 2 u3 fv l frm wr) ∧ Hid (FrmK i k frm)) (fun kv wr => n - (intOf kv).toNat)
     case atStart => exact ⟨0, Nat.zero_le _, rfl, [], _, HM, Lib.hid (FrmK.zero i)⟩
     case round =>
      obtain ⟨k, hkle, rfl, frm, fv, HJ, HK⟩ := hrel
      obtain ⟨FA, fc, rfl⟩ := Kd.R_slice HJ.out.row
      have p2 : wr.cell? ⟨b6, 2, none⟩ = some (.slice FA frm.length fc) := cell_of HJ.out.box rfl
      by_cases hkn : k < n
      ·have hknI : (k : Int) < (n : Int) := by omega
       by_cases hf3 : frm.length < 3
       ·have hf3I : (frm.length : Int) < 3 := by omega
        have y1 := pw_cell_below HJ.out.below HY.out.2.1
        have y2 := pw_cell_below HJ.out.below HY.out.2.2
        have hkn0 : ((2 : Int) * n) > 0 := by omega
        have hw2 : wrap64 (2 * (n : Int)) = 2 * (n : Int) := by unfold wrap64; omega
        by_cases hki : k = i
        ·have hkib : ((k : Int) != (i : Int)) = false := by simp [hki]
         have hkis : HEq k k := HEq.rfl
         have HKI := Lib.hid hki
         clear hki hkis y1 y2
         go_wp2_with fail
         go_roundw
         case rel => exact ⟨k + 1, by omega, by go_num, frm, _, HJ, Lib.hid HK.out.skip⟩
         case measure => exact meas_up1 hkn
        ·have hkib : ((k : Int) != (i : Int)) = true := by simp; omega
         have HKI := Lib.hid hki; clear hki
         go_wp2_with fail
         refine (pick_some t1 3 (by decide) _).mono ?_
         rintro e wq ⟨r1, rfl, rfl⟩
         cases h1 : decide (0 < r1) with
         |false =>
          have h1' : ¬ (0 < r1) := of_decide_eq_false h1
          clear y1 y2
          go_wp2_with fail
          go_roundw
          case rel => exact ⟨k + 1, by omega, by go_num, frm, _, HJ, Lib.hid HK.out.skip⟩
          case measure => exact meas_up1 hkn
         |true =>
          have h1' : 0 < r1 := of_decide_eq_true h1
          go_wp2_with fail
          refine (pick_some _ (n : Int) (by omega) _).mono ?_
          rintro e wq ⟨r2, rfl, rfl⟩
          cases h2 : (r2 == (k : Int)) with
          |true =>
           clear y1 y2
           have h1o := HJ.out.row
           go_wp2_with (at_builtin; go_loud (refine Kd.R_append (Kd.int .i64) (w0 := wq) w.heap.size rfl (.tmp 74) (.tmp 76) 26 3 (.int .i64 0) 8 rfl Tryd.underlying26 info3 rfl (by decide) (by decide) (.slice FA frm.length fc) frm (k : Int) [.int .i64 (k : Int)] (fun k => b6 < k) (fun _ => False) rfl rfl rfl (fun _ h => h.elim) (fun k hk => Nat.lt_of_lt_of_le HJ.out.lt hk) h1o (Below.refl _ _) HJ.out.below.size (by have := HK.out.1; omega) ?_))
           intro v1 w7 h1 h2 h3 h4
           obtain ⟨VA, vc, rfl⟩ := Kd.R_slice h1
           rw [show (frm ++ [(k : Int)]).length = frm.length + 1 by simp] at h1 h4 ⊢
           have hpush := HJ.out.push h2 h3 h1
           have hkeep := HJ.out.keep h3
           have g2 : w7.cell? ⟨b6, 2, none⟩ = some (.slice FA frm.length fc) := cell_of hkeep rfl
           have f2 := frozen_of (o := 2) hkeep
           have HP := Lib.hid hpush; clear hpush hkeep h1 h2 h3 h4 h1o
           go_wp2_with fail
           go_roundw
           case rel => exact ⟨k + 1, by omega, by go_num, frm ++ [(k : Int)], .slice VA (frm.length + 1) vc, HP, Lib.hid (FrmK.push HK.out (by omega) HKI.out)⟩
           case measure => exact meas_up1 hkn
          |false =>
           go_wp2_with fail
           refine (pick_some t2 (2 * (n : Int)) (by omega) _).mono ?_
           rintro e wq ⟨r3, rfl, rfl⟩
           clear y1 y2
           cases h3 : (r3 == (k : Int)) with
           |true =>
            have h1o := HJ.out.row
            go_wp2_with (at_builtin; go_loud (refine Kd.R_append (Kd.int .i64) (w0 := wq) w.heap.size rfl (.tmp 74) (.tmp 76) 26 3 (.int .i64 0) 8 rfl Tryd.underlying26 info3 rfl (by decide) (by decide) (.slice FA frm.length fc) frm (k : Int) [.int .i64 (k : Int)] (fun k => b6 < k) (fun _ => False) rfl rfl rfl (fun _ h => h.elim) (fun k hk => Nat.lt_of_lt_of_le HJ.out.lt hk) h1o (Below.refl _ _) HJ.out.below.size (by have := HK.out.1; omega) ?_))
            intro v1 w7 h1 h2 h3' h4
            obtain ⟨VA, vc, rfl⟩ := Kd.R_slice h1
            rw [show (frm ++ [(k : Int)]).length = frm.length + 1 by simp] at h1 h4 ⊢
            have hpush := HJ.out.push h2 h3' h1
            have hkeep := HJ.out.keep h3'
            have g2 : w7.cell? ⟨b6, 2, none⟩ = some (.slice FA frm.length fc) := cell_of hkeep rfl
            have f2 := frozen_of (o := 2) hkeep
            have HP := Lib.hid hpush; clear hpush hkeep h1 h2 h3' h4 h1o
            go_wp2_with fail
            go_roundw
            case rel => exact ⟨k + 1, by omega, by go_num, frm ++ [(k : Int)], .slice VA (frm.length + 1) vc, HP, Lib.hid (FrmK.push HK.out (by omega) HKI.out)⟩
            case measure => exact meas_up1 hkn
           |false =>
            go_wp2_with fail
            go_roundw
            case rel => exact ⟨k + 1, by omega, by go_num, frm, _, HJ, Lib.hid HK.out.skip⟩
            case measure => exact meas_up1 hkn
       ·have hf3I : ¬ (frm.length : Int) < 3 := by omega
        have hap := Kd.R_apart' HJ.out.row (Kd.R_typed HJ.out.lst) (fun q hq => by rw [kI_only hq]; decide)
        have hsm : kS.M wr w.heap.size (fun k => w.heap.size ≤ k ∧ some k ≠ u3.ownBlock) ⟨i, 2, frm⟩ [.int .i64 (i : Int), .int .i64 2, .slice FA frm.length fc] := kS_M (s := ⟨i, 2, frm⟩) (Kd.R_mono hap (fun k hk => ⟨by have := HJ.out.lo; have := hk.1; omega, hk.2⟩))
        have hz0 := HJ.out.below.size
        have hls := Kd.R_mono HJ.out.lst (ok' := fun k => w.heap.size ≤ k) (fun k hk => hk.1)
        have HL := Lib.hid (And.intro hls hsm); clear hls hsm hap
        have q0 : wr.cell? ⟨b6, 0, none⟩ = some (.int .i64 (i : Int)) := cell_of HJ.out.box rfl
        have q1 : wr.cell? ⟨b6, 1, none⟩ = some (.int .i64 2) := cell_of HJ.out.box rfl
        have q2 : wr.cell? ⟨b6, 2, none⟩ = some (.slice FA frm.length fc) := cell_of HJ.out.box rfl
        have hll := HII.out.2.1
        go_wp2_with (at_builtin; go_loud (refine Kd.R_append kS (w0 := wr) w.heap.size rfl (.tmp 79) (.tmp 81) 24 35 (.agg #[.int .i64 0, .int .i64 0, .slice none 0 0]) 40 rfl Tryd.underlying24 info35 rfl (by decide) (by decide) u3 l ⟨i, 2, frm⟩ [.int .i64 (i : Int), .int .i64 2, .slice FA frm.length fc] (fun k => w.heap.size ≤ k) (fun k => w.heap.size ≤ k ∧ some k ≠ u3.ownBlock) rfl rfl HL.out.2 (fun k h => h) (fun k hk => Nat.le_trans hz0 hk) HL.out.1 (Below.refl _ _) hz0 (by omega) ?_))
        intro v1 w7 h1 h2 h3 h4
        have HW := Lib.hid (And.intro h1 (HJ.out.below.trans h2)); clear h1 h2 h3 h4 q0 q1 q2
        go_wp2_with fail
        go_roundw
        case rel => exact ⟨i + 1, by omega, by go_num, l ++ [⟨i, 2, frm⟩], Lib.hid ⟨HW.out.1, HII.out.1.snoc (by rw [HII.out.2.1]; exact HK.out.src (.inr rfl) hkle), by rw [List.length_append, HII.out.2.1]; rfl, HW.out.2⟩⟩
        case measure => exact meas_up1 hil
      ·have hknI : ¬ (k : Int) < (n : Int) := by omega
       have hap := Kd.R_apart' HJ.out.row (Kd.R_typed HJ.out.lst) (fun q hq => by rw [kI_only hq]; decide)
       have hsm : kS.M wr w.heap.size (fun k => w.heap.size ≤ k ∧ some k ≠ u3.ownBlock) ⟨i, 2, frm⟩ [.int .i64 (i : Int), .int .i64 2, .slice FA frm.length fc] := kS_M (s := ⟨i, 2, frm⟩) (Kd.R_mono hap (fun k hk => ⟨by have := HJ.out.lo; have := hk.1; omega, hk.2⟩))
       have hz0 := HJ.out.below.size
       have hls := Kd.R_mono HJ.out.lst (ok' := fun k => w.heap.size ≤ k) (fun k hk => hk.1)
       have HL := Lib.hid (And.intro hls hsm); clear hls hsm hap
       have q0 : wr.cell? ⟨b6, 0, none⟩ = some (.int .i64 (i : Int)) := cell_of HJ.out.box rfl
       have q1 : wr.cell? ⟨b6, 1, none⟩ = some (.int .i64 2) := cell_of HJ.out.box rfl
       have q2 : wr.cell? ⟨b6, 2, none⟩ = some (.slice FA frm.length fc) := cell_of HJ.out.box rfl
       have hll := HII.out.2.1
       go_wp2_with (at_builtin; go_loud (refine Kd.R_append kS (w0 := wr) w.heap.size rfl (.tmp 79) (.tmp 81) 24 35 (.agg #[.int .i64 0, .int .i64 0, .slice none 0 0]) 40 rfl Tryd.underlying24 info35 rfl (by decide) (by decide) u3 l ⟨i, 2, frm⟩ [.int .i64 (i : Int), .int .i64 2, .slice FA frm.length fc] (fun k => w.heap.size ≤ k) (fun k => w.heap.size ≤ k ∧ some k ≠ u3.ownBlock) rfl rfl HL.out.2 (fun k h => h) (fun k hk => Nat.le_trans hz0 hk) HL.out.1 (Below.refl _ _) hz0 (by omega) ?_))
       intro v1 w7 h1 h2 h3 h4
       have HW := Lib.hid (And.intro h1 (HJ.out.below.trans h2)); clear h1 h2 h3 h4 q0 q1 q2
       go_wp2_with fail
       go_roundw
       case rel => exact ⟨i + 1, by omega, by go_num, l ++ [⟨i, 2, frm⟩], Lib.hid ⟨HW.out.1, HII.out.1.snoc (by rw [HII.out.2.1]; exact HK.out.src (.inr rfl) hkle), by rw [List.length_append, HII.out.2.1]; rfl, HW.out.2⟩⟩
       case measure => exact meas_up1 hil
    |false =>
     have HM := Lib.hid (show MX w b6 i 1 u3 (.slice none 0 0) l [] (wr.alloc (.cells #[.int .i64 (i : Int), .int .i64 1, .slice none 0 0] 35)) from hMX 1)
     clear hMX
     go_wp2_with fail
     clear hr0
     obtain ⟨wa, hwa⟩ : ∃ wa, wr.alloc (.cells #[.int .i64 (i : Int), .int .i64 1, .slice none 0 0] 35) = wa := ⟨_, rfl⟩
     rw [hwa] at HM ⊢
     clear hwa x0
     go_loopw [7] (fun kv wr => ∃ k : Nat, k ≤ n ∧ kv = .int .i64 k ∧ ∃ (frm : List Int) (fv : Value), Hid (MX w b6 i 1 u3 fv l frm wr) ∧ Hid (FrmK i k frm)) (fun kv wr => n - (intOf kv).toNat)
     case atStart => exact ⟨0, Nat.zero_le _, rfl, [], _, HM, Lib.hid (FrmK.zero i)⟩
     case round =>
      obtain ⟨k, hkle, rfl, frm, fv, HJ, HK⟩ := hrel
      obtain ⟨FA, fc, rfl⟩ := Kd.R_slice HJ.out.row
      have p2 : wr.cell? ⟨b6, 2, none⟩ = some (.slice FA frm.length fc) := cell_of HJ.out.box rfl
      by_cases hkn : k < n
      ·have hknI : (k : Int) < (n : Int) := by omega
       by_cases hf3 : frm.length < 3
       ·have hf3I : (frm.length : Int) < 3 := by omega
        have y1 := pw_cell_below HJ.out.below HY.out.2.1
        have y2 := pw_cell_below HJ.out.below HY.out.2.2
        have hkn0 : ((2 : Int) * n) > 0 := by omega
        have hw2 : wrap64 (2 * (n : Int)) = 2 * (n : Int) := by unfold wrap64; omega
        by_cases hki : k = i
        ·have hkib : ((k : Int) != (i : Int)) = false := by simp [hki]
         have hkis : HEq k k := HEq.rfl
         have HKI := Lib.hid hki
         clear hki hkis y1 y2
         go_wp2_with fail
         go_roundw
         case rel => exact ⟨k + 1, by omega, by go_num, frm, _, HJ, Lib.hid HK.out.skip⟩
         case measure => exact meas_up1 hkn
        ·have hkib : ((k : Int) != (i : Int)) = true := by simp; omega
         have HKI := Lib.hid hki; clear hki
         go_wp2_with fail
         refine (pick_some t1 3 (by decide) _).mono ?_
         rintro e wq ⟨r1, rfl, rfl⟩
         cases h1 : decide (0 < r1) with
         |false =>
          have h1' : ¬ (0 < r1) := of_decide_eq_false h1
          clear y1 y2
          go_wp2_with fail
          go_roundw
          case rel => exact ⟨k + 1, by omega, by go_num, frm, _, HJ, Lib.hid HK.out.skip⟩
          case measure => exact meas_up1 hkn
         |true =>
          have h1' : 0 < r1 := of_decide_eq_true h1
          go_wp2_with fail
          refine (pick_some _ (n : Int) (by omega) _).mono ?_
          rintro e wq ⟨r2, rfl, rfl⟩
          cases h2 : (r2 == (k : Int)) with
          |true =>
           clear y1 y2
           have h1o := HJ.out.row
           go_wp2_with (at_builtin; go_loud (refine Kd.R_append (Kd.int .i64) (w0 := wq) w.heap.size rfl (.tmp 74) (.tmp 76) 26 3 (.int .i64 0) 8 rfl Tryd.underlying26 info3 rfl (by decide) (by decide) (.slice FA frm.length fc) frm (k : Int) [.int .i64 (k : Int)] (fun k => b6 < k) (fun _ => False) rfl rfl rfl (fun _ h => h.elim) (fun k hk => Nat.lt_of_lt_of_le HJ.out.lt hk) h1o (Below.refl _ _) HJ.out.below.size (by have := HK.out.1; omega) ?_))
           intro v1 w7 h1 h2 h3 h4
           obtain ⟨VA, vc, rfl⟩ := Kd.R_slice h1
           rw [show (frm ++ [(k : Int)]).length = frm.length + 1 by simp] at h1 h4 ⊢
           have hpush := HJ.out.push h2 h3 h1
           have hkeep := HJ.out.keep h3
           have g2 : w7.cell? ⟨b6, 2, none⟩ = some (.slice FA frm.length fc) := cell_of hkeep rfl
           have f2 := frozen_of (o := 2) hkeep
           have HP := Lib.hid hpush; clear hpush hkeep h1 h2 h3 h4 h1o
           go_wp2_with fail
           go_roundw
           case rel => exact ⟨k + 1, by omega, by go_num, frm ++ [(k : Int)], .slice VA (frm.length + 1) vc, HP, Lib.hid (FrmK.push HK.out (by omega) HKI.out)⟩
           case measure => exact meas_up1 hkn
          |false =>
           go_wp2_with fail
           refine (pick_some t2 (2 * (n : Int)) (by omega) _).mono ?_
           rintro e wq ⟨r3, rfl, rfl⟩
           clear y1 y2
           cases h3 : (r3 == (k : Int)) with
           |true =>
            have h1o := HJ.out.row
            go_wp2_with (at_builtin; go_loud (refine Kd.R_append (Kd.int .i64) (w0 := wq) w.heap.size rfl (.tmp 74) (.tmp 76) 26 3 (.int .i64 0) 8 rfl Tryd.underlying26 info3 rfl (by decide) (by decide) (.slice FA frm.length fc) frm (k : Int) [.int .i64 (k : Int)] (fun k => b6 < k) (fun _ => False) rfl rfl rfl (fun _ h => h.elim) (fun k hk => Nat.lt_of_lt_of_le HJ.out.lt hk) h1o (Below.refl _ _) HJ.out.below.size (by have := HK.out.1; omega) ?_))
            intro v1 w7 h1 h2 h3' h4
            obtain ⟨VA, vc, rfl⟩ := Kd.R_slice h1
            rw [show (frm ++ [(k : Int)]).length = frm.length + 1 by simp] at h1 h4 ⊢
            have hpush := HJ.out.push h2 h3' h1
            have hkeep := HJ.out.keep h3'
            have g2 : w7.cell? ⟨b6, 2, none⟩ = some (.slice FA frm.length fc) := cell_of hkeep rfl
            have f2 := frozen_of (o := 2) hkeep
            have HP := Lib.hid hpush; clear hpush hkeep h1 h2 h3' h4 h1o
            go_wp2_with fail
            go_roundw
            case rel => exact ⟨k + 1, by omega, by go_num, frm ++ [(k : Int)], .slice VA (frm.length + 1) vc, HP, Lib.hid (FrmK.push HK.out (by omega) HKI.out)⟩
            case measure => exact meas_up1 hkn
           |false =>
            go_wp2_with fail
            go_roundw
            case rel => exact ⟨k + 1, by omega, by go_num, frm, _, HJ, Lib.hid HK.out.skip⟩
            case measure => exact meas_up1 hkn
       ·have hf3I : ¬ (frm.length : Int) < 3 := by omega
        have hap := Kd.R_apart' HJ.out.row (Kd.R_typed HJ.out.lst) (fun q hq => by rw [kI_only hq]; decide)
        have hsm : kS.M wr w.heap.size (fun k => w.heap.size ≤ k ∧ some k ≠ u3.ownBlock) ⟨i, 1, frm⟩ [.int .i64 (i : Int), .int .i64 1, .slice FA frm.length fc] := kS_M (s := ⟨i, 1, frm⟩) (Kd.R_mono hap (fun k hk => ⟨by have := HJ.out.lo; have := hk.1; omega, hk.2⟩))
        have hz0 := HJ.out.below.size
        have hls := Kd.R_mono HJ.out.lst (ok' := fun k => w.heap.size ≤ k) (fun k hk => hk.1)
        have HL := Lib.hid (And.intro hls hsm); clear hls hsm hap
        have q0 : wr.cell? ⟨b6, 0, none⟩ = some (.int .i64 (i : Int)) := cell_of HJ.out.box rfl
        have q1 : wr.cell? ⟨b6, 1, none⟩ = some (.int .i64 1) := cell_of HJ.out.box rfl
        have q2 : wr.cell? ⟨b6, 2, none⟩ = some (.slice FA frm.length fc) := cell_of HJ.out.box rfl
        have hll := HII.out.2.1
        go_wp2_with (at_builtin; go_loud (refine Kd.R_append kS (w0 := wr) w.heap.size rfl (.tmp 79) (.tmp 81) 24 35 (.agg #[.int .i64 0, .int .i64 0, .slice none 0 0]) 40 rfl Tryd.underlying24 info35 rfl (by decide) (by decide) u3 l ⟨i, 1, frm⟩ [.int .i64 (i : Int), .int .i64 1, .slice FA frm.length fc] (fun k => w.heap.size ≤ k) (fun k => w.heap.size ≤ k ∧ some k ≠ u3.ownBlock) rfl rfl HL.out.2 (fun k h => h) (fun k hk => Nat.le_trans hz0 hk) HL.out.1 (Below.refl _ _) hz0 (by omega) ?_))
        intro v1 w7 h1 h2 h3 h4
        have HW := Lib.hid (And.intro h1 (HJ.out.below.trans h2)); clear h1 h2 h3 h4 q0 q1 q2
        go_wp2_with fail
        go_roundw
        case rel => exact ⟨i + 1, by omega, by go_num, l ++ [⟨i, 1, frm⟩], Lib.hid ⟨HW.out.1, HII.out.1.snoc (by rw [HII.out.2.1]; exact HK.out.src (.inl rfl) hkle), by rw [List.length_append, HII.out.2.1]; rfl, HW.out.2⟩⟩
        case measure => exact meas_up1 hil
      ·have hknI : ¬ (k : Int) < (n : Int) := by omega
       have hap := Kd.R_apart' HJ.out.row (Kd.R_typed HJ.out.lst) (fun q hq => by rw [kI_only hq]; decide)
       have hsm : kS.M wr w.heap.size (fun k => w.heap.size ≤ k ∧ some k ≠ u3.ownBlock) ⟨i, 1, frm⟩ [.int .i64 (i : Int), .int .i64 1, .slice FA frm.length fc] := kS_M (s := ⟨i, 1, frm⟩) (Kd.R_mono hap (fun k hk => ⟨by have := HJ.out.lo; have := hk.1; omega, hk.2⟩))
       have hz0 := HJ.out.below.size
       have hls := Kd.R_mono HJ.out.lst (ok' := fun k => w.heap.size ≤ k) (fun k hk => hk.1)
       have HL := Lib.hid (And.intro hls hsm); clear hls hsm hap
       have q0 : wr.cell? ⟨b6, 0, none⟩ = some (.int .i64 (i : Int)) := cell_of HJ.out.box rfl
       have q1 : wr.cell? ⟨b6, 1, none⟩ = some (.int .i64 1) := cell_of HJ.out.box rfl
       have q2 : wr.cell? ⟨b6, 2, none⟩ = some (.slice FA frm.length fc) := cell_of HJ.out.box rfl
       have hll := HII.out.2.1
       go_wp2_with (at_builtin; go_loud (refine Kd.R_append kS (w0 := wr) w.heap.size rfl (.tmp 79) (.tmp 81) 24 35 (.agg #[.int .i64 0, .int .i64 0, .slice none 0 0]) 40 rfl Tryd.underlying24 info35 rfl (by decide) (by decide) u3 l ⟨i, 1, frm⟩ [.int .i64 (i : Int), .int .i64 1, .slice FA frm.length fc] (fun k => w.heap.size ≤ k) (fun k => w.heap.size ≤ k ∧ some k ≠ u3.ownBlock) rfl rfl HL.out.2 (fun k h => h) (fun k hk => Nat.le_trans hz0 hk) HL.out.1 (Below.refl _ _) hz0 (by omega) ?_))
       intro v1 w7 h1 h2 h3 h4
       have HW := Lib.hid (And.intro h1 (HJ.out.below.trans h2)); clear h1 h2 h3 h4 q0 q1 q2
       go_wp2_with fail
       go_roundw
       case rel => exact ⟨i + 1, by omega, by go_num, l ++ [⟨i, 1, frm⟩], Lib.hid ⟨HW.out.1, HII.out.1.snoc (by rw [HII.out.2.1]; exact HK.out.src (.inl rfl) hkle), by rw [List.length_append, HII.out.2.1]; rfl, HW.out.2⟩⟩
       case measure => exact meas_up1 hil
   ·obtain rfl : i = n := by omega
    go_wp2_with fail
    go_ret
    exact ⟨_, l, rfl, HI.out.1, by rw [HI.out.2.2.1]; exact HI.out.2.1, by have := HI.out.2.2.1; omega, HI.out.2.2.2⟩
 ·obtain ⟨n, hn⟩ : ∃ n : Nat, x.length = n := ⟨_, rfl⟩
  have hn10 : n ≤ 10 := by omega
  have hnx : n ≤ x.length := by omega
  rw [hn]
  have hxl : (x.length : Int) = n := by rw [hn]
  clear hn
  go_loopw [3, 5] (fun lv iv wr => ∃ i : Nat, i ≤ n ∧ iv = .int .i64 i ∧ ∃ l : List Src, Hid (kS.R 35 wr w.heap.size (fun k => w.heap.size ≤ k) lv l ∧ MadeL n l ∧ l.length = i ∧ Below w.heap.size w wr)) (fun lv iv wr => n - (intOf iv).toNat)
  case atStart => exact ⟨0, Nat.zero_le _, rfl, [], Lib.hid ⟨Kd.R_nil _ _ _ _ _, fun i s h => by simp at h, rfl, Below.refl _ _⟩⟩
  case round =>
   obtain ⟨i, hi, rfl, l, HI⟩ := hrel
   by_cases hil : i < n
   ·have hiI : (i : Int) < (n : Int) := by omega
    have hixI : (i : Int) < (x.length : Int) := by omega
    obtain ⟨t, ht⟩ : ∃ t, x[i]? = some t := ⟨x[i]'(by omega), List.getElem?_eq_getElem (by omega)⟩
    obtain ⟨ad, e, y0, y1, y2⟩ := at_3 HX.out ht
    cases e
    have hb0 := HI.out.2.2.2
    have hz0 := hb0.size
    have hR0 := HI.out.1
    obtain ⟨t0, t1, t2⟩ := t
    dsimp only at y0 y1 y2
    obtain ⟨b6, hb6⟩ : ∃ b, wr.heap.size = b := ⟨_, rfl⟩
    have hbA := (Below.refl wr.heap.size wr).alloc (Nat.le_refl _) (.cells #[.int .i64 (i : Int), .int .i64 1, .slice none 0 0] 35)
    have hMX : ∀ kd : Int, MX w b6 i kd u3 (.slice none 0 0) l [] (wr.alloc (.cells #[.int .i64 (i : Int), .int .i64 kd, .slice none 0 0] 35)) := fun kd => by
     have hbA := (Below.refl wr.heap.size wr).alloc (Nat.le_refl _) (.cells #[.int .i64 (i : Int), .int .i64 kd, .slice none 0 0] 35)
     exact ⟨hb0.alloc (by omega) _, Kd.R_mono (Kd.R_below (Kd.R_bound hR0) hbA) (fun k hk => ⟨hk.1, by have := hk.2.2.1; omega⟩), heap_new hb6, Kd.R_nil _ _ _ _ _, by omega⟩
    have x0 := pw_cell_below (hMX 1).below y0
    have HY := Lib.hid (And.intro y0 (And.intro y1 y2)); clear y0 y1 y2
    have HII := Lib.hid HI.out.2; clear HI
    clear hb0 hz0 ht hR0 hbA
    go_wp2_with fail
    refine (pick_some t0 4 (by decide) _).mono ?_
    rintro e wq ⟨r0, rfl, rfl⟩
    cases hr0 : (r0 == 0) with
    |true =>
     have HM := Lib.hid (show MX w b6 i 2 u3 (.slice none 0 0) l [] (wr.alloc (.cells #[.int .i64 (i : Int), .int .i64 2, .slice none 0 0] 35)) from hMX 2)
     clear hMX
     go_wp2_with fail
     clear hr0
     obtain ⟨wa, hwa⟩ : ∃ wa, wr.alloc (.cells #[.int .i64 (i : Int), .int .i64 2, .slice none 0 0] 35) = wa := ⟨_, rfl⟩
     rw [hwa] at HM ⊢
     clear hwa x0
     go_loopw [7] (fun kv wr => ∃ k : Nat, k ≤ n ∧ kv = .int .i64 k ∧ ∃ (frm : List Int) (fv : Value), Hid (MX w b6 i 2 u3 fv l frm wr) ∧ Hid (FrmK i k frm)) (fun kv wr => n - (intOf kv).toNat)
     case atStart => exact ⟨0, Nat.zero_le _, rfl, [], _, HM, Lib.hid (FrmK.zero i)⟩
     case round =>
      obtain ⟨k, hkle, rfl, frm, fv, HJ, HK⟩ := hrel
      obtain ⟨FA, fc, rfl⟩ := Kd.R_slice HJ.out.row
      have p2 : wr.cell? ⟨b6, 2, none⟩ = some (.slice FA frm.length fc) := cell_of HJ.out.box rfl
      by_cases hkn : k < n
      ·have hknI : (k : Int) < (n : Int) := by omega
       by_cases hf3 : frm.length < 3
       ·have hf3I : (frm.length : Int) < 3 := by omega
        have y1 := pw_cell_below HJ.out.below HY.out.2.1
        have y2 := pw_cell_below HJ.out.below HY.out.2.2
        have hkn0 : ((2 : Int) * n) > 0 := by omega
        have hw2 : wrap64 (2 * (n : Int)) = 2 * (n : Int) := by unfold wrap64; omega
        by_cases hki : k = i
        ·have hkib : ((k : Int) != (i : Int)) = false := by simp [hki]
         have hkis : HEq k k := HEq.rfl
         have HKI := Lib.hid hki
         clear hki hkis y1 y2
         go_wp2_with fail
         go_roundw
         case rel => exact ⟨k + 1, by omega, by go_num, frm, _, HJ, Lib.hid HK.out.skip⟩
         case measure => exact meas_up1 hkn
        ·have hkib : ((k : Int) != (i : Int)) = true := by simp; omega
         have HKI := Lib.hid hki; clear hki
         go_wp2_with fail
         refine (pick_some t1 3 (by decide) _).mono ?_
         rintro e wq ⟨r1, rfl, rfl⟩
         cases h1 : decide (0 < r1) with
         |false =>
          have h1' : ¬ (0 < r1) := of_decide_eq_false h1
          clear y1 y2
          go_wp2_with fail
          go_roundw
          case rel => exact ⟨k + 1, by omega, by go_num, frm, _, HJ, Lib.hid HK.out.skip⟩
          case measure => exact meas_up1 hkn
         |true =>
          have h1' : 0 < r1 := of_decide_eq_true h1
          go_wp2_with fail
          refine (pick_some _ (n : Int) (by omega) _).mono ?_
          rintro e wq ⟨r2, rfl, rfl⟩
          cases h2 : (r2 == (k : Int)) with
          |true =>
           clear y1 y2
           have h1o := HJ.out.row
           go_wp2_with (at_builtin; go_loud (refine Kd.R_append (Kd.int .i64) (w0 := wq) w.heap.size rfl (.tmp 74) (.tmp 76) 26 3 (.int .i64 0) 8 rfl Tryd.underlying26 info3 rfl (by decide) (by decide) (.slice FA frm.length fc) frm (k : Int) [.int .i64 (k : Int)] (fun k => b6 < k) (fun _ => False) rfl rfl rfl (fun _ h => h.elim) (fun k hk => Nat.lt_of_lt_of_le HJ.out.lt hk) h1o (Below.refl _ _) HJ.out.below.size (by have := HK.out.1; omega) ?_))
           intro v1 w7 h1 h2 h3 h4
           obtain ⟨VA, vc, rfl⟩ := Kd.R_slice h1
           rw [show (frm ++ [(k : Int)]).length = frm.length + 1 by simp] at h1 h4 ⊢
           have hpush := HJ.out.push h2 h3 h1
           have hkeep := HJ.out.keep h3
           have g2 : w7.cell? ⟨b6, 2, none⟩ = some (.slice FA frm.length fc) := cell_of hkeep rfl
           have f2 := frozen_of (o := 2) hkeep
           have HP := Lib.hid hpush; clear hpush hkeep h1 h2 h3 h4 h1o
           go_wp2_with fail
           go_roundw
           case rel => exact ⟨k + 1, by omega, by go_num, frm ++ [(k : Int)], .slice VA (frm.length + 1) vc, HP, Lib.hid (FrmK.push HK.out (by omega) HKI.out)⟩
           case measure => exact meas_up1 hkn
          |false =>
           go_wp2_with fail
           refine (pick_some t2 (2 * (n : Int)) (by omega) _).mono ?_
           rintro e wq ⟨r3, rfl, rfl⟩
           clear y1 y2
           cases h3 : (r3 == (k : Int)) with
           |true =>
            have h1o := HJ.out.row
            go_wp2_with (at_builtin; go_loud (refine Kd.R_append (Kd.int .i64) (w0 := wq) w.heap.size rfl (.tmp 74) (.tmp 76) 26 3 (.int .i64 0) 8 rfl Tryd.underlying26 info3 rfl (by decide) (by decide) (.slice FA frm.length fc) frm (k : Int) [.int .i64 (k : Int)] (fun k => b6 < k) (fun _ => False) rfl rfl rfl (fun _ h => h.elim) (fun k hk => Nat.lt_of_lt_of_le HJ.out.lt hk) h1o (Below.refl _ _) HJ.out.below.size (by have := HK.out.1; omega) ?_))
            intro v1 w7 h1 h2 h3' h4
            obtain ⟨VA, vc, rfl⟩ := Kd.R_slice h1
            rw [show (frm ++ [(k : Int)]).length = frm.length + 1 by simp] at h1 h4 ⊢
            have hpush := HJ.out.push h2 h3' h1
            have hkeep := HJ.out.keep h3'
            have g2 : w7.cell? ⟨b6, 2, none⟩ = some (.slice FA frm.length fc) := cell_of hkeep rfl
            have f2 := frozen_of (o := 2) hkeep
            have HP := Lib.hid hpush; clear hpush hkeep h1 h2 h3' h4 h1o
            go_wp2_with fail
            go_roundw
            case rel => exact ⟨k + 1, by omega, by go_num, frm ++ [(k : Int)], .slice VA (frm.length + 1) vc, HP, Lib.hid (FrmK.push HK.out (by omega) HKI.out)⟩
            case measure => exact meas_up1 hkn
           |false =>
            go_wp2_with fail
            go_roundw
            case rel => exact ⟨k + 1, by omega, by go_num, frm, _, HJ, Lib.hid HK.out.skip⟩
            case measure => exact meas_up1 hkn
       ·have hf3I : ¬ (frm.length : Int) < 3 := by omega
        have hap := Kd.R_apart' HJ.out.row (Kd.R_typed HJ.out.lst) (fun q hq => by rw [kI_only hq]; decide)
        have hsm : kS.M wr w.heap.size (fun k => w.heap.size ≤ k ∧ some k ≠ u3.ownBlock) ⟨i, 2, frm⟩ [.int .i64 (i : Int), .int .i64 2, .slice FA frm.length fc] := kS_M (s := ⟨i, 2, frm⟩) (Kd.R_mono hap (fun k hk => ⟨by have := HJ.out.lo; have := hk.1; omega, hk.2⟩))
        have hz0 := HJ.out.below.size
        have hls := Kd.R_mono HJ.out.lst (ok' := fun k => w.heap.size ≤ k) (fun k hk => hk.1)
        have HL := Lib.hid (And.intro hls hsm); clear hls hsm hap
        have q0 : wr.cell? ⟨b6, 0, none⟩ = some (.int .i64 (i : Int)) := cell_of HJ.out.box rfl
        have q1 : wr.cell? ⟨b6, 1, none⟩ = some (.int .i64 2) := cell_of HJ.out.box rfl
        have q2 : wr.cell? ⟨b6, 2, none⟩ = some (.slice FA frm.length fc) := cell_of HJ.out.box rfl
        have hll := HII.out.2.1
        go_wp2_with (at_builtin; go_loud (refine Kd.R_append kS (w0 := wr) w.heap.size rfl (.tmp 79) (.tmp 81) 24 35 (.agg #[.int .i64 0, .int .i64 0, .slice none 0 0]) 40 rfl Tryd.underlying24 info35 rfl (by decide) (by decide) u3 l ⟨i, 2, frm⟩ [.int .i64 (i : Int), .int .i64 2, .slice FA frm.length fc] (fun k => w.heap.size ≤ k) (fun k => w.heap.size ≤ k ∧ some k ≠ u3.ownBlock) rfl rfl HL.out.2 (fun k h => h) (fun k hk => Nat.le_trans hz0 hk) HL.out.1 (Below.refl _ _) hz0 (by omega) ?_))
        intro v1 w7 h1 h2 h3 h4
        have HW := Lib.hid (And.intro h1 (HJ.out.below.trans h2)); clear h1 h2 h3 h4 q0 q1 q2
        go_wp2_with fail
        go_roundw
        case rel => exact ⟨i + 1, by omega, by go_num, l ++ [⟨i, 2, frm⟩], Lib.hid ⟨HW.out.1, HII.out.1.snoc (by rw [HII.out.2.1]; exact HK.out.src (.inr rfl) hkle), by rw [List.length_append, HII.out.2.1]; rfl, HW.out.2⟩⟩
        case measure => exact meas_up1 hil
      ·have hknI : ¬ (k : Int) < (n : Int) := by omega
       have hap := Kd.R_apart' HJ.out.row (Kd.R_typed HJ.out.lst) (fun q hq => by rw [kI_only hq]; decide)
       have hsm : kS.M wr w.heap.size (fun k => w.heap.size ≤ k ∧ some k ≠ u3.ownBlock) ⟨i, 2, frm⟩ [.int .i64 (i : Int), .int .i64 2, .slice FA frm.length fc] := kS_M (s := ⟨i, 2, frm⟩) (Kd.R_mono hap (fun k hk => ⟨by have := HJ.out.lo; have := hk.1; omega, hk.2⟩))
       have hz0 := HJ.out.below.size
       have hls := Kd.R_mono HJ.out.lst (ok' := fun k => w.heap.size ≤ k) (fun k hk => hk.1)
       have HL := Lib.hid (And.intro hls hsm); clear hls hsm hap
       have q0 : wr.cell? ⟨b6, 0, none⟩ = some (.int .i64 (i : Int)) := cell_of HJ.out.box rfl
       have q1 : wr.cell? ⟨b6, 1, none⟩ = some (.int .i64 2) := cell_of HJ.out.box rfl
       have q2 : wr.cell? ⟨b6, 2, none⟩ = some (.slice FA frm.length fc) := cell_of HJ.out.box rfl
       have hll := HII.out.2.1
       go_wp2_with (at_builtin; go_loud (refine Kd.R_append kS (w0 := wr) w.heap.size rfl (.tmp 79) (.tmp 81) 24 35 (.agg #[.int .i64 0, .int .i64 0, .slice none 0 0]) 40 rfl Tryd.underlying24 info35 rfl (by decide) (by decide) u3 l ⟨i, 2, frm⟩ [.int .i64 (i : Int), .int .i64 2, .slice FA frm.length fc] (fun k => w.heap.size ≤ k) (fun k => w.heap.size ≤ k ∧ some k ≠ u3.ownBlock) rfl rfl HL.out.2 (fun k h => h) (fun k hk => Nat.le_trans hz0 hk) HL.out.1 (Below.refl _ _) hz0 (by omega) ?_))
       intro v1 w7 h1 h2 h3 h4
       have HW := Lib.hid (And.intro h1 (HJ.out.below.trans h2)); clear h1 h2 h3 h4 q0 q1 q2
       go_wp2_with fail
       go_roundw
       case rel => exact ⟨i + 1, by omega, by go_num, l ++ [⟨i, 2, frm⟩], Lib.hid ⟨HW.out.1, HII.out.1.snoc (by rw [HII.out.2.1]; exact HK.out.src (.inr rfl) hkle), by rw [List.length_append, HII.out.2.1]; rfl, HW.out.2⟩⟩
       case measure => exact meas_up1 hil
    |false =>
     have HM := Lib.hid (show MX w b6 i 1 u3 (.slice none 0 0) l [] (wr.alloc (.cells #[.int .i64 (i : Int), .int .i64 1, .slice none 0 0] 35)) from hMX 1)
     clear hMX
     go_wp2_with fail
     clear hr0
     obtain ⟨wa, hwa⟩ : ∃ wa, wr.alloc (.cells #[.int .i64 (i : Int), .int .i64 1, .slice none 0 0] 35) = wa := ⟨_, rfl⟩
     rw [hwa] at HM ⊢
     clear hwa x0
     go_loopw [7] (fun kv wr => ∃ k : Nat, k ≤ n ∧ kv = .int .i64 k ∧ ∃ (frm : List Int) (fv : Value), Hid (MX w b6 i 1 u3 fv l frm wr) ∧ Hid (FrmK i k frm)) (fun kv wr => n - (intOf kv).toNat)
     case atStart => exact ⟨0, Nat.zero_le _, rfl, [], _, HM, Lib.hid (FrmK.zero i)⟩
     case round =>
      obtain ⟨k, hkle, rfl, frm, fv, HJ, HK⟩ := hrel
      obtain ⟨FA, fc, rfl⟩ := Kd.R_slice HJ.out.row
      have p2 : wr.cell? ⟨b6, 2, none⟩ = some (.slice FA frm.length fc) := cell_of HJ.out.box rfl
      by_cases hkn : k < n
      ·have hknI : (k : Int) < (n : Int) := by omega
       by_cases hf3 : frm.length < 3
       ·have hf3I : (frm.length : Int) < 3 := by omega
        have y1 := pw_cell_below HJ.out.below HY.out.2.1
        have y2 := pw_cell_below HJ.out.below HY.out.2.2
        have hkn0 : ((2 : Int) * n) > 0 := by omega
        have hw2 : wrap64 (2 * (n : Int)) = 2 * (n : Int) := by unfold wrap64; omega
        by_cases hki : k = i
        ·have hkib : ((k : Int) != (i : Int)) = false := by simp [hki]
         have hkis : HEq k k := HEq.rfl
         have HKI := Lib.hid hki
         clear hki hkis y1 y2
         go_wp2_with fail
         go_roundw
         case rel => exact ⟨k + 1, by omega, by go_num, frm, _, HJ, Lib.hid HK.out.skip⟩
         case measure => exact meas_up1 hkn
        ·have hkib : ((k : Int) != (i : Int)) = true := by simp; omega
         have HKI := Lib.hid hki; clear hki
         go_wp2_with fail
         refine (pick_some t1 3 (by decide) _).mono ?_
         rintro e wq ⟨r1, rfl, rfl⟩
         cases h1 : decide (0 < r1) with
         |false =>
          have h1' : ¬ (0 < r1) := of_decide_eq_false h1
          clear y1 y2
          go_wp2_with fail
          go_roundw
          case rel => exact ⟨k + 1, by omega, by go_num, frm, _, HJ, Lib.hid HK.out.skip⟩
          case measure => exact meas_up1 hkn
         |true =>
          have h1' : 0 < r1 := of_decide_eq_true h1
          go_wp2_with fail
          refine (pick_some _ (n : Int) (by omega) _).mono ?_
          rintro e wq ⟨r2, rfl, rfl⟩
          cases h2 : (r2 == (k : Int)) with
          |true =>
           clear y1 y2
           have h1o := HJ.out.row
           go_wp2_with (at_builtin; go_loud (refine Kd.R_append (Kd.int .i64) (w0 := wq) w.heap.size rfl (.tmp 74) (.tmp 76) 26 3 (.int .i64 0) 8 rfl Tryd.underlying26 info3 rfl (by decide) (by decide) (.slice FA frm.length fc) frm (k : Int) [.int .i64 (k : Int)] (fun k => b6 < k) (fun _ => False) rfl rfl rfl (fun _ h => h.elim) (fun k hk => Nat.lt_of_lt_of_le HJ.out.lt hk) h1o (Below.refl _ _) HJ.out.below.size (by have := HK.out.1; omega) ?_))
           intro v1 w7 h1 h2 h3 h4
           obtain ⟨VA, vc, rfl⟩ := Kd.R_slice h1
           rw [show (frm ++ [(k : Int)]).length = frm.length + 1 by simp] at h1 h4 ⊢
           have hpush := HJ.out.push h2 h3 h1
           have hkeep := HJ.out.keep h3
           have g2 : w7.cell? ⟨b6, 2, none⟩ = some (.slice FA frm.length fc) := cell_of hkeep rfl
           have f2 := frozen_of (o := 2) hkeep
           have HP := Lib.hid hpush; clear hpush hkeep h1 h2 h3 h4 h1o
           go_wp2_with fail
           go_roundw
           case rel => exact ⟨k + 1, by omega, by go_num, frm ++ [(k : Int)], .slice VA (frm.length + 1) vc, HP, Lib.hid (FrmK.push HK.out (by omega) HKI.out)⟩
           case measure => exact meas_up1 hkn
          |false =>
           go_wp2_with fail
           refine (pick_some t2 (2 * (n : Int)) (by omega) _).mono ?_
           rintro e wq ⟨r3, rfl, rfl⟩
           clear y1 y2
           cases h3 : (r3 == (k : Int)) with
           |true =>
            have h1o := HJ.out.row
            go_wp2_with (at_builtin; go_loud (refine Kd.R_append (Kd.int .i64) (w0 := wq) w.heap.size rfl (.tmp 74) (.tmp 76) 26 3 (.int .i64 0) 8 rfl Tryd.underlying26 info3 rfl (by decide) (by decide) (.slice FA frm.length fc) frm (k : Int) [.int .i64 (k : Int)] (fun k => b6 < k) (fun _ => False) rfl rfl rfl (fun _ h => h.elim) (fun k hk => Nat.lt_of_lt_of_le HJ.out.lt hk) h1o (Below.refl _ _) HJ.out.below.size (by have := HK.out.1; omega) ?_))
            intro v1 w7 h1 h2 h3' h4
            obtain ⟨VA, vc, rfl⟩ := Kd.R_slice h1
            rw [show (frm ++ [(k : Int)]).length = frm.length + 1 by simp] at h1 h4 ⊢
            have hpush := HJ.out.push h2 h3' h1
            have hkeep := HJ.out.keep h3'
            have g2 : w7.cell? ⟨b6, 2, none⟩ = some (.slice FA frm.length fc) := cell_of hkeep rfl
            have f2 := frozen_of (o := 2) hkeep
            have HP := Lib.hid hpush; clear hpush hkeep h1 h2 h3' h4 h1o
            go_wp2_with fail
            go_roundw
            case rel => exact ⟨k + 1, by omega, by go_num, frm ++ [(k : Int)], .slice VA (frm.length + 1) vc, HP, Lib.hid (FrmK.push HK.out (by omega) HKI.out)⟩
            case measure => exact meas_up1 hkn
           |false =>
            go_wp2_with fail
            go_roundw
            case rel => exact ⟨k + 1, by omega, by go_num, frm, _, HJ, Lib.hid HK.out.skip⟩
            case measure => exact meas_up1 hkn
       ·have hf3I : ¬ (frm.length : Int) < 3 := by omega
        have hap := Kd.R_apart' HJ.out.row (Kd.R_typed HJ.out.lst) (fun q hq => by rw [kI_only hq]; decide)
        have hsm : kS.M wr w.heap.size (fun k => w.heap.size ≤ k ∧ some k ≠ u3.ownBlock) ⟨i, 1, frm⟩ [.int .i64 (i : Int), .int .i64 1, .slice FA frm.length fc] := kS_M (s := ⟨i, 1, frm⟩) (Kd.R_mono hap (fun k hk => ⟨by have := HJ.out.lo; have := hk.1; omega, hk.2⟩))
        have hz0 := HJ.out.below.size
        have hls := Kd.R_mono HJ.out.lst (ok' := fun k => w.heap.size ≤ k) (fun k hk => hk.1)
        have HL := Lib.hid (And.intro hls hsm); clear hls hsm hap
        have q0 : wr.cell? ⟨b6, 0, none⟩ = some (.int .i64 (i : Int)) := cell_of HJ.out.box rfl
        have q1 : wr.cell? ⟨b6, 1, none⟩ = some (.int .i64 1) := cell_of HJ.out.box rfl
        have q2 : wr.cell? ⟨b6, 2, none⟩ = some (.slice FA frm.length fc) := cell_of HJ.out.box rfl
        have hll := HII.out.2.1
        go_wp2_with (at_builtin; go_loud (refine Kd.R_append kS (w0 := wr) w.heap.size rfl (.tmp 79) (.tmp 81) 24 35 (.agg #[.int .i64 0, .int .i64 0, .slice none 0 0]) 40 rfl Tryd.underlying24 info35 rfl (by decide) (by decide) u3 l ⟨i, 1, frm⟩ [.int .i64 (i : Int), .int .i64 1, .slice FA frm.length fc] (fun k => w.heap.size ≤ k) (fun k => w.heap.size ≤ k ∧ some k ≠ u3.ownBlock) rfl rfl HL.out.2 (fun k h => h) (fun k hk => Nat.le_trans hz0 hk) HL.out.1 (Below.refl _ _) hz0 (by omega) ?_))
        intro v1 w7 h1 h2 h3 h4
        have HW := Lib.hid (And.intro h1 (HJ.out.below.trans h2)); clear h1 h2 h3 h4 q0 q1 q2
        go_wp2_with fail
        go_roundw
        case rel => exact ⟨i + 1, by omega, by go_num, l ++ [⟨i, 1, frm⟩], Lib.hid ⟨HW.out.1, HII.out.1.snoc (by rw [HII.out.2.1]; exact HK.out.src (.inl rfl) hkle), by rw [List.length_append, HII.out.2.1]; rfl, HW.out.2⟩⟩
        case measure => exact meas_up1 hil
      ·have hknI : ¬ (k : Int) < (n : Int) := by omega
       have hap := Kd.R_apart' HJ.out.row (Kd.R_typed HJ.out.lst) (fun q hq => by rw [kI_only hq]; decide)
       have hsm : kS.M wr w.heap.size (fun k => w.heap.size ≤ k ∧ some k ≠ u3.ownBlock) ⟨i, 1, frm⟩ [.int .i64 (i : Int), .int .i64 1, .slice FA frm.length fc] := kS_M (s := ⟨i, 1, frm⟩) (Kd.R_mono hap (fun k hk => ⟨by have := HJ.out.lo; have := hk.1; omega, hk.2⟩))
       have hz0 := HJ.out.below.size
       have hls := Kd.R_mono HJ.out.lst (ok' := fun k => w.heap.size ≤ k) (fun k hk => hk.1)
       have HL := Lib.hid (And.intro hls hsm); clear hls hsm hap
       have q0 : wr.cell? ⟨b6, 0, none⟩ = some (.int .i64 (i : Int)) := cell_of HJ.out.box rfl
       have q1 : wr.cell? ⟨b6, 1, none⟩ = some (.int .i64 1) := cell_of HJ.out.box rfl
       have q2 : wr.cell? ⟨b6, 2, none⟩ = some (.slice FA frm.length fc) := cell_of HJ.out.box rfl
       have hll := HII.out.2.1
       go_wp2_with (at_builtin; go_loud (refine Kd.R_append kS (w0 := wr) w.heap.size rfl (.tmp 79) (.tmp 81) 24 35 (.agg #[.int .i64 0, .int .i64 0, .slice none 0 0]) 40 rfl Tryd.underlying24 info35 rfl (by decide) (by decide) u3 l ⟨i, 1, frm⟩ [.int .i64 (i : Int), .int .i64 1, .slice FA frm.length fc] (fun k => w.heap.size ≤ k) (fun k => w.heap.size ≤ k ∧ some k ≠ u3.ownBlock) rfl rfl HL.out.2 (fun k h => h) (fun k hk => Nat.le_trans hz0 hk) HL.out.1 (Below.refl _ _) hz0 (by omega) ?_))
       intro v1 w7 h1 h2 h3 h4
       have HW := Lib.hid (And.intro h1 (HJ.out.below.trans h2)); clear h1 h2 h3 h4 q0 q1 q2
       go_wp2_with fail
       go_roundw
       case rel => exact ⟨i + 1, by omega, by go_num, l ++ [⟨i, 1, frm⟩], Lib.hid ⟨HW.out.1, HII.out.1.snoc (by rw [HII.out.2.1]; exact HK.out.src (.inl rfl) hkle), by rw [List.length_append, HII.out.2.1]; rfl, HW.out.2⟩⟩
       case measure => exact meas_up1 hil
   ·obtain rfl : i = n := by omega
    go_wp2_with fail
    go_ret
    exact ⟨_, l, rfl, HI.out.1, by rw [HI.out.2.2.1]; exact HI.out.2.1, by have := HI.out.2.2.1; omega, HI.out.2.2.2⟩
end Go.Proofs.YticngcjfofcoiaaDoor
