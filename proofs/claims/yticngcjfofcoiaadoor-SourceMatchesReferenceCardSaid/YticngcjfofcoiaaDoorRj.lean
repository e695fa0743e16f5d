/- The contract of the reference's count. -/
import Derived.Test.YticngcjfofcoiaaDoorRl
import Derived.Test.YticngcjfofcoiaaDoorRh
import Derived.Test.YticngcjfofcoiaaDoorSh
namespace Go.Proofs.YticngcjfofcoiaaDoor
open Go.RowKit Go.Rg Go.Proofs.YticngcjfofcoiaaDoorW.PrintWords
set_option linter.unusedVariables false
set_option linter.unusedSimpArgs false
set_option maxRecDepth 100000
theorem or2_bits (u : Nat) (p : List Nat) : Flow.or2 (bitsOf u) (Flow.inL p) = bitsOf (orL u p) := by
 funext i
 show (u.testBit i || p.contains i) = (orL u p).testBit i
 rw [orL_bit]
theorem count_step {l : List Src} {xs : List Int} {wo u r : Nat} (hg : givenB l xs = true) (h : r + 1 ≤ Flow.mc (Flow.sub (webOf l xs wo) (webOf l xs wo).org (bitsOf u))) :
  ∃ p, growR l xs wo u r [] = p ∧ Flow.leastF (webOf l xs wo) (r + 1) (bitsOf u) = p :: Flow.leastF (webOf l xs wo) r (bitsOf (orL u p)) ∧ r ≤ Flow.mc (Flow.sub (webOf l xs wo) (webOf l xs wo).org (bitsOf (orL u p))) ∧ p.length ≤ 12 ∧ ∀ x ∈ p, x < 12 := by
 have hf := web_fit (given_valid hg) xs wo
 obtain ⟨p, e, hw, hr⟩ := Flow.grow_spec hf ((webOf l xs wo).K + 1) [] (by simp) (.inl rfl) (Flow.ext_nil hf h)
 rw [or2_bits] at hr
 refine ⟨p, ?_, ?_, hr, Flow.nodup_len hw.nodup fun x hx => (hw.ok x hx).1, fun x hx => (hw.ok x hx).1⟩
 ·unfold growR
  rw [show Flow.grow (webOf l xs wo) (bitsOf u) r (13 - ([] : List Nat).length) [] = some p from e]
  rfl
 ·conv => lhs; unfold Flow.leastF
  rw [e, ← or2_bits]
structure CnX (w : World) (b : Nat) (n : Nat) (ov : Value) (ps : List (List Nat)) (W : World) : Prop where
 below : Below w.heap.size w W
 b0 : W.heap[b]? = some (.cells #[.int .i64 0, .slice none 0 0, .slice none 0 0] 30)
 b1 : W.heap[b + 1]? = some (.cells #[.int .i64 n, ov, .slice none 0 0] 30)
 row : kW.R 26 W w.heap.size (fun k => w.heap.size ≤ k) ov (toI ps)
 size : b + 2 ≤ W.heap.size
 at_ : w.heap.size = b
theorem CnX.next {w : World} {b n : Nat} {ov : Value} {ps : List (List Nat)} {W W' : World} (h : CnX w b n ov ps W) (hb : Below W.heap.size W W') : CnX w b n ov ps W' := by
 have hz := h.size
 exact ⟨h.below.trans (hb.mono h.below.size), (hb.block _ (by omega)).trans h.b0, (hb.block _ (by omega)).trans h.b1, Kd.R_below h.row hb, Nat.le_trans hz hb.size, h.at_⟩
theorem CnX.app {w : World} {b n : Nat} {ov v1 : Value} {ps : List (List Nat)} {p : List Nat} {W W' : World} (h : CnX w b n ov ps W) (q1 : kW.R 26 W' w.heap.size (fun k => w.heap.size ≤ k) v1 (toI ps ++ [p.map Int.ofNat])) (q2 : Below w.heap.size w W') (q3 : W.grownBy W' ov.ownBlock) :
  CnX w b n v1 (ps ++ [p]) (W'.setCell ⟨b + 1, 1, none⟩ v1) ∧ W'.heap[b + 1]? = some (.cells #[.int .i64 n, ov, .slice none 0 0] 30) := by
 have hz := h.size
 have hat := h.at_
 have own : ∀ j, W.heap[j]? = some (.cells #[.int .i64 0, .slice none 0 0, .slice none 0 0] 30) ∨ W.heap[j]? = some (.cells #[.int .i64 n, ov, .slice none 0 0] 30) → some j ≠ ov.ownBlock := fun j hj e => by
  obtain ⟨cells, hc⟩ := Kd.R_typed h.row j e.symm
  rcases hj with hj | hj <;> (rw [hc] at hj; injection hj with hj; injection hj with _ h2; cases h2)
 have e0 := (q3.block b (by omega) (own b (.inl h.b0))).trans h.b0
 have e1 := (q3.block (b + 1) (by omega) (own (b + 1) (.inr h.b1))).trans h.b1
 have hz2 : b + 2 ≤ W'.heap.size := Nat.le_trans hz q3.size
 refine ⟨⟨q2.setCell (p := ⟨b + 1, 1, none⟩) (by show w.heap.size ≤ b + 1; omega) _, heap_set_ne (p := ⟨b + 1, 1, none⟩) _ (by show b ≠ b + 1; omega) e0, heap_set (o := 1) _ e1, Kd.R_set (by unfold toI at *; rw [List.map_append]; exact q1) e1 (fun q hq => kW_only hq) 1 _, by simpa using hz2, hat⟩, e1⟩
def CntPost (l : List Src) (xs : List Int) (wo : Nat) (w : World) (e : Ending) (w' : World) : Prop :=
 ∃ wv cv, e = .returned (.agg #[.int .i64 (cntS l xs wo : Nat), wv, cv]) ∧ kW.R 26 w' w.heap.size (fun k => w.heap.size ≤ k) wv (toI (waysS l xs wo)) ∧ (Kd.int .i64).R 3 w' w.heap.size (fun k => w.heap.size ≤ k) cv ((cutS l xs wo).map Int.ofNat) ∧ Below w.heap.size w w'
theorem cnt_end {l : List Src} {xs : List Int} {wo n : Nat} {w : World} {b : Nat} {WA : Option Addr} {wc m1 : Nat} {ps : List (List Nat)} {CA : Option Addr} {cc m2 : Nat} {W : World} (hg : givenB l xs = true) (hn : n = Flow.mc (webOf l xs wo)) (h : CnX w b n (.slice WA m1 wc) ps W) (hm1 : m1 = (toI ps).length) (hp : ps = Flow.leastF (webOf l xs wo) n (bitsOf 0)) (hc : (Kd.int .i64).R 3 W w.heap.size (fun k => w.heap.size ≤ k) (.slice CA m2 cc) ((Flow.firstL (webOf l xs wo)).map Int.ofNat)) (hm2 : m2 = (Flow.firstL (webOf l xs wo)).length) (y1 y2 y3 y0 : Value) :
  CntPost l xs wo w (.returned (.agg #[.int .i64 n, .slice WA m1 wc, .slice CA m2 cc])) ((((W.setCell ⟨b + 1, 2, none⟩ y3).setCell ⟨b, 0, none⟩ y0).setCell ⟨b, 1, none⟩ y1).setCell ⟨b, 2, none⟩ y2) := by
 have e0 := heap_set_ne (p := ⟨b + 1, 2, none⟩) y3 (by show b ≠ b + 1; omega) h.b0
 have e1 := heap_set (o := 0) y0 e0
 have e2 := heap_set (o := 1) y1 e1
 have hat := h.at_
 have hB := (((h.below.setCell (p := ⟨b + 1, 2, none⟩) (by show w.heap.size ≤ b + 1; omega) y3).setCell (p := ⟨b, 0, none⟩) (by show w.heap.size ≤ b; omega) y0).setCell (p := ⟨b, 1, none⟩) (by show w.heap.size ≤ b; omega) y1).setCell (p := ⟨b, 2, none⟩) (by show w.heap.size ≤ b; omega) y2
 have f1 := Kd.R_set (Kd.R_set (Kd.R_set (Kd.R_set h.row h.b1 (fun q hq => kW_only hq) 2 y3) e0 (fun q hq => kW_only hq) 0 y0) e1 (fun q hq => kW_only hq) 1 y1) e2 (fun q hq => kW_only hq) 2 y2
 have f2 := Kd.R_set (Kd.R_set (Kd.R_set (Kd.R_set hc h.b1 (fun q hq => kI_30 hq) 2 y3) e0 (fun q hq => kI_30 hq) 0 y0) e1 (fun q hq => kI_30 hq) 1 y1) e2 (fun q hq => kI_30 hq) 2 y2
 have hcn : cntS l xs wo = n := by unfold cntS; rw [if_pos hg, hn]
 have hws : waysS l xs wo = ps := by unfold waysS; rw [if_pos hg, ← hn, hp]
 have hcs : cutS l xs wo = Flow.firstL (webOf l xs wo) := by unfold cutS; rw [if_pos hg]
 exact ⟨_, _, by rw [hcn], by rw [hws]; exact f1, by rw [hcs]; exact f2, hB⟩
theorem orL_at {v : List Nat} {u i y : Nat} (h : v[i]? = some y) : orL u (v.take (i + 1)) = orL u (v.take i) ||| 2 ^ y := by
 rw [take_at h]
 unfold orL
 rw [List.foldl_append]
 rfl
set_option maxHeartbeats 1000000 in
theorem rcount_any (A : Option Addr) (c : Nat) (l : List Src) (B : Option Addr) (d : Nat) (xs : List Int) (wo : Nat) (w : World) (hs : SrcAt A c l w) (hi : IntAt B d xs w) (hg : givenB l xs = true) (hwo : wo < 4096) :
  Calls Tryd.prog 50 #[.slice A l.length c, .slice B xs.length d, .int .i64 wo] w (CntPost l xs wo w) := by
 have hml := max_len hs.rl
 have hmx := max_len hi.rx
 have HST := Lib.hid (And.intro hs hi)
 have HG := Lib.hid (And.intro hg hwo); clear hs hi hg hwo
 obtain ⟨b, hb⟩ : ∃ b, w.heap.size = b := ⟨_, rfl⟩
 have hA := (Below.refl w.heap.size w).alloc (Nat.le_refl _) (.cells #[.int .i64 0, .slice none 0 0, .slice none 0 0] 30)
 have k0 := heap_new (W := w) (o := .cells #[.int .i64 0, .slice none 0 0, .slice none 0 0] 30) hb
 obtain ⟨w1, hw1⟩ : ∃ W, w.alloc (.cells #[.int .i64 0, .slice none 0 0, .slice none 0 0] 30) = W := ⟨_, rfl⟩
 have hz1 : w1.heap.size = b + 1 := by rw [← hw1]; simp [hb]
 rw [hw1] at hA k0
 have H1 := Lib.hid (And.intro hA (And.intro k0 hz1)); clear hA k0 hz1
 have HB := Lib.hid hb
 have HSUP := Lib.hid (rsupport_any A c l B d xs wo w1 (HST.out.1.next H1.out.1) (HST.out.2.next H1.out.1) HG.out.1 HG.out.2)
 go_enter Tryd.func50, Tryd.ntmps50
 go_wp2_with fail
 clear hw1
 refine HSUP.out.mono ?_
 rintro e w2 ⟨rfl, rfl⟩
 obtain ⟨n, hn⟩ : ∃ n, Flow.mc (webOf l xs wo) = n := ⟨_, rfl⟩
 rw [hn]
 have HN := Lib.hid hn; clear hn HSUP
 have hz2 : w2.heap.size = b + 1 := H1.out.2.2
 go_wp2_with fail
 have hN1 := heap_new (W := w2) (o := .cells #[.int .i64 n, .slice none 0 0, .slice none 0 0] 30) hz2
 have hB1 := (Below.refl w2.heap.size w2).alloc (Nat.le_refl _) (.cells #[.int .i64 n, .slice none 0 0, .slice none 0 0] 30)
 obtain ⟨w3, hw3⟩ : ∃ W, w2.alloc (.cells #[.int .i64 n, .slice none 0 0, .slice none 0 0] 30) = W := ⟨_, rfl⟩
 have hz3 : b + 2 ≤ w3.heap.size := by rw [← hw3]; simp [hz2]
 rw [hw3] at hN1 hB1 ⊢
 have HX := Lib.hid (show CnX w b n (.slice none 0 0) [] w3 from ⟨H1.out.1.trans (hB1.mono H1.out.1.size), (hB1.block _ (by omega)).trans H1.out.2.1, hN1, Kd.R_nil _ _ _ _ _, hz3, HB.out⟩)
 have HN12 := Lib.hid (show n ≤ 12 by
  have h2 := Flow.mc_le (web_fit (given_valid HG.out.1) xs wo) (Flow.cut_all (webOf l xs wo))
  rw [Flow.count_all] at h2
  have h3 : ((webOf l xs wo).K : Int) = 12 := rfl
  have h4 := HN.out
  omega)
 clear hN1 hB1 hz3 hw3 hz2 hb H1
 obtain ⟨w8, hw8⟩ : ∃ w8 : Nat, wo ||| 0 = w8 := ⟨_, rfl⟩
 go_loopw [8, 9] (fun uv iv W => ∃ (i u : Nat) (ov : Value) (ps : List (List Nat)), i ≤ n ∧ iv = .int .i64 i ∧ uv = .int .i64 ((wo ||| u : Nat) : Int) ∧ Hid (CnX w b n ov ps W ∧ u < 4096 ∧ ps.length = i ∧ Flow.leastF (webOf l xs wo) n (bitsOf 0) = ps ++ Flow.leastF (webOf l xs wo) (n - i) (bitsOf u) ∧ n - i ≤ Flow.mc (Flow.sub (webOf l xs wo) (webOf l xs wo).org (bitsOf u)))) (fun uv iv W => n - (intOf iv).toNat)
 case atStart => exact ⟨0, 0, .slice none 0 0, [], Nat.zero_le _, rfl, by rw [Nat.or_zero], Lib.hid ⟨HX.out, by decide, rfl, rfl, by rw [sub_zero, HN.out]; exact Nat.le_refl _⟩⟩
 case round =>
  clear HX hw8
  obtain ⟨i, u, ov, ps, hin, rfl, rfl, HI⟩ := hrel
  obtain ⟨OA, oc, rfl⟩ := Kd.R_slice HI.out.1.row
  have c0 := cell_of (o := 0) HI.out.1.b1 rfl
  by_cases hlt : i < n
  ·obtain ⟨r, hr⟩ : ∃ r, n - i = r + 1 := ⟨n - i - 1, by omega⟩
   obtain ⟨p, hp1, hp2, hp3, hp4, hp5⟩ := count_step (r := r) HG.out.1 (by rw [← hr]; exact HI.out.2.2.2.2)
   have hLE := rleast_any l xs wo u r HG.out.1 HG.out.2 HI.out.2.1 13 [] A c B d none 0 wr (by decide) (.inl rfl) (HST.out.1.next HI.out.1.below) (HST.out.2.next HI.out.1.below) ⟨Kd.C_nil _ _, Nat.le_refl _⟩ (by have := HN12.out; omega) wr.heap.size (Nat.le_refl _) (Kd.R_nil _ _ _ _ _)
   unfold LeastP at hLE
   rw [hp1] at hLE
   have HLE := Lib.hid hLE; clear hLE hp1
   have HP := Lib.hid (And.intro hp2 (And.intro hp3 (And.intro hp4 (And.intro hp5 hr)))); clear hp2 hp3 hp4 hp5
   have hltI : (i : Int) < (n : Int) := by omega
   have hw1 : wrap64 ((n : Int) - 1) = (n : Int) - 1 := by unfold wrap64; have := HN12.out; omega
   have hw2 : wrap64 ((n : Int) - 1 - (i : Int)) = (r : Int) := by unfold wrap64; have := HN12.out; omega
   have hw3 : (n : Int) - 1 - (i : Int) = (r : Int) := by omega
   have hw4 : wrap64 (r : Int) = (r : Int) := by unfold wrap64; have := HN12.out; omega
   clear hr
   go_wp2_with fail
   refine HLE.out.mono ?_
   rintro e w4 ⟨RA, rc, rfl, HQ⟩
   clear hw1 hw2 hw3 hw4 HLE
   have hX4 := HI.out.1.next HQ.out.2.1
   have c1 := cell_of (o := 1) hX4.b1 rfl
   have hlo : w.heap.size ≤ wr.heap.size := HI.out.1.below.size
   have hrow : (Kd.int .i64).R 3 w4 w.heap.size (fun k => w.heap.size ≤ k) (.slice RA p.length rc) (p.map Int.ofNat) := Kd.R_lower (Kd.R_mono HQ.out.2.2 (fun k hk => Nat.le_trans hlo hk)) hlo
   have hM := Kd.M_row (Kd.R_apart' hrow (Kd.R_typed hX4.row) (fun q hq => by rw [kI_E hq]; decide))
   have hpsl := HI.out.2.2.1
   have H4 := Lib.hid (And.intro hX4 (And.intro hrow (And.intro hM (And.intro HQ.out.1 hpsl)))); clear hX4 hrow hM hlo hpsl c0
   go_wp2_with (at_builtin; go_loud (refine Kd.R_append kW (w0 := w) w.heap.size rfl (.tmp 34) (.tmp 36) 28 26 (.slice none 0 0) 24 rfl Tryd.underlying28 info26 rfl (by decide) (by decide) (.slice OA (toI ps).length oc) (toI ps) (p.map Int.ofNat) [.slice RA p.length rc] (fun k => w.heap.size ≤ k) (fun k => w.heap.size ≤ k ∧ some k ≠ (Value.slice OA (toI ps).length oc).ownBlock) rfl rfl H4.out.2.2.1 (fun _ h => h) (fun k hk => Nat.le_trans H4.out.1.below.size hk) H4.out.1.row H4.out.1.below H4.out.1.below.size (by have := H4.out.2.2.2.2; have := HN12.out; rw [toI_len]; omega) ?_))
   intro v1 w5 h1 h2 h3 h4
   obtain ⟨NA, nc, rfl⟩ := Kd.R_slice h1
   obtain ⟨nm, hnm⟩ : ∃ m, (toI ps ++ [p.map Int.ofNat]).length = m := ⟨_, rfl⟩
   rw [hnm] at h1 ⊢
   have hJ := H4.out.1.app h1 h2 h3
   have hrow5 := Kd.R_set (Kd.R_over' H4.out.2.1 (Kd.R_typed H4.out.1.row) (fun q hq => by rw [kI_E hq]; decide) h3) hJ.2 (fun q hq => kI_30 hq) 1 (.slice NA nm nc)
   have t1 := cell_of (o := 1) hJ.2 rfl
   have z1 := frozen_of (o := 1) hJ.2
   have HJ := Lib.hid (And.intro hJ.1 hrow5); clear hJ hrow5 h1 h2 h3 h4 c1 hnm
   go_wp2_with fail
   clear t1 z1
   obtain ⟨w6, hw6⟩ : ∃ W, w5.setCell ⟨b + 1, 1, none⟩ (.slice NA nm nc) = W := ⟨_, rfl⟩
   rw [hw6] at HJ ⊢
   clear hw6
   have hp12 := HP.out.2.2.1
   have HROW := Lib.hid (show (Kd.int .i64).C w6 RA p.length (p.map Int.ofNat) by
    obtain ⟨A', c', e, hc', hC⟩ := Kd.R_reads HJ.out.2
    injection e with e1 e2 e3
    rw [e1]
    rw [List.length_map] at hC
    exact hC)
   go_loopw [8, 11] (fun uv jv W => ∃ j : Nat, j ≤ p.length ∧ jv = .int .i64 j ∧ uv = .int .i64 ((wo ||| orL u (p.take j) : Nat) : Int) ∧ Hid (W = w6)) (fun uv jv W => p.length - (intOf jv).toNat)
   case atStart => exact ⟨0, Nat.zero_le _, rfl, rfl, Lib.hid rfl⟩
   case round =>
    obtain ⟨j, hj, rfl, rfl, HW⟩ := hrel
    have hww : wr = w6 := HW.out
    subst hww
    by_cases hjl : j < p.length
    ·have hjI : (j : Int) < (p.length : Int) := by omega
     obtain ⟨y, hy⟩ : ∃ y, p[j]? = some y := ⟨_, List.getElem?_eq_getElem hjl⟩
     have hy12 := HP.out.2.2.2.1 y (List.mem_of_getElem? hy)
     obtain ⟨fd, e, xy⟩ := Kd.at_int HROW.out (j : Int) (by omega) hjI
     cases e
     have hrd : rd (p.map Int.ofNat) (j : Int) = (y : Int) := by rw [rd_at (by rw [List.length_map]; exact hjl), List.getElem_map]; have := (List.getElem?_eq_some_iff.1 hy).2; rw [this]; rfl
     simp only [Int.toNat_natCast] at xy
     rw [hrd] at xy
     have hos : (wo ||| orL u (p.take j)) ||| 2 ^ y = wo ||| orL u (p.take (j + 1)) := by rw [orL_at hy, Nat.or_assoc]
     have HOS := Lib.hid hos
     have HBY := Lib.hid (rbit_any y (by omega) wr)
     have HUN := Lib.hid (union_any (wo ||| orL u (p.take j)) (2 ^ y) (Nat.or_lt_two_pow (n := 12) HG.out.2 (orL_lt HI.out.2.1 fun x hx => HP.out.2.2.2.1 x (List.mem_of_mem_take hx))) (pow_lt12 hy12) wr)
     clear hrd hy hos hy12
     go_wp2_with fail
     refine HBY.out.mono ?_
     rintro e w7 ⟨rfl, rfl⟩
     go_wp2_with fail
     refine HUN.out.mono ?_
     rintro e w8 ⟨rfl, rfl⟩
     rw [HOS.out]
     go_wp2_with fail
     go_roundw
     case rel => exact ⟨j + 1, by omega, by go_num, rfl, Lib.hid (by first | trivial | rfl)⟩
     case measure => exact meas_up1 hjl
    ·obtain rfl : j = p.length := by omega
     rw [List.take_length]
     have hwi : wrap64 ((i : Int) + 1) = (i : Int) + 1 := by unfold wrap64; have := HN12.out; omega
     go_wp2_with fail
     go_roundw
     case rel => exact ⟨i + 1, orL u p, .slice NA nm nc, ps ++ [p], by omega, by go_num, rfl, Lib.hid ⟨HJ.out.1, orL_lt HI.out.2.1 HP.out.2.2.2.1, by rw [List.length_append, HI.out.2.2.1]; rfl, by
      have h5 := HP.out.2.2.2.2
      have h6 := HI.out.2.2.2.1
      rw [h5, HP.out.1] at h6
      rw [h6, show n - (i + 1) = r by omega]
      simp, by have h5 := HP.out.2.2.2.2; rw [show n - (i + 1) = r by omega]; exact HP.out.2.1⟩⟩
     case measure => rw [show wrap64 ((i : Int) + 1) = (i : Int) + 1 by unfold wrap64; have := HN12.out; omega]; exact meas_up1 hlt
  ·obtain rfl : i = n := by omega
   have hLF : Flow.leastF (webOf l xs wo) i (bitsOf 0) = ps := by
    rw [HI.out.2.2.2.1, Nat.sub_self]; unfold Flow.leastF; rw [List.append_nil]
   have HLF := Lib.hid hLF
   have hWY : Flow.Ways (webOf l xs wo) ps ∧ ps.length = Flow.mc (webOf l xs wo) := by
    have h := Flow.leastF_spec (web_fit (given_valid HG.out.1) xs wo) i (bitsOf 0) (by rw [sub_zero, HN.out]; exact Nat.le_refl _)
    rw [hLF, sub_zero] at h
    exact ⟨h.2, by rw [h.1, HN.out]⟩
   obtain ⟨A', c', e, hc', hC⟩ := Kd.R_reads HI.out.1.row
   injection e with e1 e2 e3
   subst e1
   rw [toI_len] at hC
   have HFI := Lib.hid (rfirst_any A c l B d xs OA oc ps wo wr (HST.out.1.next HI.out.1.below) (HST.out.2.next HI.out.1.below) hC HG.out.1 HG.out.2 hWY.1 hWY.2)
   have e1 := cell_of (o := 1) HI.out.1.b1 rfl
   obtain ⟨pl, hpl⟩ : ∃ k, (toI ps).length = k := ⟨_, rfl⟩
   have hpl2 : ps.length = pl := by rw [← hpl, toI_len]
   rw [hpl] at e1
   rw [hpl2] at HFI
   have HPL := Lib.hid hpl
   have HXX := Lib.hid (show CnX w b i (.slice OA pl oc) ps wr by rw [← hpl]; exact HI.out.1)
   clear hpl hpl2 hC hWY hc' hLF e2 e3 hlt
   clear HI
   go_wp2_with fail
   refine HFI.out.mono ?_
   rintro e w9 ⟨RA, rc, rfl, HQ⟩
   have hX9 := HXX.out.next HQ.out.2.1
   obtain ⟨fl, hfl⟩ : ∃ k, (Flow.firstL (webOf l xs wo)).length = k := ⟨_, rfl⟩
   have HFL := Lib.hid hfl
   have hlo : w.heap.size ≤ wr.heap.size := HXX.out.below.size
   have hR9 := Kd.R_lower (Kd.R_mono HQ.out.2.2 (fun k hk => Nat.le_trans hlo hk)) hlo
   rw [hfl] at hR9 ⊢
   have H9 := Lib.hid (And.intro hX9 hR9)
   have d0 := cell_of (o := 0) (heap_set (o := 2) (.slice RA fl rc) hX9.b1) rfl
   have d1 := cell_of (o := 1) (heap_set (o := 2) (.slice RA fl rc) hX9.b1) rfl
   have d2 := cell_of (o := 2) (heap_set (o := 2) (.slice RA fl rc) hX9.b1) rfl
   have t2 := cell_of (o := 2) hX9.b1 rfl
   have z2 := frozen_of (o := 2) hX9.b1
   have eb := heap_set_ne (p := ⟨b + 1, 2, none⟩) (.slice RA fl rc) (by show b ≠ b + 1; omega) hX9.b0
   have r0 := cell_of (o := 0) eb rfl
   have r1 := cell_of (o := 1) eb rfl
   have r2 := cell_of (o := 2) eb rfl
   have f0 := frozen_of (o := 0) eb
   have f1 := frozen_of (o := 1) eb
   have f2 := frozen_of (o := 2) eb
   have HEB := Lib.hid eb
   clear hX9 hR9 hfl hlo e1 HQ eb
   go_wp2_with fail
   refine bodyPost_ret (v := .agg #[.int .i64 i, .slice OA pl oc, .slice RA fl rc]) ?_ rfl (cnt_end HG.out.1 HN.out.symm H9.out.1 HPL.out.symm HLF.out.symm H9.out.2 HFL.out.symm _ _ _ _)
   have hh := set3 (y0 := .int .i64 i) (y1 := .slice OA pl oc) (y2 := .slice RA fl rc) HEB.out
   have e0 := cell_of (o := 0) hh rfl
   have e1 := cell_of (o := 1) hh rfl
   have e2 := cell_of (o := 2) hh rfl
   simp [results, Tryd.results50, go_sem, e0, e1, e2]
end Go.Proofs.YticngcjfofcoiaaDoor
