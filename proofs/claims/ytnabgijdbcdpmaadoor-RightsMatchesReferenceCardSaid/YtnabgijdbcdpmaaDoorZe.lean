/- Rights: merged texts (Md Mu Mk): lemmas and contracts of functions that the laws reach. -/
import Derived.Test.YtnabgijdbcdpmaaDoorZd
namespace Go.Proofs.YtnabgijdbcdpmaaDoor
open Go.RowKit Go.Rg Go.Proofs.YtnabgijdbcdpmaaDoor.PRightsMatchesReference Go.Proofs.YtnabgijdbcdpmaaDoorW.PrintWords
set_option linter.unusedVariables false
set_option linter.unusedSimpArgs false

theorem pickV_bd {a n : Int} (hn : 0 < n) : 0 ≤ pickV a n ∧ pickV a n < n := by
  unfold pickV
  split
  · exact ⟨Int.tmod_nonneg _ (by omega), Int.tmod_lt_of_pos _ hn⟩
  · exact ⟨Int.tmod_nonneg _ (by omega), Int.tmod_lt_of_pos _ hn⟩
theorem tdiv_bd {a n : Int} (h1 : -9223372036854775808 ≤ a) (h2 : a ≤ 9223372036854775807) (hn : 2 ≤ n) : -9223372036854775808 ≤ a.tdiv n ∧ a.tdiv n ≤ 9223372036854775807 := by
  have h := Int.natAbs_tdiv a n
  have h3 : a.natAbs / n.natAbs ≤ a.natAbs / 2 := Nat.div_le_div_left (by omega) (by decide)
  have h4 : a.natAbs.div n.natAbs ≤ a.natAbs / 2 := h3
  rw [← h] at h4
  omega
/-- The kind at an index. -/
def kindV (r : Int) : Int := if r < 3 then 1 else if r < 4 then 2 else if r < 5 then 3 else 4
theorem kindV_bd (r : Int) : kindV r = 1 ∨ kindV r = 2 ∨ kindV r = 3 ∨ kindV r = 4 := by
  unfold kindV
  by_cases h : r < 3
  · simp [h]
  · by_cases h2 : r < 4
    · simp [h, h2]
    · by_cases h3 : r < 5
      · simp [h, h2, h3]
      · simp [h, h2, h3]
theorem kind_cell {V : World} {b : Nat} {r : Int} (h : V.heap[b]? = some (.cells #[.int .i64 1, .int .i64 1, .int .i64 1, .int .i64 2, .int .i64 3, .int .i64 4, .int .i64 4] 3 (0, 0))) (h0 : 0 ≤ r) (h1 : r < 7) : V.cell? ⟨b, r.toNat, none⟩ = some (.int .i64 (kindV r)) := by
  have : r = 0 ∨ r = 1 ∨ r = 2 ∨ r = 3 ∨ r = 4 ∨ r = 5 ∨ r = 6 := by omega
  rcases this with rfl | rfl | rfl | rfl | rfl | rfl | rfl <;> exact cell_of h rfl
/-- Rows of five numbers. -/
def X5 (w : World) (A : Option Addr) (n : Nat) : Prop := n ≤ 9223372036854775807 ∧ (0 < n → ∃ ad, A = some ad ∧ ∀ i, i < n → (∃ v, -9223372036854775808 ≤ v ∧ v ≤ 9223372036854775807 ∧ w.cell? (ad.add (i * 5)) = some (.int .i64 v)) ∧
  ∀ j, j < 4 → ∃ v, -9223372036854775808 ≤ v ∧ v ≤ 9223372036854775807 ∧ w.cell? ⟨(ad.add (i * 5)).block, (ad.add (i * 5)).off + (j + 1), none⟩ = some (.int .i64 v))
theorem X5.below {w w1 : World} {A : Option Addr} {n : Nat} (h : X5 w A n) (hb : Below w.heap.size w w1) : X5 w1 A n := by
  refine ⟨h.1, fun hn => ?_⟩
  obtain ⟨ad, e, hc⟩ := h.2 hn
  refine ⟨ad, e, fun i hi => ⟨?_, fun j hj => ?_⟩⟩
  · obtain ⟨v, a, b, c⟩ := (hc i hi).1
    exact ⟨v, a, b, pw_cell_below hb c⟩
  · obtain ⟨v, a, b, c⟩ := (hc i hi).2 j hj
    exact ⟨v, a, b, pw_cell_below hb c⟩

theorem cells8 {V : World} {b : Nat} {y0 y1 y2 y3 y4 y5 y6 y7 : Value} {t : TypeId} (h : V.heap[b]? = some (.cells #[y0, y1, y2, y3, y4, y5, y6, y7] t (0, 0))) (x0 x1 x2 x3 x4 x5 x6 x7 : Int) :
    ((((((((V.setCell ⟨b, 0, none⟩ (.int .i64 x0)).setCell ⟨b, 1, none⟩ (.int .i64 x1)).setCell ⟨b, 2, none⟩ (.int .i64 x2)).setCell ⟨b, 3, none⟩ (.int .i64 x3)).setCell ⟨b, 4, none⟩ (.int .i64 x4)).setCell ⟨b, 5, none⟩ (.int .i64 x5)).setCell ⟨b, 6, none⟩ (.int .i64 x6)).setCell ⟨b, 7, none⟩ (.int .i64 x7)).heap[b]? = some (.cells #[.int .i64 x0, .int .i64 x1, .int .i64 x2, .int .i64 x3, .int .i64 x4, .int .i64 x5, .int .i64 x6, .int .i64 x7] t (0, 0)) := by
  have hh := (heap_set (o := 7) (.int .i64 x7) (heap_set (o := 6) (.int .i64 x6) (heap_set (o := 5) (.int .i64 x5) (heap_set (o := 4) (.int .i64 x4) (heap_set (o := 3) (.int .i64 x3) (heap_set (o := 2) (.int .i64 x2) (heap_set (o := 1) (.int .i64 x1) (heap_set (o := 0) (.int .i64 x0) h))))))))
  simpa using hh
theorem fr8 {V wr : World} {b : Nat} (hf : Fr (fun _ => False) wr V) (hz : wr.heap.size ≤ b) (x0 x1 x2 x3 x4 x5 x6 x7 : Int) : Fr (fun _ => False) wr ((((((((V.setCell ⟨b, 0, none⟩ (.int .i64 x0)).setCell ⟨b, 1, none⟩ (.int .i64 x1)).setCell ⟨b, 2, none⟩ (.int .i64 x2)).setCell ⟨b, 3, none⟩ (.int .i64 x3)).setCell ⟨b, 4, none⟩ (.int .i64 x4)).setCell ⟨b, 5, none⟩ (.int .i64 x5)).setCell ⟨b, 6, none⟩ (.int .i64 x6)).setCell ⟨b, 7, none⟩ (.int .i64 x7)) :=
  have hN : b < wr.heap.size → False := fun h => absurd h (by omega)
  ((((((((hf.setCell ⟨b, 0, none⟩ (.int .i64 x0) hN).setCell ⟨b, 1, none⟩ (.int .i64 x1) hN).setCell ⟨b, 2, none⟩ (.int .i64 x2) hN).setCell ⟨b, 3, none⟩ (.int .i64 x3) hN).setCell ⟨b, 4, none⟩ (.int .i64 x4) hN).setCell ⟨b, 5, none⟩ (.int .i64 x5) hN).setCell ⟨b, 6, none⟩ (.int .i64 x6) hN).setCell ⟨b, 7, none⟩ (.int .i64 x7) hN)

/-- The clause under way, as it lies. -/
structure MS (wr V : World) (b : Nat) (f0 f1 f2 f3 f4 f5 f6 f7 : Int) : Prop where
  h : V.heap[b]? = some (.cells #[.int .i64 f0, .int .i64 f1, .int .i64 f2, .int .i64 f3, .int .i64 f4, .int .i64 f5, .int .i64 f6, .int .i64 f7] 40 (0, 0))
  below : Below wr.heap.size wr V
  le : wr.heap.size ≤ b
theorem MS.call {wr V V1 : World} {b : Nat} {f0 f1 f2 f3 f4 f5 f6 f7 : Int} (h : MS wr V b f0 f1 f2 f3 f4 f5 f6 f7) (hb : Below V.heap.size V V1) : MS wr V1 b f0 f1 f2 f3 f4 f5 f6 f7 :=
  ⟨(hb.block _ (Array.getElem?_eq_some_iff.1 h.h).1).trans h.h, h.below.trans (hb.mono h.below.size), h.le⟩
theorem MS.set2 {wr V : World} {b : Nat} {f0 f1 f2 f3 f4 f5 f6 f7 : Int} (h : MS wr V b f0 f1 f2 f3 f4 f5 f6 f7) (x : Int) : MS wr (V.setCell ⟨b, 2, none⟩ (.int .i64 x)) b f0 f1 x f3 f4 f5 f6 f7 :=
  ⟨by have hh := heap_set (o := 2) (.int .i64 x) h.h; simpa using hh, h.below.setCell h.le _, h.le⟩
theorem MS.set3 {wr V : World} {b : Nat} {f0 f1 f2 f3 f4 f5 f6 f7 : Int} (h : MS wr V b f0 f1 f2 f3 f4 f5 f6 f7) (x : Int) : MS wr (V.setCell ⟨b, 3, none⟩ (.int .i64 x)) b f0 f1 f2 x f4 f5 f6 f7 :=
  ⟨by have hh := heap_set (o := 3) (.int .i64 x) h.h; simpa using hh, h.below.setCell h.le _, h.le⟩
theorem MS.set4 {wr V : World} {b : Nat} {f0 f1 f2 f3 f4 f5 f6 f7 : Int} (h : MS wr V b f0 f1 f2 f3 f4 f5 f6 f7) (x : Int) : MS wr (V.setCell ⟨b, 4, none⟩ (.int .i64 x)) b f0 f1 f2 f3 x f5 f6 f7 :=
  ⟨by have hh := heap_set (o := 4) (.int .i64 x) h.h; simpa using hh, h.below.setCell h.le _, h.le⟩
theorem MS.set5 {wr V : World} {b : Nat} {f0 f1 f2 f3 f4 f5 f6 f7 : Int} (h : MS wr V b f0 f1 f2 f3 f4 f5 f6 f7) (x : Int) : MS wr (V.setCell ⟨b, 5, none⟩ (.int .i64 x)) b f0 f1 f2 f3 f4 x f6 f7 :=
  ⟨by have hh := heap_set (o := 5) (.int .i64 x) h.h; simpa using hh, h.below.setCell h.le _, h.le⟩
theorem MS.set6 {wr V : World} {b : Nat} {f0 f1 f2 f3 f4 f5 f6 f7 : Int} (h : MS wr V b f0 f1 f2 f3 f4 f5 f6 f7) (x : Int) : MS wr (V.setCell ⟨b, 6, none⟩ (.int .i64 x)) b f0 f1 f2 f3 f4 f5 x f7 :=
  ⟨by have hh := heap_set (o := 6) (.int .i64 x) h.h; simpa using hh, h.below.setCell h.le _, h.le⟩
theorem MS.set7 {wr V : World} {b : Nat} {f0 f1 f2 f3 f4 f5 f6 f7 : Int} (h : MS wr V b f0 f1 f2 f3 f4 f5 f6 f7) (x : Int) : MS wr (V.setCell ⟨b, 7, none⟩ (.int .i64 x)) b f0 f1 f2 f3 f4 f5 f6 x :=
  ⟨by have hh := heap_set (o := 7) (.int .i64 x) h.h; simpa using hh, h.below.setCell h.le _, h.le⟩

theorem MS.ext {wr V V1 : World} {b : Nat} {f0 f1 f2 f3 f4 f5 f6 f7 : Int} (h : MS wr V b f0 f1 f2 f3 f4 f5 f6 f7) (hf : Fr (fun _ => False) V V1) : MS wr V1 b f0 f1 f2 f3 f4 f5 f6 f7 := h.call (hf.below (fun _ _ h => h) (Nat.le_refl _))
theorem clrowC {W : World} {g : Nat} {e : TypeId} (cl : Cl) (h : W.heap[g]? = some (.cells (clc cl) e (0, 0))) : Kd.C k40 W (some ⟨g, 0, none⟩) 1 [cl] := by
  refine ⟨rfl, by decide, fun _ => ⟨_, rfl, fun j p hj => ?_⟩⟩
  cases j with
  | zero =>
    obtain rfl : cl = p := by simpa using hj
    refine ⟨_, rfl, k40_mk W cl, fun i u hi => ?_⟩
    rw [add_plain]
    refine cell_of h ?_
    simpa [clc] using hi
  | succ j => simp at hj

set_option maxRecDepth 100000 in
set_option maxHeartbeats 40000000 in
theorem Made_any (A : Option Addr) (c : Nat) (n : Nat) (w : World) (hx : X5 w A n) :
    Calls Tryd.prog 11 #[.slice A n c] w fun e w' => ∃ v l, e = .returned v ∧ Kd.R k40 40 w' w.heap.size (fun k => w.heap.size ≤ k) v l ∧ vldL l = true ∧ l.length = min n 12 ∧ Below w.heap.size w w' := by
  have hn := hx.1
  have HX := Lib.hid hx; clear hx
  go_enter Tryd.func11, Tryd.ntmps11
  go_wp2_with fail
  go_loopw [3, 4] (fun rv iv wr => ∃ k : Nat, iv = .int .i64 k ∧ k ≤ n ∧ k ≤ 12 ∧ ∃ l : List Cl, Hid (Kd.R k40 40 wr w.heap.size (fun k => w.heap.size ≤ k) rv l ∧ l.length = k ∧ l.all vld = true ∧ Below w.heap.size w wr)) (fun rv iv wr => 12 - (intOf iv).toNat)
  case atStart => exact ⟨0, rfl, Nat.zero_le _, Nat.zero_le _, [], Lib.hid ⟨Kd.R_nil _ _ _ _ _, rfl, rfl, Below.refl _ _⟩⟩
  case round =>
    obtain ⟨k, rfl, hk, hk12, l, HI⟩ := hrel
    by_cases hlt : k < n ∧ k < 12
    · obtain ⟨h1, h2⟩ := hlt
      have hkI : (k : Int) < (n : Int) := by omega
      have hkJ : (k : Int) < 12 := by omega
      obtain ⟨ad, hA, hc⟩ := (HX.out.below HI.out.2.2.2).2 (by omega)
      subst hA
      obtain ⟨x0, a0, b0, c0⟩ := (hc k h1).1
      obtain ⟨x1, a1, b1, c1⟩ := (hc k h1).2 0 (by omega)
      obtain ⟨x2, a2, b2, c2⟩ := (hc k h1).2 1 (by omega)
      obtain ⟨x3, a3, b3, c3⟩ := (hc k h1).2 2 (by omega)
      obtain ⟨x4, a4, b4, c4⟩ := (hc k h1).2 3 (by omega)
      clear hc
      obtain ⟨RA, rc, rfl, hrc, hRC⟩ := Kd.R_reads HI.out.1
      clear hrc hRC
      go_wp2_with fail
      -- REGION 5
      have P0 := Lib.hid (pick_any x0 7 a0 b0 (by decide))
      have P1 := Lib.hid (pick_any x1 5 a1 b1 (by decide))
      have K0 := Lib.hid (pickV_bd (a := x0) (n := 7) (by decide))
      have K1 := Lib.hid (pickV_bd (a := x1) (n := 5) (by decide))
      have e0 := cell_extB (B := fun _ => False) c0 (fun h => h)
      have e1 := cell_extB (B := fun _ => False) c1 (fun h => h)
      have HC := Lib.hid (And.intro c0 (And.intro c1 (And.intro c2 (And.intro c3 c4)))); clear c0 c1 c2 c3 c4
      refine wp_then (fun a V => ∃ b f0 f1 q16 q17 q18 q19 q20 q21 q22 q23 q24 q25 q26 q27 q28 q29 q30 q31, a = { tmps := #[.slice (some ad) n c, undef, .slice none 0 0, .slice RA l.length rc, .int .i64 k, .pointer (some ⟨b, 0, none⟩), .int .i64 k, .slice (some ad) n c, .int .i64 n, .bool true, .bool true, .int .i64 k, .bool true, .bool true, u14, u15, q16, q17, q18, q19, q20, q21, q22, q23, q24, q25, q26, q27, q28, q29, q30, q31, u32, u33, u34, u35, u36, u37, u38, u39, u40, u41, u42, u43, u44, u45, u46, u47, u48, u49, u50, u51, u52, u53, u54, u55, u56, u57, u58, u59, u60, u61, u62, u63, u64, u65, u66, u67, u68, u69, u70, u71, u72, u73, u74, u75, u76, u77, u78, u79, u80, u81, u82, u83, u84, u85, u86, u87, u88, u89, u90, u91, u92, u93, u94, u95, u96, u97, u98, u99, u100, u101, u102, undef], defers := [] } ∧ (0 ≤ f0 ∧ f0 < 5) ∧ (f1 = 1 ∨ f1 = 2 ∨ f1 = 3 ∨ f1 = 4) ∧ V.heap[b]? = some (.cells #[.int .i64 f0, .int .i64 f1, .int .i64 255, .int .i64 255, .int .i64 0, .int .i64 50000000, .int .i64 0, .int .i64 0] 40 (0, 0)) ∧ wr.heap.size ≤ b ∧ Below wr.heap.size wr V) ?_ ?_
      · refine region_freeS (fun _ => False) [0, 1, 2, 3, 4, 7, 8, 9, 10, 11] #[true, true, true, true, true, false, false, true, true, true, true, true, false, false, false, false, false, false] 8 (by kernel_rfl) (by kernel_rfl) (fun _ _ d _ _ h => by cases d <;> exact h) ?_
        simp only [pick_cons, pick_nil, nthO_succ, nthO_zero]
        repeat (go_big_quiet_step (fail))
        refine wpQuiet_nil ?_
        have HF := Lib.hid (show Fr (fun _ => False) wr wr.drew from (Fr.refl _ _).drew)
        generalize wr.drew = v0 at HF ⊢
        clear e0 e1
        refine any_stepS [5, 6, 16] (by kernel_rfl) ?_
        simp only [List.forall_mem_cons, List.forall_mem_nil, nthO_succ, nthO_zero]
        refine ⟨?_, ?_, ?_, fun _ h => by cases h⟩
        · skip
          go_wp2_with fail
          refine (P1.out v0).mono ?_
          rintro e v1 ⟨rfl, hd⟩
          have hb := Lib.hid hd.below; clear hd
          go_wp2_with fail
          have HF_ := Lib.hid (HF.out.call hb.out); clear HF; have HF := HF_; clear HF_
          clear hb
          refine ⟨⟨⟨_, HF.out⟩, rfl⟩, ?_⟩
          refine any_stepS [6, 12, 16] (by kernel_rfl) ?_
          simp only [List.forall_mem_cons, List.forall_mem_nil, nthO_succ, nthO_zero]
          refine ⟨?_, ?_, ?_, fun _ h => by cases h⟩
          · skip
            go_wp2_with fail
            have hb := Lib.hid ((Below.refl v1.heap.size v1).alloc (Nat.le_refl _) (.cells #[.int .i64 1, .int .i64 1, .int .i64 1, .int .i64 2, .int .i64 3, .int .i64 4, .int .i64 4] 3))
            have H6 := Lib.hid (heap_new (W := v1) (o := .cells #[.int .i64 1, .int .i64 1, .int .i64 1, .int .i64 2, .int .i64 3, .int .i64 4, .int .i64 4] 3) rfl)
            have Z6 := Lib.hid (show wr.heap.size ≤ v1.heap.size from HF.out.size)
            have HF_ := Lib.hid (HF.out.alloc (.cells #[.int .i64 1, .int .i64 1, .int .i64 1, .int .i64 2, .int .i64 3, .int .i64 4, .int .i64 4] 3)); clear HF; have HF := HF_; clear HF_
            clear hb
            generalize v1.alloc (.cells #[.int .i64 1, .int .i64 1, .int .i64 1, .int .i64 2, .int .i64 3, .int .i64 4, .int .i64 4] 3) = v2 at *
            generalize v1.heap.size = B6 at *
            refine ⟨⟨⟨_, HF.out⟩, rfl⟩, ?_⟩
            refine any_stepS [12, 16] (by kernel_rfl) ?_
            simp only [List.forall_mem_cons, List.forall_mem_nil, nthO_succ, nthO_zero]
            refine ⟨?_, ?_, fun _ h => by cases h⟩
            · skip
              go_wp2_with fail
              refine (P0.out v2).mono ?_
              rintro e v3 ⟨rfl, hd⟩
              have hb := Lib.hid hd.below; clear hd
              go_wp2_with fail
              have HF_ := Lib.hid (HF.out.call hb.out); clear HF; have HF := HF_; clear HF_
              have H_ := Lib.hid ((hb.out.block _ (Array.getElem?_eq_some_iff.1 H6.out).1).trans H6.out); clear H6; have H6 := H_; clear H_
              clear hb
              refine ⟨⟨⟨_, HF.out⟩, rfl⟩, ?_⟩
              refine any_stepS [13, 16] (by kernel_rfl) ?_
              simp only [List.forall_mem_cons, List.forall_mem_nil, nthO_succ, nthO_zero]
              refine ⟨?_, ?_, fun _ h => by cases h⟩
              · skip
                go_wp2_with fail
                refine ⟨⟨⟨_, HF.out⟩, rfl⟩, ?_⟩
                refine any_stepS [14, 16] (by kernel_rfl) ?_
                simp only [List.forall_mem_cons, List.forall_mem_nil, nthO_succ, nthO_zero]
                refine ⟨?_, ?_, fun _ h => by cases h⟩
                · skip
                  have kc := kind_cell H6.out K0.out.1 K0.out.2
                  go_wp2_with fail
                  clear kc
                  refine ⟨⟨⟨_, HF.out⟩, rfl⟩, ?_⟩
                  refine any_stepS [15, 16] (by kernel_rfl) ?_
                  simp only [List.forall_mem_cons, List.forall_mem_nil, nthO_succ, nthO_zero]
                  refine ⟨?_, ?_, fun _ h => by cases h⟩
                  · skip
                    go_wp2_with fail
                    refine ⟨⟨⟨_, HF.out⟩, rfl⟩, ?_⟩
                    refine any_stepS [16] (by kernel_rfl) ?_
                    simp only [List.forall_mem_cons, List.forall_mem_nil, nthO_succ, nthO_zero]
                    refine ⟨?_, fun _ h => by cases h⟩
                    · skip
                      go_wp2_with fail
                      have hb := Lib.hid ((Below.refl v3.heap.size v3).alloc (Nat.le_refl _) (.cells #[.int .i64 0, .int .i64 0, .int .i64 0, .int .i64 0, .int .i64 0, .int .i64 0, .int .i64 0, .int .i64 0] 40))
                      have H16 := Lib.hid (heap_new (W := v3) (o := .cells #[.int .i64 0, .int .i64 0, .int .i64 0, .int .i64 0, .int .i64 0, .int .i64 0, .int .i64 0, .int .i64 0] 40) rfl)
                      have Z16 := Lib.hid (show wr.heap.size ≤ v3.heap.size from HF.out.size)
                      have HF_ := Lib.hid (HF.out.alloc (.cells #[.int .i64 0, .int .i64 0, .int .i64 0, .int .i64 0, .int .i64 0, .int .i64 0, .int .i64 0, .int .i64 0] 40)); clear HF; have HF := HF_; clear HF_
                      have H_ := Lib.hid ((hb.out.block _ (Array.getElem?_eq_some_iff.1 H6.out).1).trans H6.out); clear H6; have H6 := H_; clear H_
                      clear hb
                      generalize v3.alloc (.cells #[.int .i64 0, .int .i64 0, .int .i64 0, .int .i64 0, .int .i64 0, .int .i64 0, .int .i64 0, .int .i64 0] 40) = v7 at *
                      generalize v3.heap.size = B16 at *
                      refine ⟨⟨⟨_, HF.out⟩, rfl⟩, ?_⟩
                      refine any_stepS [17] (by kernel_rfl) ?_
                      simp only [List.forall_mem_cons, List.forall_mem_nil, nthO_succ, nthO_zero]
                      refine ⟨?_, fun _ h => by cases h⟩
                      · skip
                        have hz16 := (Array.getElem?_eq_some_iff.1 H16.out).1
                        have z0 := cell_of (o := 0) H16.out rfl
                        have z1 := cell_of (o := 1) H16.out rfl
                        have z2 := cell_of (o := 2) H16.out rfl
                        have z3 := cell_of (o := 3) H16.out rfl
                        have z4 := cell_of (o := 4) H16.out rfl
                        have z5 := cell_of (o := 5) H16.out rfl
                        have z6 := cell_of (o := 6) H16.out rfl
                        have z7 := cell_of (o := 7) H16.out rfl
                        have y0 := frozen_of (o := 0) H16.out
                        have y1 := frozen_of (o := 1) H16.out
                        have y2 := frozen_of (o := 2) H16.out
                        have y3 := frozen_of (o := 3) H16.out
                        have y4 := frozen_of (o := 4) H16.out
                        have y5 := frozen_of (o := 5) H16.out
                        have y6 := frozen_of (o := 6) H16.out
                        have y7 := frozen_of (o := 7) H16.out
                        go_wp2_with fail
                        have hF := fr8 HF.out Z16.out (pickV x1 5) (kindV (pickV x0 7)) 255 255 0 50000000 0 0
                        have hG := cells8 H16.out (pickV x1 5) (kindV (pickV x0 7)) 255 255 0 50000000 0 0
                        refine ⟨⟨⟨_, hF⟩, rfl⟩, wpAnyH_done (by kernel_rfl) ?_ _⟩
                        exact ⟨B16, _, _, _, _, _, _, _, _, _, _, _, _, _, _, _, _, _, _, rfl, K1.out, kindV_bd _, hG, Z16.out, hF.below (fun _ _ h => h) (Nat.le_refl _)⟩
                  · skip
                    go_wp2_with fail
                    have hb := Lib.hid ((Below.refl v3.heap.size v3).alloc (Nat.le_refl _) (.cells #[.int .i64 0, .int .i64 0, .int .i64 0, .int .i64 0, .int .i64 0, .int .i64 0, .int .i64 0, .int .i64 0] 40))
                    have H16 := Lib.hid (heap_new (W := v3) (o := .cells #[.int .i64 0, .int .i64 0, .int .i64 0, .int .i64 0, .int .i64 0, .int .i64 0, .int .i64 0, .int .i64 0] 40) rfl)
                    have Z16 := Lib.hid (show wr.heap.size ≤ v3.heap.size from HF.out.size)
                    have HF_ := Lib.hid (HF.out.alloc (.cells #[.int .i64 0, .int .i64 0, .int .i64 0, .int .i64 0, .int .i64 0, .int .i64 0, .int .i64 0, .int .i64 0] 40)); clear HF; have HF := HF_; clear HF_
                    have H_ := Lib.hid ((hb.out.block _ (Array.getElem?_eq_some_iff.1 H6.out).1).trans H6.out); clear H6; have H6 := H_; clear H_
                    clear hb
                    generalize v3.alloc (.cells #[.int .i64 0, .int .i64 0, .int .i64 0, .int .i64 0, .int .i64 0, .int .i64 0, .int .i64 0, .int .i64 0] 40) = v9 at *
                    generalize v3.heap.size = B16 at *
                    refine ⟨⟨⟨_, HF.out⟩, rfl⟩, ?_⟩
                    refine any_stepS [15] (by kernel_rfl) ?_
                    simp only [List.forall_mem_cons, List.forall_mem_nil, nthO_succ, nthO_zero]
                    refine ⟨?_, fun _ h => by cases h⟩
                    · skip
                      go_wp2_with fail
                      refine ⟨⟨⟨_, HF.out⟩, rfl⟩, ?_⟩
                      refine any_stepS [17] (by kernel_rfl) ?_
                      simp only [List.forall_mem_cons, List.forall_mem_nil, nthO_succ, nthO_zero]
                      refine ⟨?_, fun _ h => by cases h⟩
                      · skip
                        have hz16 := (Array.getElem?_eq_some_iff.1 H16.out).1
                        have z0 := cell_of (o := 0) H16.out rfl
                        have z1 := cell_of (o := 1) H16.out rfl
                        have z2 := cell_of (o := 2) H16.out rfl
                        have z3 := cell_of (o := 3) H16.out rfl
                        have z4 := cell_of (o := 4) H16.out rfl
                        have z5 := cell_of (o := 5) H16.out rfl
                        have z6 := cell_of (o := 6) H16.out rfl
                        have z7 := cell_of (o := 7) H16.out rfl
                        have y0 := frozen_of (o := 0) H16.out
                        have y1 := frozen_of (o := 1) H16.out
                        have y2 := frozen_of (o := 2) H16.out
                        have y3 := frozen_of (o := 3) H16.out
                        have y4 := frozen_of (o := 4) H16.out
                        have y5 := frozen_of (o := 5) H16.out
                        have y6 := frozen_of (o := 6) H16.out
                        have y7 := frozen_of (o := 7) H16.out
                        go_wp2_with fail
                        have hF := fr8 HF.out Z16.out (pickV x1 5) (kindV (pickV x0 7)) 255 255 0 50000000 0 0
                        have hG := cells8 H16.out (pickV x1 5) (kindV (pickV x0 7)) 255 255 0 50000000 0 0
                        refine ⟨⟨⟨_, hF⟩, rfl⟩, wpAnyH_done (by kernel_rfl) ?_ _⟩
                        exact ⟨B16, _, _, _, _, _, _, _, _, _, _, _, _, _, _, _, _, _, _, rfl, K1.out, kindV_bd _, hG, Z16.out, hF.below (fun _ _ h => h) (Nat.le_refl _)⟩
                · skip
                  go_wp2_with fail
                  have hb := Lib.hid ((Below.refl v3.heap.size v3).alloc (Nat.le_refl _) (.cells #[.int .i64 0, .int .i64 0, .int .i64 0, .int .i64 0, .int .i64 0, .int .i64 0, .int .i64 0, .int .i64 0] 40))
                  have H16 := Lib.hid (heap_new (W := v3) (o := .cells #[.int .i64 0, .int .i64 0, .int .i64 0, .int .i64 0, .int .i64 0, .int .i64 0, .int .i64 0, .int .i64 0] 40) rfl)
                  have Z16 := Lib.hid (show wr.heap.size ≤ v3.heap.size from HF.out.size)
                  have HF_ := Lib.hid (HF.out.alloc (.cells #[.int .i64 0, .int .i64 0, .int .i64 0, .int .i64 0, .int .i64 0, .int .i64 0, .int .i64 0, .int .i64 0] 40)); clear HF; have HF := HF_; clear HF_
                  have H_ := Lib.hid ((hb.out.block _ (Array.getElem?_eq_some_iff.1 H6.out).1).trans H6.out); clear H6; have H6 := H_; clear H_
                  clear hb
                  generalize v3.alloc (.cells #[.int .i64 0, .int .i64 0, .int .i64 0, .int .i64 0, .int .i64 0, .int .i64 0, .int .i64 0, .int .i64 0] 40) = v12 at *
                  generalize v3.heap.size = B16 at *
                  refine ⟨⟨⟨_, HF.out⟩, rfl⟩, ?_⟩
                  refine any_stepS [14] (by kernel_rfl) ?_
                  simp only [List.forall_mem_cons, List.forall_mem_nil, nthO_succ, nthO_zero]
                  refine ⟨?_, fun _ h => by cases h⟩
                  · skip
                    have kc := kind_cell H6.out K0.out.1 K0.out.2
                    go_wp2_with fail
                    clear kc
                    refine ⟨⟨⟨_, HF.out⟩, rfl⟩, ?_⟩
                    refine any_stepS [15] (by kernel_rfl) ?_
                    simp only [List.forall_mem_cons, List.forall_mem_nil, nthO_succ, nthO_zero]
                    refine ⟨?_, fun _ h => by cases h⟩
                    · skip
                      go_wp2_with fail
                      refine ⟨⟨⟨_, HF.out⟩, rfl⟩, ?_⟩
                      refine any_stepS [17] (by kernel_rfl) ?_
                      simp only [List.forall_mem_cons, List.forall_mem_nil, nthO_succ, nthO_zero]
                      refine ⟨?_, fun _ h => by cases h⟩
                      · skip
                        have hz16 := (Array.getElem?_eq_some_iff.1 H16.out).1
                        have z0 := cell_of (o := 0) H16.out rfl
                        have z1 := cell_of (o := 1) H16.out rfl
                        have z2 := cell_of (o := 2) H16.out rfl
                        have z3 := cell_of (o := 3) H16.out rfl
                        have z4 := cell_of (o := 4) H16.out rfl
                        have z5 := cell_of (o := 5) H16.out rfl
                        have z6 := cell_of (o := 6) H16.out rfl
                        have z7 := cell_of (o := 7) H16.out rfl
                        have y0 := frozen_of (o := 0) H16.out
                        have y1 := frozen_of (o := 1) H16.out
                        have y2 := frozen_of (o := 2) H16.out
                        have y3 := frozen_of (o := 3) H16.out
                        have y4 := frozen_of (o := 4) H16.out
                        have y5 := frozen_of (o := 5) H16.out
                        have y6 := frozen_of (o := 6) H16.out
                        have y7 := frozen_of (o := 7) H16.out
                        go_wp2_with fail
                        have hF := fr8 HF.out Z16.out (pickV x1 5) (kindV (pickV x0 7)) 255 255 0 50000000 0 0
                        have hG := cells8 H16.out (pickV x1 5) (kindV (pickV x0 7)) 255 255 0 50000000 0 0
                        refine ⟨⟨⟨_, hF⟩, rfl⟩, wpAnyH_done (by kernel_rfl) ?_ _⟩
                        exact ⟨B16, _, _, _, _, _, _, _, _, _, _, _, _, _, _, _, _, _, _, rfl, K1.out, kindV_bd _, hG, Z16.out, hF.below (fun _ _ h => h) (Nat.le_refl _)⟩
              · skip
                go_wp2_with fail
                have hb := Lib.hid ((Below.refl v3.heap.size v3).alloc (Nat.le_refl _) (.cells #[.int .i64 0, .int .i64 0, .int .i64 0, .int .i64 0, .int .i64 0, .int .i64 0, .int .i64 0, .int .i64 0] 40))
                have H16 := Lib.hid (heap_new (W := v3) (o := .cells #[.int .i64 0, .int .i64 0, .int .i64 0, .int .i64 0, .int .i64 0, .int .i64 0, .int .i64 0, .int .i64 0] 40) rfl)
                have Z16 := Lib.hid (show wr.heap.size ≤ v3.heap.size from HF.out.size)
                have HF_ := Lib.hid (HF.out.alloc (.cells #[.int .i64 0, .int .i64 0, .int .i64 0, .int .i64 0, .int .i64 0, .int .i64 0, .int .i64 0, .int .i64 0] 40)); clear HF; have HF := HF_; clear HF_
                have H_ := Lib.hid ((hb.out.block _ (Array.getElem?_eq_some_iff.1 H6.out).1).trans H6.out); clear H6; have H6 := H_; clear H_
                clear hb
                generalize v3.alloc (.cells #[.int .i64 0, .int .i64 0, .int .i64 0, .int .i64 0, .int .i64 0, .int .i64 0, .int .i64 0, .int .i64 0] 40) = v16 at *
                generalize v3.heap.size = B16 at *
                refine ⟨⟨⟨_, HF.out⟩, rfl⟩, ?_⟩
                refine any_stepS [13] (by kernel_rfl) ?_
                simp only [List.forall_mem_cons, List.forall_mem_nil, nthO_succ, nthO_zero]
                refine ⟨?_, fun _ h => by cases h⟩
                · skip
                  go_wp2_with fail
                  refine ⟨⟨⟨_, HF.out⟩, rfl⟩, ?_⟩
                  refine any_stepS [14] (by kernel_rfl) ?_
                  simp only [List.forall_mem_cons, List.forall_mem_nil, nthO_succ, nthO_zero]
                  refine ⟨?_, fun _ h => by cases h⟩
                  · skip
                    have kc := kind_cell H6.out K0.out.1 K0.out.2
                    go_wp2_with fail
                    clear kc
                    refine ⟨⟨⟨_, HF.out⟩, rfl⟩, ?_⟩
                    refine any_stepS [15] (by kernel_rfl) ?_
                    simp only [List.forall_mem_cons, List.forall_mem_nil, nthO_succ, nthO_zero]
                    refine ⟨?_, fun _ h => by cases h⟩
                    · skip
                      go_wp2_with fail
                      refine ⟨⟨⟨_, HF.out⟩, rfl⟩, ?_⟩
                      refine any_stepS [17] (by kernel_rfl) ?_
                      simp only [List.forall_mem_cons, List.forall_mem_nil, nthO_succ, nthO_zero]
                      refine ⟨?_, fun _ h => by cases h⟩
                      · skip
                        have hz16 := (Array.getElem?_eq_some_iff.1 H16.out).1
                        have z0 := cell_of (o := 0) H16.out rfl
                        have z1 := cell_of (o := 1) H16.out rfl
                        have z2 := cell_of (o := 2) H16.out rfl
                        have z3 := cell_of (o := 3) H16.out rfl
                        have z4 := cell_of (o := 4) H16.out rfl
                        have z5 := cell_of (o := 5) H16.out rfl
                        have z6 := cell_of (o := 6) H16.out rfl
                        have z7 := cell_of (o := 7) H16.out rfl
                        have y0 := frozen_of (o := 0) H16.out
                        have y1 := frozen_of (o := 1) H16.out
                        have y2 := frozen_of (o := 2) H16.out
                        have y3 := frozen_of (o := 3) H16.out
                        have y4 := frozen_of (o := 4) H16.out
                        have y5 := frozen_of (o := 5) H16.out
                        have y6 := frozen_of (o := 6) H16.out
                        have y7 := frozen_of (o := 7) H16.out
                        go_wp2_with fail
                        have hF := fr8 HF.out Z16.out (pickV x1 5) (kindV (pickV x0 7)) 255 255 0 50000000 0 0
                        have hG := cells8 H16.out (pickV x1 5) (kindV (pickV x0 7)) 255 255 0 50000000 0 0
                        refine ⟨⟨⟨_, hF⟩, rfl⟩, wpAnyH_done (by kernel_rfl) ?_ _⟩
                        exact ⟨B16, _, _, _, _, _, _, _, _, _, _, _, _, _, _, _, _, _, _, rfl, K1.out, kindV_bd _, hG, Z16.out, hF.below (fun _ _ h => h) (Nat.le_refl _)⟩
            · skip
              go_wp2_with fail
              have hb := Lib.hid ((Below.refl v2.heap.size v2).alloc (Nat.le_refl _) (.cells #[.int .i64 0, .int .i64 0, .int .i64 0, .int .i64 0, .int .i64 0, .int .i64 0, .int .i64 0, .int .i64 0] 40))
              have H16 := Lib.hid (heap_new (W := v2) (o := .cells #[.int .i64 0, .int .i64 0, .int .i64 0, .int .i64 0, .int .i64 0, .int .i64 0, .int .i64 0, .int .i64 0] 40) rfl)
              have Z16 := Lib.hid (show wr.heap.size ≤ v2.heap.size from HF.out.size)
              have HF_ := Lib.hid (HF.out.alloc (.cells #[.int .i64 0, .int .i64 0, .int .i64 0, .int .i64 0, .int .i64 0, .int .i64 0, .int .i64 0, .int .i64 0] 40)); clear HF; have HF := HF_; clear HF_
              have H_ := Lib.hid ((hb.out.block _ (Array.getElem?_eq_some_iff.1 H6.out).1).trans H6.out); clear H6; have H6 := H_; clear H_
              clear hb
              generalize v2.alloc (.cells #[.int .i64 0, .int .i64 0, .int .i64 0, .int .i64 0, .int .i64 0, .int .i64 0, .int .i64 0, .int .i64 0] 40) = v21 at *
              generalize v2.heap.size = B16 at *
              refine ⟨⟨⟨_, HF.out⟩, rfl⟩, ?_⟩
              refine any_stepS [12] (by kernel_rfl) ?_
              simp only [List.forall_mem_cons, List.forall_mem_nil, nthO_succ, nthO_zero]
              refine ⟨?_, fun _ h => by cases h⟩
              · skip
                go_wp2_with fail
                refine (P0.out v21).mono ?_
                rintro e v22 ⟨rfl, hd⟩
                have hb := Lib.hid hd.below; clear hd
                go_wp2_with fail
                have HF_ := Lib.hid (HF.out.call hb.out); clear HF; have HF := HF_; clear HF_
                have H_ := Lib.hid ((hb.out.block _ (Array.getElem?_eq_some_iff.1 H6.out).1).trans H6.out); clear H6; have H6 := H_; clear H_
                have H_ := Lib.hid ((hb.out.block _ (Array.getElem?_eq_some_iff.1 H16.out).1).trans H16.out); clear H16; have H16 := H_; clear H_
                clear hb
                refine ⟨⟨⟨_, HF.out⟩, rfl⟩, ?_⟩
                refine any_stepS [13] (by kernel_rfl) ?_
                simp only [List.forall_mem_cons, List.forall_mem_nil, nthO_succ, nthO_zero]
                refine ⟨?_, fun _ h => by cases h⟩
                · skip
                  go_wp2_with fail
                  refine ⟨⟨⟨_, HF.out⟩, rfl⟩, ?_⟩
                  refine any_stepS [14] (by kernel_rfl) ?_
                  simp only [List.forall_mem_cons, List.forall_mem_nil, nthO_succ, nthO_zero]
                  refine ⟨?_, fun _ h => by cases h⟩
                  · skip
                    have kc := kind_cell H6.out K0.out.1 K0.out.2
                    go_wp2_with fail
                    clear kc
                    refine ⟨⟨⟨_, HF.out⟩, rfl⟩, ?_⟩
                    refine any_stepS [15] (by kernel_rfl) ?_
                    simp only [List.forall_mem_cons, List.forall_mem_nil, nthO_succ, nthO_zero]
                    refine ⟨?_, fun _ h => by cases h⟩
                    · skip
                      go_wp2_with fail
                      refine ⟨⟨⟨_, HF.out⟩, rfl⟩, ?_⟩
                      refine any_stepS [17] (by kernel_rfl) ?_
                      simp only [List.forall_mem_cons, List.forall_mem_nil, nthO_succ, nthO_zero]
                      refine ⟨?_, fun _ h => by cases h⟩
                      · skip
                        have hz16 := (Array.getElem?_eq_some_iff.1 H16.out).1
                        have z0 := cell_of (o := 0) H16.out rfl
                        have z1 := cell_of (o := 1) H16.out rfl
                        have z2 := cell_of (o := 2) H16.out rfl
                        have z3 := cell_of (o := 3) H16.out rfl
                        have z4 := cell_of (o := 4) H16.out rfl
                        have z5 := cell_of (o := 5) H16.out rfl
                        have z6 := cell_of (o := 6) H16.out rfl
                        have z7 := cell_of (o := 7) H16.out rfl
                        have y0 := frozen_of (o := 0) H16.out
                        have y1 := frozen_of (o := 1) H16.out
                        have y2 := frozen_of (o := 2) H16.out
                        have y3 := frozen_of (o := 3) H16.out
                        have y4 := frozen_of (o := 4) H16.out
                        have y5 := frozen_of (o := 5) H16.out
                        have y6 := frozen_of (o := 6) H16.out
                        have y7 := frozen_of (o := 7) H16.out
                        go_wp2_with fail
                        have hF := fr8 HF.out Z16.out (pickV x1 5) (kindV (pickV x0 7)) 255 255 0 50000000 0 0
                        have hG := cells8 H16.out (pickV x1 5) (kindV (pickV x0 7)) 255 255 0 50000000 0 0
                        refine ⟨⟨⟨_, hF⟩, rfl⟩, wpAnyH_done (by kernel_rfl) ?_ _⟩
                        exact ⟨B16, _, _, _, _, _, _, _, _, _, _, _, _, _, _, _, _, _, _, rfl, K1.out, kindV_bd _, hG, Z16.out, hF.below (fun _ _ h => h) (Nat.le_refl _)⟩
          · skip
            go_wp2_with fail
            refine (P0.out v1).mono ?_
            rintro e v27 ⟨rfl, hd⟩
            have hb := Lib.hid hd.below; clear hd
            go_wp2_with fail
            have HF_ := Lib.hid (HF.out.call hb.out); clear HF; have HF := HF_; clear HF_
            clear hb
            refine ⟨⟨⟨_, HF.out⟩, rfl⟩, ?_⟩
            refine any_stepS [6, 16] (by kernel_rfl) ?_
            simp only [List.forall_mem_cons, List.forall_mem_nil, nthO_succ, nthO_zero]
            refine ⟨?_, ?_, fun _ h => by cases h⟩
            · skip
              go_wp2_with fail
              have hb := Lib.hid ((Below.refl v27.heap.size v27).alloc (Nat.le_refl _) (.cells #[.int .i64 1, .int .i64 1, .int .i64 1, .int .i64 2, .int .i64 3, .int .i64 4, .int .i64 4] 3))
              have H6 := Lib.hid (heap_new (W := v27) (o := .cells #[.int .i64 1, .int .i64 1, .int .i64 1, .int .i64 2, .int .i64 3, .int .i64 4, .int .i64 4] 3) rfl)
              have Z6 := Lib.hid (show wr.heap.size ≤ v27.heap.size from HF.out.size)
              have HF_ := Lib.hid (HF.out.alloc (.cells #[.int .i64 1, .int .i64 1, .int .i64 1, .int .i64 2, .int .i64 3, .int .i64 4, .int .i64 4] 3)); clear HF; have HF := HF_; clear HF_
              clear hb
              generalize v27.alloc (.cells #[.int .i64 1, .int .i64 1, .int .i64 1, .int .i64 2, .int .i64 3, .int .i64 4, .int .i64 4] 3) = v28 at *
              generalize v27.heap.size = B6 at *
              refine ⟨⟨⟨_, HF.out⟩, rfl⟩, ?_⟩
              refine any_stepS [13, 16] (by kernel_rfl) ?_
              simp only [List.forall_mem_cons, List.forall_mem_nil, nthO_succ, nthO_zero]
              refine ⟨?_, ?_, fun _ h => by cases h⟩
              · skip
                go_wp2_with fail
                refine ⟨⟨⟨_, HF.out⟩, rfl⟩, ?_⟩
                refine any_stepS [14, 16] (by kernel_rfl) ?_
                simp only [List.forall_mem_cons, List.forall_mem_nil, nthO_succ, nthO_zero]
                refine ⟨?_, ?_, fun _ h => by cases h⟩
                · skip
                  have kc := kind_cell H6.out K0.out.1 K0.out.2
                  go_wp2_with fail
                  clear kc
                  refine ⟨⟨⟨_, HF.out⟩, rfl⟩, ?_⟩
                  refine any_stepS [15, 16] (by kernel_rfl) ?_
                  simp only [List.forall_mem_cons, List.forall_mem_nil, nthO_succ, nthO_zero]
                  refine ⟨?_, ?_, fun _ h => by cases h⟩
                  · skip
                    go_wp2_with fail
                    refine ⟨⟨⟨_, HF.out⟩, rfl⟩, ?_⟩
                    refine any_stepS [16] (by kernel_rfl) ?_
                    simp only [List.forall_mem_cons, List.forall_mem_nil, nthO_succ, nthO_zero]
                    refine ⟨?_, fun _ h => by cases h⟩
                    · skip
                      go_wp2_with fail
                      have hb := Lib.hid ((Below.refl v28.heap.size v28).alloc (Nat.le_refl _) (.cells #[.int .i64 0, .int .i64 0, .int .i64 0, .int .i64 0, .int .i64 0, .int .i64 0, .int .i64 0, .int .i64 0] 40))
                      have H16 := Lib.hid (heap_new (W := v28) (o := .cells #[.int .i64 0, .int .i64 0, .int .i64 0, .int .i64 0, .int .i64 0, .int .i64 0, .int .i64 0, .int .i64 0] 40) rfl)
                      have Z16 := Lib.hid (show wr.heap.size ≤ v28.heap.size from HF.out.size)
                      have HF_ := Lib.hid (HF.out.alloc (.cells #[.int .i64 0, .int .i64 0, .int .i64 0, .int .i64 0, .int .i64 0, .int .i64 0, .int .i64 0, .int .i64 0] 40)); clear HF; have HF := HF_; clear HF_
                      have H_ := Lib.hid ((hb.out.block _ (Array.getElem?_eq_some_iff.1 H6.out).1).trans H6.out); clear H6; have H6 := H_; clear H_
                      clear hb
                      generalize v28.alloc (.cells #[.int .i64 0, .int .i64 0, .int .i64 0, .int .i64 0, .int .i64 0, .int .i64 0, .int .i64 0, .int .i64 0] 40) = v32 at *
                      generalize v28.heap.size = B16 at *
                      refine ⟨⟨⟨_, HF.out⟩, rfl⟩, ?_⟩
                      refine any_stepS [17] (by kernel_rfl) ?_
                      simp only [List.forall_mem_cons, List.forall_mem_nil, nthO_succ, nthO_zero]
                      refine ⟨?_, fun _ h => by cases h⟩
                      · skip
                        have hz16 := (Array.getElem?_eq_some_iff.1 H16.out).1
                        have z0 := cell_of (o := 0) H16.out rfl
                        have z1 := cell_of (o := 1) H16.out rfl
                        have z2 := cell_of (o := 2) H16.out rfl
                        have z3 := cell_of (o := 3) H16.out rfl
                        have z4 := cell_of (o := 4) H16.out rfl
                        have z5 := cell_of (o := 5) H16.out rfl
                        have z6 := cell_of (o := 6) H16.out rfl
                        have z7 := cell_of (o := 7) H16.out rfl
                        have y0 := frozen_of (o := 0) H16.out
                        have y1 := frozen_of (o := 1) H16.out
                        have y2 := frozen_of (o := 2) H16.out
                        have y3 := frozen_of (o := 3) H16.out
                        have y4 := frozen_of (o := 4) H16.out
                        have y5 := frozen_of (o := 5) H16.out
                        have y6 := frozen_of (o := 6) H16.out
                        have y7 := frozen_of (o := 7) H16.out
                        go_wp2_with fail
                        have hF := fr8 HF.out Z16.out (pickV x1 5) (kindV (pickV x0 7)) 255 255 0 50000000 0 0
                        have hG := cells8 H16.out (pickV x1 5) (kindV (pickV x0 7)) 255 255 0 50000000 0 0
                        refine ⟨⟨⟨_, hF⟩, rfl⟩, wpAnyH_done (by kernel_rfl) ?_ _⟩
                        exact ⟨B16, _, _, _, _, _, _, _, _, _, _, _, _, _, _, _, _, _, _, rfl, K1.out, kindV_bd _, hG, Z16.out, hF.below (fun _ _ h => h) (Nat.le_refl _)⟩
                  · skip
                    go_wp2_with fail
                    have hb := Lib.hid ((Below.refl v28.heap.size v28).alloc (Nat.le_refl _) (.cells #[.int .i64 0, .int .i64 0, .int .i64 0, .int .i64 0, .int .i64 0, .int .i64 0, .int .i64 0, .int .i64 0] 40))
                    have H16 := Lib.hid (heap_new (W := v28) (o := .cells #[.int .i64 0, .int .i64 0, .int .i64 0, .int .i64 0, .int .i64 0, .int .i64 0, .int .i64 0, .int .i64 0] 40) rfl)
                    have Z16 := Lib.hid (show wr.heap.size ≤ v28.heap.size from HF.out.size)
                    have HF_ := Lib.hid (HF.out.alloc (.cells #[.int .i64 0, .int .i64 0, .int .i64 0, .int .i64 0, .int .i64 0, .int .i64 0, .int .i64 0, .int .i64 0] 40)); clear HF; have HF := HF_; clear HF_
                    have H_ := Lib.hid ((hb.out.block _ (Array.getElem?_eq_some_iff.1 H6.out).1).trans H6.out); clear H6; have H6 := H_; clear H_
                    clear hb
                    generalize v28.alloc (.cells #[.int .i64 0, .int .i64 0, .int .i64 0, .int .i64 0, .int .i64 0, .int .i64 0, .int .i64 0, .int .i64 0] 40) = v34 at *
                    generalize v28.heap.size = B16 at *
                    refine ⟨⟨⟨_, HF.out⟩, rfl⟩, ?_⟩
                    refine any_stepS [15] (by kernel_rfl) ?_
                    simp only [List.forall_mem_cons, List.forall_mem_nil, nthO_succ, nthO_zero]
                    refine ⟨?_, fun _ h => by cases h⟩
                    · skip
                      go_wp2_with fail
                      refine ⟨⟨⟨_, HF.out⟩, rfl⟩, ?_⟩
                      refine any_stepS [17] (by kernel_rfl) ?_
                      simp only [List.forall_mem_cons, List.forall_mem_nil, nthO_succ, nthO_zero]
                      refine ⟨?_, fun _ h => by cases h⟩
                      · skip
                        have hz16 := (Array.getElem?_eq_some_iff.1 H16.out).1
                        have z0 := cell_of (o := 0) H16.out rfl
                        have z1 := cell_of (o := 1) H16.out rfl
                        have z2 := cell_of (o := 2) H16.out rfl
                        have z3 := cell_of (o := 3) H16.out rfl
                        have z4 := cell_of (o := 4) H16.out rfl
                        have z5 := cell_of (o := 5) H16.out rfl
                        have z6 := cell_of (o := 6) H16.out rfl
                        have z7 := cell_of (o := 7) H16.out rfl
                        have y0 := frozen_of (o := 0) H16.out
                        have y1 := frozen_of (o := 1) H16.out
                        have y2 := frozen_of (o := 2) H16.out
                        have y3 := frozen_of (o := 3) H16.out
                        have y4 := frozen_of (o := 4) H16.out
                        have y5 := frozen_of (o := 5) H16.out
                        have y6 := frozen_of (o := 6) H16.out
                        have y7 := frozen_of (o := 7) H16.out
                        go_wp2_with fail
                        have hF := fr8 HF.out Z16.out (pickV x1 5) (kindV (pickV x0 7)) 255 255 0 50000000 0 0
                        have hG := cells8 H16.out (pickV x1 5) (kindV (pickV x0 7)) 255 255 0 50000000 0 0
                        refine ⟨⟨⟨_, hF⟩, rfl⟩, wpAnyH_done (by kernel_rfl) ?_ _⟩
                        exact ⟨B16, _, _, _, _, _, _, _, _, _, _, _, _, _, _, _, _, _, _, rfl, K1.out, kindV_bd _, hG, Z16.out, hF.below (fun _ _ h => h) (Nat.le_refl _)⟩
                · skip
                  go_wp2_with fail
                  have hb := Lib.hid ((Below.refl v28.heap.size v28).alloc (Nat.le_refl _) (.cells #[.int .i64 0, .int .i64 0, .int .i64 0, .int .i64 0, .int .i64 0, .int .i64 0, .int .i64 0, .int .i64 0] 40))
                  have H16 := Lib.hid (heap_new (W := v28) (o := .cells #[.int .i64 0, .int .i64 0, .int .i64 0, .int .i64 0, .int .i64 0, .int .i64 0, .int .i64 0, .int .i64 0] 40) rfl)
                  have Z16 := Lib.hid (show wr.heap.size ≤ v28.heap.size from HF.out.size)
                  have HF_ := Lib.hid (HF.out.alloc (.cells #[.int .i64 0, .int .i64 0, .int .i64 0, .int .i64 0, .int .i64 0, .int .i64 0, .int .i64 0, .int .i64 0] 40)); clear HF; have HF := HF_; clear HF_
                  have H_ := Lib.hid ((hb.out.block _ (Array.getElem?_eq_some_iff.1 H6.out).1).trans H6.out); clear H6; have H6 := H_; clear H_
                  clear hb
                  generalize v28.alloc (.cells #[.int .i64 0, .int .i64 0, .int .i64 0, .int .i64 0, .int .i64 0, .int .i64 0, .int .i64 0, .int .i64 0] 40) = v37 at *
                  generalize v28.heap.size = B16 at *
                  refine ⟨⟨⟨_, HF.out⟩, rfl⟩, ?_⟩
                  refine any_stepS [14] (by kernel_rfl) ?_
                  simp only [List.forall_mem_cons, List.forall_mem_nil, nthO_succ, nthO_zero]
                  refine ⟨?_, fun _ h => by cases h⟩
                  · skip
                    have kc := kind_cell H6.out K0.out.1 K0.out.2
                    go_wp2_with fail
                    clear kc
                    refine ⟨⟨⟨_, HF.out⟩, rfl⟩, ?_⟩
                    refine any_stepS [15] (by kernel_rfl) ?_
                    simp only [List.forall_mem_cons, List.forall_mem_nil, nthO_succ, nthO_zero]
                    refine ⟨?_, fun _ h => by cases h⟩
                    · skip
                      go_wp2_with fail
                      refine ⟨⟨⟨_, HF.out⟩, rfl⟩, ?_⟩
                      refine any_stepS [17] (by kernel_rfl) ?_
                      simp only [List.forall_mem_cons, List.forall_mem_nil, nthO_succ, nthO_zero]
                      refine ⟨?_, fun _ h => by cases h⟩
                      · skip
                        have hz16 := (Array.getElem?_eq_some_iff.1 H16.out).1
                        have z0 := cell_of (o := 0) H16.out rfl
                        have z1 := cell_of (o := 1) H16.out rfl
                        have z2 := cell_of (o := 2) H16.out rfl
                        have z3 := cell_of (o := 3) H16.out rfl
                        have z4 := cell_of (o := 4) H16.out rfl
                        have z5 := cell_of (o := 5) H16.out rfl
                        have z6 := cell_of (o := 6) H16.out rfl
                        have z7 := cell_of (o := 7) H16.out rfl
                        have y0 := frozen_of (o := 0) H16.out
                        have y1 := frozen_of (o := 1) H16.out
                        have y2 := frozen_of (o := 2) H16.out
                        have y3 := frozen_of (o := 3) H16.out
                        have y4 := frozen_of (o := 4) H16.out
                        have y5 := frozen_of (o := 5) H16.out
                        have y6 := frozen_of (o := 6) H16.out
                        have y7 := frozen_of (o := 7) H16.out
                        go_wp2_with fail
                        have hF := fr8 HF.out Z16.out (pickV x1 5) (kindV (pickV x0 7)) 255 255 0 50000000 0 0
                        have hG := cells8 H16.out (pickV x1 5) (kindV (pickV x0 7)) 255 255 0 50000000 0 0
                        refine ⟨⟨⟨_, hF⟩, rfl⟩, wpAnyH_done (by kernel_rfl) ?_ _⟩
                        exact ⟨B16, _, _, _, _, _, _, _, _, _, _, _, _, _, _, _, _, _, _, rfl, K1.out, kindV_bd _, hG, Z16.out, hF.below (fun _ _ h => h) (Nat.le_refl _)⟩
              · skip
                go_wp2_with fail
                have hb := Lib.hid ((Below.refl v28.heap.size v28).alloc (Nat.le_refl _) (.cells #[.int .i64 0, .int .i64 0, .int .i64 0, .int .i64 0, .int .i64 0, .int .i64 0, .int .i64 0, .int .i64 0] 40))
                have H16 := Lib.hid (heap_new (W := v28) (o := .cells #[.int .i64 0, .int .i64 0, .int .i64 0, .int .i64 0, .int .i64 0, .int .i64 0, .int .i64 0, .int .i64 0] 40) rfl)
                have Z16 := Lib.hid (show wr.heap.size ≤ v28.heap.size from HF.out.size)
                have HF_ := Lib.hid (HF.out.alloc (.cells #[.int .i64 0, .int .i64 0, .int .i64 0, .int .i64 0, .int .i64 0, .int .i64 0, .int .i64 0, .int .i64 0] 40)); clear HF; have HF := HF_; clear HF_
                have H_ := Lib.hid ((hb.out.block _ (Array.getElem?_eq_some_iff.1 H6.out).1).trans H6.out); clear H6; have H6 := H_; clear H_
                clear hb
                generalize v28.alloc (.cells #[.int .i64 0, .int .i64 0, .int .i64 0, .int .i64 0, .int .i64 0, .int .i64 0, .int .i64 0, .int .i64 0] 40) = v41 at *
                generalize v28.heap.size = B16 at *
                refine ⟨⟨⟨_, HF.out⟩, rfl⟩, ?_⟩
                refine any_stepS [13] (by kernel_rfl) ?_
                simp only [List.forall_mem_cons, List.forall_mem_nil, nthO_succ, nthO_zero]
                refine ⟨?_, fun _ h => by cases h⟩
                · skip
                  go_wp2_with fail
                  refine ⟨⟨⟨_, HF.out⟩, rfl⟩, ?_⟩
                  refine any_stepS [14] (by kernel_rfl) ?_
                  simp only [List.forall_mem_cons, List.forall_mem_nil, nthO_succ, nthO_zero]
                  refine ⟨?_, fun _ h => by cases h⟩
                  · skip
                    have kc := kind_cell H6.out K0.out.1 K0.out.2
                    go_wp2_with fail
                    clear kc
                    refine ⟨⟨⟨_, HF.out⟩, rfl⟩, ?_⟩
                    refine any_stepS [15] (by kernel_rfl) ?_
                    simp only [List.forall_mem_cons, List.forall_mem_nil, nthO_succ, nthO_zero]
                    refine ⟨?_, fun _ h => by cases h⟩
                    · skip
                      go_wp2_with fail
                      refine ⟨⟨⟨_, HF.out⟩, rfl⟩, ?_⟩
                      refine any_stepS [17] (by kernel_rfl) ?_
                      simp only [List.forall_mem_cons, List.forall_mem_nil, nthO_succ, nthO_zero]
                      refine ⟨?_, fun _ h => by cases h⟩
                      · skip
                        have hz16 := (Array.getElem?_eq_some_iff.1 H16.out).1
                        have z0 := cell_of (o := 0) H16.out rfl
                        have z1 := cell_of (o := 1) H16.out rfl
                        have z2 := cell_of (o := 2) H16.out rfl
                        have z3 := cell_of (o := 3) H16.out rfl
                        have z4 := cell_of (o := 4) H16.out rfl
                        have z5 := cell_of (o := 5) H16.out rfl
                        have z6 := cell_of (o := 6) H16.out rfl
                        have z7 := cell_of (o := 7) H16.out rfl
                        have y0 := frozen_of (o := 0) H16.out
                        have y1 := frozen_of (o := 1) H16.out
                        have y2 := frozen_of (o := 2) H16.out
                        have y3 := frozen_of (o := 3) H16.out
                        have y4 := frozen_of (o := 4) H16.out
                        have y5 := frozen_of (o := 5) H16.out
                        have y6 := frozen_of (o := 6) H16.out
                        have y7 := frozen_of (o := 7) H16.out
                        go_wp2_with fail
                        have hF := fr8 HF.out Z16.out (pickV x1 5) (kindV (pickV x0 7)) 255 255 0 50000000 0 0
                        have hG := cells8 H16.out (pickV x1 5) (kindV (pickV x0 7)) 255 255 0 50000000 0 0
                        refine ⟨⟨⟨_, hF⟩, rfl⟩, wpAnyH_done (by kernel_rfl) ?_ _⟩
                        exact ⟨B16, _, _, _, _, _, _, _, _, _, _, _, _, _, _, _, _, _, _, rfl, K1.out, kindV_bd _, hG, Z16.out, hF.below (fun _ _ h => h) (Nat.le_refl _)⟩
            · skip
              go_wp2_with fail
              have hb := Lib.hid ((Below.refl v27.heap.size v27).alloc (Nat.le_refl _) (.cells #[.int .i64 0, .int .i64 0, .int .i64 0, .int .i64 0, .int .i64 0, .int .i64 0, .int .i64 0, .int .i64 0] 40))
              have H16 := Lib.hid (heap_new (W := v27) (o := .cells #[.int .i64 0, .int .i64 0, .int .i64 0, .int .i64 0, .int .i64 0, .int .i64 0, .int .i64 0, .int .i64 0] 40) rfl)
              have Z16 := Lib.hid (show wr.heap.size ≤ v27.heap.size from HF.out.size)
              have HF_ := Lib.hid (HF.out.alloc (.cells #[.int .i64 0, .int .i64 0, .int .i64 0, .int .i64 0, .int .i64 0, .int .i64 0, .int .i64 0, .int .i64 0] 40)); clear HF; have HF := HF_; clear HF_
              clear hb
              generalize v27.alloc (.cells #[.int .i64 0, .int .i64 0, .int .i64 0, .int .i64 0, .int .i64 0, .int .i64 0, .int .i64 0, .int .i64 0] 40) = v46 at *
              generalize v27.heap.size = B16 at *
              refine ⟨⟨⟨_, HF.out⟩, rfl⟩, ?_⟩
              refine any_stepS [6] (by kernel_rfl) ?_
              simp only [List.forall_mem_cons, List.forall_mem_nil, nthO_succ, nthO_zero]
              refine ⟨?_, fun _ h => by cases h⟩
              · skip
                go_wp2_with fail
                have hb := Lib.hid ((Below.refl v46.heap.size v46).alloc (Nat.le_refl _) (.cells #[.int .i64 1, .int .i64 1, .int .i64 1, .int .i64 2, .int .i64 3, .int .i64 4, .int .i64 4] 3))
                have H6 := Lib.hid (heap_new (W := v46) (o := .cells #[.int .i64 1, .int .i64 1, .int .i64 1, .int .i64 2, .int .i64 3, .int .i64 4, .int .i64 4] 3) rfl)
                have Z6 := Lib.hid (show wr.heap.size ≤ v46.heap.size from HF.out.size)
                have HF_ := Lib.hid (HF.out.alloc (.cells #[.int .i64 1, .int .i64 1, .int .i64 1, .int .i64 2, .int .i64 3, .int .i64 4, .int .i64 4] 3)); clear HF; have HF := HF_; clear HF_
                have H_ := Lib.hid ((hb.out.block _ (Array.getElem?_eq_some_iff.1 H16.out).1).trans H16.out); clear H16; have H16 := H_; clear H_
                clear hb
                generalize v46.alloc (.cells #[.int .i64 1, .int .i64 1, .int .i64 1, .int .i64 2, .int .i64 3, .int .i64 4, .int .i64 4] 3) = v47 at *
                generalize v46.heap.size = B6 at *
                refine ⟨⟨⟨_, HF.out⟩, rfl⟩, ?_⟩
                refine any_stepS [13] (by kernel_rfl) ?_
                simp only [List.forall_mem_cons, List.forall_mem_nil, nthO_succ, nthO_zero]
                refine ⟨?_, fun _ h => by cases h⟩
                · skip
                  go_wp2_with fail
                  refine ⟨⟨⟨_, HF.out⟩, rfl⟩, ?_⟩
                  refine any_stepS [14] (by kernel_rfl) ?_
                  simp only [List.forall_mem_cons, List.forall_mem_nil, nthO_succ, nthO_zero]
                  refine ⟨?_, fun _ h => by cases h⟩
                  · skip
                    have kc := kind_cell H6.out K0.out.1 K0.out.2
                    go_wp2_with fail
                    clear kc
                    refine ⟨⟨⟨_, HF.out⟩, rfl⟩, ?_⟩
                    refine any_stepS [15] (by kernel_rfl) ?_
                    simp only [List.forall_mem_cons, List.forall_mem_nil, nthO_succ, nthO_zero]
                    refine ⟨?_, fun _ h => by cases h⟩
                    · skip
                      go_wp2_with fail
                      refine ⟨⟨⟨_, HF.out⟩, rfl⟩, ?_⟩
                      refine any_stepS [17] (by kernel_rfl) ?_
                      simp only [List.forall_mem_cons, List.forall_mem_nil, nthO_succ, nthO_zero]
                      refine ⟨?_, fun _ h => by cases h⟩
                      · skip
                        have hz16 := (Array.getElem?_eq_some_iff.1 H16.out).1
                        have z0 := cell_of (o := 0) H16.out rfl
                        have z1 := cell_of (o := 1) H16.out rfl
                        have z2 := cell_of (o := 2) H16.out rfl
                        have z3 := cell_of (o := 3) H16.out rfl
                        have z4 := cell_of (o := 4) H16.out rfl
                        have z5 := cell_of (o := 5) H16.out rfl
                        have z6 := cell_of (o := 6) H16.out rfl
                        have z7 := cell_of (o := 7) H16.out rfl
                        have y0 := frozen_of (o := 0) H16.out
                        have y1 := frozen_of (o := 1) H16.out
                        have y2 := frozen_of (o := 2) H16.out
                        have y3 := frozen_of (o := 3) H16.out
                        have y4 := frozen_of (o := 4) H16.out
                        have y5 := frozen_of (o := 5) H16.out
                        have y6 := frozen_of (o := 6) H16.out
                        have y7 := frozen_of (o := 7) H16.out
                        go_wp2_with fail
                        have hF := fr8 HF.out Z16.out (pickV x1 5) (kindV (pickV x0 7)) 255 255 0 50000000 0 0
                        have hG := cells8 H16.out (pickV x1 5) (kindV (pickV x0 7)) 255 255 0 50000000 0 0
                        refine ⟨⟨⟨_, hF⟩, rfl⟩, wpAnyH_done (by kernel_rfl) ?_ _⟩
                        exact ⟨B16, _, _, _, _, _, _, _, _, _, _, _, _, _, _, _, _, _, _, rfl, K1.out, kindV_bd _, hG, Z16.out, hF.below (fun _ _ h => h) (Nat.le_refl _)⟩
          · skip
            go_wp2_with fail
            have hb := Lib.hid ((Below.refl v1.heap.size v1).alloc (Nat.le_refl _) (.cells #[.int .i64 0, .int .i64 0, .int .i64 0, .int .i64 0, .int .i64 0, .int .i64 0, .int .i64 0, .int .i64 0] 40))
            have H16 := Lib.hid (heap_new (W := v1) (o := .cells #[.int .i64 0, .int .i64 0, .int .i64 0, .int .i64 0, .int .i64 0, .int .i64 0, .int .i64 0, .int .i64 0] 40) rfl)
            have Z16 := Lib.hid (show wr.heap.size ≤ v1.heap.size from HF.out.size)
            have HF_ := Lib.hid (HF.out.alloc (.cells #[.int .i64 0, .int .i64 0, .int .i64 0, .int .i64 0, .int .i64 0, .int .i64 0, .int .i64 0, .int .i64 0] 40)); clear HF; have HF := HF_; clear HF_
            clear hb
            generalize v1.alloc (.cells #[.int .i64 0, .int .i64 0, .int .i64 0, .int .i64 0, .int .i64 0, .int .i64 0, .int .i64 0, .int .i64 0] 40) = v52 at *
            generalize v1.heap.size = B16 at *
            refine ⟨⟨⟨_, HF.out⟩, rfl⟩, ?_⟩
            refine any_stepS [6, 12] (by kernel_rfl) ?_
            simp only [List.forall_mem_cons, List.forall_mem_nil, nthO_succ, nthO_zero]
            refine ⟨?_, ?_, fun _ h => by cases h⟩
            · skip
              go_wp2_with fail
              have hb := Lib.hid ((Below.refl v52.heap.size v52).alloc (Nat.le_refl _) (.cells #[.int .i64 1, .int .i64 1, .int .i64 1, .int .i64 2, .int .i64 3, .int .i64 4, .int .i64 4] 3))
              have H6 := Lib.hid (heap_new (W := v52) (o := .cells #[.int .i64 1, .int .i64 1, .int .i64 1, .int .i64 2, .int .i64 3, .int .i64 4, .int .i64 4] 3) rfl)
              have Z6 := Lib.hid (show wr.heap.size ≤ v52.heap.size from HF.out.size)
              have HF_ := Lib.hid (HF.out.alloc (.cells #[.int .i64 1, .int .i64 1, .int .i64 1, .int .i64 2, .int .i64 3, .int .i64 4, .int .i64 4] 3)); clear HF; have HF := HF_; clear HF_
              have H_ := Lib.hid ((hb.out.block _ (Array.getElem?_eq_some_iff.1 H16.out).1).trans H16.out); clear H16; have H16 := H_; clear H_
              clear hb
              generalize v52.alloc (.cells #[.int .i64 1, .int .i64 1, .int .i64 1, .int .i64 2, .int .i64 3, .int .i64 4, .int .i64 4] 3) = v53 at *
              generalize v52.heap.size = B6 at *
              refine ⟨⟨⟨_, HF.out⟩, rfl⟩, ?_⟩
              refine any_stepS [12] (by kernel_rfl) ?_
              simp only [List.forall_mem_cons, List.forall_mem_nil, nthO_succ, nthO_zero]
              refine ⟨?_, fun _ h => by cases h⟩
              · skip
                go_wp2_with fail
                refine (P0.out v53).mono ?_
                rintro e v54 ⟨rfl, hd⟩
                have hb := Lib.hid hd.below; clear hd
                go_wp2_with fail
                have HF_ := Lib.hid (HF.out.call hb.out); clear HF; have HF := HF_; clear HF_
                have H_ := Lib.hid ((hb.out.block _ (Array.getElem?_eq_some_iff.1 H6.out).1).trans H6.out); clear H6; have H6 := H_; clear H_
                have H_ := Lib.hid ((hb.out.block _ (Array.getElem?_eq_some_iff.1 H16.out).1).trans H16.out); clear H16; have H16 := H_; clear H_
                clear hb
                refine ⟨⟨⟨_, HF.out⟩, rfl⟩, ?_⟩
                refine any_stepS [13] (by kernel_rfl) ?_
                simp only [List.forall_mem_cons, List.forall_mem_nil, nthO_succ, nthO_zero]
                refine ⟨?_, fun _ h => by cases h⟩
                · skip
                  go_wp2_with fail
                  refine ⟨⟨⟨_, HF.out⟩, rfl⟩, ?_⟩
                  refine any_stepS [14] (by kernel_rfl) ?_
                  simp only [List.forall_mem_cons, List.forall_mem_nil, nthO_succ, nthO_zero]
                  refine ⟨?_, fun _ h => by cases h⟩
                  · skip
                    have kc := kind_cell H6.out K0.out.1 K0.out.2
                    go_wp2_with fail
                    clear kc
                    refine ⟨⟨⟨_, HF.out⟩, rfl⟩, ?_⟩
                    refine any_stepS [15] (by kernel_rfl) ?_
                    simp only [List.forall_mem_cons, List.forall_mem_nil, nthO_succ, nthO_zero]
                    refine ⟨?_, fun _ h => by cases h⟩
                    · skip
                      go_wp2_with fail
                      refine ⟨⟨⟨_, HF.out⟩, rfl⟩, ?_⟩
                      refine any_stepS [17] (by kernel_rfl) ?_
                      simp only [List.forall_mem_cons, List.forall_mem_nil, nthO_succ, nthO_zero]
                      refine ⟨?_, fun _ h => by cases h⟩
                      · skip
                        have hz16 := (Array.getElem?_eq_some_iff.1 H16.out).1
                        have z0 := cell_of (o := 0) H16.out rfl
                        have z1 := cell_of (o := 1) H16.out rfl
                        have z2 := cell_of (o := 2) H16.out rfl
                        have z3 := cell_of (o := 3) H16.out rfl
                        have z4 := cell_of (o := 4) H16.out rfl
                        have z5 := cell_of (o := 5) H16.out rfl
                        have z6 := cell_of (o := 6) H16.out rfl
                        have z7 := cell_of (o := 7) H16.out rfl
                        have y0 := frozen_of (o := 0) H16.out
                        have y1 := frozen_of (o := 1) H16.out
                        have y2 := frozen_of (o := 2) H16.out
                        have y3 := frozen_of (o := 3) H16.out
                        have y4 := frozen_of (o := 4) H16.out
                        have y5 := frozen_of (o := 5) H16.out
                        have y6 := frozen_of (o := 6) H16.out
                        have y7 := frozen_of (o := 7) H16.out
                        go_wp2_with fail
                        have hF := fr8 HF.out Z16.out (pickV x1 5) (kindV (pickV x0 7)) 255 255 0 50000000 0 0
                        have hG := cells8 H16.out (pickV x1 5) (kindV (pickV x0 7)) 255 255 0 50000000 0 0
                        refine ⟨⟨⟨_, hF⟩, rfl⟩, wpAnyH_done (by kernel_rfl) ?_ _⟩
                        exact ⟨B16, _, _, _, _, _, _, _, _, _, _, _, _, _, _, _, _, _, _, rfl, K1.out, kindV_bd _, hG, Z16.out, hF.below (fun _ _ h => h) (Nat.le_refl _)⟩
            · skip
              go_wp2_with fail
              refine (P0.out v52).mono ?_
              rintro e v59 ⟨rfl, hd⟩
              have hb := Lib.hid hd.below; clear hd
              go_wp2_with fail
              have HF_ := Lib.hid (HF.out.call hb.out); clear HF; have HF := HF_; clear HF_
              have H_ := Lib.hid ((hb.out.block _ (Array.getElem?_eq_some_iff.1 H16.out).1).trans H16.out); clear H16; have H16 := H_; clear H_
              clear hb
              refine ⟨⟨⟨_, HF.out⟩, rfl⟩, ?_⟩
              refine any_stepS [6] (by kernel_rfl) ?_
              simp only [List.forall_mem_cons, List.forall_mem_nil, nthO_succ, nthO_zero]
              refine ⟨?_, fun _ h => by cases h⟩
              · skip
                go_wp2_with fail
                have hb := Lib.hid ((Below.refl v59.heap.size v59).alloc (Nat.le_refl _) (.cells #[.int .i64 1, .int .i64 1, .int .i64 1, .int .i64 2, .int .i64 3, .int .i64 4, .int .i64 4] 3))
                have H6 := Lib.hid (heap_new (W := v59) (o := .cells #[.int .i64 1, .int .i64 1, .int .i64 1, .int .i64 2, .int .i64 3, .int .i64 4, .int .i64 4] 3) rfl)
                have Z6 := Lib.hid (show wr.heap.size ≤ v59.heap.size from HF.out.size)
                have HF_ := Lib.hid (HF.out.alloc (.cells #[.int .i64 1, .int .i64 1, .int .i64 1, .int .i64 2, .int .i64 3, .int .i64 4, .int .i64 4] 3)); clear HF; have HF := HF_; clear HF_
                have H_ := Lib.hid ((hb.out.block _ (Array.getElem?_eq_some_iff.1 H16.out).1).trans H16.out); clear H16; have H16 := H_; clear H_
                clear hb
                generalize v59.alloc (.cells #[.int .i64 1, .int .i64 1, .int .i64 1, .int .i64 2, .int .i64 3, .int .i64 4, .int .i64 4] 3) = v60 at *
                generalize v59.heap.size = B6 at *
                refine ⟨⟨⟨_, HF.out⟩, rfl⟩, ?_⟩
                refine any_stepS [13] (by kernel_rfl) ?_
                simp only [List.forall_mem_cons, List.forall_mem_nil, nthO_succ, nthO_zero]
                refine ⟨?_, fun _ h => by cases h⟩
                · skip
                  go_wp2_with fail
                  refine ⟨⟨⟨_, HF.out⟩, rfl⟩, ?_⟩
                  refine any_stepS [14] (by kernel_rfl) ?_
                  simp only [List.forall_mem_cons, List.forall_mem_nil, nthO_succ, nthO_zero]
                  refine ⟨?_, fun _ h => by cases h⟩
                  · skip
                    have kc := kind_cell H6.out K0.out.1 K0.out.2
                    go_wp2_with fail
                    clear kc
                    refine ⟨⟨⟨_, HF.out⟩, rfl⟩, ?_⟩
                    refine any_stepS [15] (by kernel_rfl) ?_
                    simp only [List.forall_mem_cons, List.forall_mem_nil, nthO_succ, nthO_zero]
                    refine ⟨?_, fun _ h => by cases h⟩
                    · skip
                      go_wp2_with fail
                      refine ⟨⟨⟨_, HF.out⟩, rfl⟩, ?_⟩
                      refine any_stepS [17] (by kernel_rfl) ?_
                      simp only [List.forall_mem_cons, List.forall_mem_nil, nthO_succ, nthO_zero]
                      refine ⟨?_, fun _ h => by cases h⟩
                      · skip
                        have hz16 := (Array.getElem?_eq_some_iff.1 H16.out).1
                        have z0 := cell_of (o := 0) H16.out rfl
                        have z1 := cell_of (o := 1) H16.out rfl
                        have z2 := cell_of (o := 2) H16.out rfl
                        have z3 := cell_of (o := 3) H16.out rfl
                        have z4 := cell_of (o := 4) H16.out rfl
                        have z5 := cell_of (o := 5) H16.out rfl
                        have z6 := cell_of (o := 6) H16.out rfl
                        have z7 := cell_of (o := 7) H16.out rfl
                        have y0 := frozen_of (o := 0) H16.out
                        have y1 := frozen_of (o := 1) H16.out
                        have y2 := frozen_of (o := 2) H16.out
                        have y3 := frozen_of (o := 3) H16.out
                        have y4 := frozen_of (o := 4) H16.out
                        have y5 := frozen_of (o := 5) H16.out
                        have y6 := frozen_of (o := 6) H16.out
                        have y7 := frozen_of (o := 7) H16.out
                        go_wp2_with fail
                        have hF := fr8 HF.out Z16.out (pickV x1 5) (kindV (pickV x0 7)) 255 255 0 50000000 0 0
                        have hG := cells8 H16.out (pickV x1 5) (kindV (pickV x0 7)) 255 255 0 50000000 0 0
                        refine ⟨⟨⟨_, hF⟩, rfl⟩, wpAnyH_done (by kernel_rfl) ?_ _⟩
                        exact ⟨B16, _, _, _, _, _, _, _, _, _, _, _, _, _, _, _, _, _, _, rfl, K1.out, kindV_bd _, hG, Z16.out, hF.below (fun _ _ h => h) (Nat.le_refl _)⟩
        · skip
          go_wp2_with fail
          have hb := Lib.hid ((Below.refl v0.heap.size v0).alloc (Nat.le_refl _) (.cells #[.int .i64 1, .int .i64 1, .int .i64 1, .int .i64 2, .int .i64 3, .int .i64 4, .int .i64 4] 3))
          have H6 := Lib.hid (heap_new (W := v0) (o := .cells #[.int .i64 1, .int .i64 1, .int .i64 1, .int .i64 2, .int .i64 3, .int .i64 4, .int .i64 4] 3) rfl)
          have Z6 := Lib.hid (show wr.heap.size ≤ v0.heap.size from HF.out.size)
          have HF_ := Lib.hid (HF.out.alloc (.cells #[.int .i64 1, .int .i64 1, .int .i64 1, .int .i64 2, .int .i64 3, .int .i64 4, .int .i64 4] 3)); clear HF; have HF := HF_; clear HF_
          clear hb
          generalize v0.alloc (.cells #[.int .i64 1, .int .i64 1, .int .i64 1, .int .i64 2, .int .i64 3, .int .i64 4, .int .i64 4] 3) = v65 at *
          generalize v0.heap.size = B6 at *
          refine ⟨⟨⟨_, HF.out⟩, rfl⟩, ?_⟩
          refine any_stepS [5, 16] (by kernel_rfl) ?_
          simp only [List.forall_mem_cons, List.forall_mem_nil, nthO_succ, nthO_zero]
          refine ⟨?_, ?_, fun _ h => by cases h⟩
          · skip
            go_wp2_with fail
            refine (P1.out v65).mono ?_
            rintro e v66 ⟨rfl, hd⟩
            have hb := Lib.hid hd.below; clear hd
            go_wp2_with fail
            have HF_ := Lib.hid (HF.out.call hb.out); clear HF; have HF := HF_; clear HF_
            have H_ := Lib.hid ((hb.out.block _ (Array.getElem?_eq_some_iff.1 H6.out).1).trans H6.out); clear H6; have H6 := H_; clear H_
            clear hb
            refine ⟨⟨⟨_, HF.out⟩, rfl⟩, ?_⟩
            refine any_stepS [12, 16] (by kernel_rfl) ?_
            simp only [List.forall_mem_cons, List.forall_mem_nil, nthO_succ, nthO_zero]
            refine ⟨?_, ?_, fun _ h => by cases h⟩
            · skip
              go_wp2_with fail
              refine (P0.out v66).mono ?_
              rintro e v67 ⟨rfl, hd⟩
              have hb := Lib.hid hd.below; clear hd
              go_wp2_with fail
              have HF_ := Lib.hid (HF.out.call hb.out); clear HF; have HF := HF_; clear HF_
              have H_ := Lib.hid ((hb.out.block _ (Array.getElem?_eq_some_iff.1 H6.out).1).trans H6.out); clear H6; have H6 := H_; clear H_
              clear hb
              refine ⟨⟨⟨_, HF.out⟩, rfl⟩, ?_⟩
              refine any_stepS [13, 16] (by kernel_rfl) ?_
              simp only [List.forall_mem_cons, List.forall_mem_nil, nthO_succ, nthO_zero]
              refine ⟨?_, ?_, fun _ h => by cases h⟩
              · skip
                go_wp2_with fail
                refine ⟨⟨⟨_, HF.out⟩, rfl⟩, ?_⟩
                refine any_stepS [14, 16] (by kernel_rfl) ?_
                simp only [List.forall_mem_cons, List.forall_mem_nil, nthO_succ, nthO_zero]
                refine ⟨?_, ?_, fun _ h => by cases h⟩
                · skip
                  have kc := kind_cell H6.out K0.out.1 K0.out.2
                  go_wp2_with fail
                  clear kc
                  refine ⟨⟨⟨_, HF.out⟩, rfl⟩, ?_⟩
                  refine any_stepS [15, 16] (by kernel_rfl) ?_
                  simp only [List.forall_mem_cons, List.forall_mem_nil, nthO_succ, nthO_zero]
                  refine ⟨?_, ?_, fun _ h => by cases h⟩
                  · skip
                    go_wp2_with fail
                    refine ⟨⟨⟨_, HF.out⟩, rfl⟩, ?_⟩
                    refine any_stepS [16] (by kernel_rfl) ?_
                    simp only [List.forall_mem_cons, List.forall_mem_nil, nthO_succ, nthO_zero]
                    refine ⟨?_, fun _ h => by cases h⟩
                    · skip
                      go_wp2_with fail
                      have hb := Lib.hid ((Below.refl v67.heap.size v67).alloc (Nat.le_refl _) (.cells #[.int .i64 0, .int .i64 0, .int .i64 0, .int .i64 0, .int .i64 0, .int .i64 0, .int .i64 0, .int .i64 0] 40))
                      have H16 := Lib.hid (heap_new (W := v67) (o := .cells #[.int .i64 0, .int .i64 0, .int .i64 0, .int .i64 0, .int .i64 0, .int .i64 0, .int .i64 0, .int .i64 0] 40) rfl)
                      have Z16 := Lib.hid (show wr.heap.size ≤ v67.heap.size from HF.out.size)
                      have HF_ := Lib.hid (HF.out.alloc (.cells #[.int .i64 0, .int .i64 0, .int .i64 0, .int .i64 0, .int .i64 0, .int .i64 0, .int .i64 0, .int .i64 0] 40)); clear HF; have HF := HF_; clear HF_
                      have H_ := Lib.hid ((hb.out.block _ (Array.getElem?_eq_some_iff.1 H6.out).1).trans H6.out); clear H6; have H6 := H_; clear H_
                      clear hb
                      generalize v67.alloc (.cells #[.int .i64 0, .int .i64 0, .int .i64 0, .int .i64 0, .int .i64 0, .int .i64 0, .int .i64 0, .int .i64 0] 40) = v71 at *
                      generalize v67.heap.size = B16 at *
                      refine ⟨⟨⟨_, HF.out⟩, rfl⟩, ?_⟩
                      refine any_stepS [17] (by kernel_rfl) ?_
                      simp only [List.forall_mem_cons, List.forall_mem_nil, nthO_succ, nthO_zero]
                      refine ⟨?_, fun _ h => by cases h⟩
                      · skip
                        have hz16 := (Array.getElem?_eq_some_iff.1 H16.out).1
                        have z0 := cell_of (o := 0) H16.out rfl
                        have z1 := cell_of (o := 1) H16.out rfl
                        have z2 := cell_of (o := 2) H16.out rfl
                        have z3 := cell_of (o := 3) H16.out rfl
                        have z4 := cell_of (o := 4) H16.out rfl
                        have z5 := cell_of (o := 5) H16.out rfl
                        have z6 := cell_of (o := 6) H16.out rfl
                        have z7 := cell_of (o := 7) H16.out rfl
                        have y0 := frozen_of (o := 0) H16.out
                        have y1 := frozen_of (o := 1) H16.out
                        have y2 := frozen_of (o := 2) H16.out
                        have y3 := frozen_of (o := 3) H16.out
                        have y4 := frozen_of (o := 4) H16.out
                        have y5 := frozen_of (o := 5) H16.out
                        have y6 := frozen_of (o := 6) H16.out
                        have y7 := frozen_of (o := 7) H16.out
                        go_wp2_with fail
                        have hF := fr8 HF.out Z16.out (pickV x1 5) (kindV (pickV x0 7)) 255 255 0 50000000 0 0
                        have hG := cells8 H16.out (pickV x1 5) (kindV (pickV x0 7)) 255 255 0 50000000 0 0
                        refine ⟨⟨⟨_, hF⟩, rfl⟩, wpAnyH_done (by kernel_rfl) ?_ _⟩
                        exact ⟨B16, _, _, _, _, _, _, _, _, _, _, _, _, _, _, _, _, _, _, rfl, K1.out, kindV_bd _, hG, Z16.out, hF.below (fun _ _ h => h) (Nat.le_refl _)⟩
                  · skip
                    go_wp2_with fail
                    have hb := Lib.hid ((Below.refl v67.heap.size v67).alloc (Nat.le_refl _) (.cells #[.int .i64 0, .int .i64 0, .int .i64 0, .int .i64 0, .int .i64 0, .int .i64 0, .int .i64 0, .int .i64 0] 40))
                    have H16 := Lib.hid (heap_new (W := v67) (o := .cells #[.int .i64 0, .int .i64 0, .int .i64 0, .int .i64 0, .int .i64 0, .int .i64 0, .int .i64 0, .int .i64 0] 40) rfl)
                    have Z16 := Lib.hid (show wr.heap.size ≤ v67.heap.size from HF.out.size)
                    have HF_ := Lib.hid (HF.out.alloc (.cells #[.int .i64 0, .int .i64 0, .int .i64 0, .int .i64 0, .int .i64 0, .int .i64 0, .int .i64 0, .int .i64 0] 40)); clear HF; have HF := HF_; clear HF_
                    have H_ := Lib.hid ((hb.out.block _ (Array.getElem?_eq_some_iff.1 H6.out).1).trans H6.out); clear H6; have H6 := H_; clear H_
                    clear hb
                    generalize v67.alloc (.cells #[.int .i64 0, .int .i64 0, .int .i64 0, .int .i64 0, .int .i64 0, .int .i64 0, .int .i64 0, .int .i64 0] 40) = v73 at *
                    generalize v67.heap.size = B16 at *
                    refine ⟨⟨⟨_, HF.out⟩, rfl⟩, ?_⟩
                    refine any_stepS [15] (by kernel_rfl) ?_
                    simp only [List.forall_mem_cons, List.forall_mem_nil, nthO_succ, nthO_zero]
                    refine ⟨?_, fun _ h => by cases h⟩
                    · skip
                      go_wp2_with fail
                      refine ⟨⟨⟨_, HF.out⟩, rfl⟩, ?_⟩
                      refine any_stepS [17] (by kernel_rfl) ?_
                      simp only [List.forall_mem_cons, List.forall_mem_nil, nthO_succ, nthO_zero]
                      refine ⟨?_, fun _ h => by cases h⟩
                      · skip
                        have hz16 := (Array.getElem?_eq_some_iff.1 H16.out).1
                        have z0 := cell_of (o := 0) H16.out rfl
                        have z1 := cell_of (o := 1) H16.out rfl
                        have z2 := cell_of (o := 2) H16.out rfl
                        have z3 := cell_of (o := 3) H16.out rfl
                        have z4 := cell_of (o := 4) H16.out rfl
                        have z5 := cell_of (o := 5) H16.out rfl
                        have z6 := cell_of (o := 6) H16.out rfl
                        have z7 := cell_of (o := 7) H16.out rfl
                        have y0 := frozen_of (o := 0) H16.out
                        have y1 := frozen_of (o := 1) H16.out
                        have y2 := frozen_of (o := 2) H16.out
                        have y3 := frozen_of (o := 3) H16.out
                        have y4 := frozen_of (o := 4) H16.out
                        have y5 := frozen_of (o := 5) H16.out
                        have y6 := frozen_of (o := 6) H16.out
                        have y7 := frozen_of (o := 7) H16.out
                        go_wp2_with fail
                        have hF := fr8 HF.out Z16.out (pickV x1 5) (kindV (pickV x0 7)) 255 255 0 50000000 0 0
                        have hG := cells8 H16.out (pickV x1 5) (kindV (pickV x0 7)) 255 255 0 50000000 0 0
                        refine ⟨⟨⟨_, hF⟩, rfl⟩, wpAnyH_done (by kernel_rfl) ?_ _⟩
                        exact ⟨B16, _, _, _, _, _, _, _, _, _, _, _, _, _, _, _, _, _, _, rfl, K1.out, kindV_bd _, hG, Z16.out, hF.below (fun _ _ h => h) (Nat.le_refl _)⟩
                · skip
                  go_wp2_with fail
                  have hb := Lib.hid ((Below.refl v67.heap.size v67).alloc (Nat.le_refl _) (.cells #[.int .i64 0, .int .i64 0, .int .i64 0, .int .i64 0, .int .i64 0, .int .i64 0, .int .i64 0, .int .i64 0] 40))
                  have H16 := Lib.hid (heap_new (W := v67) (o := .cells #[.int .i64 0, .int .i64 0, .int .i64 0, .int .i64 0, .int .i64 0, .int .i64 0, .int .i64 0, .int .i64 0] 40) rfl)
                  have Z16 := Lib.hid (show wr.heap.size ≤ v67.heap.size from HF.out.size)
                  have HF_ := Lib.hid (HF.out.alloc (.cells #[.int .i64 0, .int .i64 0, .int .i64 0, .int .i64 0, .int .i64 0, .int .i64 0, .int .i64 0, .int .i64 0] 40)); clear HF; have HF := HF_; clear HF_
                  have H_ := Lib.hid ((hb.out.block _ (Array.getElem?_eq_some_iff.1 H6.out).1).trans H6.out); clear H6; have H6 := H_; clear H_
                  clear hb
                  generalize v67.alloc (.cells #[.int .i64 0, .int .i64 0, .int .i64 0, .int .i64 0, .int .i64 0, .int .i64 0, .int .i64 0, .int .i64 0] 40) = v76 at *
                  generalize v67.heap.size = B16 at *
                  refine ⟨⟨⟨_, HF.out⟩, rfl⟩, ?_⟩
                  refine any_stepS [14] (by kernel_rfl) ?_
                  simp only [List.forall_mem_cons, List.forall_mem_nil, nthO_succ, nthO_zero]
                  refine ⟨?_, fun _ h => by cases h⟩
                  · skip
                    have kc := kind_cell H6.out K0.out.1 K0.out.2
                    go_wp2_with fail
                    clear kc
                    refine ⟨⟨⟨_, HF.out⟩, rfl⟩, ?_⟩
                    refine any_stepS [15] (by kernel_rfl) ?_
                    simp only [List.forall_mem_cons, List.forall_mem_nil, nthO_succ, nthO_zero]
                    refine ⟨?_, fun _ h => by cases h⟩
                    · skip
                      go_wp2_with fail
                      refine ⟨⟨⟨_, HF.out⟩, rfl⟩, ?_⟩
                      refine any_stepS [17] (by kernel_rfl) ?_
                      simp only [List.forall_mem_cons, List.forall_mem_nil, nthO_succ, nthO_zero]
                      refine ⟨?_, fun _ h => by cases h⟩
                      · skip
                        have hz16 := (Array.getElem?_eq_some_iff.1 H16.out).1
                        have z0 := cell_of (o := 0) H16.out rfl
                        have z1 := cell_of (o := 1) H16.out rfl
                        have z2 := cell_of (o := 2) H16.out rfl
                        have z3 := cell_of (o := 3) H16.out rfl
                        have z4 := cell_of (o := 4) H16.out rfl
                        have z5 := cell_of (o := 5) H16.out rfl
                        have z6 := cell_of (o := 6) H16.out rfl
                        have z7 := cell_of (o := 7) H16.out rfl
                        have y0 := frozen_of (o := 0) H16.out
                        have y1 := frozen_of (o := 1) H16.out
                        have y2 := frozen_of (o := 2) H16.out
                        have y3 := frozen_of (o := 3) H16.out
                        have y4 := frozen_of (o := 4) H16.out
                        have y5 := frozen_of (o := 5) H16.out
                        have y6 := frozen_of (o := 6) H16.out
                        have y7 := frozen_of (o := 7) H16.out
                        go_wp2_with fail
                        have hF := fr8 HF.out Z16.out (pickV x1 5) (kindV (pickV x0 7)) 255 255 0 50000000 0 0
                        have hG := cells8 H16.out (pickV x1 5) (kindV (pickV x0 7)) 255 255 0 50000000 0 0
                        refine ⟨⟨⟨_, hF⟩, rfl⟩, wpAnyH_done (by kernel_rfl) ?_ _⟩
                        exact ⟨B16, _, _, _, _, _, _, _, _, _, _, _, _, _, _, _, _, _, _, rfl, K1.out, kindV_bd _, hG, Z16.out, hF.below (fun _ _ h => h) (Nat.le_refl _)⟩
              · skip
                go_wp2_with fail
                have hb := Lib.hid ((Below.refl v67.heap.size v67).alloc (Nat.le_refl _) (.cells #[.int .i64 0, .int .i64 0, .int .i64 0, .int .i64 0, .int .i64 0, .int .i64 0, .int .i64 0, .int .i64 0] 40))
                have H16 := Lib.hid (heap_new (W := v67) (o := .cells #[.int .i64 0, .int .i64 0, .int .i64 0, .int .i64 0, .int .i64 0, .int .i64 0, .int .i64 0, .int .i64 0] 40) rfl)
                have Z16 := Lib.hid (show wr.heap.size ≤ v67.heap.size from HF.out.size)
                have HF_ := Lib.hid (HF.out.alloc (.cells #[.int .i64 0, .int .i64 0, .int .i64 0, .int .i64 0, .int .i64 0, .int .i64 0, .int .i64 0, .int .i64 0] 40)); clear HF; have HF := HF_; clear HF_
                have H_ := Lib.hid ((hb.out.block _ (Array.getElem?_eq_some_iff.1 H6.out).1).trans H6.out); clear H6; have H6 := H_; clear H_
                clear hb
                generalize v67.alloc (.cells #[.int .i64 0, .int .i64 0, .int .i64 0, .int .i64 0, .int .i64 0, .int .i64 0, .int .i64 0, .int .i64 0] 40) = v80 at *
                generalize v67.heap.size = B16 at *
                refine ⟨⟨⟨_, HF.out⟩, rfl⟩, ?_⟩
                refine any_stepS [13] (by kernel_rfl) ?_
                simp only [List.forall_mem_cons, List.forall_mem_nil, nthO_succ, nthO_zero]
                refine ⟨?_, fun _ h => by cases h⟩
                · skip
                  go_wp2_with fail
                  refine ⟨⟨⟨_, HF.out⟩, rfl⟩, ?_⟩
                  refine any_stepS [14] (by kernel_rfl) ?_
                  simp only [List.forall_mem_cons, List.forall_mem_nil, nthO_succ, nthO_zero]
                  refine ⟨?_, fun _ h => by cases h⟩
                  · skip
                    have kc := kind_cell H6.out K0.out.1 K0.out.2
                    go_wp2_with fail
                    clear kc
                    refine ⟨⟨⟨_, HF.out⟩, rfl⟩, ?_⟩
                    refine any_stepS [15] (by kernel_rfl) ?_
                    simp only [List.forall_mem_cons, List.forall_mem_nil, nthO_succ, nthO_zero]
                    refine ⟨?_, fun _ h => by cases h⟩
                    · skip
                      go_wp2_with fail
                      refine ⟨⟨⟨_, HF.out⟩, rfl⟩, ?_⟩
                      refine any_stepS [17] (by kernel_rfl) ?_
                      simp only [List.forall_mem_cons, List.forall_mem_nil, nthO_succ, nthO_zero]
                      refine ⟨?_, fun _ h => by cases h⟩
                      · skip
                        have hz16 := (Array.getElem?_eq_some_iff.1 H16.out).1
                        have z0 := cell_of (o := 0) H16.out rfl
                        have z1 := cell_of (o := 1) H16.out rfl
                        have z2 := cell_of (o := 2) H16.out rfl
                        have z3 := cell_of (o := 3) H16.out rfl
                        have z4 := cell_of (o := 4) H16.out rfl
                        have z5 := cell_of (o := 5) H16.out rfl
                        have z6 := cell_of (o := 6) H16.out rfl
                        have z7 := cell_of (o := 7) H16.out rfl
                        have y0 := frozen_of (o := 0) H16.out
                        have y1 := frozen_of (o := 1) H16.out
                        have y2 := frozen_of (o := 2) H16.out
                        have y3 := frozen_of (o := 3) H16.out
                        have y4 := frozen_of (o := 4) H16.out
                        have y5 := frozen_of (o := 5) H16.out
                        have y6 := frozen_of (o := 6) H16.out
                        have y7 := frozen_of (o := 7) H16.out
                        go_wp2_with fail
                        have hF := fr8 HF.out Z16.out (pickV x1 5) (kindV (pickV x0 7)) 255 255 0 50000000 0 0
                        have hG := cells8 H16.out (pickV x1 5) (kindV (pickV x0 7)) 255 255 0 50000000 0 0
                        refine ⟨⟨⟨_, hF⟩, rfl⟩, wpAnyH_done (by kernel_rfl) ?_ _⟩
                        exact ⟨B16, _, _, _, _, _, _, _, _, _, _, _, _, _, _, _, _, _, _, rfl, K1.out, kindV_bd _, hG, Z16.out, hF.below (fun _ _ h => h) (Nat.le_refl _)⟩
            · skip
              go_wp2_with fail
              have hb := Lib.hid ((Below.refl v66.heap.size v66).alloc (Nat.le_refl _) (.cells #[.int .i64 0, .int .i64 0, .int .i64 0, .int .i64 0, .int .i64 0, .int .i64 0, .int .i64 0, .int .i64 0] 40))
              have H16 := Lib.hid (heap_new (W := v66) (o := .cells #[.int .i64 0, .int .i64 0, .int .i64 0, .int .i64 0, .int .i64 0, .int .i64 0, .int .i64 0, .int .i64 0] 40) rfl)
              have Z16 := Lib.hid (show wr.heap.size ≤ v66.heap.size from HF.out.size)
              have HF_ := Lib.hid (HF.out.alloc (.cells #[.int .i64 0, .int .i64 0, .int .i64 0, .int .i64 0, .int .i64 0, .int .i64 0, .int .i64 0, .int .i64 0] 40)); clear HF; have HF := HF_; clear HF_
              have H_ := Lib.hid ((hb.out.block _ (Array.getElem?_eq_some_iff.1 H6.out).1).trans H6.out); clear H6; have H6 := H_; clear H_
              clear hb
              generalize v66.alloc (.cells #[.int .i64 0, .int .i64 0, .int .i64 0, .int .i64 0, .int .i64 0, .int .i64 0, .int .i64 0, .int .i64 0] 40) = v85 at *
              generalize v66.heap.size = B16 at *
              refine ⟨⟨⟨_, HF.out⟩, rfl⟩, ?_⟩
              refine any_stepS [12] (by kernel_rfl) ?_
              simp only [List.forall_mem_cons, List.forall_mem_nil, nthO_succ, nthO_zero]
              refine ⟨?_, fun _ h => by cases h⟩
              · skip
                go_wp2_with fail
                refine (P0.out v85).mono ?_
                rintro e v86 ⟨rfl, hd⟩
                have hb := Lib.hid hd.below; clear hd
                go_wp2_with fail
                have HF_ := Lib.hid (HF.out.call hb.out); clear HF; have HF := HF_; clear HF_
                have H_ := Lib.hid ((hb.out.block _ (Array.getElem?_eq_some_iff.1 H6.out).1).trans H6.out); clear H6; have H6 := H_; clear H_
                have H_ := Lib.hid ((hb.out.block _ (Array.getElem?_eq_some_iff.1 H16.out).1).trans H16.out); clear H16; have H16 := H_; clear H_
                clear hb
                refine ⟨⟨⟨_, HF.out⟩, rfl⟩, ?_⟩
                refine any_stepS [13] (by kernel_rfl) ?_
                simp only [List.forall_mem_cons, List.forall_mem_nil, nthO_succ, nthO_zero]
                refine ⟨?_, fun _ h => by cases h⟩
                · skip
                  go_wp2_with fail
                  refine ⟨⟨⟨_, HF.out⟩, rfl⟩, ?_⟩
                  refine any_stepS [14] (by kernel_rfl) ?_
                  simp only [List.forall_mem_cons, List.forall_mem_nil, nthO_succ, nthO_zero]
                  refine ⟨?_, fun _ h => by cases h⟩
                  · skip
                    have kc := kind_cell H6.out K0.out.1 K0.out.2
                    go_wp2_with fail
                    clear kc
                    refine ⟨⟨⟨_, HF.out⟩, rfl⟩, ?_⟩
                    refine any_stepS [15] (by kernel_rfl) ?_
                    simp only [List.forall_mem_cons, List.forall_mem_nil, nthO_succ, nthO_zero]
                    refine ⟨?_, fun _ h => by cases h⟩
                    · skip
                      go_wp2_with fail
                      refine ⟨⟨⟨_, HF.out⟩, rfl⟩, ?_⟩
                      refine any_stepS [17] (by kernel_rfl) ?_
                      simp only [List.forall_mem_cons, List.forall_mem_nil, nthO_succ, nthO_zero]
                      refine ⟨?_, fun _ h => by cases h⟩
                      · skip
                        have hz16 := (Array.getElem?_eq_some_iff.1 H16.out).1
                        have z0 := cell_of (o := 0) H16.out rfl
                        have z1 := cell_of (o := 1) H16.out rfl
                        have z2 := cell_of (o := 2) H16.out rfl
                        have z3 := cell_of (o := 3) H16.out rfl
                        have z4 := cell_of (o := 4) H16.out rfl
                        have z5 := cell_of (o := 5) H16.out rfl
                        have z6 := cell_of (o := 6) H16.out rfl
                        have z7 := cell_of (o := 7) H16.out rfl
                        have y0 := frozen_of (o := 0) H16.out
                        have y1 := frozen_of (o := 1) H16.out
                        have y2 := frozen_of (o := 2) H16.out
                        have y3 := frozen_of (o := 3) H16.out
                        have y4 := frozen_of (o := 4) H16.out
                        have y5 := frozen_of (o := 5) H16.out
                        have y6 := frozen_of (o := 6) H16.out
                        have y7 := frozen_of (o := 7) H16.out
                        go_wp2_with fail
                        have hF := fr8 HF.out Z16.out (pickV x1 5) (kindV (pickV x0 7)) 255 255 0 50000000 0 0
                        have hG := cells8 H16.out (pickV x1 5) (kindV (pickV x0 7)) 255 255 0 50000000 0 0
                        refine ⟨⟨⟨_, hF⟩, rfl⟩, wpAnyH_done (by kernel_rfl) ?_ _⟩
                        exact ⟨B16, _, _, _, _, _, _, _, _, _, _, _, _, _, _, _, _, _, _, rfl, K1.out, kindV_bd _, hG, Z16.out, hF.below (fun _ _ h => h) (Nat.le_refl _)⟩
          · skip
            go_wp2_with fail
            have hb := Lib.hid ((Below.refl v65.heap.size v65).alloc (Nat.le_refl _) (.cells #[.int .i64 0, .int .i64 0, .int .i64 0, .int .i64 0, .int .i64 0, .int .i64 0, .int .i64 0, .int .i64 0] 40))
            have H16 := Lib.hid (heap_new (W := v65) (o := .cells #[.int .i64 0, .int .i64 0, .int .i64 0, .int .i64 0, .int .i64 0, .int .i64 0, .int .i64 0, .int .i64 0] 40) rfl)
            have Z16 := Lib.hid (show wr.heap.size ≤ v65.heap.size from HF.out.size)
            have HF_ := Lib.hid (HF.out.alloc (.cells #[.int .i64 0, .int .i64 0, .int .i64 0, .int .i64 0, .int .i64 0, .int .i64 0, .int .i64 0, .int .i64 0] 40)); clear HF; have HF := HF_; clear HF_
            have H_ := Lib.hid ((hb.out.block _ (Array.getElem?_eq_some_iff.1 H6.out).1).trans H6.out); clear H6; have H6 := H_; clear H_
            clear hb
            generalize v65.alloc (.cells #[.int .i64 0, .int .i64 0, .int .i64 0, .int .i64 0, .int .i64 0, .int .i64 0, .int .i64 0, .int .i64 0] 40) = v91 at *
            generalize v65.heap.size = B16 at *
            refine ⟨⟨⟨_, HF.out⟩, rfl⟩, ?_⟩
            refine any_stepS [5] (by kernel_rfl) ?_
            simp only [List.forall_mem_cons, List.forall_mem_nil, nthO_succ, nthO_zero]
            refine ⟨?_, fun _ h => by cases h⟩
            · skip
              go_wp2_with fail
              refine (P1.out v91).mono ?_
              rintro e v92 ⟨rfl, hd⟩
              have hb := Lib.hid hd.below; clear hd
              go_wp2_with fail
              have HF_ := Lib.hid (HF.out.call hb.out); clear HF; have HF := HF_; clear HF_
              have H_ := Lib.hid ((hb.out.block _ (Array.getElem?_eq_some_iff.1 H6.out).1).trans H6.out); clear H6; have H6 := H_; clear H_
              have H_ := Lib.hid ((hb.out.block _ (Array.getElem?_eq_some_iff.1 H16.out).1).trans H16.out); clear H16; have H16 := H_; clear H_
              clear hb
              refine ⟨⟨⟨_, HF.out⟩, rfl⟩, ?_⟩
              refine any_stepS [12] (by kernel_rfl) ?_
              simp only [List.forall_mem_cons, List.forall_mem_nil, nthO_succ, nthO_zero]
              refine ⟨?_, fun _ h => by cases h⟩
              · skip
                go_wp2_with fail
                refine (P0.out v92).mono ?_
                rintro e v93 ⟨rfl, hd⟩
                have hb := Lib.hid hd.below; clear hd
                go_wp2_with fail
                have HF_ := Lib.hid (HF.out.call hb.out); clear HF; have HF := HF_; clear HF_
                have H_ := Lib.hid ((hb.out.block _ (Array.getElem?_eq_some_iff.1 H6.out).1).trans H6.out); clear H6; have H6 := H_; clear H_
                have H_ := Lib.hid ((hb.out.block _ (Array.getElem?_eq_some_iff.1 H16.out).1).trans H16.out); clear H16; have H16 := H_; clear H_
                clear hb
                refine ⟨⟨⟨_, HF.out⟩, rfl⟩, ?_⟩
                refine any_stepS [13] (by kernel_rfl) ?_
                simp only [List.forall_mem_cons, List.forall_mem_nil, nthO_succ, nthO_zero]
                refine ⟨?_, fun _ h => by cases h⟩
                · skip
                  go_wp2_with fail
                  refine ⟨⟨⟨_, HF.out⟩, rfl⟩, ?_⟩
                  refine any_stepS [14] (by kernel_rfl) ?_
                  simp only [List.forall_mem_cons, List.forall_mem_nil, nthO_succ, nthO_zero]
                  refine ⟨?_, fun _ h => by cases h⟩
                  · skip
                    have kc := kind_cell H6.out K0.out.1 K0.out.2
                    go_wp2_with fail
                    clear kc
                    refine ⟨⟨⟨_, HF.out⟩, rfl⟩, ?_⟩
                    refine any_stepS [15] (by kernel_rfl) ?_
                    simp only [List.forall_mem_cons, List.forall_mem_nil, nthO_succ, nthO_zero]
                    refine ⟨?_, fun _ h => by cases h⟩
                    · skip
                      go_wp2_with fail
                      refine ⟨⟨⟨_, HF.out⟩, rfl⟩, ?_⟩
                      refine any_stepS [17] (by kernel_rfl) ?_
                      simp only [List.forall_mem_cons, List.forall_mem_nil, nthO_succ, nthO_zero]
                      refine ⟨?_, fun _ h => by cases h⟩
                      · skip
                        have hz16 := (Array.getElem?_eq_some_iff.1 H16.out).1
                        have z0 := cell_of (o := 0) H16.out rfl
                        have z1 := cell_of (o := 1) H16.out rfl
                        have z2 := cell_of (o := 2) H16.out rfl
                        have z3 := cell_of (o := 3) H16.out rfl
                        have z4 := cell_of (o := 4) H16.out rfl
                        have z5 := cell_of (o := 5) H16.out rfl
                        have z6 := cell_of (o := 6) H16.out rfl
                        have z7 := cell_of (o := 7) H16.out rfl
                        have y0 := frozen_of (o := 0) H16.out
                        have y1 := frozen_of (o := 1) H16.out
                        have y2 := frozen_of (o := 2) H16.out
                        have y3 := frozen_of (o := 3) H16.out
                        have y4 := frozen_of (o := 4) H16.out
                        have y5 := frozen_of (o := 5) H16.out
                        have y6 := frozen_of (o := 6) H16.out
                        have y7 := frozen_of (o := 7) H16.out
                        go_wp2_with fail
                        have hF := fr8 HF.out Z16.out (pickV x1 5) (kindV (pickV x0 7)) 255 255 0 50000000 0 0
                        have hG := cells8 H16.out (pickV x1 5) (kindV (pickV x0 7)) 255 255 0 50000000 0 0
                        refine ⟨⟨⟨_, hF⟩, rfl⟩, wpAnyH_done (by kernel_rfl) ?_ _⟩
                        exact ⟨B16, _, _, _, _, _, _, _, _, _, _, _, _, _, _, _, _, _, _, rfl, K1.out, kindV_bd _, hG, Z16.out, hF.below (fun _ _ h => h) (Nat.le_refl _)⟩
        · skip
          go_wp2_with fail
          have hb := Lib.hid ((Below.refl v0.heap.size v0).alloc (Nat.le_refl _) (.cells #[.int .i64 0, .int .i64 0, .int .i64 0, .int .i64 0, .int .i64 0, .int .i64 0, .int .i64 0, .int .i64 0] 40))
          have H16 := Lib.hid (heap_new (W := v0) (o := .cells #[.int .i64 0, .int .i64 0, .int .i64 0, .int .i64 0, .int .i64 0, .int .i64 0, .int .i64 0, .int .i64 0] 40) rfl)
          have Z16 := Lib.hid (show wr.heap.size ≤ v0.heap.size from HF.out.size)
          have HF_ := Lib.hid (HF.out.alloc (.cells #[.int .i64 0, .int .i64 0, .int .i64 0, .int .i64 0, .int .i64 0, .int .i64 0, .int .i64 0, .int .i64 0] 40)); clear HF; have HF := HF_; clear HF_
          clear hb
          generalize v0.alloc (.cells #[.int .i64 0, .int .i64 0, .int .i64 0, .int .i64 0, .int .i64 0, .int .i64 0, .int .i64 0, .int .i64 0] 40) = v98 at *
          generalize v0.heap.size = B16 at *
          refine ⟨⟨⟨_, HF.out⟩, rfl⟩, ?_⟩
          refine any_stepS [5, 6] (by kernel_rfl) ?_
          simp only [List.forall_mem_cons, List.forall_mem_nil, nthO_succ, nthO_zero]
          refine ⟨?_, ?_, fun _ h => by cases h⟩
          · skip
            go_wp2_with fail
            refine (P1.out v98).mono ?_
            rintro e v99 ⟨rfl, hd⟩
            have hb := Lib.hid hd.below; clear hd
            go_wp2_with fail
            have HF_ := Lib.hid (HF.out.call hb.out); clear HF; have HF := HF_; clear HF_
            have H_ := Lib.hid ((hb.out.block _ (Array.getElem?_eq_some_iff.1 H16.out).1).trans H16.out); clear H16; have H16 := H_; clear H_
            clear hb
            refine ⟨⟨⟨_, HF.out⟩, rfl⟩, ?_⟩
            refine any_stepS [6, 12] (by kernel_rfl) ?_
            simp only [List.forall_mem_cons, List.forall_mem_nil, nthO_succ, nthO_zero]
            refine ⟨?_, ?_, fun _ h => by cases h⟩
            · skip
              go_wp2_with fail
              have hb := Lib.hid ((Below.refl v99.heap.size v99).alloc (Nat.le_refl _) (.cells #[.int .i64 1, .int .i64 1, .int .i64 1, .int .i64 2, .int .i64 3, .int .i64 4, .int .i64 4] 3))
              have H6 := Lib.hid (heap_new (W := v99) (o := .cells #[.int .i64 1, .int .i64 1, .int .i64 1, .int .i64 2, .int .i64 3, .int .i64 4, .int .i64 4] 3) rfl)
              have Z6 := Lib.hid (show wr.heap.size ≤ v99.heap.size from HF.out.size)
              have HF_ := Lib.hid (HF.out.alloc (.cells #[.int .i64 1, .int .i64 1, .int .i64 1, .int .i64 2, .int .i64 3, .int .i64 4, .int .i64 4] 3)); clear HF; have HF := HF_; clear HF_
              have H_ := Lib.hid ((hb.out.block _ (Array.getElem?_eq_some_iff.1 H16.out).1).trans H16.out); clear H16; have H16 := H_; clear H_
              clear hb
              generalize v99.alloc (.cells #[.int .i64 1, .int .i64 1, .int .i64 1, .int .i64 2, .int .i64 3, .int .i64 4, .int .i64 4] 3) = v100 at *
              generalize v99.heap.size = B6 at *
              refine ⟨⟨⟨_, HF.out⟩, rfl⟩, ?_⟩
              refine any_stepS [12] (by kernel_rfl) ?_
              simp only [List.forall_mem_cons, List.forall_mem_nil, nthO_succ, nthO_zero]
              refine ⟨?_, fun _ h => by cases h⟩
              · skip
                go_wp2_with fail
                refine (P0.out v100).mono ?_
                rintro e v101 ⟨rfl, hd⟩
                have hb := Lib.hid hd.below; clear hd
                go_wp2_with fail
                have HF_ := Lib.hid (HF.out.call hb.out); clear HF; have HF := HF_; clear HF_
                have H_ := Lib.hid ((hb.out.block _ (Array.getElem?_eq_some_iff.1 H6.out).1).trans H6.out); clear H6; have H6 := H_; clear H_
                have H_ := Lib.hid ((hb.out.block _ (Array.getElem?_eq_some_iff.1 H16.out).1).trans H16.out); clear H16; have H16 := H_; clear H_
                clear hb
                refine ⟨⟨⟨_, HF.out⟩, rfl⟩, ?_⟩
                refine any_stepS [13] (by kernel_rfl) ?_
                simp only [List.forall_mem_cons, List.forall_mem_nil, nthO_succ, nthO_zero]
                refine ⟨?_, fun _ h => by cases h⟩
                · skip
                  go_wp2_with fail
                  refine ⟨⟨⟨_, HF.out⟩, rfl⟩, ?_⟩
                  refine any_stepS [14] (by kernel_rfl) ?_
                  simp only [List.forall_mem_cons, List.forall_mem_nil, nthO_succ, nthO_zero]
                  refine ⟨?_, fun _ h => by cases h⟩
                  · skip
                    have kc := kind_cell H6.out K0.out.1 K0.out.2
                    go_wp2_with fail
                    clear kc
                    refine ⟨⟨⟨_, HF.out⟩, rfl⟩, ?_⟩
                    refine any_stepS [15] (by kernel_rfl) ?_
                    simp only [List.forall_mem_cons, List.forall_mem_nil, nthO_succ, nthO_zero]
                    refine ⟨?_, fun _ h => by cases h⟩
                    · skip
                      go_wp2_with fail
                      refine ⟨⟨⟨_, HF.out⟩, rfl⟩, ?_⟩
                      refine any_stepS [17] (by kernel_rfl) ?_
                      simp only [List.forall_mem_cons, List.forall_mem_nil, nthO_succ, nthO_zero]
                      refine ⟨?_, fun _ h => by cases h⟩
                      · skip
                        have hz16 := (Array.getElem?_eq_some_iff.1 H16.out).1
                        have z0 := cell_of (o := 0) H16.out rfl
                        have z1 := cell_of (o := 1) H16.out rfl
                        have z2 := cell_of (o := 2) H16.out rfl
                        have z3 := cell_of (o := 3) H16.out rfl
                        have z4 := cell_of (o := 4) H16.out rfl
                        have z5 := cell_of (o := 5) H16.out rfl
                        have z6 := cell_of (o := 6) H16.out rfl
                        have z7 := cell_of (o := 7) H16.out rfl
                        have y0 := frozen_of (o := 0) H16.out
                        have y1 := frozen_of (o := 1) H16.out
                        have y2 := frozen_of (o := 2) H16.out
                        have y3 := frozen_of (o := 3) H16.out
                        have y4 := frozen_of (o := 4) H16.out
                        have y5 := frozen_of (o := 5) H16.out
                        have y6 := frozen_of (o := 6) H16.out
                        have y7 := frozen_of (o := 7) H16.out
                        go_wp2_with fail
                        have hF := fr8 HF.out Z16.out (pickV x1 5) (kindV (pickV x0 7)) 255 255 0 50000000 0 0
                        have hG := cells8 H16.out (pickV x1 5) (kindV (pickV x0 7)) 255 255 0 50000000 0 0
                        refine ⟨⟨⟨_, hF⟩, rfl⟩, wpAnyH_done (by kernel_rfl) ?_ _⟩
                        exact ⟨B16, _, _, _, _, _, _, _, _, _, _, _, _, _, _, _, _, _, _, rfl, K1.out, kindV_bd _, hG, Z16.out, hF.below (fun _ _ h => h) (Nat.le_refl _)⟩
            · skip
              go_wp2_with fail
              refine (P0.out v99).mono ?_
              rintro e v106 ⟨rfl, hd⟩
              have hb := Lib.hid hd.below; clear hd
              go_wp2_with fail
              have HF_ := Lib.hid (HF.out.call hb.out); clear HF; have HF := HF_; clear HF_
              have H_ := Lib.hid ((hb.out.block _ (Array.getElem?_eq_some_iff.1 H16.out).1).trans H16.out); clear H16; have H16 := H_; clear H_
              clear hb
              refine ⟨⟨⟨_, HF.out⟩, rfl⟩, ?_⟩
              refine any_stepS [6] (by kernel_rfl) ?_
              simp only [List.forall_mem_cons, List.forall_mem_nil, nthO_succ, nthO_zero]
              refine ⟨?_, fun _ h => by cases h⟩
              · skip
                go_wp2_with fail
                have hb := Lib.hid ((Below.refl v106.heap.size v106).alloc (Nat.le_refl _) (.cells #[.int .i64 1, .int .i64 1, .int .i64 1, .int .i64 2, .int .i64 3, .int .i64 4, .int .i64 4] 3))
                have H6 := Lib.hid (heap_new (W := v106) (o := .cells #[.int .i64 1, .int .i64 1, .int .i64 1, .int .i64 2, .int .i64 3, .int .i64 4, .int .i64 4] 3) rfl)
                have Z6 := Lib.hid (show wr.heap.size ≤ v106.heap.size from HF.out.size)
                have HF_ := Lib.hid (HF.out.alloc (.cells #[.int .i64 1, .int .i64 1, .int .i64 1, .int .i64 2, .int .i64 3, .int .i64 4, .int .i64 4] 3)); clear HF; have HF := HF_; clear HF_
                have H_ := Lib.hid ((hb.out.block _ (Array.getElem?_eq_some_iff.1 H16.out).1).trans H16.out); clear H16; have H16 := H_; clear H_
                clear hb
                generalize v106.alloc (.cells #[.int .i64 1, .int .i64 1, .int .i64 1, .int .i64 2, .int .i64 3, .int .i64 4, .int .i64 4] 3) = v107 at *
                generalize v106.heap.size = B6 at *
                refine ⟨⟨⟨_, HF.out⟩, rfl⟩, ?_⟩
                refine any_stepS [13] (by kernel_rfl) ?_
                simp only [List.forall_mem_cons, List.forall_mem_nil, nthO_succ, nthO_zero]
                refine ⟨?_, fun _ h => by cases h⟩
                · skip
                  go_wp2_with fail
                  refine ⟨⟨⟨_, HF.out⟩, rfl⟩, ?_⟩
                  refine any_stepS [14] (by kernel_rfl) ?_
                  simp only [List.forall_mem_cons, List.forall_mem_nil, nthO_succ, nthO_zero]
                  refine ⟨?_, fun _ h => by cases h⟩
                  · skip
                    have kc := kind_cell H6.out K0.out.1 K0.out.2
                    go_wp2_with fail
                    clear kc
                    refine ⟨⟨⟨_, HF.out⟩, rfl⟩, ?_⟩
                    refine any_stepS [15] (by kernel_rfl) ?_
                    simp only [List.forall_mem_cons, List.forall_mem_nil, nthO_succ, nthO_zero]
                    refine ⟨?_, fun _ h => by cases h⟩
                    · skip
                      go_wp2_with fail
                      refine ⟨⟨⟨_, HF.out⟩, rfl⟩, ?_⟩
                      refine any_stepS [17] (by kernel_rfl) ?_
                      simp only [List.forall_mem_cons, List.forall_mem_nil, nthO_succ, nthO_zero]
                      refine ⟨?_, fun _ h => by cases h⟩
                      · skip
                        have hz16 := (Array.getElem?_eq_some_iff.1 H16.out).1
                        have z0 := cell_of (o := 0) H16.out rfl
                        have z1 := cell_of (o := 1) H16.out rfl
                        have z2 := cell_of (o := 2) H16.out rfl
                        have z3 := cell_of (o := 3) H16.out rfl
                        have z4 := cell_of (o := 4) H16.out rfl
                        have z5 := cell_of (o := 5) H16.out rfl
                        have z6 := cell_of (o := 6) H16.out rfl
                        have z7 := cell_of (o := 7) H16.out rfl
                        have y0 := frozen_of (o := 0) H16.out
                        have y1 := frozen_of (o := 1) H16.out
                        have y2 := frozen_of (o := 2) H16.out
                        have y3 := frozen_of (o := 3) H16.out
                        have y4 := frozen_of (o := 4) H16.out
                        have y5 := frozen_of (o := 5) H16.out
                        have y6 := frozen_of (o := 6) H16.out
                        have y7 := frozen_of (o := 7) H16.out
                        go_wp2_with fail
                        have hF := fr8 HF.out Z16.out (pickV x1 5) (kindV (pickV x0 7)) 255 255 0 50000000 0 0
                        have hG := cells8 H16.out (pickV x1 5) (kindV (pickV x0 7)) 255 255 0 50000000 0 0
                        refine ⟨⟨⟨_, hF⟩, rfl⟩, wpAnyH_done (by kernel_rfl) ?_ _⟩
                        exact ⟨B16, _, _, _, _, _, _, _, _, _, _, _, _, _, _, _, _, _, _, rfl, K1.out, kindV_bd _, hG, Z16.out, hF.below (fun _ _ h => h) (Nat.le_refl _)⟩
          · skip
            go_wp2_with fail
            have hb := Lib.hid ((Below.refl v98.heap.size v98).alloc (Nat.le_refl _) (.cells #[.int .i64 1, .int .i64 1, .int .i64 1, .int .i64 2, .int .i64 3, .int .i64 4, .int .i64 4] 3))
            have H6 := Lib.hid (heap_new (W := v98) (o := .cells #[.int .i64 1, .int .i64 1, .int .i64 1, .int .i64 2, .int .i64 3, .int .i64 4, .int .i64 4] 3) rfl)
            have Z6 := Lib.hid (show wr.heap.size ≤ v98.heap.size from HF.out.size)
            have HF_ := Lib.hid (HF.out.alloc (.cells #[.int .i64 1, .int .i64 1, .int .i64 1, .int .i64 2, .int .i64 3, .int .i64 4, .int .i64 4] 3)); clear HF; have HF := HF_; clear HF_
            have H_ := Lib.hid ((hb.out.block _ (Array.getElem?_eq_some_iff.1 H16.out).1).trans H16.out); clear H16; have H16 := H_; clear H_
            clear hb
            generalize v98.alloc (.cells #[.int .i64 1, .int .i64 1, .int .i64 1, .int .i64 2, .int .i64 3, .int .i64 4, .int .i64 4] 3) = v112 at *
            generalize v98.heap.size = B6 at *
            refine ⟨⟨⟨_, HF.out⟩, rfl⟩, ?_⟩
            refine any_stepS [5] (by kernel_rfl) ?_
            simp only [List.forall_mem_cons, List.forall_mem_nil, nthO_succ, nthO_zero]
            refine ⟨?_, fun _ h => by cases h⟩
            · skip
              go_wp2_with fail
              refine (P1.out v112).mono ?_
              rintro e v113 ⟨rfl, hd⟩
              have hb := Lib.hid hd.below; clear hd
              go_wp2_with fail
              have HF_ := Lib.hid (HF.out.call hb.out); clear HF; have HF := HF_; clear HF_
              have H_ := Lib.hid ((hb.out.block _ (Array.getElem?_eq_some_iff.1 H6.out).1).trans H6.out); clear H6; have H6 := H_; clear H_
              have H_ := Lib.hid ((hb.out.block _ (Array.getElem?_eq_some_iff.1 H16.out).1).trans H16.out); clear H16; have H16 := H_; clear H_
              clear hb
              refine ⟨⟨⟨_, HF.out⟩, rfl⟩, ?_⟩
              refine any_stepS [12] (by kernel_rfl) ?_
              simp only [List.forall_mem_cons, List.forall_mem_nil, nthO_succ, nthO_zero]
              refine ⟨?_, fun _ h => by cases h⟩
              · skip
                go_wp2_with fail
                refine (P0.out v113).mono ?_
                rintro e v114 ⟨rfl, hd⟩
                have hb := Lib.hid hd.below; clear hd
                go_wp2_with fail
                have HF_ := Lib.hid (HF.out.call hb.out); clear HF; have HF := HF_; clear HF_
                have H_ := Lib.hid ((hb.out.block _ (Array.getElem?_eq_some_iff.1 H6.out).1).trans H6.out); clear H6; have H6 := H_; clear H_
                have H_ := Lib.hid ((hb.out.block _ (Array.getElem?_eq_some_iff.1 H16.out).1).trans H16.out); clear H16; have H16 := H_; clear H_
                clear hb
                refine ⟨⟨⟨_, HF.out⟩, rfl⟩, ?_⟩
                refine any_stepS [13] (by kernel_rfl) ?_
                simp only [List.forall_mem_cons, List.forall_mem_nil, nthO_succ, nthO_zero]
                refine ⟨?_, fun _ h => by cases h⟩
                · skip
                  go_wp2_with fail
                  refine ⟨⟨⟨_, HF.out⟩, rfl⟩, ?_⟩
                  refine any_stepS [14] (by kernel_rfl) ?_
                  simp only [List.forall_mem_cons, List.forall_mem_nil, nthO_succ, nthO_zero]
                  refine ⟨?_, fun _ h => by cases h⟩
                  · skip
                    have kc := kind_cell H6.out K0.out.1 K0.out.2
                    go_wp2_with fail
                    clear kc
                    refine ⟨⟨⟨_, HF.out⟩, rfl⟩, ?_⟩
                    refine any_stepS [15] (by kernel_rfl) ?_
                    simp only [List.forall_mem_cons, List.forall_mem_nil, nthO_succ, nthO_zero]
                    refine ⟨?_, fun _ h => by cases h⟩
                    · skip
                      go_wp2_with fail
                      refine ⟨⟨⟨_, HF.out⟩, rfl⟩, ?_⟩
                      refine any_stepS [17] (by kernel_rfl) ?_
                      simp only [List.forall_mem_cons, List.forall_mem_nil, nthO_succ, nthO_zero]
                      refine ⟨?_, fun _ h => by cases h⟩
                      · skip
                        have hz16 := (Array.getElem?_eq_some_iff.1 H16.out).1
                        have z0 := cell_of (o := 0) H16.out rfl
                        have z1 := cell_of (o := 1) H16.out rfl
                        have z2 := cell_of (o := 2) H16.out rfl
                        have z3 := cell_of (o := 3) H16.out rfl
                        have z4 := cell_of (o := 4) H16.out rfl
                        have z5 := cell_of (o := 5) H16.out rfl
                        have z6 := cell_of (o := 6) H16.out rfl
                        have z7 := cell_of (o := 7) H16.out rfl
                        have y0 := frozen_of (o := 0) H16.out
                        have y1 := frozen_of (o := 1) H16.out
                        have y2 := frozen_of (o := 2) H16.out
                        have y3 := frozen_of (o := 3) H16.out
                        have y4 := frozen_of (o := 4) H16.out
                        have y5 := frozen_of (o := 5) H16.out
                        have y6 := frozen_of (o := 6) H16.out
                        have y7 := frozen_of (o := 7) H16.out
                        go_wp2_with fail
                        have hF := fr8 HF.out Z16.out (pickV x1 5) (kindV (pickV x0 7)) 255 255 0 50000000 0 0
                        have hG := cells8 H16.out (pickV x1 5) (kindV (pickV x0 7)) 255 255 0 50000000 0 0
                        refine ⟨⟨⟨_, hF⟩, rfl⟩, wpAnyH_done (by kernel_rfl) ?_ _⟩
                        exact ⟨B16, _, _, _, _, _, _, _, _, _, _, _, _, _, _, _, _, _, _, rfl, K1.out, kindV_bd _, hG, Z16.out, hF.below (fun _ _ h => h) (Nat.le_refl _)⟩
      · rintro a V ⟨b, f0, f1, q16, q17, q18, q19, q20, q21, q22, q23, q24, q25, q26, q27, q28, q29, q30, q31, rfl, hf0, hf1, hH, hzb, hbl⟩
        apply_assumption
        have HM := Lib.hid (MS.mk hH hbl hzb); clear hH hbl hzb
        have z0 := cell_of (o := 0) HM.out.h rfl
        have z1 := cell_of (o := 1) HM.out.h rfl
        have z2 := cell_of (o := 2) HM.out.h rfl
        have z3 := cell_of (o := 3) HM.out.h rfl
        have z4 := cell_of (o := 4) HM.out.h rfl
        have z5 := cell_of (o := 5) HM.out.h rfl
        have z6 := cell_of (o := 6) HM.out.h rfl
        have z7 := cell_of (o := 7) HM.out.h rfl
        have y0 := frozen_of (o := 0) HM.out.h
        have y1 := frozen_of (o := 1) HM.out.h
        have y2 := frozen_of (o := 2) HM.out.h
        have y3 := frozen_of (o := 3) HM.out.h
        have y4 := frozen_of (o := 4) HM.out.h
        have y5 := frozen_of (o := 5) HM.out.h
        have y6 := frozen_of (o := 6) HM.out.h
        have y7 := frozen_of (o := 7) HM.out.h
        have c2 := pw_cell_below HM.out.below HC.out.2.2.1
        have c3 := pw_cell_below HM.out.below HC.out.2.2.2.1
        have c4 := pw_cell_below HM.out.below HC.out.2.2.2.2
        have hne : ¬ (ad.add (k * 5)).block = b := fun h => by have := Go.block_lt_of_cell HC.out.1; have := HM.out.le; omega
        have hzb := (Array.getElem?_eq_some_iff.1 HM.out.h).1
        go_wp2_with fail
        refine (pick_any x2 4 a2 b2 (by decide) V).mono ?_
        rintro e V1 ⟨rfl, hd⟩
        clear z0 z1 z2 z3 z4 z5 z6 z7 y0 y1 y2 y3 y4 y5 y6 y7 c2 c3 c4 hne hzb
        have HM_ := Lib.hid (HM.out.call hd.below); clear HM hd; have HM := HM_; clear HM_
        have z0 := cell_of (o := 0) HM.out.h rfl
        have z1 := cell_of (o := 1) HM.out.h rfl
        have z2 := cell_of (o := 2) HM.out.h rfl
        have z3 := cell_of (o := 3) HM.out.h rfl
        have z4 := cell_of (o := 4) HM.out.h rfl
        have z5 := cell_of (o := 5) HM.out.h rfl
        have z6 := cell_of (o := 6) HM.out.h rfl
        have z7 := cell_of (o := 7) HM.out.h rfl
        have y0 := frozen_of (o := 0) HM.out.h
        have y1 := frozen_of (o := 1) HM.out.h
        have y2 := frozen_of (o := 2) HM.out.h
        have y3 := frozen_of (o := 3) HM.out.h
        have y4 := frozen_of (o := 4) HM.out.h
        have y5 := frozen_of (o := 5) HM.out.h
        have y6 := frozen_of (o := 6) HM.out.h
        have y7 := frozen_of (o := 7) HM.out.h
        have c2 := pw_cell_below HM.out.below HC.out.2.2.1
        have c3 := pw_cell_below HM.out.below HC.out.2.2.2.1
        have c4 := pw_cell_below HM.out.below HC.out.2.2.2.2
        have hne : ¬ (ad.add (k * 5)).block = b := fun h => by have := Go.block_lt_of_cell HC.out.1; have := HM.out.le; omega
        have hzb := (Array.getElem?_eq_some_iff.1 HM.out.h).1
        by_cases ht : pickV x2 4 = 0
        · have qt : (pickV x2 4 == 0) = true := by simp [ht]
          go_wp2_with fail
          have t4 := tdiv_bd a2 b2 (n := 4) (by decide)
          have t5 := tdiv_bd a2 b2 (n := 1024) (by decide)
          have t6 := tdiv_bd a3 b3 (n := 20) (by decide)
          have k4 := pickV_bd (a := x2.tdiv 4) (n := 256) (by decide)
          have k5 := pickV_bd (a := x2.tdiv 1024) (n := 8) (by decide)
          have k6 := pickV_bd (a := x3) (n := 20) (by decide)
          have k7 := pickV_bd (a := x3.tdiv 20) (n := 40) (by decide)
          refine (pick_any (x2.tdiv 4) 256 t4.1 t4.2 (by decide) _).mono ?_
          rintro e V2 ⟨rfl, hd⟩
          clear z0 z1 z2 z3 z4 z5 z6 z7 y0 y1 y2 y3 y4 y5 y6 y7 c2 c3 c4 hne hzb
          have HM_ := Lib.hid (HM.out.call hd.below); clear HM hd; have HM := HM_; clear HM_
          have z0 := cell_of (o := 0) HM.out.h rfl
          have z1 := cell_of (o := 1) HM.out.h rfl
          have z2 := cell_of (o := 2) HM.out.h rfl
          have z3 := cell_of (o := 3) HM.out.h rfl
          have z4 := cell_of (o := 4) HM.out.h rfl
          have z5 := cell_of (o := 5) HM.out.h rfl
          have z6 := cell_of (o := 6) HM.out.h rfl
          have z7 := cell_of (o := 7) HM.out.h rfl
          have y0 := frozen_of (o := 0) HM.out.h
          have y1 := frozen_of (o := 1) HM.out.h
          have y2 := frozen_of (o := 2) HM.out.h
          have y3 := frozen_of (o := 3) HM.out.h
          have y4 := frozen_of (o := 4) HM.out.h
          have y5 := frozen_of (o := 5) HM.out.h
          have y6 := frozen_of (o := 6) HM.out.h
          have y7 := frozen_of (o := 7) HM.out.h
          have c2 := pw_cell_below HM.out.below HC.out.2.2.1
          have c3 := pw_cell_below HM.out.below HC.out.2.2.2.1
          have c4 := pw_cell_below HM.out.below HC.out.2.2.2.2
          have hne : ¬ (ad.add (k * 5)).block = b := fun h => by have := Go.block_lt_of_cell HC.out.1; have := HM.out.le; omega
          have hzb := (Array.getElem?_eq_some_iff.1 HM.out.h).1
          go_wp2_with fail
          have HM_ := Lib.hid (HM.out.set2 (pickV (x2.tdiv 4) 256)); clear HM; have HM := HM_; clear HM_
          clear z0 z1 z2 z3 z4 z5 z6 z7 y0 y1 y2 y3 y4 y5 y6 y7 c2 c3 c4 hne hzb
          generalize V2.setCell ⟨b, 2, none⟩ (.int .i64 (pickV (x2.tdiv 4) 256)) = V3 at *
          have z0 := cell_of (o := 0) HM.out.h rfl
          have z1 := cell_of (o := 1) HM.out.h rfl
          have z2 := cell_of (o := 2) HM.out.h rfl
          have z3 := cell_of (o := 3) HM.out.h rfl
          have z4 := cell_of (o := 4) HM.out.h rfl
          have z5 := cell_of (o := 5) HM.out.h rfl
          have z6 := cell_of (o := 6) HM.out.h rfl
          have z7 := cell_of (o := 7) HM.out.h rfl
          have y0 := frozen_of (o := 0) HM.out.h
          have y1 := frozen_of (o := 1) HM.out.h
          have y2 := frozen_of (o := 2) HM.out.h
          have y3 := frozen_of (o := 3) HM.out.h
          have y4 := frozen_of (o := 4) HM.out.h
          have y5 := frozen_of (o := 5) HM.out.h
          have y6 := frozen_of (o := 6) HM.out.h
          have y7 := frozen_of (o := 7) HM.out.h
          have c2 := pw_cell_below HM.out.below HC.out.2.2.1
          have c3 := pw_cell_below HM.out.below HC.out.2.2.2.1
          have c4 := pw_cell_below HM.out.below HC.out.2.2.2.2
          have hne : ¬ (ad.add (k * 5)).block = b := fun h => by have := Go.block_lt_of_cell HC.out.1; have := HM.out.le; omega
          have hzb := (Array.getElem?_eq_some_iff.1 HM.out.h).1
          refine (pick_any (x2.tdiv 1024) 8 t5.1 t5.2 (by decide) _).mono ?_
          rintro e V4 ⟨rfl, hd⟩
          clear z0 z1 z2 z3 z4 z5 z6 z7 y0 y1 y2 y3 y4 y5 y6 y7 c2 c3 c4 hne hzb
          have HM_ := Lib.hid (HM.out.call hd.below); clear HM hd; have HM := HM_; clear HM_
          have z0 := cell_of (o := 0) HM.out.h rfl
          have z1 := cell_of (o := 1) HM.out.h rfl
          have z2 := cell_of (o := 2) HM.out.h rfl
          have z3 := cell_of (o := 3) HM.out.h rfl
          have z4 := cell_of (o := 4) HM.out.h rfl
          have z5 := cell_of (o := 5) HM.out.h rfl
          have z6 := cell_of (o := 6) HM.out.h rfl
          have z7 := cell_of (o := 7) HM.out.h rfl
          have y0 := frozen_of (o := 0) HM.out.h
          have y1 := frozen_of (o := 1) HM.out.h
          have y2 := frozen_of (o := 2) HM.out.h
          have y3 := frozen_of (o := 3) HM.out.h
          have y4 := frozen_of (o := 4) HM.out.h
          have y5 := frozen_of (o := 5) HM.out.h
          have y6 := frozen_of (o := 6) HM.out.h
          have y7 := frozen_of (o := 7) HM.out.h
          have c2 := pw_cell_below HM.out.below HC.out.2.2.1
          have c3 := pw_cell_below HM.out.below HC.out.2.2.2.1
          have c4 := pw_cell_below HM.out.below HC.out.2.2.2.2
          have hne : ¬ (ad.add (k * 5)).block = b := fun h => by have := Go.block_lt_of_cell HC.out.1; have := HM.out.le; omega
          have hzb := (Array.getElem?_eq_some_iff.1 HM.out.h).1
          go_wp2_with fail
          have HM_ := Lib.hid (HM.out.set3 (255 - pickV (x2.tdiv 1024) 8)); clear HM; have HM := HM_; clear HM_
          clear z0 z1 z2 z3 z4 z5 z6 z7 y0 y1 y2 y3 y4 y5 y6 y7 c2 c3 c4 hne hzb
          generalize V4.setCell ⟨b, 3, none⟩ (.int .i64 (255 - pickV (x2.tdiv 1024) 8)) = V5 at *
          have z0 := cell_of (o := 0) HM.out.h rfl
          have z1 := cell_of (o := 1) HM.out.h rfl
          have z2 := cell_of (o := 2) HM.out.h rfl
          have z3 := cell_of (o := 3) HM.out.h rfl
          have z4 := cell_of (o := 4) HM.out.h rfl
          have z5 := cell_of (o := 5) HM.out.h rfl
          have z6 := cell_of (o := 6) HM.out.h rfl
          have z7 := cell_of (o := 7) HM.out.h rfl
          have y0 := frozen_of (o := 0) HM.out.h
          have y1 := frozen_of (o := 1) HM.out.h
          have y2 := frozen_of (o := 2) HM.out.h
          have y3 := frozen_of (o := 3) HM.out.h
          have y4 := frozen_of (o := 4) HM.out.h
          have y5 := frozen_of (o := 5) HM.out.h
          have y6 := frozen_of (o := 6) HM.out.h
          have y7 := frozen_of (o := 7) HM.out.h
          have c2 := pw_cell_below HM.out.below HC.out.2.2.1
          have c3 := pw_cell_below HM.out.below HC.out.2.2.2.1
          have c4 := pw_cell_below HM.out.below HC.out.2.2.2.2
          have hne : ¬ (ad.add (k * 5)).block = b := fun h => by have := Go.block_lt_of_cell HC.out.1; have := HM.out.le; omega
          have hzb := (Array.getElem?_eq_some_iff.1 HM.out.h).1
          refine (pick_any x3 20 a3 b3 (by decide) _).mono ?_
          rintro e V6 ⟨rfl, hd⟩
          clear z0 z1 z2 z3 z4 z5 z6 z7 y0 y1 y2 y3 y4 y5 y6 y7 c2 c3 c4 hne hzb
          have HM_ := Lib.hid (HM.out.call hd.below); clear HM hd; have HM := HM_; clear HM_
          have z0 := cell_of (o := 0) HM.out.h rfl
          have z1 := cell_of (o := 1) HM.out.h rfl
          have z2 := cell_of (o := 2) HM.out.h rfl
          have z3 := cell_of (o := 3) HM.out.h rfl
          have z4 := cell_of (o := 4) HM.out.h rfl
          have z5 := cell_of (o := 5) HM.out.h rfl
          have z6 := cell_of (o := 6) HM.out.h rfl
          have z7 := cell_of (o := 7) HM.out.h rfl
          have y0 := frozen_of (o := 0) HM.out.h
          have y1 := frozen_of (o := 1) HM.out.h
          have y2 := frozen_of (o := 2) HM.out.h
          have y3 := frozen_of (o := 3) HM.out.h
          have y4 := frozen_of (o := 4) HM.out.h
          have y5 := frozen_of (o := 5) HM.out.h
          have y6 := frozen_of (o := 6) HM.out.h
          have y7 := frozen_of (o := 7) HM.out.h
          have c2 := pw_cell_below HM.out.below HC.out.2.2.1
          have c3 := pw_cell_below HM.out.below HC.out.2.2.2.1
          have c4 := pw_cell_below HM.out.below HC.out.2.2.2.2
          have hne : ¬ (ad.add (k * 5)).block = b := fun h => by have := Go.block_lt_of_cell HC.out.1; have := HM.out.le; omega
          have hzb := (Array.getElem?_eq_some_iff.1 HM.out.h).1
          go_wp2_with fail
          have HM_ := Lib.hid (HM.out.set4 (pickV x3 20)); clear HM; have HM := HM_; clear HM_
          clear z0 z1 z2 z3 z4 z5 z6 z7 y0 y1 y2 y3 y4 y5 y6 y7 c2 c3 c4 hne hzb
          generalize V6.setCell ⟨b, 4, none⟩ (.int .i64 (pickV x3 20)) = V7 at *
          have z0 := cell_of (o := 0) HM.out.h rfl
          have z1 := cell_of (o := 1) HM.out.h rfl
          have z2 := cell_of (o := 2) HM.out.h rfl
          have z3 := cell_of (o := 3) HM.out.h rfl
          have z4 := cell_of (o := 4) HM.out.h rfl
          have z5 := cell_of (o := 5) HM.out.h rfl
          have z6 := cell_of (o := 6) HM.out.h rfl
          have z7 := cell_of (o := 7) HM.out.h rfl
          have y0 := frozen_of (o := 0) HM.out.h
          have y1 := frozen_of (o := 1) HM.out.h
          have y2 := frozen_of (o := 2) HM.out.h
          have y3 := frozen_of (o := 3) HM.out.h
          have y4 := frozen_of (o := 4) HM.out.h
          have y5 := frozen_of (o := 5) HM.out.h
          have y6 := frozen_of (o := 6) HM.out.h
          have y7 := frozen_of (o := 7) HM.out.h
          have c2 := pw_cell_below HM.out.below HC.out.2.2.1
          have c3 := pw_cell_below HM.out.below HC.out.2.2.2.1
          have c4 := pw_cell_below HM.out.below HC.out.2.2.2.2
          have hne : ¬ (ad.add (k * 5)).block = b := fun h => by have := Go.block_lt_of_cell HC.out.1; have := HM.out.le; omega
          have hzb := (Array.getElem?_eq_some_iff.1 HM.out.h).1
          have z4 := cell_ext z4
          have c3 := cell_ext c3
          have HP := Lib.hid (fun X : Ext V7 => (pick_any (x3.tdiv 20) 40 t6.1 t6.2 (by decide) X.val).mono (fun _ _ h => And.intro h.1 h.2.below))
          go_wp2_with fail
          refine region_tail [0, 1, 2, 3, 4, 5, 6, 7, 8, 9, 10] [11] (by kernel_rfl) (by kernel_rfl) ?_
          simp only [pick_cons, pick_nil, nthO_succ, nthO_zero]
          repeat (go_big_quiet_step ((go_at_call 36; with_reducible exact call_ext (HP.out _))))
          refine wpQuiet_nil ?_
          rintro W' ⟨X, rfl⟩
          clear z0 z1 z2 z3 z4 z5 z6 z7 y0 y1 y2 y3 y4 y5 y6 y7 c2 c3 c4 hne hzb
          have HM_ := Lib.hid (HM.out.ext X.2); clear HM HP; have HM := HM_; clear HM_
          rcases hf1 with rfl | rfl | rfl | rfl
          · skip
            have HM0 := HM
            have HM_ := Lib.hid (HM.out.set5 (pickV x3 20 + pickV (x3.tdiv 20) 40)); clear HM; have HM := HM_; clear HM_
            try clear z0
            try clear z1
            try clear z2
            try clear z3
            try clear z4
            try clear z5
            try clear z6
            try clear z7
            try clear y0
            try clear y1
            try clear y2
            try clear y3
            try clear y4
            try clear y5
            try clear y6
            try clear y7
            try clear c2
            try clear c3
            try clear c4
            try clear hne
            try clear hzb
            have hvl : vld ⟨f0, 1, pickV (x2.tdiv 4) 256, 255 - pickV (x2.tdiv 1024) 8, pickV x3 20, pickV x3 20 + pickV (x3.tdiv 20) 40, 0, 0⟩ = true := by simp only [vld, isWk, inR, timesOk, fieldsOk]; simp; omega
            have hbA := HM.out.below.alloc (Nat.le_trans HM.out.below.size (Nat.le_refl _)) (.cells (clc ⟨f0, 1, pickV (x2.tdiv 4) 256, 255 - pickV (x2.tdiv 1024) 8, pickV x3 20, pickV x3 20 + pickV (x3.tdiv 20) 40, 0, 0⟩) 40)
            have hbW := HI.out.2.2.2.trans (hbA.mono HI.out.2.2.2.size)
            have HOX := Lib.hid (And.intro (Kd.R_below HI.out.1 hbA) (And.intro (clrowC ⟨f0, 1, pickV (x2.tdiv 4) 256, 255 - pickV (x2.tdiv 1024) 8, pickV x3 20, pickV x3 20 + pickV (x3.tdiv 20) 40, 0, 0⟩ (heap_new (W := (X.val.setCell ⟨b, 5, none⟩ (.int .i64 (pickV x3 20 + pickV (x3.tdiv 20) 40)))) (o := .cells (clc ⟨f0, 1, pickV (x2.tdiv 4) 256, 255 - pickV (x2.tdiv 1024) 8, pickV x3 20, pickV x3 20 + pickV (x3.tdiv 20) 40, 0, 0⟩) 40) (k := X.val.heap.size) (by simp [World.setCell]))) (And.intro (Nat.le_trans HI.out.2.2.2.size hbA.size) hbW)))
            clear hbA hbW
            simp only [clc] at HOX
            have HV := Lib.hid hvl; clear hvl
            have z0 := cell_of (o := 0) HM0.out.h rfl
            have z1 := cell_of (o := 1) HM0.out.h rfl
            have z2 := cell_of (o := 2) HM0.out.h rfl
            have z3 := cell_of (o := 3) HM0.out.h rfl
            have z4 := cell_of (o := 4) HM0.out.h rfl
            have z5 := cell_of (o := 5) HM0.out.h rfl
            have z6 := cell_of (o := 6) HM0.out.h rfl
            have z7 := cell_of (o := 7) HM0.out.h rfl
            have y0 := frozen_of (o := 0) HM0.out.h
            have y1 := frozen_of (o := 1) HM0.out.h
            have y2 := frozen_of (o := 2) HM0.out.h
            have y3 := frozen_of (o := 3) HM0.out.h
            have y4 := frozen_of (o := 4) HM0.out.h
            have y5 := frozen_of (o := 5) HM0.out.h
            have y6 := frozen_of (o := 6) HM0.out.h
            have y7 := frozen_of (o := 7) HM0.out.h
            have c2 := pw_cell_below HM0.out.below HC.out.2.2.1
            have c3 := pw_cell_below HM0.out.below HC.out.2.2.2.1
            have c4 := pw_cell_below HM0.out.below HC.out.2.2.2.2
            have hne : ¬ (ad.add (k * 5)).block = b := fun h => by have := Go.block_lt_of_cell HC.out.1; have := HM0.out.le; omega
            have hzb := (Array.getElem?_eq_some_iff.1 HM0.out.h).1
            go_wp2_with (at_builtin; go_loud (refine Kd.R_append_rows k40 (w0 := w) (Rr := k40.K _) w.heap.size rfl (.tmp 99) (.tmp 101) 24 40 (.agg #[.int .i64 0, .int .i64 0, .int .i64 0, .int .i64 0, .int .i64 0, .int .i64 0, .int .i64 0, .int .i64 0]) 64 rfl Tryd.underlying24 info40 rfl (by decide) (by decide) _ l [⟨f0, 1, pickV (x2.tdiv 4) 256, 255 - pickV (x2.tdiv 1024) 8, pickV x3 20, pickV x3 20 + pickV (x3.tdiv 20) 40, 0, 0⟩] _ 1 1 (fun k => w.heap.size ≤ k) (fun _ => False) rfl rfl HOX.out.1 HOX.out.2.1 (fun x cs h => by rw [k40_open h]; exact k40_mkM _ _ _ x) (fun _ h => h.elim) (fun k hk => Nat.le_trans HOX.out.2.2.1 hk) HOX.out.2.2.2 HOX.out.2.2.1 (by have := HI.out.2.1; first | omega | (simp; omega)) ?_; intro v1 w7 h1 h2 h3 h4))
            have HJ := Lib.hid (And.intro h1 h2); clear h1 h2 h3 h4
            clear z0 z1 z2 z3 z4 z5 z6 z7 y0 y1 y2 y3 y4 y5 y6 y7 c2 c3 c4 hne hzb
            try clear HM0
            go_wp2_with fail
            go_roundw
            case rel => exact ⟨k + 1, by go_num, by omega, by omega, _, Lib.hid ⟨HJ.out.1, by have := HI.out.2.1; simp; omega, by rw [List.all_append, HI.out.2.2.1]; simp [HV.out], HJ.out.2⟩⟩
            case measure => simp [intOf]; omega
          · skip
            have HM0 := HM
            have HM_ := Lib.hid (HM.out.set5 (pickV x3 20 + pickV (x3.tdiv 20) 40)); clear HM; have HM := HM_; clear HM_
            try clear z0
            try clear z1
            try clear z2
            try clear z3
            try clear z4
            try clear z5
            try clear z6
            try clear z7
            try clear y0
            try clear y1
            try clear y2
            try clear y3
            try clear y4
            try clear y5
            try clear y6
            try clear y7
            try clear c2
            try clear c3
            try clear c4
            try clear hne
            try clear hzb
            have hvl : vld ⟨f0, 2, pickV (x2.tdiv 4) 256, 255 - pickV (x2.tdiv 1024) 8, pickV x3 20, pickV x3 20 + pickV (x3.tdiv 20) 40, 0, 0⟩ = true := by simp only [vld, isWk, inR, timesOk, fieldsOk]; simp; omega
            have hbA := HM.out.below.alloc (Nat.le_trans HM.out.below.size (Nat.le_refl _)) (.cells (clc ⟨f0, 2, pickV (x2.tdiv 4) 256, 255 - pickV (x2.tdiv 1024) 8, pickV x3 20, pickV x3 20 + pickV (x3.tdiv 20) 40, 0, 0⟩) 40)
            have hbW := HI.out.2.2.2.trans (hbA.mono HI.out.2.2.2.size)
            have HOX := Lib.hid (And.intro (Kd.R_below HI.out.1 hbA) (And.intro (clrowC ⟨f0, 2, pickV (x2.tdiv 4) 256, 255 - pickV (x2.tdiv 1024) 8, pickV x3 20, pickV x3 20 + pickV (x3.tdiv 20) 40, 0, 0⟩ (heap_new (W := (X.val.setCell ⟨b, 5, none⟩ (.int .i64 (pickV x3 20 + pickV (x3.tdiv 20) 40)))) (o := .cells (clc ⟨f0, 2, pickV (x2.tdiv 4) 256, 255 - pickV (x2.tdiv 1024) 8, pickV x3 20, pickV x3 20 + pickV (x3.tdiv 20) 40, 0, 0⟩) 40) (k := X.val.heap.size) (by simp [World.setCell]))) (And.intro (Nat.le_trans HI.out.2.2.2.size hbA.size) hbW)))
            clear hbA hbW
            simp only [clc] at HOX
            have HV := Lib.hid hvl; clear hvl
            have z0 := cell_of (o := 0) HM0.out.h rfl
            have z1 := cell_of (o := 1) HM0.out.h rfl
            have z2 := cell_of (o := 2) HM0.out.h rfl
            have z3 := cell_of (o := 3) HM0.out.h rfl
            have z4 := cell_of (o := 4) HM0.out.h rfl
            have z5 := cell_of (o := 5) HM0.out.h rfl
            have z6 := cell_of (o := 6) HM0.out.h rfl
            have z7 := cell_of (o := 7) HM0.out.h rfl
            have y0 := frozen_of (o := 0) HM0.out.h
            have y1 := frozen_of (o := 1) HM0.out.h
            have y2 := frozen_of (o := 2) HM0.out.h
            have y3 := frozen_of (o := 3) HM0.out.h
            have y4 := frozen_of (o := 4) HM0.out.h
            have y5 := frozen_of (o := 5) HM0.out.h
            have y6 := frozen_of (o := 6) HM0.out.h
            have y7 := frozen_of (o := 7) HM0.out.h
            have c2 := pw_cell_below HM0.out.below HC.out.2.2.1
            have c3 := pw_cell_below HM0.out.below HC.out.2.2.2.1
            have c4 := pw_cell_below HM0.out.below HC.out.2.2.2.2
            have hne : ¬ (ad.add (k * 5)).block = b := fun h => by have := Go.block_lt_of_cell HC.out.1; have := HM0.out.le; omega
            have hzb := (Array.getElem?_eq_some_iff.1 HM0.out.h).1
            go_wp2_with (at_builtin; go_loud (refine Kd.R_append_rows k40 (w0 := w) (Rr := k40.K _) w.heap.size rfl (.tmp 99) (.tmp 101) 24 40 (.agg #[.int .i64 0, .int .i64 0, .int .i64 0, .int .i64 0, .int .i64 0, .int .i64 0, .int .i64 0, .int .i64 0]) 64 rfl Tryd.underlying24 info40 rfl (by decide) (by decide) _ l [⟨f0, 2, pickV (x2.tdiv 4) 256, 255 - pickV (x2.tdiv 1024) 8, pickV x3 20, pickV x3 20 + pickV (x3.tdiv 20) 40, 0, 0⟩] _ 1 1 (fun k => w.heap.size ≤ k) (fun _ => False) rfl rfl HOX.out.1 HOX.out.2.1 (fun x cs h => by rw [k40_open h]; exact k40_mkM _ _ _ x) (fun _ h => h.elim) (fun k hk => Nat.le_trans HOX.out.2.2.1 hk) HOX.out.2.2.2 HOX.out.2.2.1 (by have := HI.out.2.1; first | omega | (simp; omega)) ?_; intro v1 w7 h1 h2 h3 h4))
            have HJ := Lib.hid (And.intro h1 h2); clear h1 h2 h3 h4
            clear z0 z1 z2 z3 z4 z5 z6 z7 y0 y1 y2 y3 y4 y5 y6 y7 c2 c3 c4 hne hzb
            try clear HM0
            go_wp2_with fail
            go_roundw
            case rel => exact ⟨k + 1, by go_num, by omega, by omega, _, Lib.hid ⟨HJ.out.1, by have := HI.out.2.1; simp; omega, by rw [List.all_append, HI.out.2.2.1]; simp [HV.out], HJ.out.2⟩⟩
            case measure => simp [intOf]; omega
          · skip
            have k8 := pickV_bd (a := x4) (n := 30) (by decide)
            have z0 := cell_of (o := 0) HM.out.h rfl
            have z1 := cell_of (o := 1) HM.out.h rfl
            have z2 := cell_of (o := 2) HM.out.h rfl
            have z3 := cell_of (o := 3) HM.out.h rfl
            have z4 := cell_of (o := 4) HM.out.h rfl
            have z5 := cell_of (o := 5) HM.out.h rfl
            have z6 := cell_of (o := 6) HM.out.h rfl
            have z7 := cell_of (o := 7) HM.out.h rfl
            have y0 := frozen_of (o := 0) HM.out.h
            have y1 := frozen_of (o := 1) HM.out.h
            have y2 := frozen_of (o := 2) HM.out.h
            have y3 := frozen_of (o := 3) HM.out.h
            have y4 := frozen_of (o := 4) HM.out.h
            have y5 := frozen_of (o := 5) HM.out.h
            have y6 := frozen_of (o := 6) HM.out.h
            have y7 := frozen_of (o := 7) HM.out.h
            have c2 := pw_cell_below HM.out.below HC.out.2.2.1
            have c3 := pw_cell_below HM.out.below HC.out.2.2.2.1
            have c4 := pw_cell_below HM.out.below HC.out.2.2.2.2
            have hne : ¬ (ad.add (k * 5)).block = b := fun h => by have := Go.block_lt_of_cell HC.out.1; have := HM.out.le; omega
            have hzb := (Array.getElem?_eq_some_iff.1 HM.out.h).1
            go_wp2_with fail
            have HM_ := Lib.hid (HM.out.set5 (pickV x3 20 + pickV (x3.tdiv 20) 40)); clear HM; have HM := HM_; clear HM_
            clear z0 z1 z2 z3 z4 z5 z6 z7 y0 y1 y2 y3 y4 y5 y6 y7 c2 c3 c4 hne hzb
            generalize X.val.setCell ⟨b, 5, none⟩ (.int .i64 (pickV x3 20 + pickV (x3.tdiv 20) 40)) = V9 at *
            have z0 := cell_of (o := 0) HM.out.h rfl
            have z1 := cell_of (o := 1) HM.out.h rfl
            have z2 := cell_of (o := 2) HM.out.h rfl
            have z3 := cell_of (o := 3) HM.out.h rfl
            have z4 := cell_of (o := 4) HM.out.h rfl
            have z5 := cell_of (o := 5) HM.out.h rfl
            have z6 := cell_of (o := 6) HM.out.h rfl
            have z7 := cell_of (o := 7) HM.out.h rfl
            have y0 := frozen_of (o := 0) HM.out.h
            have y1 := frozen_of (o := 1) HM.out.h
            have y2 := frozen_of (o := 2) HM.out.h
            have y3 := frozen_of (o := 3) HM.out.h
            have y4 := frozen_of (o := 4) HM.out.h
            have y5 := frozen_of (o := 5) HM.out.h
            have y6 := frozen_of (o := 6) HM.out.h
            have y7 := frozen_of (o := 7) HM.out.h
            have c2 := pw_cell_below HM.out.below HC.out.2.2.1
            have c3 := pw_cell_below HM.out.below HC.out.2.2.2.1
            have c4 := pw_cell_below HM.out.below HC.out.2.2.2.2
            have hne : ¬ (ad.add (k * 5)).block = b := fun h => by have := Go.block_lt_of_cell HC.out.1; have := HM.out.le; omega
            have hzb := (Array.getElem?_eq_some_iff.1 HM.out.h).1
            refine (pick_any x4 30 a4 b4 (by decide) _).mono ?_
            rintro e V10 ⟨rfl, hd⟩
            clear z0 z1 z2 z3 z4 z5 z6 z7 y0 y1 y2 y3 y4 y5 y6 y7 c2 c3 c4 hne hzb
            have HM_ := Lib.hid (HM.out.call hd.below); clear HM hd; have HM := HM_; clear HM_
            have z0 := cell_of (o := 0) HM.out.h rfl
            have z1 := cell_of (o := 1) HM.out.h rfl
            have z2 := cell_of (o := 2) HM.out.h rfl
            have z3 := cell_of (o := 3) HM.out.h rfl
            have z4 := cell_of (o := 4) HM.out.h rfl
            have z5 := cell_of (o := 5) HM.out.h rfl
            have z6 := cell_of (o := 6) HM.out.h rfl
            have z7 := cell_of (o := 7) HM.out.h rfl
            have y0 := frozen_of (o := 0) HM.out.h
            have y1 := frozen_of (o := 1) HM.out.h
            have y2 := frozen_of (o := 2) HM.out.h
            have y3 := frozen_of (o := 3) HM.out.h
            have y4 := frozen_of (o := 4) HM.out.h
            have y5 := frozen_of (o := 5) HM.out.h
            have y6 := frozen_of (o := 6) HM.out.h
            have y7 := frozen_of (o := 7) HM.out.h
            have c2 := pw_cell_below HM.out.below HC.out.2.2.1
            have c3 := pw_cell_below HM.out.below HC.out.2.2.2.1
            have c4 := pw_cell_below HM.out.below HC.out.2.2.2.2
            have hne : ¬ (ad.add (k * 5)).block = b := fun h => by have := Go.block_lt_of_cell HC.out.1; have := HM.out.le; omega
            have hzb := (Array.getElem?_eq_some_iff.1 HM.out.h).1
            have HM0 := HM
            have HM_ := Lib.hid (HM.out.set6 (pickV x4 30)); clear HM; have HM := HM_; clear HM_
            try clear z0
            try clear z1
            try clear z2
            try clear z3
            try clear z4
            try clear z5
            try clear z6
            try clear z7
            try clear y0
            try clear y1
            try clear y2
            try clear y3
            try clear y4
            try clear y5
            try clear y6
            try clear y7
            try clear c2
            try clear c3
            try clear c4
            try clear hne
            try clear hzb
            have hvl : vld ⟨f0, 3, pickV (x2.tdiv 4) 256, 255 - pickV (x2.tdiv 1024) 8, pickV x3 20, pickV x3 20 + pickV (x3.tdiv 20) 40, pickV x4 30, 0⟩ = true := by simp only [vld, isWk, inR, timesOk, fieldsOk]; simp; omega
            have hbA := HM.out.below.alloc (Nat.le_trans HM.out.below.size (Nat.le_refl _)) (.cells (clc ⟨f0, 3, pickV (x2.tdiv 4) 256, 255 - pickV (x2.tdiv 1024) 8, pickV x3 20, pickV x3 20 + pickV (x3.tdiv 20) 40, pickV x4 30, 0⟩) 40)
            have hbW := HI.out.2.2.2.trans (hbA.mono HI.out.2.2.2.size)
            have HOX := Lib.hid (And.intro (Kd.R_below HI.out.1 hbA) (And.intro (clrowC ⟨f0, 3, pickV (x2.tdiv 4) 256, 255 - pickV (x2.tdiv 1024) 8, pickV x3 20, pickV x3 20 + pickV (x3.tdiv 20) 40, pickV x4 30, 0⟩ (heap_new (W := (V10.setCell ⟨b, 6, none⟩ (.int .i64 (pickV x4 30)))) (o := .cells (clc ⟨f0, 3, pickV (x2.tdiv 4) 256, 255 - pickV (x2.tdiv 1024) 8, pickV x3 20, pickV x3 20 + pickV (x3.tdiv 20) 40, pickV x4 30, 0⟩) 40) (k := V10.heap.size) (by simp [World.setCell]))) (And.intro (Nat.le_trans HI.out.2.2.2.size hbA.size) hbW)))
            clear hbA hbW
            simp only [clc] at HOX
            have HV := Lib.hid hvl; clear hvl
            have z0 := cell_of (o := 0) HM0.out.h rfl
            have z1 := cell_of (o := 1) HM0.out.h rfl
            have z2 := cell_of (o := 2) HM0.out.h rfl
            have z3 := cell_of (o := 3) HM0.out.h rfl
            have z4 := cell_of (o := 4) HM0.out.h rfl
            have z5 := cell_of (o := 5) HM0.out.h rfl
            have z6 := cell_of (o := 6) HM0.out.h rfl
            have z7 := cell_of (o := 7) HM0.out.h rfl
            have y0 := frozen_of (o := 0) HM0.out.h
            have y1 := frozen_of (o := 1) HM0.out.h
            have y2 := frozen_of (o := 2) HM0.out.h
            have y3 := frozen_of (o := 3) HM0.out.h
            have y4 := frozen_of (o := 4) HM0.out.h
            have y5 := frozen_of (o := 5) HM0.out.h
            have y6 := frozen_of (o := 6) HM0.out.h
            have y7 := frozen_of (o := 7) HM0.out.h
            have c2 := pw_cell_below HM0.out.below HC.out.2.2.1
            have c3 := pw_cell_below HM0.out.below HC.out.2.2.2.1
            have c4 := pw_cell_below HM0.out.below HC.out.2.2.2.2
            have hne : ¬ (ad.add (k * 5)).block = b := fun h => by have := Go.block_lt_of_cell HC.out.1; have := HM0.out.le; omega
            have hzb := (Array.getElem?_eq_some_iff.1 HM0.out.h).1
            go_wp2_with (at_builtin; go_loud (refine Kd.R_append_rows k40 (w0 := w) (Rr := k40.K _) w.heap.size rfl (.tmp 99) (.tmp 101) 24 40 (.agg #[.int .i64 0, .int .i64 0, .int .i64 0, .int .i64 0, .int .i64 0, .int .i64 0, .int .i64 0, .int .i64 0]) 64 rfl Tryd.underlying24 info40 rfl (by decide) (by decide) _ l [⟨f0, 3, pickV (x2.tdiv 4) 256, 255 - pickV (x2.tdiv 1024) 8, pickV x3 20, pickV x3 20 + pickV (x3.tdiv 20) 40, pickV x4 30, 0⟩] _ 1 1 (fun k => w.heap.size ≤ k) (fun _ => False) rfl rfl HOX.out.1 HOX.out.2.1 (fun x cs h => by rw [k40_open h]; exact k40_mkM _ _ _ x) (fun _ h => h.elim) (fun k hk => Nat.le_trans HOX.out.2.2.1 hk) HOX.out.2.2.2 HOX.out.2.2.1 (by have := HI.out.2.1; first | omega | (simp; omega)) ?_; intro v1 w7 h1 h2 h3 h4))
            have HJ := Lib.hid (And.intro h1 h2); clear h1 h2 h3 h4
            clear z0 z1 z2 z3 z4 z5 z6 z7 y0 y1 y2 y3 y4 y5 y6 y7 c2 c3 c4 hne hzb
            try clear HM0
            go_wp2_with fail
            go_roundw
            case rel => exact ⟨k + 1, by go_num, by omega, by omega, _, Lib.hid ⟨HJ.out.1, by have := HI.out.2.1; simp; omega, by rw [List.all_append, HI.out.2.2.1]; simp [HV.out], HJ.out.2⟩⟩
            case measure => simp [intOf]; omega
          · skip
            have k8 := pickV_bd (a := x4) (n := 4) (by decide)
            have z0 := cell_of (o := 0) HM.out.h rfl
            have z1 := cell_of (o := 1) HM.out.h rfl
            have z2 := cell_of (o := 2) HM.out.h rfl
            have z3 := cell_of (o := 3) HM.out.h rfl
            have z4 := cell_of (o := 4) HM.out.h rfl
            have z5 := cell_of (o := 5) HM.out.h rfl
            have z6 := cell_of (o := 6) HM.out.h rfl
            have z7 := cell_of (o := 7) HM.out.h rfl
            have y0 := frozen_of (o := 0) HM.out.h
            have y1 := frozen_of (o := 1) HM.out.h
            have y2 := frozen_of (o := 2) HM.out.h
            have y3 := frozen_of (o := 3) HM.out.h
            have y4 := frozen_of (o := 4) HM.out.h
            have y5 := frozen_of (o := 5) HM.out.h
            have y6 := frozen_of (o := 6) HM.out.h
            have y7 := frozen_of (o := 7) HM.out.h
            have c2 := pw_cell_below HM.out.below HC.out.2.2.1
            have c3 := pw_cell_below HM.out.below HC.out.2.2.2.1
            have c4 := pw_cell_below HM.out.below HC.out.2.2.2.2
            have hne : ¬ (ad.add (k * 5)).block = b := fun h => by have := Go.block_lt_of_cell HC.out.1; have := HM.out.le; omega
            have hzb := (Array.getElem?_eq_some_iff.1 HM.out.h).1
            go_wp2_with fail
            have HM_ := Lib.hid (HM.out.set5 (pickV x3 20 + pickV (x3.tdiv 20) 40)); clear HM; have HM := HM_; clear HM_
            clear z0 z1 z2 z3 z4 z5 z6 z7 y0 y1 y2 y3 y4 y5 y6 y7 c2 c3 c4 hne hzb
            generalize X.val.setCell ⟨b, 5, none⟩ (.int .i64 (pickV x3 20 + pickV (x3.tdiv 20) 40)) = V9 at *
            have z0 := cell_of (o := 0) HM.out.h rfl
            have z1 := cell_of (o := 1) HM.out.h rfl
            have z2 := cell_of (o := 2) HM.out.h rfl
            have z3 := cell_of (o := 3) HM.out.h rfl
            have z4 := cell_of (o := 4) HM.out.h rfl
            have z5 := cell_of (o := 5) HM.out.h rfl
            have z6 := cell_of (o := 6) HM.out.h rfl
            have z7 := cell_of (o := 7) HM.out.h rfl
            have y0 := frozen_of (o := 0) HM.out.h
            have y1 := frozen_of (o := 1) HM.out.h
            have y2 := frozen_of (o := 2) HM.out.h
            have y3 := frozen_of (o := 3) HM.out.h
            have y4 := frozen_of (o := 4) HM.out.h
            have y5 := frozen_of (o := 5) HM.out.h
            have y6 := frozen_of (o := 6) HM.out.h
            have y7 := frozen_of (o := 7) HM.out.h
            have c2 := pw_cell_below HM.out.below HC.out.2.2.1
            have c3 := pw_cell_below HM.out.below HC.out.2.2.2.1
            have c4 := pw_cell_below HM.out.below HC.out.2.2.2.2
            have hne : ¬ (ad.add (k * 5)).block = b := fun h => by have := Go.block_lt_of_cell HC.out.1; have := HM.out.le; omega
            have hzb := (Array.getElem?_eq_some_iff.1 HM.out.h).1
            have z0 := cell_ext z0
            have c4 := cell_ext c4
            have HP := Lib.hid (fun X : Ext V9 => (pick_any x4 4 a4 b4 (by decide) X.val).mono (fun _ _ h => And.intro h.1 h.2.below))
            go_wp2_with fail
            refine region_tail [0, 1, 2, 3, 4, 5, 6, 7, 8, 9, 10, 11] [12] (by kernel_rfl) (by kernel_rfl) ?_
            simp only [pick_cons, pick_nil, nthO_succ, nthO_zero]
            repeat (go_big_quiet_step ((go_at_call 36; with_reducible exact call_ext (HP.out _))))
            refine wpQuiet_nil ?_
            rintro W' ⟨X, rfl⟩
            clear z0 z1 z2 z3 z4 z5 z6 z7 y0 y1 y2 y3 y4 y5 y6 y7 c2 c3 c4 hne hzb
            have HM_ := Lib.hid (HM.out.ext X.2); clear HM HP; have HM := HM_; clear HM_
            have HM0 := HM
            have HM_ := Lib.hid (HM.out.set7 ((f0 + 1 + pickV x4 4) % 5)); clear HM; have HM := HM_; clear HM_
            have k9 : 0 ≤ (f0 + 1 + pickV x4 4) % 5 ∧ (f0 + 1 + pickV x4 4) % 5 < 5 ∧ (f0 + 1 + pickV x4 4) % 5 ≠ f0 := by omega
            try clear z0
            try clear z1
            try clear z2
            try clear z3
            try clear z4
            try clear z5
            try clear z6
            try clear z7
            try clear y0
            try clear y1
            try clear y2
            try clear y3
            try clear y4
            try clear y5
            try clear y6
            try clear y7
            try clear c2
            try clear c3
            try clear c4
            try clear hne
            try clear hzb
            have hvl : vld ⟨f0, 4, pickV (x2.tdiv 4) 256, 255 - pickV (x2.tdiv 1024) 8, pickV x3 20, pickV x3 20 + pickV (x3.tdiv 20) 40, 0, (f0 + 1 + pickV x4 4) % 5⟩ = true := by simp only [vld, isWk, inR, timesOk, fieldsOk]; simp; omega
            have hbA := HM.out.below.alloc (Nat.le_trans HM.out.below.size (Nat.le_refl _)) (.cells (clc ⟨f0, 4, pickV (x2.tdiv 4) 256, 255 - pickV (x2.tdiv 1024) 8, pickV x3 20, pickV x3 20 + pickV (x3.tdiv 20) 40, 0, (f0 + 1 + pickV x4 4) % 5⟩) 40)
            have hbW := HI.out.2.2.2.trans (hbA.mono HI.out.2.2.2.size)
            have HOX := Lib.hid (And.intro (Kd.R_below HI.out.1 hbA) (And.intro (clrowC ⟨f0, 4, pickV (x2.tdiv 4) 256, 255 - pickV (x2.tdiv 1024) 8, pickV x3 20, pickV x3 20 + pickV (x3.tdiv 20) 40, 0, (f0 + 1 + pickV x4 4) % 5⟩ (heap_new (W := (X.val.setCell ⟨b, 7, none⟩ (.int .i64 ((f0 + 1 + pickV x4 4) % 5)))) (o := .cells (clc ⟨f0, 4, pickV (x2.tdiv 4) 256, 255 - pickV (x2.tdiv 1024) 8, pickV x3 20, pickV x3 20 + pickV (x3.tdiv 20) 40, 0, (f0 + 1 + pickV x4 4) % 5⟩) 40) (k := X.val.heap.size) (by simp [World.setCell]))) (And.intro (Nat.le_trans HI.out.2.2.2.size hbA.size) hbW)))
            clear hbA hbW
            simp only [clc] at HOX
            have HV := Lib.hid hvl; clear hvl
            have z0 := cell_of (o := 0) HM0.out.h rfl
            have z1 := cell_of (o := 1) HM0.out.h rfl
            have z2 := cell_of (o := 2) HM0.out.h rfl
            have z3 := cell_of (o := 3) HM0.out.h rfl
            have z4 := cell_of (o := 4) HM0.out.h rfl
            have z5 := cell_of (o := 5) HM0.out.h rfl
            have z6 := cell_of (o := 6) HM0.out.h rfl
            have z7 := cell_of (o := 7) HM0.out.h rfl
            have y0 := frozen_of (o := 0) HM0.out.h
            have y1 := frozen_of (o := 1) HM0.out.h
            have y2 := frozen_of (o := 2) HM0.out.h
            have y3 := frozen_of (o := 3) HM0.out.h
            have y4 := frozen_of (o := 4) HM0.out.h
            have y5 := frozen_of (o := 5) HM0.out.h
            have y6 := frozen_of (o := 6) HM0.out.h
            have y7 := frozen_of (o := 7) HM0.out.h
            have c2 := pw_cell_below HM0.out.below HC.out.2.2.1
            have c3 := pw_cell_below HM0.out.below HC.out.2.2.2.1
            have c4 := pw_cell_below HM0.out.below HC.out.2.2.2.2
            have hne : ¬ (ad.add (k * 5)).block = b := fun h => by have := Go.block_lt_of_cell HC.out.1; have := HM0.out.le; omega
            have hzb := (Array.getElem?_eq_some_iff.1 HM0.out.h).1
            go_wp2_with (at_builtin; go_loud (refine Kd.R_append_rows k40 (w0 := w) (Rr := k40.K _) w.heap.size rfl (.tmp 99) (.tmp 101) 24 40 (.agg #[.int .i64 0, .int .i64 0, .int .i64 0, .int .i64 0, .int .i64 0, .int .i64 0, .int .i64 0, .int .i64 0]) 64 rfl Tryd.underlying24 info40 rfl (by decide) (by decide) _ l [⟨f0, 4, pickV (x2.tdiv 4) 256, 255 - pickV (x2.tdiv 1024) 8, pickV x3 20, pickV x3 20 + pickV (x3.tdiv 20) 40, 0, (f0 + 1 + pickV x4 4) % 5⟩] _ 1 1 (fun k => w.heap.size ≤ k) (fun _ => False) rfl rfl HOX.out.1 HOX.out.2.1 (fun x cs h => by rw [k40_open h]; exact k40_mkM _ _ _ x) (fun _ h => h.elim) (fun k hk => Nat.le_trans HOX.out.2.2.1 hk) HOX.out.2.2.2 HOX.out.2.2.1 (by have := HI.out.2.1; first | omega | (simp; omega)) ?_; intro v1 w7 h1 h2 h3 h4))
            have HJ := Lib.hid (And.intro h1 h2); clear h1 h2 h3 h4
            clear z0 z1 z2 z3 z4 z5 z6 z7 y0 y1 y2 y3 y4 y5 y6 y7 c2 c3 c4 hne hzb
            try clear HM0
            go_wp2_with fail
            go_roundw
            case rel => exact ⟨k + 1, by go_num, by omega, by omega, _, Lib.hid ⟨HJ.out.1, by have := HI.out.2.1; simp; omega, by rw [List.all_append, HI.out.2.2.1]; simp [HV.out], HJ.out.2⟩⟩
            case measure => simp [intOf]; omega
        · have qt : (pickV x2 4 == 0) = false := by simp [ht]
          rcases hf1 with rfl | rfl | rfl | rfl
          · skip
            try clear z0
            try clear z1
            try clear z2
            try clear z3
            try clear z4
            try clear z5
            try clear z6
            try clear z7
            try clear y0
            try clear y1
            try clear y2
            try clear y3
            try clear y4
            try clear y5
            try clear y6
            try clear y7
            try clear c2
            try clear c3
            try clear c4
            try clear hne
            try clear hzb
            have hvl : vld ⟨f0, 1, 255, 255, 0, 50000000, 0, 0⟩ = true := by simp only [vld, isWk, inR, timesOk, fieldsOk]; simp; omega
            have hbA := HM.out.below.alloc (Nat.le_trans HM.out.below.size (Nat.le_refl _)) (.cells (clc ⟨f0, 1, 255, 255, 0, 50000000, 0, 0⟩) 40)
            have hbW := HI.out.2.2.2.trans (hbA.mono HI.out.2.2.2.size)
            have HOX := Lib.hid (And.intro (Kd.R_below HI.out.1 hbA) (And.intro (clrowC ⟨f0, 1, 255, 255, 0, 50000000, 0, 0⟩ (heap_new (W := V1) (o := .cells (clc ⟨f0, 1, 255, 255, 0, 50000000, 0, 0⟩) 40) (k := V1.heap.size) (by simp [World.setCell]))) (And.intro (Nat.le_trans HI.out.2.2.2.size hbA.size) hbW)))
            clear hbA hbW
            simp only [clc] at HOX
            have HV := Lib.hid hvl; clear hvl
            have z0 := cell_of (o := 0) HM.out.h rfl
            have z1 := cell_of (o := 1) HM.out.h rfl
            have z2 := cell_of (o := 2) HM.out.h rfl
            have z3 := cell_of (o := 3) HM.out.h rfl
            have z4 := cell_of (o := 4) HM.out.h rfl
            have z5 := cell_of (o := 5) HM.out.h rfl
            have z6 := cell_of (o := 6) HM.out.h rfl
            have z7 := cell_of (o := 7) HM.out.h rfl
            have y0 := frozen_of (o := 0) HM.out.h
            have y1 := frozen_of (o := 1) HM.out.h
            have y2 := frozen_of (o := 2) HM.out.h
            have y3 := frozen_of (o := 3) HM.out.h
            have y4 := frozen_of (o := 4) HM.out.h
            have y5 := frozen_of (o := 5) HM.out.h
            have y6 := frozen_of (o := 6) HM.out.h
            have y7 := frozen_of (o := 7) HM.out.h
            have c2 := pw_cell_below HM.out.below HC.out.2.2.1
            have c3 := pw_cell_below HM.out.below HC.out.2.2.2.1
            have c4 := pw_cell_below HM.out.below HC.out.2.2.2.2
            have hne : ¬ (ad.add (k * 5)).block = b := fun h => by have := Go.block_lt_of_cell HC.out.1; have := HM.out.le; omega
            have hzb := (Array.getElem?_eq_some_iff.1 HM.out.h).1
            go_wp2_with (at_builtin; go_loud (refine Kd.R_append_rows k40 (w0 := w) (Rr := k40.K _) w.heap.size rfl (.tmp 99) (.tmp 101) 24 40 (.agg #[.int .i64 0, .int .i64 0, .int .i64 0, .int .i64 0, .int .i64 0, .int .i64 0, .int .i64 0, .int .i64 0]) 64 rfl Tryd.underlying24 info40 rfl (by decide) (by decide) _ l [⟨f0, 1, 255, 255, 0, 50000000, 0, 0⟩] _ 1 1 (fun k => w.heap.size ≤ k) (fun _ => False) rfl rfl HOX.out.1 HOX.out.2.1 (fun x cs h => by rw [k40_open h]; exact k40_mkM _ _ _ x) (fun _ h => h.elim) (fun k hk => Nat.le_trans HOX.out.2.2.1 hk) HOX.out.2.2.2 HOX.out.2.2.1 (by have := HI.out.2.1; first | omega | (simp; omega)) ?_; intro v1 w7 h1 h2 h3 h4))
            have HJ := Lib.hid (And.intro h1 h2); clear h1 h2 h3 h4
            clear z0 z1 z2 z3 z4 z5 z6 z7 y0 y1 y2 y3 y4 y5 y6 y7 c2 c3 c4 hne hzb
            try clear HM0
            go_wp2_with fail
            go_roundw
            case rel => exact ⟨k + 1, by go_num, by omega, by omega, _, Lib.hid ⟨HJ.out.1, by have := HI.out.2.1; simp; omega, by rw [List.all_append, HI.out.2.2.1]; simp [HV.out], HJ.out.2⟩⟩
            case measure => simp [intOf]; omega
          · skip
            try clear z0
            try clear z1
            try clear z2
            try clear z3
            try clear z4
            try clear z5
            try clear z6
            try clear z7
            try clear y0
            try clear y1
            try clear y2
            try clear y3
            try clear y4
            try clear y5
            try clear y6
            try clear y7
            try clear c2
            try clear c3
            try clear c4
            try clear hne
            try clear hzb
            have hvl : vld ⟨f0, 2, 255, 255, 0, 50000000, 0, 0⟩ = true := by simp only [vld, isWk, inR, timesOk, fieldsOk]; simp; omega
            have hbA := HM.out.below.alloc (Nat.le_trans HM.out.below.size (Nat.le_refl _)) (.cells (clc ⟨f0, 2, 255, 255, 0, 50000000, 0, 0⟩) 40)
            have hbW := HI.out.2.2.2.trans (hbA.mono HI.out.2.2.2.size)
            have HOX := Lib.hid (And.intro (Kd.R_below HI.out.1 hbA) (And.intro (clrowC ⟨f0, 2, 255, 255, 0, 50000000, 0, 0⟩ (heap_new (W := V1) (o := .cells (clc ⟨f0, 2, 255, 255, 0, 50000000, 0, 0⟩) 40) (k := V1.heap.size) (by simp [World.setCell]))) (And.intro (Nat.le_trans HI.out.2.2.2.size hbA.size) hbW)))
            clear hbA hbW
            simp only [clc] at HOX
            have HV := Lib.hid hvl; clear hvl
            have z0 := cell_of (o := 0) HM.out.h rfl
            have z1 := cell_of (o := 1) HM.out.h rfl
            have z2 := cell_of (o := 2) HM.out.h rfl
            have z3 := cell_of (o := 3) HM.out.h rfl
            have z4 := cell_of (o := 4) HM.out.h rfl
            have z5 := cell_of (o := 5) HM.out.h rfl
            have z6 := cell_of (o := 6) HM.out.h rfl
            have z7 := cell_of (o := 7) HM.out.h rfl
            have y0 := frozen_of (o := 0) HM.out.h
            have y1 := frozen_of (o := 1) HM.out.h
            have y2 := frozen_of (o := 2) HM.out.h
            have y3 := frozen_of (o := 3) HM.out.h
            have y4 := frozen_of (o := 4) HM.out.h
            have y5 := frozen_of (o := 5) HM.out.h
            have y6 := frozen_of (o := 6) HM.out.h
            have y7 := frozen_of (o := 7) HM.out.h
            have c2 := pw_cell_below HM.out.below HC.out.2.2.1
            have c3 := pw_cell_below HM.out.below HC.out.2.2.2.1
            have c4 := pw_cell_below HM.out.below HC.out.2.2.2.2
            have hne : ¬ (ad.add (k * 5)).block = b := fun h => by have := Go.block_lt_of_cell HC.out.1; have := HM.out.le; omega
            have hzb := (Array.getElem?_eq_some_iff.1 HM.out.h).1
            go_wp2_with (at_builtin; go_loud (refine Kd.R_append_rows k40 (w0 := w) (Rr := k40.K _) w.heap.size rfl (.tmp 99) (.tmp 101) 24 40 (.agg #[.int .i64 0, .int .i64 0, .int .i64 0, .int .i64 0, .int .i64 0, .int .i64 0, .int .i64 0, .int .i64 0]) 64 rfl Tryd.underlying24 info40 rfl (by decide) (by decide) _ l [⟨f0, 2, 255, 255, 0, 50000000, 0, 0⟩] _ 1 1 (fun k => w.heap.size ≤ k) (fun _ => False) rfl rfl HOX.out.1 HOX.out.2.1 (fun x cs h => by rw [k40_open h]; exact k40_mkM _ _ _ x) (fun _ h => h.elim) (fun k hk => Nat.le_trans HOX.out.2.2.1 hk) HOX.out.2.2.2 HOX.out.2.2.1 (by have := HI.out.2.1; first | omega | (simp; omega)) ?_; intro v1 w7 h1 h2 h3 h4))
            have HJ := Lib.hid (And.intro h1 h2); clear h1 h2 h3 h4
            clear z0 z1 z2 z3 z4 z5 z6 z7 y0 y1 y2 y3 y4 y5 y6 y7 c2 c3 c4 hne hzb
            try clear HM0
            go_wp2_with fail
            go_roundw
            case rel => exact ⟨k + 1, by go_num, by omega, by omega, _, Lib.hid ⟨HJ.out.1, by have := HI.out.2.1; simp; omega, by rw [List.all_append, HI.out.2.2.1]; simp [HV.out], HJ.out.2⟩⟩
            case measure => simp [intOf]; omega
          · skip
            have k8 := pickV_bd (a := x4) (n := 30) (by decide)
            go_wp2_with fail
            refine (pick_any x4 30 a4 b4 (by decide) _).mono ?_
            rintro e V10 ⟨rfl, hd⟩
            clear z0 z1 z2 z3 z4 z5 z6 z7 y0 y1 y2 y3 y4 y5 y6 y7 c2 c3 c4 hne hzb
            have HM_ := Lib.hid (HM.out.call hd.below); clear HM hd; have HM := HM_; clear HM_
            have z0 := cell_of (o := 0) HM.out.h rfl
            have z1 := cell_of (o := 1) HM.out.h rfl
            have z2 := cell_of (o := 2) HM.out.h rfl
            have z3 := cell_of (o := 3) HM.out.h rfl
            have z4 := cell_of (o := 4) HM.out.h rfl
            have z5 := cell_of (o := 5) HM.out.h rfl
            have z6 := cell_of (o := 6) HM.out.h rfl
            have z7 := cell_of (o := 7) HM.out.h rfl
            have y0 := frozen_of (o := 0) HM.out.h
            have y1 := frozen_of (o := 1) HM.out.h
            have y2 := frozen_of (o := 2) HM.out.h
            have y3 := frozen_of (o := 3) HM.out.h
            have y4 := frozen_of (o := 4) HM.out.h
            have y5 := frozen_of (o := 5) HM.out.h
            have y6 := frozen_of (o := 6) HM.out.h
            have y7 := frozen_of (o := 7) HM.out.h
            have c2 := pw_cell_below HM.out.below HC.out.2.2.1
            have c3 := pw_cell_below HM.out.below HC.out.2.2.2.1
            have c4 := pw_cell_below HM.out.below HC.out.2.2.2.2
            have hne : ¬ (ad.add (k * 5)).block = b := fun h => by have := Go.block_lt_of_cell HC.out.1; have := HM.out.le; omega
            have hzb := (Array.getElem?_eq_some_iff.1 HM.out.h).1
            have HM0 := HM
            have HM_ := Lib.hid (HM.out.set6 (pickV x4 30)); clear HM; have HM := HM_; clear HM_
            try clear z0
            try clear z1
            try clear z2
            try clear z3
            try clear z4
            try clear z5
            try clear z6
            try clear z7
            try clear y0
            try clear y1
            try clear y2
            try clear y3
            try clear y4
            try clear y5
            try clear y6
            try clear y7
            try clear c2
            try clear c3
            try clear c4
            try clear hne
            try clear hzb
            have hvl : vld ⟨f0, 3, 255, 255, 0, 50000000, pickV x4 30, 0⟩ = true := by simp only [vld, isWk, inR, timesOk, fieldsOk]; simp; omega
            have hbA := HM.out.below.alloc (Nat.le_trans HM.out.below.size (Nat.le_refl _)) (.cells (clc ⟨f0, 3, 255, 255, 0, 50000000, pickV x4 30, 0⟩) 40)
            have hbW := HI.out.2.2.2.trans (hbA.mono HI.out.2.2.2.size)
            have HOX := Lib.hid (And.intro (Kd.R_below HI.out.1 hbA) (And.intro (clrowC ⟨f0, 3, 255, 255, 0, 50000000, pickV x4 30, 0⟩ (heap_new (W := (V10.setCell ⟨b, 6, none⟩ (.int .i64 (pickV x4 30)))) (o := .cells (clc ⟨f0, 3, 255, 255, 0, 50000000, pickV x4 30, 0⟩) 40) (k := V10.heap.size) (by simp [World.setCell]))) (And.intro (Nat.le_trans HI.out.2.2.2.size hbA.size) hbW)))
            clear hbA hbW
            simp only [clc] at HOX
            have HV := Lib.hid hvl; clear hvl
            have z0 := cell_of (o := 0) HM0.out.h rfl
            have z1 := cell_of (o := 1) HM0.out.h rfl
            have z2 := cell_of (o := 2) HM0.out.h rfl
            have z3 := cell_of (o := 3) HM0.out.h rfl
            have z4 := cell_of (o := 4) HM0.out.h rfl
            have z5 := cell_of (o := 5) HM0.out.h rfl
            have z6 := cell_of (o := 6) HM0.out.h rfl
            have z7 := cell_of (o := 7) HM0.out.h rfl
            have y0 := frozen_of (o := 0) HM0.out.h
            have y1 := frozen_of (o := 1) HM0.out.h
            have y2 := frozen_of (o := 2) HM0.out.h
            have y3 := frozen_of (o := 3) HM0.out.h
            have y4 := frozen_of (o := 4) HM0.out.h
            have y5 := frozen_of (o := 5) HM0.out.h
            have y6 := frozen_of (o := 6) HM0.out.h
            have y7 := frozen_of (o := 7) HM0.out.h
            have c2 := pw_cell_below HM0.out.below HC.out.2.2.1
            have c3 := pw_cell_below HM0.out.below HC.out.2.2.2.1
            have c4 := pw_cell_below HM0.out.below HC.out.2.2.2.2
            have hne : ¬ (ad.add (k * 5)).block = b := fun h => by have := Go.block_lt_of_cell HC.out.1; have := HM0.out.le; omega
            have hzb := (Array.getElem?_eq_some_iff.1 HM0.out.h).1
            go_wp2_with (at_builtin; go_loud (refine Kd.R_append_rows k40 (w0 := w) (Rr := k40.K _) w.heap.size rfl (.tmp 99) (.tmp 101) 24 40 (.agg #[.int .i64 0, .int .i64 0, .int .i64 0, .int .i64 0, .int .i64 0, .int .i64 0, .int .i64 0, .int .i64 0]) 64 rfl Tryd.underlying24 info40 rfl (by decide) (by decide) _ l [⟨f0, 3, 255, 255, 0, 50000000, pickV x4 30, 0⟩] _ 1 1 (fun k => w.heap.size ≤ k) (fun _ => False) rfl rfl HOX.out.1 HOX.out.2.1 (fun x cs h => by rw [k40_open h]; exact k40_mkM _ _ _ x) (fun _ h => h.elim) (fun k hk => Nat.le_trans HOX.out.2.2.1 hk) HOX.out.2.2.2 HOX.out.2.2.1 (by have := HI.out.2.1; first | omega | (simp; omega)) ?_; intro v1 w7 h1 h2 h3 h4))
            have HJ := Lib.hid (And.intro h1 h2); clear h1 h2 h3 h4
            clear z0 z1 z2 z3 z4 z5 z6 z7 y0 y1 y2 y3 y4 y5 y6 y7 c2 c3 c4 hne hzb
            try clear HM0
            go_wp2_with fail
            go_roundw
            case rel => exact ⟨k + 1, by go_num, by omega, by omega, _, Lib.hid ⟨HJ.out.1, by have := HI.out.2.1; simp; omega, by rw [List.all_append, HI.out.2.2.1]; simp [HV.out], HJ.out.2⟩⟩
            case measure => simp [intOf]; omega
          · skip
            have k8 := pickV_bd (a := x4) (n := 4) (by decide)
            go_wp2_with fail
            have z0 := cell_ext z0
            have c4 := cell_ext c4
            have HP := Lib.hid (fun X : Ext V1 => (pick_any x4 4 a4 b4 (by decide) X.val).mono (fun _ _ h => And.intro h.1 h.2.below))
            go_wp2_with fail
            refine region_tail [0, 1, 2, 3, 4, 5, 6, 7, 8, 9, 10, 11] [12] (by kernel_rfl) (by kernel_rfl) ?_
            simp only [pick_cons, pick_nil, nthO_succ, nthO_zero]
            repeat (go_big_quiet_step ((go_at_call 36; with_reducible exact call_ext (HP.out _))))
            refine wpQuiet_nil ?_
            rintro W' ⟨X, rfl⟩
            clear z0 z1 z2 z3 z4 z5 z6 z7 y0 y1 y2 y3 y4 y5 y6 y7 c2 c3 c4 hne hzb
            have HM_ := Lib.hid (HM.out.ext X.2); clear HM HP; have HM := HM_; clear HM_
            have HM0 := HM
            have HM_ := Lib.hid (HM.out.set7 ((f0 + 1 + pickV x4 4) % 5)); clear HM; have HM := HM_; clear HM_
            have k9 : 0 ≤ (f0 + 1 + pickV x4 4) % 5 ∧ (f0 + 1 + pickV x4 4) % 5 < 5 ∧ (f0 + 1 + pickV x4 4) % 5 ≠ f0 := by omega
            try clear z0
            try clear z1
            try clear z2
            try clear z3
            try clear z4
            try clear z5
            try clear z6
            try clear z7
            try clear y0
            try clear y1
            try clear y2
            try clear y3
            try clear y4
            try clear y5
            try clear y6
            try clear y7
            try clear c2
            try clear c3
            try clear c4
            try clear hne
            try clear hzb
            have hvl : vld ⟨f0, 4, 255, 255, 0, 50000000, 0, (f0 + 1 + pickV x4 4) % 5⟩ = true := by simp only [vld, isWk, inR, timesOk, fieldsOk]; simp; omega
            have hbA := HM.out.below.alloc (Nat.le_trans HM.out.below.size (Nat.le_refl _)) (.cells (clc ⟨f0, 4, 255, 255, 0, 50000000, 0, (f0 + 1 + pickV x4 4) % 5⟩) 40)
            have hbW := HI.out.2.2.2.trans (hbA.mono HI.out.2.2.2.size)
            have HOX := Lib.hid (And.intro (Kd.R_below HI.out.1 hbA) (And.intro (clrowC ⟨f0, 4, 255, 255, 0, 50000000, 0, (f0 + 1 + pickV x4 4) % 5⟩ (heap_new (W := (X.val.setCell ⟨b, 7, none⟩ (.int .i64 ((f0 + 1 + pickV x4 4) % 5)))) (o := .cells (clc ⟨f0, 4, 255, 255, 0, 50000000, 0, (f0 + 1 + pickV x4 4) % 5⟩) 40) (k := X.val.heap.size) (by simp [World.setCell]))) (And.intro (Nat.le_trans HI.out.2.2.2.size hbA.size) hbW)))
            clear hbA hbW
            simp only [clc] at HOX
            have HV := Lib.hid hvl; clear hvl
            have z0 := cell_of (o := 0) HM0.out.h rfl
            have z1 := cell_of (o := 1) HM0.out.h rfl
            have z2 := cell_of (o := 2) HM0.out.h rfl
            have z3 := cell_of (o := 3) HM0.out.h rfl
            have z4 := cell_of (o := 4) HM0.out.h rfl
            have z5 := cell_of (o := 5) HM0.out.h rfl
            have z6 := cell_of (o := 6) HM0.out.h rfl
            have z7 := cell_of (o := 7) HM0.out.h rfl
            have y0 := frozen_of (o := 0) HM0.out.h
            have y1 := frozen_of (o := 1) HM0.out.h
            have y2 := frozen_of (o := 2) HM0.out.h
            have y3 := frozen_of (o := 3) HM0.out.h
            have y4 := frozen_of (o := 4) HM0.out.h
            have y5 := frozen_of (o := 5) HM0.out.h
            have y6 := frozen_of (o := 6) HM0.out.h
            have y7 := frozen_of (o := 7) HM0.out.h
            have c2 := pw_cell_below HM0.out.below HC.out.2.2.1
            have c3 := pw_cell_below HM0.out.below HC.out.2.2.2.1
            have c4 := pw_cell_below HM0.out.below HC.out.2.2.2.2
            have hne : ¬ (ad.add (k * 5)).block = b := fun h => by have := Go.block_lt_of_cell HC.out.1; have := HM0.out.le; omega
            have hzb := (Array.getElem?_eq_some_iff.1 HM0.out.h).1
            go_wp2_with (at_builtin; go_loud (refine Kd.R_append_rows k40 (w0 := w) (Rr := k40.K _) w.heap.size rfl (.tmp 99) (.tmp 101) 24 40 (.agg #[.int .i64 0, .int .i64 0, .int .i64 0, .int .i64 0, .int .i64 0, .int .i64 0, .int .i64 0, .int .i64 0]) 64 rfl Tryd.underlying24 info40 rfl (by decide) (by decide) _ l [⟨f0, 4, 255, 255, 0, 50000000, 0, (f0 + 1 + pickV x4 4) % 5⟩] _ 1 1 (fun k => w.heap.size ≤ k) (fun _ => False) rfl rfl HOX.out.1 HOX.out.2.1 (fun x cs h => by rw [k40_open h]; exact k40_mkM _ _ _ x) (fun _ h => h.elim) (fun k hk => Nat.le_trans HOX.out.2.2.1 hk) HOX.out.2.2.2 HOX.out.2.2.1 (by have := HI.out.2.1; first | omega | (simp; omega)) ?_; intro v1 w7 h1 h2 h3 h4))
            have HJ := Lib.hid (And.intro h1 h2); clear h1 h2 h3 h4
            clear z0 z1 z2 z3 z4 z5 z6 z7 y0 y1 y2 y3 y4 y5 y6 y7 c2 c3 c4 hne hzb
            try clear HM0
            go_wp2_with fail
            go_roundw
            case rel => exact ⟨k + 1, by go_num, by omega, by omega, _, Lib.hid ⟨HJ.out.1, by have := HI.out.2.1; simp; omega, by rw [List.all_append, HI.out.2.2.1]; simp [HV.out], HJ.out.2⟩⟩
            case measure => simp [intOf]; omega
      -- END 5
    · have hkq : k = min n 12 := by omega
      have hor : ¬ ((k : Int) < (n : Int)) ∨ ¬ ((k : Int) < 12) := by omega
      obtain ⟨RA, rc, rfl, hrc, hRC⟩ := Kd.R_reads HI.out.1
      clear hrc hRC
      have hfin : vldL l = true := by
        unfold vldL
        have := HI.out.2.1
        simp [HI.out.2.2.1]
        omega
      have HFI := Lib.hid hfin; clear hfin
      by_cases h1 : (k : Int) < (n : Int)
      · have h2 : ¬ ((k : Int) < 12) := by omega
        go_wp2_with fail
        go_ret
        exact ⟨_, rfl, l, HI.out.1, HFI.out, HI.out.2.1.trans hkq, HI.out.2.2.2⟩
      · go_wp2_with fail
        go_ret
        exact ⟨_, rfl, l, HI.out.1, HFI.out, HI.out.2.1.trans hkq, HI.out.2.2.2⟩
end Go.Proofs.YtnabgijdbcdpmaaDoor

namespace Go.Proofs.YtnabgijdbcdpmaaDoor
open Go.RowKit Go.Rg Go.Proofs.YtnabgijdbcdpmaaDoor.PRightsMatchesReference Go.Proofs.YtnabgijdbcdpmaaDoorW.PrintWords
set_option linter.unusedVariables false
set_option linter.unusedSimpArgs false

theorem usedOk_set {u : List Int} {i : Nat} {x : Int} (h : usedOk u = true) (h0 : 0 ≤ x) (h1 : x ≤ 1000000) : usedOk (u.set i x) = true := by
  unfold usedOk at h ⊢
  rw [List.all_eq_true] at h ⊢
  intro y hy
  rcases List.mem_or_eq_of_mem_set hy with hy | rfl
  · exact h y hy
  · simp only [inR, Bool.and_eq_true, decide_eq_true_eq]; omega

/-- Uses so far as the laws make them. -/
def small (u : List Int) : Prop := ∀ x ∈ u, x ≤ 24
theorem small_set {u : List Int} {i : Nat} {x : Int} (h : small u) (h1 : x ≤ 24) : small (u.set i x) := by
  intro y hy
  rcases List.mem_or_eq_of_mem_set hy with hy | rfl
  · exact h y hy
  · exact h1
theorem small_zero : small (List.replicate 12 0) := by
  intro x hx
  rw [List.eq_of_mem_replicate hx]; decide

set_option maxRecDepth 10000 in
theorem MadeUsed_any (A : Option Addr) (c : Nat) (xs : List Int) (w : World) (hr : (Kd.int .i64).C w A xs.length xs) (hg : ∀ x ∈ xs, rng x) :
    Calls Tryd.prog 19 #[.slice A xs.length c] w fun e w' => ∃ v u, e = .returned v ∧ (Kd.int .i64).R 3 w' w.heap.size (fun k => w.heap.size ≤ k) v u ∧ u.length = 12 ∧ usedOk u = true ∧ small u ∧ Below w.heap.size w w' := by
  have hm := max_len hr
  have HR0 := Lib.hid (And.intro hr hg); clear hr hg
  go_enter Tryd.func19, Tryd.ntmps19
  have hmk : (Instr.makeSlice 23 (.int .i64 12) (.int .i64 12)).run Tryd.prog w = .ok (.slice (some ⟨w.heap.size, 0, none⟩) 12 12) (w.alloc (.cells (madeCells #[.int .i64 0] 12) 3)) := print_make 23 3 .i64 8 Tryd.underlying23 info3 (by decide) 12 (by decide) w
  have hR0 : (Kd.int .i64).R 3 (w.alloc (.cells (madeCells #[.int .i64 0] 12) 3)) w.heap.size (fun k => w.heap.size ≤ k) (.slice (some ⟨w.heap.size, 0, none⟩) (List.replicate 12 (0 : Int)).length 12) (List.replicate 12 0) := Kd.R_of_own (own_made w w.heap.size 3 .i64 12 (Nat.le_refl _) (by decide)) (fun k hk => by simp [Value.ownBlock] at hk; omega)
  have hB0 := (Below.refl w.heap.size w).alloc (Nat.le_refl _) (.cells (madeCells #[.int .i64 0] 12) 3)
  have HI0 := Lib.hid (And.intro hR0 hB0); clear hR0 hB0
  go_wp2_with fail
  clear hmk
  generalize w.alloc (.cells (madeCells #[.int .i64 0] 12) 3) = w1 at *
  go_loopw [4] (fun iv wr => ∃ k : Nat, iv = .int .i64 k ∧ k ≤ xs.length ∧ k ≤ 12 ∧ ∃ u : List Int, Hid ((Kd.int .i64).R 3 wr w.heap.size (fun k => w.heap.size ≤ k) (.slice (some ⟨w.heap.size, 0, none⟩) u.length 12) u ∧ u.length = 12 ∧ usedOk u = true ∧ small u ∧ Below w.heap.size w wr)) (fun iv wr => 12 - (intOf iv).toNat)
  case atStart => exact ⟨0, rfl, Nat.zero_le _, Nat.zero_le _, _, Lib.hid ⟨HI0.out.1, rfl, by decide, small_zero, HI0.out.2⟩⟩
  case round =>
    obtain ⟨k, rfl, hk, hk12, u, HI⟩ := hrel
    by_cases hlt : k < xs.length ∧ k < 12
    · obtain ⟨h1, h2⟩ := hlt
      have hkI : (k : Int) < (xs.length : Int) := by omega
      have hkJ : (k : Int) < 12 := by omega
      obtain ⟨ad, e, hx⟩ := Kd.at_int (Kd.C_below HR0.out.1 HI.out.2.2.2.2) (k : Int) (by omega) hkI
      cases e
      simp only [Int.toNat_natCast] at hx
      rw [rd_get h1] at hx
      have hg := HR0.out.2 xs[k] (List.getElem_mem h1)
      generalize xs[k] = x at *
      have hP := pick_any x 25 hg.1 hg.2 (by decide) wr
      have HP := Lib.hid (And.intro hP (pickV_bd (a := x) (n := 25) (by decide))); clear hP hg
      go_wp2_with fail
      refine HP.out.1.mono ?_
      rintro e w2 ⟨rfl, hd⟩
      have HR2 := Lib.hid (Kd.R_below HI.out.1 hd.below)
      have HB2 := Lib.hid (HI.out.2.2.2.2.trans (hd.below.mono HI.out.2.2.2.2.size))
      clear hd hx
      obtain ⟨hc, hf⟩ := Kd.R_cell 0 HR2.out (k : Int) (by omega) (by have := HI.out.2.1; omega)
      simp only [Int.toNat_natCast] at hc hf
      have hz : w.heap.size < w2.heap.size := block_lt_of_cell hc
      go_wp2_with fail
      go_roundw
      case rel =>
        refine ⟨k + 1, by go_num, by omega, by omega, u.set k (pickV x 25), Lib.hid ⟨?_, by rw [List.length_set]; exact HI.out.2.1, usedOk_set HI.out.2.2.1 HP.out.2.1 (by have := HP.out.2.2; omega), small_set HI.out.2.2.2.1 (by have := HP.out.2.2; omega), HB2.out.setCell (by simp) _⟩⟩
        rw [List.length_set]
        exact (Kd.R_put HR2.out (k : Int) (pickV x 25)).1
      case measure => simp [intOf]; omega
    · have HF := Lib.hid (And.intro HI.out.1 HI.out.2.1)
      by_cases h1 : (k : Int) < (xs.length : Int)
      · have h2 : ¬ ((k : Int) < 12) := by omega
        go_wp2_with fail
        go_ret
        exact ⟨_, rfl, u, by have := HI.out.2.1 ▸ HI.out.1; exact this, HI.out.2.1, HI.out.2.2.1, HI.out.2.2.2.1, HI.out.2.2.2.2⟩
      · go_wp2_with fail
        go_ret
        exact ⟨_, rfl, u, by have := HI.out.2.1 ▸ HI.out.1; exact this, HI.out.2.1, HI.out.2.2.1, HI.out.2.2.2.1, HI.out.2.2.2.2⟩
end Go.Proofs.YtnabgijdbcdpmaaDoor

namespace Go.Proofs.YtnabgijdbcdpmaaDoor
open Go.RowKit Go.Rg Go.Proofs.YtnabgijdbcdpmaaDoor.PRightsMatchesReference Go.Proofs.YtnabgijdbcdpmaaDoorW.PrintWords
set_option linter.unusedVariables false
set_option linter.unusedSimpArgs false

/-- The want under way, as it lies. -/
structure WX (w : World) (VB : Nat) (te cl at_ us : Int) (v : Value) (ns : List (List Int)) (W : World) : Prop where
  below : Below w.heap.size w W
  lt : w.heap.size < VB
  rb : W.heap[w.heap.size]? = some (.cells #[.int .i64 0, .int .i64 0, .int .i64 0, .int .i64 0, .slice none 0 0] 29 (0, 0))
  vb : W.heap[VB]? = some (.cells #[.int .i64 te, .int .i64 cl, .int .i64 at_, .int .i64 us, v] 29 (0, 0))
  row : (Kd.slice 3 (Kd.int .i64)).R 23 W (VB + 1) (fun k => VB + 1 ≤ k) v ns
theorem WX.next {w W W' : World} {VB : Nat} {te cl at_ us : Int} {v : Value} {ns : List (List Int)} (h : WX w VB te cl at_ us v ns W) (hb : Below W.heap.size W W') : WX w VB te cl at_ us v ns W' :=
  ⟨h.below.trans (hb.mono h.below.size), h.lt, (hb.block _ (Array.getElem?_eq_some_iff.1 h.rb).1).trans h.rb, (hb.block _ (Array.getElem?_eq_some_iff.1 h.vb).1).trans h.vb, Kd.R_below h.row hb⟩

theorem cells5 {V : World} {b : Nat} {y0 y1 y2 y3 y4 : Value} {t : TypeId} (h : V.heap[b]? = some (.cells #[y0, y1, y2, y3, y4] t (0, 0))) (x0 x1 x2 x3 x4 : Value) :
    (((((V.setCell ⟨b, 0, none⟩ x0).setCell ⟨b, 1, none⟩ x1).setCell ⟨b, 2, none⟩ x2).setCell ⟨b, 3, none⟩ x3).setCell ⟨b, 4, none⟩ x4).heap[b]? = some (.cells #[x0, x1, x2, x3, x4] t (0, 0)) := by
  have hh := heap_set (o := 4) x4 (heap_set (o := 3) x3 (heap_set (o := 2) x2 (heap_set (o := 1) x1 (heap_set (o := 0) x0 h))))
  simpa using hh
theorem below5 {w V : World} {b : Nat} (h : Below w.heap.size w V) (hb : w.heap.size ≤ b) (x0 x1 x2 x3 x4 : Value) : Below w.heap.size w (((((V.setCell ⟨b, 0, none⟩ x0).setCell ⟨b, 1, none⟩ x1).setCell ⟨b, 2, none⟩ x2).setCell ⟨b, 3, none⟩ x3).setCell ⟨b, 4, none⟩ x4) :=
  ((((h.setCell (p := ⟨b, 0, none⟩) hb x0).setCell (p := ⟨b, 1, none⟩) hb x1).setCell (p := ⟨b, 2, none⟩) hb x2).setCell (p := ⟨b, 3, none⟩) hb x3).setCell (p := ⟨b, 4, none⟩) hb x4
theorem keep5 {V : World} {b : Nat} {S : Nat → Prop} (hS : S b) (x0 x1 x2 x3 x4 : Value) : Fr S V (((((V.setCell ⟨b, 0, none⟩ x0).setCell ⟨b, 1, none⟩ x1).setCell ⟨b, 2, none⟩ x2).setCell ⟨b, 3, none⟩ x3).setCell ⟨b, 4, none⟩ x4) :=
  (((((Fr.refl S V).setCell _ x0 (fun _ => hS)).setCell _ x1 (fun _ => hS)).setCell _ x2 (fun _ => hS)).setCell _ x3 (fun _ => hS)).setCell _ x4 (fun _ => hS)
/-- What MadeWant answers: some valid want. -/
def WantPost (w : World) (e : Ending) (w' : World) : Prop := ∃ wt WA wn, e = .returned (wtv wt WA wn) ∧ (Kd.slice 3 (Kd.int .i64)).C w' WA wt.needs.length wt.needs ∧ vldW wt = true ∧ wt.us ≤ 12 ∧ Below w.heap.size w w'
theorem want_end' {w W W5 : World} {te cl at_ us : Int} {A : Option Addr} {c : Nat} {ns : List (List Int)} (hB : Below w.heap.size w W) (hF : (0 ≤ te ∧ te ≤ 7) ∧ (0 ≤ cl ∧ cl ≤ 7) ∧ (0 ≤ at_ ∧ at_ ≤ 50000000) ∧ 1 ≤ us ∧ us ≤ 12) (hl : ns.length ≤ 4) (h0 : ns ≠ []) (hn : ns.all needOk = true)
    (hW : (((((W.setCell ⟨w.heap.size, 0, none⟩ (.int .i64 te)).setCell ⟨w.heap.size, 1, none⟩ (.int .i64 cl)).setCell ⟨w.heap.size, 2, none⟩ (.int .i64 at_)).setCell ⟨w.heap.size, 3, none⟩ (.int .i64 us)).setCell ⟨w.heap.size, 4, none⟩ (.slice A ns.length c)) = W5) (hC : (Kd.slice 3 (Kd.int .i64)).C W5 A ns.length ns) :
    WantPost w (.returned (.agg #[.int .i64 te, .int .i64 cl, .int .i64 at_, .int .i64 us, .slice A ns.length c])) W5 := by
  refine ⟨⟨te, cl, at_, us, ns⟩, A, c, rfl, hC, ?_, hF.2.2.2.2, by rw [← hW]; exact below5 hB (Nat.le_refl _) _ _ _ _ _⟩
  have hp : 0 < ns.length := List.length_pos_iff.2 h0
  unfold vldW inR
  simp only [Bool.and_eq_true, decide_eq_true_eq]
  exact ⟨by omega, by omega, by omega, by omega, by omega, hn⟩
theorem want_end {w W : World} {te cl at_ us : Int} {A : Option Addr} {c : Nat} {ns : List (List Int)} {VB : Nat} (hX : WX w VB te cl at_ us (.slice A ns.length c) ns W) (hF : (0 ≤ te ∧ te ≤ 7) ∧ (0 ≤ cl ∧ cl ≤ 7) ∧ (0 ≤ at_ ∧ at_ ≤ 50000000) ∧ 1 ≤ us ∧ us ≤ 12) (hl : ns.length ≤ 4) (h0 : ns ≠ []) (hn : ns.all needOk = true) :
    WantPost w (.returned (.agg #[.int .i64 te, .int .i64 cl, .int .i64 at_, .int .i64 us, .slice A ns.length c])) (((((W.setCell ⟨w.heap.size, 0, none⟩ (.int .i64 te)).setCell ⟨w.heap.size, 1, none⟩ (.int .i64 cl)).setCell ⟨w.heap.size, 2, none⟩ (.int .i64 at_)).setCell ⟨w.heap.size, 3, none⟩ (.int .i64 us)).setCell ⟨w.heap.size, 4, none⟩ (.slice A ns.length c)) := by
  have hR := Kd.R_step hX.row (fun k hk hlt => (keep5 (V := W) (b := w.heap.size) (S := fun k => k = w.heap.size) rfl (.int .i64 te) (.int .i64 cl) (.int .i64 at_) (.int .i64 us) (.slice A ns.length c)).block k hlt (fun e => by have := hX.lt; omega))
  exact want_end' hX.below hF hl h0 hn rfl (Kd.R_reads' hR).2.2

set_option maxRecDepth 100000 in
set_option maxHeartbeats 8000000 in
theorem MadeWant_any (a : Int) (A : Option Addr) (c : Nat) (xs : List Int) (w : World) (hr : (Kd.int .i64).C w A xs.length xs) (ha : rng a) (hg : ∀ x ∈ xs, rng x) :
    Calls Tryd.prog 10 #[.int .i64 a, .slice A xs.length c] w (WantPost w) := by
  have hm := max_len hr
  have HR0 := Lib.hid (And.intro hr hg); clear hr hg
  have hA0 := (Below.refl w.heap.size w).alloc (Nat.le_refl _) (.cells #[.int .i64 0, .int .i64 0, .int .i64 0, .int .i64 0, .slice none 0 0] 29)
  have hk0 := heap_new (o := .cells #[.int .i64 0, .int .i64 0, .int .i64 0, .int .i64 0, .slice none 0 0] 29) (W := w) rfl
  have HA0 := Lib.hid (And.intro hA0 hk0); clear hA0 hk0
  go_enter Tryd.func10, Tryd.ntmps10
  go_wp2_with fail
  have hP := pick_any a 1073741824 ha.1 ha.2 (by decide) (w.alloc (.cells #[.int .i64 0, .int .i64 0, .int .i64 0, .int .i64 0, .slice none 0 0] 29))
  obtain ⟨hn0, hn1⟩ := pickV_bd (a := a) (n := 1073741824) (by decide)
  refine hP.mono ?_
  clear hP ha
  rintro e w1 ⟨rfl, hd⟩
  generalize pickV a 1073741824 = n at *
  have HB1 := Lib.hid (And.intro (HA0.out.1.trans (hd.below.mono HA0.out.1.size)) ((hd.below.block _ (Array.getElem?_eq_some_iff.1 HA0.out.2).1).trans HA0.out.2)); clear hd HA0
  have q1 : 0 ≤ n / 8 := by omega
  have q2 : 0 ≤ n / 64 := by omega
  have q3 : 0 ≤ n / 2560 := by omega
  have r3 : 0 ≤ n / 2560 % 12 := by omega
  have r4 : n / 2560 % 12 < 12 := by omega
  have hw1 : wrap64 (1 + n / 2560 % 12) = 1 + n / 2560 % 12 := wrap_in (by omega) (by omega)
  go_wp2_with fail
  have hte : 0 ≤ n % 8 ∧ n % 8 ≤ 7 := by omega
  have hcl : 0 ≤ n / 8 % 8 ∧ n / 8 % 8 ≤ 7 := by omega
  have hat : 0 ≤ n / 64 % 40 ∧ n / 64 % 40 ≤ 50000000 := by omega
  have hus : 1 ≤ 1 + n / 2560 % 12 ∧ 1 + n / 2560 % 12 ≤ 12 := by omega
  generalize n % 8 = te at *
  generalize n / 8 % 8 = cl at *
  generalize n / 64 % 40 = at_ at *
  generalize 1 + n / 2560 % 12 = us at *
  have hA1 := (Below.refl w1.heap.size w1).alloc (Nat.le_refl _) (.cells #[.int .i64 te, .int .i64 cl, .int .i64 at_, .int .i64 us, .slice none 0 0] 29)
  have hW1 : WX w w1.heap.size te cl at_ us (.slice none 0 0) [] (w1.alloc (.cells #[.int .i64 te, .int .i64 cl, .int .i64 at_, .int .i64 us, .slice none 0 0] 29)) :=
    ⟨HB1.out.1.trans (hA1.mono HB1.out.1.size), (Array.getElem?_eq_some_iff.1 HB1.out.2).1, (hA1.block _ (Array.getElem?_eq_some_iff.1 HB1.out.2).1).trans HB1.out.2, heap_new rfl, Kd.R_nil _ _ _ _ _⟩
  have HF := Lib.hid (And.intro hte (And.intro hcl (And.intro hat hus))); clear hte hcl hat hus hA1 q1 q2 q3 r3 r4 hw1
  have HW1 := Lib.hid hW1; clear hW1 HB1
  generalize w1.alloc (.cells #[.int .i64 te, .int .i64 cl, .int .i64 at_, .int .i64 us, .slice none 0 0] 29) = W1 at *
  generalize w1.heap.size = VB at *
  go_loopw [6] (fun iv wr => ∃ k : Nat, iv = .int .i64 k ∧ k ≤ xs.length ∧ k ≤ 4 ∧ Hid (∃ v ns, WX w VB te cl at_ us v ns wr ∧ ns.length ≤ k ∧ ns.all needOk = true)) (fun iv wr => 4 - (intOf iv).toNat)
  case atStart => exact ⟨0, rfl, Nat.zero_le _, Nat.zero_le _, Lib.hid ⟨_, _, HW1.out, Nat.le_refl _, rfl⟩⟩
  case round =>
    obtain ⟨k, rfl, hk, hk4, HI⟩ := hrel
    obtain ⟨v, ns, hWX, hnl, hna⟩ := HI.out
    have HWX := Lib.hid hWX; clear hWX HI
    have HNA := Lib.hid hna; clear hna
    by_cases hlt : k < xs.length ∧ k < 4
    · obtain ⟨h1, h2⟩ := hlt
      have h1I : (k : Int) < (xs.length : Int) := by omega
      have h2I : (k : Int) < 4 := by omega
      go_wp2_with fail
      obtain ⟨W3, hW3⟩ : ∃ W3, W3 = wr := ⟨_, rfl⟩
      subst hW3
      go_loopw [7, 8] (fun ov jv wr2 => ∃ (j : Nat) (need : List Int), jv = .int .i64 j ∧ j ≤ 6 ∧ Hid ((Kd.int .i64).R 3 wr2 W3.heap.size (fun k => W3.heap.size ≤ k) ov need ∧ needTo need j ∧ Below W3.heap.size W3 wr2)) (fun ov jv wr2 => 6 - (intOf jv).toNat)
      case atStart => exact ⟨0, [], rfl, Nat.zero_le _, Lib.hid ⟨Kd.R_nil _ _ _ _ _, ⟨rfl, (fun x hx => by cases hx), by simp⟩, Below.refl _ _⟩⟩
      case round =>
        obtain ⟨j, need, rfl, hj, HJ⟩ := hrel
        by_cases hj6 : j < 6
        · have hj6I : (j : Int) < 6 := by omega
          obtain ⟨ad, e, hx⟩ := Kd.at_int (Kd.C_below HR0.out.1 (HWX.out.next HJ.out.2.2).below) (k : Int) (by omega) h1I
          cases e
          simp only [Int.toNat_natCast] at hx
          rw [rd_get h1] at hx
          have hgx := HR0.out.2 xs[k] (List.getElem_mem h1)
          generalize xs[k] = x at *
          have hP := pick_any x 64 hgx.1 hgx.2 (by decide) wr
          obtain ⟨hp0, hp1⟩ := pickV_bd (a := x) (n := 64) (by decide)
          generalize pickV x 64 = r at *
          have hq0 : (0 : Int) ≤ r / 2 ^ j := Int.ediv_nonneg hp0 (Int.pow_nonneg (by decide))
          obtain ⟨A1, c1, rfl, hc1, _⟩ := Kd.R_reads HJ.out.1
          have HP := Lib.hid hP; clear hP hgx
          go_wp2_with fail
          refine HP.out.mono ?_
          rintro e w5 ⟨rfl, hd⟩
          have HJ5 := Lib.hid (And.intro (Kd.R_below HJ.out.1 hd.below) (And.intro HJ.out.2.1 (HJ.out.2.2.trans (hd.below.mono HJ.out.2.2.size)))); clear hd HP hx HJ
          have hnl4 := HJ5.out.2.1.2.2
          cases hb : (r / 2 ^ j % 2 == 1) with
          | false =>
            go_wp2_with fail
            go_roundw
            case rel => exact ⟨j + 1, need, by go_num, by omega, Lib.hid ⟨HJ5.out.1, HJ5.out.2.1.next, HJ5.out.2.2⟩⟩
            case measure => simp [intOf]; omega
          | true =>
            by_cases hl4 : need.length < 4
            · have hl4I : (need.length : Int) < 4 := by omega
              have hA := Kd.R_below HJ5.out.1 ((Below.refl w5.heap.size w5).alloc (Nat.le_refl _) (.cells #[.int .i64 j] 3))
              have hRow := introw (xs := [(j : Int)]) (by simp) (heap_new (o := .cells #[.int .i64 j] 3) (W := w5) rfl)
              have hBA := HJ5.out.2.2.alloc HJ5.out.2.2.size (.cells #[.int .i64 j] 3)
              have HOX := Lib.hid (And.intro hA (And.intro hRow hBA)); clear hA hRow hBA
              go_wp2_with (at_builtin; go_loud (refine Kd.R_append_rows (Kd.int .i64) (w0 := W3) (Rr := fun x cs => cs = [.int .i64 x]) W3.heap.size rfl (.tmp 53) (.tmp 55) 23 3 (.int .i64 0) 8 rfl Tryd.underlying23 info3 rfl (by decide) (by decide) _ need [(j : Int)] _ 1 1 (fun k => W3.heap.size ≤ k) (fun _ => False) rfl rfl HOX.out.1 HOX.out.2.1 (fun _ _ h => h) (fun _ h => h.elim) (fun k hk => Nat.le_trans HOX.out.2.2.size hk) HOX.out.2.2 HOX.out.2.2.size (by omega) ?_; intro v1 w7 h1 h2 h3 h4))
              have HK := Lib.hid (And.intro h1 h2); clear h1 h2 h3 h4
              go_wp2_with fail
              go_roundw
              case rel => exact ⟨j + 1, _, by go_num, by omega, Lib.hid ⟨HK.out.1, HJ5.out.2.1.snoc (by omega) hl4, HK.out.2⟩⟩
              case measure => simp [intOf]; omega
            · go_wp2_with fail
              go_roundw
              case rel => exact ⟨j + 1, need, by go_num, by omega, Lib.hid ⟨HJ5.out.1, HJ5.out.2.1.next, HJ5.out.2.2⟩⟩
              case measure => simp [intOf]; omega
        · obtain rfl : j = 6 := by omega
          have HWN := Lib.hid (HWX.out.next HJ.out.2.2)
          obtain ⟨A1, c1, rfl, hc1, _⟩ := Kd.R_reads HJ.out.1
          have hnl4 := HJ.out.2.1.2.2
          by_cases hne : need = []
          · subst hne
            go_wp2_with fail
            go_roundw
            case rel => exact ⟨k + 1, by go_num, by omega, by omega, Lib.hid ⟨v, ns, HWN.out, by omega, HNA.out⟩⟩
            case measure => simp [intOf]; omega
          · have hpos : 0 < need.length := List.length_pos_iff.2 hne
            have hposI : (0 : Int) < (need.length : Int) := by omega
            have HOK := Lib.hid (HJ.out.2.1.ok hne)
            have d4 : wr.cell? ⟨VB, 4, none⟩ = some v := cell_of HWN.out.vb rfl
            obtain ⟨W8, hW8⟩ : ∃ W8, wr.alloc (.cells #[.slice A1 need.length c1] 23) = W8 := ⟨_, rfl⟩
            have hA8 : Below wr.heap.size wr W8 := by rw [← hW8]; exact (Below.refl _ _).alloc (Nat.le_refl _) _
            have hX8 := HWN.out.next hA8
            have hn8 := Kd.R_bound (Kd.R_below HJ.out.1 hA8)
            have hrow : ReadsRow (fun (x : List Int) cs => cs = [.slice A1 need.length c1] ∧ x = need) 1 W8 (some ⟨wr.heap.size, 0, none⟩) 1 [need] := by
              refine ⟨rfl, by decide, fun _ => ⟨_, rfl, fun j p hj => ?_⟩⟩
              cases j with
              | zero =>
                obtain rfl : need = p := by simpa using hj
                refine ⟨_, rfl, ⟨rfl, rfl⟩, fun i u hi => ?_⟩
                rw [add_plain, ← hW8]
                exact cell_new (by simpa using hi)
              | succ j => simp at hj
            have hvz : ∀ g, v.ownBlock = some g → g < W3.heap.size := Kd.R_lt HWX.out.row
            have hvb := (Array.getElem?_eq_some_iff.1 hX8.vb).1
            have hvne : some VB ≠ v.ownBlock := fun e => by have := HWX.out.row.1 VB e.symm; omega
            have hVB3 := (Array.getElem?_eq_some_iff.1 HWX.out.vb).1
            have H8 := Lib.hid (And.intro hX8 (And.intro hn8 (And.intro hrow (And.intro hvz (And.intro hvb (And.intro hvne hVB3)))))); clear hX8 hn8 hrow hvz hvb hvne hA8 hVB3
            have H8E := Lib.hid hW8; clear hW8
            go_wp2_with (at_builtin; go_loud (rw [H8E.out]; refine Kd.R_append_rows (Kd.slice 3 (Kd.int .i64)) (w0 := W8) (Rr := fun (x : List Int) cs => cs = [.slice A1 need.length c1] ∧ x = need) (VB + 1) rfl (.tmp 61) (.tmp 63) 27 23 (.slice none 0 0) 24 rfl Tryd.underlying27 info23 rfl (by decide) (by decide) _ ns [need] _ 1 1 (fun k => VB + 1 ≤ k) (fun k => W3.heap.size ≤ k) rfl rfl H8.out.1.row H8.out.2.2.1 (fun x cs h => ⟨_, h.1, by rw [h.2]; exact Kd.R_mono (Kd.R_lower H8.out.2.1 (by have := H8.out.2.2.2.2.2.2; omega)) (fun k hk => hk.1)⟩) (fun k hk => ⟨by have := H8.out.2.2.2.2.2.2; omega, fun e => by have := H8.out.2.2.2.1 k e.symm; omega⟩) (fun k hk => by have := H8.out.2.2.2.2.1; omega) (Below.refl _ _) H8.out.2.2.2.2.1 (by omega) ?_; intro v1 w9 h1 h2 h3 h4; obtain ⟨A9, c9, e9, hc9, _⟩ := Kd.R_reads h1; subst e9; have hV9 := (h3.block VB H8.out.2.2.2.2.1 H8.out.2.2.2.2.2.1).trans H8.out.1.vb; have hlw := H8.out.1.lt; have hR9 := (h3.block w.heap.size (by have := H8.out.2.2.2.2.1; omega) (fun e => by have := HWX.out.row.1 w.heap.size e.symm; omega)).trans H8.out.1.rb; have hB9 : Below w.heap.size w w9 := pw_below_grown H8.out.1.below _ (by have := H8.out.2.2.2.2.1; omega) h3 (fun g hg => by have := HWX.out.row.1 g hg; omega); have c4 : w9.cell? ⟨VB, 4, none⟩ = some v := cell_of hV9 rfl; have f4 : w9.frozen? ⟨VB, 4, none⟩ = false := frozen_of hV9; have hX9 : WX w VB te cl at_ us (.slice A9 (ns ++ [need]).length c9) (ns ++ [need]) (w9.setCell ⟨VB, 4, none⟩ (.slice A9 (ns ++ [need]).length c9)) := ⟨hB9.setCell (by simp; omega) _, hlw, heap_set_ne _ (by simp; omega) hR9, heap_set (o := 4) _ hV9, Kd.R_far h1 (fun k hk => by simp; omega) _⟩; have H9 := Lib.hid hX9; clear hX9 hB9 hR9 h1 h2 h3 h4 hV9))
            go_roundw
            case rel => exact ⟨k + 1, by go_num, by omega, by omega, Lib.hid ⟨_, ns ++ [need], (by have h := H9.out; rw [show (ns ++ [need]).length = ns.length + 1 by simp] at h; exact h), by simp; omega, by rw [List.all_append, HNA.out]; simp [HOK.out]⟩⟩
            case measure => simp [intOf]; omega
    · obtain ⟨A1, c1, rfl, hc1, hC1⟩ := Kd.R_reads HWX.out.row
      have d0 : wr.cell? ⟨VB, 0, none⟩ = some (.int .i64 te) := cell_of HWX.out.vb rfl
      have d1 : wr.cell? ⟨VB, 1, none⟩ = some (.int .i64 cl) := cell_of HWX.out.vb rfl
      have d2 : wr.cell? ⟨VB, 2, none⟩ = some (.int .i64 at_) := cell_of HWX.out.vb rfl
      have d3 : wr.cell? ⟨VB, 3, none⟩ = some (.int .i64 us) := cell_of HWX.out.vb rfl
      have d4 : wr.cell? ⟨VB, 4, none⟩ = some (.slice A1 ns.length c1) := cell_of HWX.out.vb rfl
      have b0 : wr.cell? ⟨w.heap.size, 0, none⟩ = some (.int .i64 0) := cell_of HWX.out.rb rfl
      have b1 : wr.cell? ⟨w.heap.size, 1, none⟩ = some (.int .i64 0) := cell_of HWX.out.rb rfl
      have b2 : wr.cell? ⟨w.heap.size, 2, none⟩ = some (.int .i64 0) := cell_of HWX.out.rb rfl
      have b3 : wr.cell? ⟨w.heap.size, 3, none⟩ = some (.int .i64 0) := cell_of HWX.out.rb rfl
      have b4 : wr.cell? ⟨w.heap.size, 4, none⟩ = some (.slice none 0 0) := cell_of HWX.out.rb rfl
      have g0 := frozen_of (o := 0) HWX.out.rb
      have g1 := frozen_of (o := 1) HWX.out.rb
      have g2 := frozen_of (o := 2) HWX.out.rb
      have g3 := frozen_of (o := 3) HWX.out.rb
      have g4 := frozen_of (o := 4) HWX.out.rb
      have hne : VB ≠ w.heap.size := by have := HWX.out.lt; omega
      have hll : ns.length ≤ 4 := by omega
      by_cases hz : ns = []
      · subst hz
        clear b0 b1 b2 b3 b4 g0 g1 g2 g3 g4 d0 d1 d2 d3 hC1
        have f4 := frozen_of (o := 4) HWX.out.vb
        have hVlt := (Array.getElem?_eq_some_iff.1 HWX.out.vb).1
        have hlw := HWX.out.lt
        have hz1 : (wr.setCell ⟨VB, 4, none⟩ (.slice (some ⟨wr.heap.size + 1, 0, none⟩) 1 1)).heap.size = wr.heap.size := by simp [World.setCell]
        have hv1 : (wr.setCell ⟨VB, 4, none⟩ (.slice (some ⟨wr.heap.size + 1, 0, none⟩) 1 1)).heap[VB]? = some (.cells #[.int .i64 te, .int .i64 cl, .int .i64 at_, .int .i64 us, .slice (some ⟨wr.heap.size + 1, 0, none⟩) 1 1] 29 (0, 0)) := heap_set (o := 4) (.slice (some ⟨wr.heap.size + 1, 0, none⟩) 1 1) HWX.out.vb
        have hr1 := heap_set_ne (p := ⟨VB, 4, none⟩) (.slice (some ⟨wr.heap.size + 1, 0, none⟩) 1 1) (by show w.heap.size ≠ VB; omega) HWX.out.rb
        have hv2 := heap_old (o := .cells #[.slice (some ⟨wr.heap.size, 0, none⟩) 1 1] 23) (heap_old (o := .cells #[.int .i64 (n % 6)] 3) hv1)
        have hr2 := heap_old (o := .cells #[.slice (some ⟨wr.heap.size, 0, none⟩) 1 1] 23) (heap_old (o := .cells #[.int .i64 (n % 6)] 3) hr1)
        have hg1 : (((wr.setCell ⟨VB, 4, none⟩ (.slice (some ⟨wr.heap.size + 1, 0, none⟩) 1 1)).alloc (.cells #[.int .i64 (n % 6)] 3)).alloc (.cells #[.slice (some ⟨wr.heap.size, 0, none⟩) 1 1] 23)).heap[wr.heap.size]? = some (.cells (nums .i64 [n % 6]).toArray 3 (0, 0)) := heap_old (heap_new hz1)
        have hg2 : (((wr.setCell ⟨VB, 4, none⟩ (.slice (some ⟨wr.heap.size + 1, 0, none⟩) 1 1)).alloc (.cells #[.int .i64 (n % 6)] 3)).alloc (.cells #[.slice (some ⟨wr.heap.size, 0, none⟩) 1 1] 23)).heap[wr.heap.size + 1]? = some (.cells #[.slice (some ⟨wr.heap.size, 0, none⟩) 1 1] 23 (0, 0)) := heap_new (by simp [hz1])
        have hbW : Below w.heap.size w (((wr.setCell ⟨VB, 4, none⟩ (.slice (some ⟨wr.heap.size + 1, 0, none⟩) 1 1)).alloc (.cells #[.int .i64 (n % 6)] 3)).alloc (.cells #[.slice (some ⟨wr.heap.size, 0, none⟩) 1 1] 23)) := ((HWX.out.below.setCell (p := ⟨VB, 4, none⟩) (by show w.heap.size ≤ VB; omega) (.slice (some ⟨wr.heap.size + 1, 0, none⟩) 1 1)).alloc (by rw [hz1]; omega) _).alloc (by rw [World.size_alloc, hz1]; omega) _
        have hn6 : needOk [n % 6] = true := needTo.ok ⟨rfl, (fun x hx => by rw [List.mem_singleton.1 hx]; omega), by simp⟩ (by simp)
        have hset : ∀ (k : Nat) (o : Obj), k ≠ w.heap.size → (((wr.setCell ⟨VB, 4, none⟩ (.slice (some ⟨wr.heap.size + 1, 0, none⟩) 1 1)).alloc (.cells #[.int .i64 (n % 6)] 3)).alloc (.cells #[.slice (some ⟨wr.heap.size, 0, none⟩) 1 1] 23)).heap[k]? = some o → (((((((((wr.setCell ⟨VB, 4, none⟩ (.slice (some ⟨wr.heap.size + 1, 0, none⟩) 1 1)).alloc (.cells #[.int .i64 (n % 6)] 3)).alloc (.cells #[.slice (some ⟨wr.heap.size, 0, none⟩) 1 1] 23))).setCell ⟨w.heap.size, 0, none⟩ (.int .i64 te)).setCell ⟨w.heap.size, 1, none⟩ (.int .i64 cl)).setCell ⟨w.heap.size, 2, none⟩ (.int .i64 at_)).setCell ⟨w.heap.size, 3, none⟩ (.int .i64 us)).setCell ⟨w.heap.size, 4, none⟩ (.slice (some ⟨wr.heap.size + 1, 0, none⟩) 1 1)).heap[k]? = some o := fun k o h2 h =>
          ((keep5 (V := (((wr.setCell ⟨VB, 4, none⟩ (.slice (some ⟨wr.heap.size + 1, 0, none⟩) 1 1)).alloc (.cells #[.int .i64 (n % 6)] 3)).alloc (.cells #[.slice (some ⟨wr.heap.size, 0, none⟩) 1 1] 23))) (b := w.heap.size) (S := fun k => k = w.heap.size) rfl (.int .i64 te) (.int .i64 cl) (.int .i64 at_) (.int .i64 us) (.slice (some ⟨wr.heap.size + 1, 0, none⟩) 1 1)).block k (Array.getElem?_eq_some_iff.1 h).1 h2).trans h
        have HZ := Lib.hid (And.intro hbW (And.intro (show [[n % 6]].all needOk = true by simp [hn6]) (And.intro (needs1 (xs := [n % 6]) (by simp) (hset _ _ (by omega) hg2) (hset _ _ (by omega) hg1)) hr2)))
        clear hset hg1 hg2 hn6 hbW hv1 hr1
        have d0 : (((wr.setCell ⟨VB, 4, none⟩ (.slice (some ⟨wr.heap.size + 1, 0, none⟩) 1 1)).alloc (.cells #[.int .i64 (n % 6)] 3)).alloc (.cells #[.slice (some ⟨wr.heap.size, 0, none⟩) 1 1] 23)).cell? ⟨VB, 0, none⟩ = some (.int .i64 te) := cell_of hv2 rfl
        have d1 : (((wr.setCell ⟨VB, 4, none⟩ (.slice (some ⟨wr.heap.size + 1, 0, none⟩) 1 1)).alloc (.cells #[.int .i64 (n % 6)] 3)).alloc (.cells #[.slice (some ⟨wr.heap.size, 0, none⟩) 1 1] 23)).cell? ⟨VB, 1, none⟩ = some (.int .i64 cl) := cell_of hv2 rfl
        have d2 : (((wr.setCell ⟨VB, 4, none⟩ (.slice (some ⟨wr.heap.size + 1, 0, none⟩) 1 1)).alloc (.cells #[.int .i64 (n % 6)] 3)).alloc (.cells #[.slice (some ⟨wr.heap.size, 0, none⟩) 1 1] 23)).cell? ⟨VB, 2, none⟩ = some (.int .i64 at_) := cell_of hv2 rfl
        have d3 : (((wr.setCell ⟨VB, 4, none⟩ (.slice (some ⟨wr.heap.size + 1, 0, none⟩) 1 1)).alloc (.cells #[.int .i64 (n % 6)] 3)).alloc (.cells #[.slice (some ⟨wr.heap.size, 0, none⟩) 1 1] 23)).cell? ⟨VB, 3, none⟩ = some (.int .i64 us) := cell_of hv2 rfl
        have m4 : (((wr.setCell ⟨VB, 4, none⟩ (.slice (some ⟨wr.heap.size + 1, 0, none⟩) 1 1)).alloc (.cells #[.int .i64 (n % 6)] 3)).alloc (.cells #[.slice (some ⟨wr.heap.size, 0, none⟩) 1 1] 23)).cell? ⟨VB, 4, none⟩ = some (.slice (some ⟨wr.heap.size + 1, 0, none⟩) 1 1) := cell_of hv2 rfl
        have b0 : (((wr.setCell ⟨VB, 4, none⟩ (.slice (some ⟨wr.heap.size + 1, 0, none⟩) 1 1)).alloc (.cells #[.int .i64 (n % 6)] 3)).alloc (.cells #[.slice (some ⟨wr.heap.size, 0, none⟩) 1 1] 23)).cell? ⟨w.heap.size, 0, none⟩ = some (.int .i64 0) := cell_of hr2 rfl
        have g0 := frozen_of (o := 0) hr2
        have b1 : (((wr.setCell ⟨VB, 4, none⟩ (.slice (some ⟨wr.heap.size + 1, 0, none⟩) 1 1)).alloc (.cells #[.int .i64 (n % 6)] 3)).alloc (.cells #[.slice (some ⟨wr.heap.size, 0, none⟩) 1 1] 23)).cell? ⟨w.heap.size, 1, none⟩ = some (.int .i64 0) := cell_of hr2 rfl
        have g1 := frozen_of (o := 1) hr2
        have b2 : (((wr.setCell ⟨VB, 4, none⟩ (.slice (some ⟨wr.heap.size + 1, 0, none⟩) 1 1)).alloc (.cells #[.int .i64 (n % 6)] 3)).alloc (.cells #[.slice (some ⟨wr.heap.size, 0, none⟩) 1 1] 23)).cell? ⟨w.heap.size, 2, none⟩ = some (.int .i64 0) := cell_of hr2 rfl
        have g2 := frozen_of (o := 2) hr2
        have b3 : (((wr.setCell ⟨VB, 4, none⟩ (.slice (some ⟨wr.heap.size + 1, 0, none⟩) 1 1)).alloc (.cells #[.int .i64 (n % 6)] 3)).alloc (.cells #[.slice (some ⟨wr.heap.size, 0, none⟩) 1 1] 23)).cell? ⟨w.heap.size, 3, none⟩ = some (.int .i64 0) := cell_of hr2 rfl
        have g3 := frozen_of (o := 3) hr2
        have b4 : (((wr.setCell ⟨VB, 4, none⟩ (.slice (some ⟨wr.heap.size + 1, 0, none⟩) 1 1)).alloc (.cells #[.int .i64 (n % 6)] 3)).alloc (.cells #[.slice (some ⟨wr.heap.size, 0, none⟩) 1 1] 23)).cell? ⟨w.heap.size, 4, none⟩ = some (.slice none 0 0) := cell_of hr2 rfl
        have g4 := frozen_of (o := 4) hr2
        clear hv2 hr2 hz1
        by_cases hh : (k : Int) < (xs.length : Int)
        · have h4 : ¬ ((k : Int) < 4) := by omega
          go_wp2_with fail
          refine bodyPost_ret (v := .agg #[.int .i64 te, .int .i64 cl, .int .i64 at_, .int .i64 us, .slice (some ⟨wr.heap.size + 1, 0, none⟩) 1 1]) ?_ rfl (want_end' (ns := [[n % 6]]) HZ.out.1 HF.out (by simp) (by simp) HZ.out.2.1 rfl HZ.out.2.2.1)
          have hh := cells5 HZ.out.2.2.2 (.int .i64 te) (.int .i64 cl) (.int .i64 at_) (.int .i64 us) (.slice (some ⟨wr.heap.size + 1, 0, none⟩) 1 1)
          have e0 := cell_of (o := 0) hh rfl
          have e1 := cell_of (o := 1) hh rfl
          have e2 := cell_of (o := 2) hh rfl
          have e3 := cell_of (o := 3) hh rfl
          have e4 := cell_of (o := 4) hh rfl
          simp [results, Tryd.results10, go_sem, e0, e1, e2, e3, e4]
        · go_wp2_with fail
          refine bodyPost_ret (v := .agg #[.int .i64 te, .int .i64 cl, .int .i64 at_, .int .i64 us, .slice (some ⟨wr.heap.size + 1, 0, none⟩) 1 1]) ?_ rfl (want_end' (ns := [[n % 6]]) HZ.out.1 HF.out (by simp) (by simp) HZ.out.2.1 rfl HZ.out.2.2.1)
          have hh := cells5 HZ.out.2.2.2 (.int .i64 te) (.int .i64 cl) (.int .i64 at_) (.int .i64 us) (.slice (some ⟨wr.heap.size + 1, 0, none⟩) 1 1)
          have e0 := cell_of (o := 0) hh rfl
          have e1 := cell_of (o := 1) hh rfl
          have e2 := cell_of (o := 2) hh rfl
          have e3 := cell_of (o := 3) hh rfl
          have e4 := cell_of (o := 4) hh rfl
          simp [results, Tryd.results10, go_sem, e0, e1, e2, e3, e4]
      · have hpos : 0 < ns.length := List.length_pos_iff.2 hz
        have hposI : ((ns.length : Int) == 0) = false := by simp; exact hz
        by_cases hh : (k : Int) < (xs.length : Int)
        · have h4 : ¬ ((k : Int) < 4) := by omega
          go_wp2_with fail
          refine bodyPost_ret (v := .agg #[.int .i64 te, .int .i64 cl, .int .i64 at_, .int .i64 us, .slice A1 ns.length c1]) ?_ rfl (want_end HWX.out HF.out hll hz HNA.out)
          have hh := cells5 HWX.out.rb (.int .i64 te) (.int .i64 cl) (.int .i64 at_) (.int .i64 us) (.slice A1 ns.length c1)
          have e0 := cell_of (o := 0) hh rfl
          have e1 := cell_of (o := 1) hh rfl
          have e2 := cell_of (o := 2) hh rfl
          have e3 := cell_of (o := 3) hh rfl
          have e4 := cell_of (o := 4) hh rfl
          simp [results, Tryd.results10, go_sem, e0, e1, e2, e3, e4]
        · skip
          go_wp2_with fail
          refine bodyPost_ret (v := .agg #[.int .i64 te, .int .i64 cl, .int .i64 at_, .int .i64 us, .slice A1 ns.length c1]) ?_ rfl (want_end HWX.out HF.out hll hz HNA.out)
          have hh := cells5 HWX.out.rb (.int .i64 te) (.int .i64 cl) (.int .i64 at_) (.int .i64 us) (.slice A1 ns.length c1)
          have e0 := cell_of (o := 0) hh rfl
          have e1 := cell_of (o := 1) hh rfl
          have e2 := cell_of (o := 2) hh rfl
          have e3 := cell_of (o := 3) hh rfl
          have e4 := cell_of (o := 4) hh rfl
          simp [results, Tryd.results10, go_sem, e0, e1, e2, e3, e4]
end Go.Proofs.YtnabgijdbcdpmaaDoor
