-- PRINTED BY print.sh 35421559b90ae4d0a3588c463048766b98c2df88dd9212a6774a882060cdf62d: not written by this session
import Derived.Test.YtnabgijdbcdpmaaDoorPRightsMatchesReferencex0
import Derived.Test.YtnabgijdbcdpmaaDoorPRightsMatchesReferencex2
namespace Go.Proofs.YtnabgijdbcdpmaaDoor.PRightsMatchesReference
open Go.RowKit Go.Proofs.YtnabgijdbcdpmaaDoorW.PrintWords Go.Proofs.YtnabgijdbcdpmaaDoorW.PrintLast Go.Proofs.YtnabgijdbcdpmaaDoorW.PrintMore
attribute [local go_sem] max2_int min2_int max_two min_two max_three min_three max_four min_four   -- for this text's walks alone
set_option linter.unusedVariables false
set_option linter.unusedSimpArgs false

/-! ### newswireref29_MadeWant: function 10 -/
mutual
def newswireref29_MadeWant.l0 : Nat → Int → List Int → Int → Int → Int → Int → Int → List (List Int) → Option (Int × Int × Int × Int × (List (List Int)))
  | 0, _, _, _, _, _, _, _, _ => none
  | k + 1, x0, x1, x6, x202000, x202001, x202002, x202003, x202004 => if x6 < (x1.length : Int) then (newswireref29_MadeWant.j1 k x0 x1 x6 (decide (x6 < 4)) x202000 x202001 x202002 x202003 x202004) else (newswireref29_MadeWant.j1 k x0 x1 x6 false x202000 x202001 x202002 x202003 x202004)
def newswireref29_MadeWant.j1 : Nat → Int → List Int → Int → Bool → Int → Int → Int → Int → List (List Int) → Option (Int × Int × Int × Int × (List (List Int)))
  | 0, _, _, _, _, _, _, _, _, _ => none
  | k + 1, x0, x1, x6, x32, x202000, x202001, x202002, x202003, x202004 => if x32 = true then (newswireref29_MadeWant.l1 k x0 x1 x6 ([] : List Int) 0 x202000 x202001 x202002 x202003 x202004) else (if (x202004.length : Int) = 0 then (some (x202000, x202001, x202002, x202003, (([(([Int.tmod x0 6] : List Int))] : List (List Int))))) else (some (x202000, x202001, x202002, x202003, x202004)))
def newswireref29_MadeWant.l1 : Nat → Int → List Int → Int → List Int → Int → Int → Int → Int → Int → List (List Int) → Option (Int × Int × Int × Int × (List (List Int)))
  | 0, _, _, _, _, _, _, _, _, _, _ => none
  | k + 1, x0, x1, x6, x7, x8, x202000, x202001, x202002, x202003, x202004 => if x8 < 6 then (if 0 ≤ x6 then (if x6 < (x1.length : Int) then ((newswireref29_pick.f (rd x1 x6) 64).bind fun t209 => (if 0 ≤ x8 then (if (Int.tmod (shr .i64 t209 x8) 2) = 1 then (if (x7.length : Int) < 4 then (if x7.length < 17592186044416 then (newswireref29_MadeWant.l1 k x0 x1 x6 (x7 ++ [x8]) (wrap64 (x8 + 1)) x202000 x202001 x202002 x202003 x202004) else (none)) else (newswireref29_MadeWant.l1 k x0 x1 x6 x7 (wrap64 (x8 + 1)) x202000 x202001 x202002 x202003 x202004)) else (newswireref29_MadeWant.l1 k x0 x1 x6 x7 (wrap64 (x8 + 1)) x202000 x202001 x202002 x202003 x202004)) else (none))) else (none)) else (none)) else (if (x7.length : Int) > 0 then (if x202004.length < 5864062014805 then (newswireref29_MadeWant.l0 k x0 x1 (wrap64 (x6 + 1)) x202000 x202001 x202002 x202003 (x202004 ++ [x7])) else (none)) else (newswireref29_MadeWant.l0 k x0 x1 (wrap64 (x6 + 1)) x202000 x202001 x202002 x202003 x202004))
end
def newswireref29_MadeWant.f (k : Nat) (a0 : Int) (l1 : List Int) : Option (Int × Int × Int × Int × (List (List Int))) := (newswireref29_pick.f a0 1073741824).bind fun t200 => (newswireref29_MadeWant.l0 k t200 l1 0 (Int.tmod t200 8) (Int.tmod (wrap64 (Int.tdiv t200 8)) 8) (Int.tmod (wrap64 (Int.tdiv t200 64)) 40) (wrap64 (1 + (Int.tmod (wrap64 (Int.tdiv t200 2560)) 12))) ([] : List (List Int)))
theorem newswireref29_MadeWant.mono_l : ∀ k, (∀ y0 y1 y2 y3 y4 y5 y6 y7, LeO (newswireref29_MadeWant.l0 k y0 y1 y2 y3 y4 y5 y6 y7) (newswireref29_MadeWant.l0 (k + 1) y0 y1 y2 y3 y4 y5 y6 y7)) ∧ (∀ y0 y1 y2 y3 y4 y5 y6 y7 y8, LeO (newswireref29_MadeWant.j1 k y0 y1 y2 y3 y4 y5 y6 y7 y8) (newswireref29_MadeWant.j1 (k + 1) y0 y1 y2 y3 y4 y5 y6 y7 y8)) ∧ (∀ y0 y1 y2 y3 y4 y5 y6 y7 y8 y9, LeO (newswireref29_MadeWant.l1 k y0 y1 y2 y3 y4 y5 y6 y7 y8 y9) (newswireref29_MadeWant.l1 (k + 1) y0 y1 y2 y3 y4 y5 y6 y7 y8 y9))
  | 0 => ⟨fun _ _ _ _ _ _ _ _ r h => by simp [newswireref29_MadeWant.l0] at h, fun _ _ _ _ _ _ _ _ _ r h => by simp [newswireref29_MadeWant.j1] at h, fun _ _ _ _ _ _ _ _ _ _ r h => by simp [newswireref29_MadeWant.l1] at h⟩
  | k + 1 => by
    obtain ⟨ih0, ih1, ih2⟩ := newswireref29_MadeWant.mono_l k
    refine ⟨?_, ?_, ?_⟩
    · intro y0 y1 y2 y3 y4 y5 y6 y7
      unfold newswireref29_MadeWant.l0
      repeat' first
      | (with_reducible exact ih0 _ _ _ _ _ _ _ _)
      | (with_reducible exact ih1 _ _ _ _ _ _ _ _ _)
      | (with_reducible exact ih2 _ _ _ _ _ _ _ _ _ _)
      | (with_reducible exact LeO.refl _)
      | (with_reducible exact LeO.none _)
      | (with_reducible refine LeO.ite ?_ ?_)
      | (with_reducible refine LeO.bind ?_ (fun _ => ?_))
      | exact ih0 _ _ _ _ _ _ _ _
      | exact ih1 _ _ _ _ _ _ _ _ _
      | exact ih2 _ _ _ _ _ _ _ _ _ _
      | exact LeO.none _
      | refine LeO.ite ?_ ?_
      | refine LeO.bind ?_ (fun _ => ?_)
    · intro y0 y1 y2 y3 y4 y5 y6 y7 y8
      unfold newswireref29_MadeWant.j1
      repeat' first
      | (with_reducible exact ih0 _ _ _ _ _ _ _ _)
      | (with_reducible exact ih1 _ _ _ _ _ _ _ _ _)
      | (with_reducible exact ih2 _ _ _ _ _ _ _ _ _ _)
      | (with_reducible exact LeO.refl _)
      | (with_reducible exact LeO.none _)
      | (with_reducible refine LeO.ite ?_ ?_)
      | (with_reducible refine LeO.bind ?_ (fun _ => ?_))
      | exact ih0 _ _ _ _ _ _ _ _
      | exact ih1 _ _ _ _ _ _ _ _ _
      | exact ih2 _ _ _ _ _ _ _ _ _ _
      | exact LeO.none _
      | refine LeO.ite ?_ ?_
      | refine LeO.bind ?_ (fun _ => ?_)
    · intro y0 y1 y2 y3 y4 y5 y6 y7 y8 y9
      unfold newswireref29_MadeWant.l1
      repeat' first
      | (with_reducible exact ih0 _ _ _ _ _ _ _ _)
      | (with_reducible exact ih1 _ _ _ _ _ _ _ _ _)
      | (with_reducible exact ih2 _ _ _ _ _ _ _ _ _ _)
      | (with_reducible exact LeO.refl _)
      | (with_reducible exact LeO.none _)
      | (with_reducible refine LeO.ite ?_ ?_)
      | (with_reducible refine LeO.bind ?_ (fun _ => ?_))
      | exact ih0 _ _ _ _ _ _ _ _
      | exact ih1 _ _ _ _ _ _ _ _ _
      | exact ih2 _ _ _ _ _ _ _ _ _ _
      | exact LeO.none _
      | refine LeO.ite ?_ ?_
      | refine LeO.bind ?_ (fun _ => ?_)
theorem newswireref29_MadeWant.mono : ∀ a0 a1 k, LeO (newswireref29_MadeWant.f k a0 a1) (newswireref29_MadeWant.f (k + 1) a0 a1) := by
  intro a0 a1 k
  obtain ⟨ih0, ih1, ih2⟩ := newswireref29_MadeWant.mono_l k
  unfold newswireref29_MadeWant.f
  repeat' first
      | (with_reducible exact ih0 _ _ _ _ _ _ _ _)
      | (with_reducible exact ih1 _ _ _ _ _ _ _ _ _)
      | (with_reducible exact ih2 _ _ _ _ _ _ _ _ _ _)
      | (with_reducible exact LeO.refl _)
      | (with_reducible exact LeO.none _)
      | (with_reducible refine LeO.ite ?_ ?_)
      | (with_reducible refine LeO.bind ?_ (fun _ => ?_))
      | exact ih0 _ _ _ _ _ _ _ _
      | exact ih1 _ _ _ _ _ _ _ _ _
      | exact ih2 _ _ _ _ _ _ _ _ _ _
      | exact LeO.none _
      | refine LeO.ite ?_ ?_
      | refine LeO.bind ?_ (fun _ => ?_)
set_option maxHeartbeats 8000000 in
set_option maxRecDepth 100000 in
theorem newswireref29_MadeWant.calls (k : Nat) (a0 : Int) (A1 : Option Addr) (c1 : Nat) (l1 : List Int) (r1 : Int) (r2 : Int) (r3 : Int) (r4 : Int) (r5 : List (List Int)) (w : World) (hr1 : Kd.C (Kd.int .i64) w A1 l1.length l1) (hc1 : l1.length ≤ c1) (h : newswireref29_MadeWant.f k a0 l1 = some (r1, r2, r3, r4, r5)) :
    Calls Tryd.prog 10 #[.int .i64 a0, .slice A1 l1.length c1] w fun e w' => ∃ v4_ : Value, e = .returned (.agg #[.int .i64 r1, .int .i64 r2, .int .i64 r3, .int .i64 r4, v4_]) ∧ Kd.N (Kd.slice 3 (Kd.int .i64)) 23 w' w.heap.size (fun k_ => (w.heap.size ≤ k_)) v4_ r5 ∧ Below w.heap.size w w' := by
  have hu29 := Tryd.underlying29
  have hu26 := Tryd.underlying26
  have HR1 := Aside0.mk hr1
  have HC1 := Aside0.mk hc1
  clear hr1 hc1
  have HB := Aside0.mk (Below.refl w.heap.size w)
  have H : ((newswireref29_pick.f a0 1073741824).bind fun t200 => (newswireref29_MadeWant.l0 k t200 l1 0 (Int.tmod t200 8) (Int.tmod (wrap64 (Int.tdiv t200 8)) 8) (Int.tmod (wrap64 (Int.tdiv t200 64)) 40) (wrap64 (1 + (Int.tmod (wrap64 (Int.tdiv t200 2560)) 12))) ([] : List (List Int)))) = some (r1, r2, r3, r4, r5) := h
  clear h
  replace H := Option.bind_eq_some_iff.mp H
  obtain ⟨t200, A30, H⟩ := H
  replace H : (newswireref29_MadeWant.l0 k t200 l1 0 (Int.tmod t200 8) (Int.tmod (wrap64 (Int.tdiv t200 8)) 8) (Int.tmod (wrap64 (Int.tdiv t200 64)) 40) (wrap64 (1 + (Int.tmod (wrap64 (Int.tdiv t200 2560)) 12))) ([] : List (List Int))) = some (r1, r2, r3, r4, r5) := H
  have A3 := Aside0.mk A30
  clear A30
  have H' := Aside0.mk H
  clear H
  go_enter Tryd.func10, Tryd.ntmps10
  go_wp2_with (first | ((with_reducible refine gate_dst (N := 4) rfl ?_); (try (refine gate_guard (by rfl) ?_; dsimp only)); refine box_event ?hg (N := 4) ?hd (cs := #[.int .i64 0, .int .i64 0, .int .i64 0, .int .i64 0, .slice none 0 0]) (t := 29) ?hr ?_; (case hd => rfl); (case hg => rfl); (case hr => first | (go_simp; done) | (go_simp; rfl)); intro gb199 hg w4 hbox hb; have n0_ := Aside0.mk (below_step (by repeat (first | (with_reducible first | exact HB.out | apply below_alloc | apply pw_below_drewN | apply below_drew1) | exact HB.out)) hb); have n1_ := Aside0.mk (hbox); have n2_ := Aside0.mk ((by rw [hg]; exact (below_size (by repeat (first | (with_reducible first | exact HB.out | apply below_alloc | apply pw_below_drewN | apply below_drew1) | exact HB.out))) : w.heap.size ≤ gb199)); have n3_ := Aside0.mk ((by rw [hg]; exact (below_size (by repeat (first | (with_reducible first | exact HB.out | apply below_alloc | apply pw_below_drewN | apply below_drew1) | exact HB.out))) : w.heap.size ≤ gb199)); clear HB; have HB := n0_; have BK199 := n1_; have GW199 := n2_; have GE199 := n3_; clear n0_ n1_ n2_ n3_; clear hb hbox hg) | ((with_reducible refine gate_callee (f := 36) rfl ?_); refine goesL_ (some 10) rfl rfl Tryd.func36 (by kernel_rfl) rfl #[.int .i64 a0, .int .i64 1073741824] rfl (by (try simp only [List.map_toArray, List.map_cons, List.map_nil]); first | done | rfl | (simp only [List.length_drop, List.length_take]; rfl)) ?_; (with_reducible refine (newswireref29_pick.calls a0 1073741824 t200 _ A3.out).mono ?_); rintro e w' ⟨rfl, ⟨nd, rfl⟩⟩; refine ⟨_, rfl, ?_⟩; (try (rw [drewN_self w4]; generalize hq_ : World.drewN w4 _ = w4; have n0_ : Aside0 (w4.heap[gb199]? = some (.cells #[.int .i64 0, .int .i64 0, .int .i64 0, .int .i64 0, .slice none 0 0] 29 (0, 0))) := ⟨by rw [← hq_]; exact (by (with_reducible repeat (first | refine blk_drewN ?_ _ | refine blk_drew ?_ | refine blk_alloc ?_ _)); exact BK199.out)⟩; have n1_ : Aside0 (Below w.heap.size w w4) := ⟨by rw [← hq_]; exact (by repeat (first | (with_reducible first | exact HB.out | apply below_alloc | apply pw_below_drewN | apply below_drew1 | refine below_set ?_ GE199.out) | exact HB.out))⟩; clear BK199 HB hq_; have BK199 := n0_; have HB := n1_; clear n0_ n1_))) | ((with_reducible refine gate_dst (N := 5) rfl ?_); (try (refine gate_guard (by rfl) ?_; dsimp only)); refine box_event ?hg (N := 5) ?hd (cs := #[.int .i64 0, .int .i64 0, .int .i64 0, .int .i64 0, .slice none 0 0]) (t := 29) ?hr ?_; (case hd => rfl); (case hg => rfl); (case hr => first | (go_simp; done) | (go_simp; rfl)); intro gb201 hg w5 hbox hb; have n0_ := Aside0.mk (blk_below (g := gb199) (o := .cells #[.int .i64 0, .int .i64 0, .int .i64 0, .int .i64 0, .slice none 0 0] 29 (0, 0)) (by (with_reducible repeat (first | refine blk_drewN ?_ _ | refine blk_drew ?_ | refine blk_alloc ?_ _)); exact BK199.out) hb); have n1_ := Aside0.mk (below_step (by repeat (first | (with_reducible first | exact HB.out | apply below_alloc | apply pw_below_drewN | apply below_drew1 | refine below_set ?_ GE199.out) | exact HB.out)) hb); have n2_ := Aside0.mk (hbox); have n3_ := Aside0.mk ((by rw [hg]; exact (below_size (by repeat (first | (with_reducible first | exact HB.out | apply below_alloc | apply pw_below_drewN | apply below_drew1 | refine below_set ?_ GE199.out) | exact HB.out))) : w.heap.size ≤ gb201)); have n4_ := Aside0.mk ((by rw [hg]; exact (below_size (by repeat (first | (with_reducible first | exact HB.out | apply below_alloc | apply pw_below_drewN | apply below_drew1 | refine below_set ?_ GE199.out) | exact HB.out))) : w.heap.size ≤ gb201)); have n5_ := Aside0.mk ((by rw [hg]; exact Nat.ne_of_lt (blk_lt (g := gb199) (o := .cells #[.int .i64 0, .int .i64 0, .int .i64 0, .int .i64 0, .slice none 0 0] 29 (0, 0)) (by (with_reducible repeat (first | refine blk_drewN ?_ _ | refine blk_drew ?_ | refine blk_alloc ?_ _)); exact BK199.out)) : gb199 ≠ gb201)); have n6_ := Aside0.mk ((by rw [hg]; exact Nat.ne_of_gt (blk_lt (g := gb199) (o := .cells #[.int .i64 0, .int .i64 0, .int .i64 0, .int .i64 0, .slice none 0 0] 29 (0, 0)) (by (with_reducible repeat (first | refine blk_drewN ?_ _ | refine blk_drew ?_ | refine blk_alloc ?_ _)); exact BK199.out)) : gb201 ≠ gb199)); clear BK199; clear HB; have BK199 := n0_; have HB := n1_; have BK201 := n2_; have GW201 := n3_; have GE201 := n4_; have NB199_201 := n5_; have NB201_199 := n6_; clear n0_ n1_ n2_ n3_ n4_ n5_ n6_; clear hb hbox hg; have hnb6 := NB201_199.out; have hnc6 := NB199_201.out; have hcz7_0 : w5.cell? ⟨gb201, 0, none⟩ = some (.int .i64 0) := (blk_cell BK201.out 0).trans rfl; have hcz7_1 : w5.cell? ⟨gb201, 1, none⟩ = some (.int .i64 0) := (blk_cell BK201.out 1).trans rfl; have hcz7_2 : w5.cell? ⟨gb201, 2, none⟩ = some (.int .i64 0) := (blk_cell BK201.out 2).trans rfl; have hcz7_3 : w5.cell? ⟨gb201, 3, none⟩ = some (.int .i64 0) := (blk_cell BK201.out 3).trans rfl; have hcz7_4 : w5.cell? ⟨gb201, 4, none⟩ = some (.slice none 0 0) := (blk_cell BK201.out 4).trans rfl; have hfz7_0 := blk_frozen BK201.out 0; have hfz7_1 := blk_frozen BK201.out 1; have hfz7_2 := blk_frozen BK201.out 2; have hfz7_3 := blk_frozen BK201.out 3; have hfz7_4 := blk_frozen BK201.out 4))
  go_loopg [6] k (fun kq v6 w' => ∃ (x6_1 : Int) (x202004_1 : List (List Int)) (u202004 : Value), v6 = .int .i64 x6_1 ∧ Aside0 (newswireref29_MadeWant.l0 kq t200 l1 x6_1 (Int.tmod t200 8) (Int.tmod (wrap64 (Int.tdiv t200 8)) 8) (Int.tmod (wrap64 (Int.tdiv t200 64)) 40) (wrap64 (1 + (Int.tmod (wrap64 (Int.tdiv t200 2560)) 12))) x202004_1 = some (r1, r2, r3, r4, r5)) ∧ Aside0 (kq ≤ k) ∧ Aside0 (Kd.N (Kd.slice 3 (Kd.int .i64)) 23 w' w.heap.size (fun k_ => (w.heap.size ≤ k_) ∧ k_ ≠ gb199 ∧ k_ ≠ gb201) u202004 x202004_1) ∧ Aside0 (w'.heap[gb199]? = some (.cells #[.int .i64 0, .int .i64 0, .int .i64 0, .int .i64 0, (.slice none 0 0)] 29 (0, 0))) ∧ Aside0 (w'.heap[gb201]? = some (.cells #[.int .i64 (Int.tmod t200 8), .int .i64 (Int.tmod (wrap64 (Int.tdiv t200 8)) 8), .int .i64 (Int.tmod (wrap64 (Int.tdiv t200 64)) 40), .int .i64 (wrap64 (1 + (Int.tmod (wrap64 (Int.tdiv t200 2560)) 12))), u202004] 29 (0, 0))) ∧ Aside0 (Below w.heap.size w w'))
  case atStart => exact ⟨(0), (([] : List (List Int))), (.slice none 0 0), (by first | rfl | (simp; done) | (simp [*]; done)), H', ⟨Nat.le_refl _⟩, ⟨by first | exact Kd.S_nil _ _ _ _ _ | exact Kd.N_nil _ _ _ _ _ | exact Kd.V_nil _ _ _ _ _ | exact Kd.Q_nil _ _ _ _ _ | exact Kd.R_nil _ _ _ _ _⟩, ⟨by (with_reducible repeat (first | refine blk_drewN ?_ _ | refine blk_drew ?_ | refine blk_alloc ?_ _)); refine blk_far ?_ NB199_201.out _; (with_reducible repeat (first | refine blk_drewN ?_ _ | refine blk_drew ?_ | refine blk_alloc ?_ _)); refine blk_far ?_ NB199_201.out _; (with_reducible repeat (first | refine blk_drewN ?_ _ | refine blk_drew ?_ | refine blk_alloc ?_ _)); refine blk_far ?_ NB199_201.out _; (with_reducible repeat (first | refine blk_drewN ?_ _ | refine blk_drew ?_ | refine blk_alloc ?_ _)); refine blk_far ?_ NB199_201.out _; (with_reducible repeat (first | refine blk_drewN ?_ _ | refine blk_drew ?_ | refine blk_alloc ?_ _)); refine blk_far ?_ NB199_201.out _; (with_reducible repeat (first | refine blk_drewN ?_ _ | refine blk_drew ?_ | refine blk_alloc ?_ _)); exact BK199.out⟩, ⟨by (with_reducible repeat (first | refine blk_drewN ?_ _ | refine blk_drew ?_ | refine blk_alloc ?_ _)); refine blk_put (cs := #[.int .i64 (Int.tmod t200 8), .int .i64 (Int.tmod (wrap64 (Int.tdiv t200 8)) 8), .int .i64 (Int.tmod (wrap64 (Int.tdiv t200 64)) 40), .int .i64 (wrap64 (1 + (Int.tmod (wrap64 (Int.tdiv t200 2560)) 12))), .slice none 0 0]) ?_ 4 _ rfl; (with_reducible repeat (first | refine blk_drewN ?_ _ | refine blk_drew ?_ | refine blk_alloc ?_ _)); refine blk_put (cs := #[.int .i64 (Int.tmod t200 8), .int .i64 (Int.tmod (wrap64 (Int.tdiv t200 8)) 8), .int .i64 (Int.tmod (wrap64 (Int.tdiv t200 64)) 40), .int .i64 0, .slice none 0 0]) ?_ 3 _ rfl; (with_reducible repeat (first | refine blk_drewN ?_ _ | refine blk_drew ?_ | refine blk_alloc ?_ _)); refine blk_put (cs := #[.int .i64 (Int.tmod t200 8), .int .i64 (Int.tmod (wrap64 (Int.tdiv t200 8)) 8), .int .i64 0, .int .i64 0, .slice none 0 0]) ?_ 2 _ rfl; (with_reducible repeat (first | refine blk_drewN ?_ _ | refine blk_drew ?_ | refine blk_alloc ?_ _)); refine blk_put (cs := #[.int .i64 (Int.tmod t200 8), .int .i64 0, .int .i64 0, .int .i64 0, .slice none 0 0]) ?_ 1 _ rfl; (with_reducible repeat (first | refine blk_drewN ?_ _ | refine blk_drew ?_ | refine blk_alloc ?_ _)); refine blk_put (cs := #[.int .i64 0, .int .i64 0, .int .i64 0, .int .i64 0, .slice none 0 0]) ?_ 0 _ rfl; (with_reducible repeat (first | refine blk_drewN ?_ _ | refine blk_drew ?_ | refine blk_alloc ?_ _)); exact BK201.out⟩, ⟨by repeat (first | (with_reducible first | exact HB.out | apply below_alloc | apply pw_below_drewN | apply below_drew1 | refine below_set ?_ GE199.out | refine below_set ?_ GE201.out) | exact HB.out)⟩⟩
  case round =>
    clear H'
    try clear c1
    try clear p2
    try clear c3
    try clear c6
    try clear p6
    try clear hcz7_0
    try clear hcz7_1
    try clear hcz7_2
    try clear hcz7_3
    try clear hcz7_4
    try clear hfz7_0
    try clear hfz7_1
    try clear hfz7_2
    try clear hfz7_3
    try clear hfz7_4
    obtain ⟨x6_1, x202004_1, u202004, rfl, HA, HK1, HO_202004, BK199, BK201, HB⟩ := hrel
    cases gk with
    | zero => exact absurd HA.out (by simp [newswireref29_MadeWant.l0])
    | succ k1 =>
      have H := HA.out
      clear HA
      simp only [newswireref29_MadeWant.l0] at H
      have HC8 := Aside0.mk H
      clear H
      go_upto_region 4 with (fail)
      go_cut [32] (fun v32 wc => ∃ (kq : Nat) (x32_7 : Bool), v32 = .bool x32_7 ∧ Aside0 (newswireref29_MadeWant.j1 kq t200 l1 x6_1 x32_7 (Int.tmod t200 8) (Int.tmod (wrap64 (Int.tdiv t200 8)) 8) (Int.tmod (wrap64 (Int.tdiv t200 64)) 40) (wrap64 (1 + (Int.tmod (wrap64 (Int.tdiv t200 2560)) 12))) x202004_1 = some (r1, r2, r3, r4, r5)) ∧ Aside0 (kq ≤ k1) ∧ Aside0 (Kd.N (Kd.slice 3 (Kd.int .i64)) 23 wc w.heap.size (fun k_ => (w.heap.size ≤ k_) ∧ k_ ≠ gb199 ∧ k_ ≠ gb201) u202004 x202004_1) ∧ Aside0 (wc.heap[gb199]? = some (.cells #[.int .i64 0, .int .i64 0, .int .i64 0, .int .i64 0, (.slice none 0 0)] 29 (0, 0))) ∧ Aside0 (wc.heap[gb201]? = some (.cells #[.int .i64 (Int.tmod t200 8), .int .i64 (Int.tmod (wrap64 (Int.tdiv t200 8)) 8), .int .i64 (Int.tmod (wrap64 (Int.tdiv t200 64)) 40), .int .i64 (wrap64 (1 + (Int.tmod (wrap64 (Int.tdiv t200 2560)) 12))), u202004] 29 (0, 0))) ∧ Aside0 (Below w.heap.size w wc))
      case first =>
        have H := HC8.out
        clear HC8
        by_cases c9 : x6_1 < (l1.length : Int)
        · rw [if_pos c9] at H
          have c9b0 : decide (x6_1 < (l1.length : Int)) = true := decide_eq_true c9
          clear c9
          (first | rw [c9b0] | (simp only [i64_w, i32_w]; rw [c9b0]) | skip)
          have H' := Aside0.mk H
          clear H
          go_wp2
          go_meet
          case rel => exact ⟨_, (decide (x6_1 < 4)), (by first | rfl | (simp; done) | (simp [*]; done)), H', ⟨by have := HK1.out; first | omega | exact Nat.le_refl _⟩, ⟨by (with_reducible repeat (first | apply Kd.N_alloc | apply Kd.N_drewN | apply Kd.N_drew)); exact HO_202004.out⟩, ⟨by (with_reducible repeat (first | refine blk_drewN ?_ _ | refine blk_drew ?_ | refine blk_alloc ?_ _)); exact BK199.out⟩, ⟨by (with_reducible repeat (first | refine blk_drewN ?_ _ | refine blk_drew ?_ | refine blk_alloc ?_ _)); exact BK201.out⟩, ⟨by repeat (first | (with_reducible first | exact HB.out | apply below_alloc | apply pw_below_drewN | apply below_drew1 | refine below_set ?_ GE199.out | refine below_set ?_ GE201.out) | exact HB.out)⟩⟩
        · rw [if_neg c9] at H
          have c9b0 : decide (x6_1 < (l1.length : Int)) = false := decide_eq_false c9
          clear c9
          (first | rw [c9b0] | (simp only [i64_w, i32_w]; rw [c9b0]) | skip)
          have H' := Aside0.mk H
          clear H
          go_wp2
          go_meet
          case rel => exact ⟨_, (false), (by first | rfl | (simp; done) | (simp [*]; done)), H', ⟨by have := HK1.out; first | omega | exact Nat.le_refl _⟩, ⟨by (with_reducible repeat (first | apply Kd.N_alloc | apply Kd.N_drewN | apply Kd.N_drew)); exact HO_202004.out⟩, ⟨by (with_reducible repeat (first | refine blk_drewN ?_ _ | refine blk_drew ?_ | refine blk_alloc ?_ _)); exact BK199.out⟩, ⟨by (with_reducible repeat (first | refine blk_drewN ?_ _ | refine blk_drew ?_ | refine blk_alloc ?_ _)); exact BK201.out⟩, ⟨by repeat (first | (with_reducible first | exact HB.out | apply below_alloc | apply pw_below_drewN | apply below_drew1 | refine below_set ?_ GE199.out | refine below_set ?_ GE201.out) | exact HB.out)⟩⟩
      case rest =>
        clear HC8
        try clear c1
        try clear p2
        try clear c3
        try clear c6
        try clear p6
        try clear c9
        try clear c9b0
        try clear hcz7_0
        try clear hcz7_1
        try clear hcz7_2
        try clear hcz7_3
        try clear hcz7_4
        try clear hfz7_0
        try clear hfz7_1
        try clear hfz7_2
        try clear hfz7_3
        try clear hfz7_4
        try clear p2
        try clear p6
        obtain ⟨kq, x32_7, rfl, HA, HJ7, HO_202004, BK199, BK201, HB⟩ := hcut
        cases kq with
        | zero => exact absurd HA.out (by simp [newswireref29_MadeWant.j1])
        | succ kj7 =>
          have H := HA.out
          clear HA
          simp only [newswireref29_MadeWant.j1] at H
          by_cases c10 : x32_7 = true
          · subst c10
            have H1 : (newswireref29_MadeWant.l1 kj7 t200 l1 x6_1 ([] : List Int) 0 (Int.tmod t200 8) (Int.tmod (wrap64 (Int.tdiv t200 8)) 8) (Int.tmod (wrap64 (Int.tdiv t200 64)) 40) (wrap64 (1 + (Int.tmod (wrap64 (Int.tdiv t200 2560)) 12))) x202004_1) = some (r1, r2, r3, r4, r5) := by rw [if_pos rfl] at H; exact H
            clear H
            have H := H1
            clear H1
            have H' := Aside0.mk H
            clear H
            go_wp2
            go_loopg [7, 8] kj7 (fun kq v7 v8 w' => ∃ (x7_3 : List Int) (x8_3 : Int), v8 = .int .i64 x8_3 ∧ Aside0 (newswireref29_MadeWant.l1 kq t200 l1 x6_1 x7_3 x8_3 (Int.tmod t200 8) (Int.tmod (wrap64 (Int.tdiv t200 8)) 8) (Int.tmod (wrap64 (Int.tdiv t200 64)) 40) (wrap64 (1 + (Int.tmod (wrap64 (Int.tdiv t200 2560)) 12))) x202004_1 = some (r1, r2, r3, r4, r5)) ∧ Aside0 (kq ≤ kj7) ∧ Aside0 (Kd.R (Kd.int .i64) 3 w' w.heap.size (fun k_ => (w.heap.size ≤ k_)) v7 x7_3) ∧ Aside0 (Kd.N (Kd.slice 3 (Kd.int .i64)) 23 w' w.heap.size (fun k_ => (w.heap.size ≤ k_) ∧ some k_ ≠ (v7 : Value).ownBlock ∧ k_ ≠ gb199 ∧ k_ ≠ gb201) u202004 x202004_1) ∧ Aside0 (w'.heap[gb199]? = some (.cells #[.int .i64 0, .int .i64 0, .int .i64 0, .int .i64 0, (.slice none 0 0)] 29 (0, 0))) ∧ Aside0 (w'.heap[gb201]? = some (.cells #[.int .i64 (Int.tmod t200 8), .int .i64 (Int.tmod (wrap64 (Int.tdiv t200 8)) 8), .int .i64 (Int.tmod (wrap64 (Int.tdiv t200 64)) 40), .int .i64 (wrap64 (1 + (Int.tmod (wrap64 (Int.tdiv t200 2560)) 12))), u202004] 29 (0, 0))) ∧ Aside0 (Below w.heap.size w w'))
            case atStart => exact ⟨(([] : List Int)), (0), (by first | rfl | (simp; done) | (simp [*]; done)), H', ⟨Nat.le_refl _⟩, ⟨by first | exact Kd.R_nil _ _ _ _ _ | exact Kd.N_nil _ _ _ _ _ | exact Kd.V_nil _ _ _ _ _ | exact Kd.Q_nil _ _ _ _ _ | exact Kd.S_nil _ _ _ _ _⟩, ⟨by (with_reducible repeat (first | apply Kd.N_alloc | apply Kd.N_drewN | apply Kd.N_drew)); exact Kd.N_mono HO_202004.out (fun _ hk => ⟨hk.1, ⟨(by simp [Value.ownBlock]), ⟨hk.2.1, hk.2.2⟩⟩⟩)⟩, ⟨by (with_reducible repeat (first | refine blk_drewN ?_ _ | refine blk_drew ?_ | refine blk_alloc ?_ _)); exact BK199.out⟩, ⟨by (with_reducible repeat (first | refine blk_drewN ?_ _ | refine blk_drew ?_ | refine blk_alloc ?_ _)); exact BK201.out⟩, ⟨by repeat (first | (with_reducible first | exact HB.out | apply below_alloc | apply pw_below_drewN | apply below_drew1 | refine below_set ?_ GE199.out | refine below_set ?_ GE201.out) | exact HB.out)⟩⟩
            case round =>
              clear H'
              try clear c1
              try clear p2
              try clear c3
              try clear c6
              try clear p6
              try clear c9
              try clear c9b0
              try clear c10
              try clear hcz7_0
              try clear hcz7_1
              try clear hcz7_2
              try clear hcz7_3
              try clear hcz7_4
              try clear hfz7_0
              try clear hfz7_1
              try clear hfz7_2
              try clear hfz7_3
              try clear hfz7_4
              try clear p2
              try clear p6
              obtain ⟨x7_3, x8_3, rfl, HA, HK3, HO_7, HO_202004, BK199, BK201, HB⟩ := hrel
              cases gk with
              | zero => exact absurd HA.out (by simp [newswireref29_MadeWant.l1])
              | succ k3 =>
                have H := HA.out
                clear HA
                simp only [newswireref29_MadeWant.l1] at H
                by_cases c11 : x8_3 < 6
                · rw [if_pos c11] at H
                  have c11b0 : decide (x8_3 < 6) = true := decide_eq_true c11
                  clear c11
                  by_cases c12 : 0 ≤ x6_1
                  · rw [if_pos c12] at H
                    have c12b0 : decide (0 ≤ x6_1) = true := decide_eq_true c12
                    clear c12
                    by_cases c13 : x6_1 < (l1.length : Int)
                    · rw [if_pos c13] at H
                      have c13b0 : decide (x6_1 < (l1.length : Int)) = true := decide_eq_true c13
                      clear c13
                      replace H := Option.bind_eq_some_iff.mp H
                      obtain ⟨t209, A140, H⟩ := H
                      replace H : (if 0 ≤ x8_3 then (if (Int.tmod (shr .i64 t209 x8_3) 2) = 1 then (if (x7_3.length : Int) < 4 then (if x7_3.length < 17592186044416 then (newswireref29_MadeWant.l1 k3 t200 l1 x6_1 (x7_3 ++ [x8_3]) (wrap64 (x8_3 + 1)) (Int.tmod t200 8) (Int.tmod (wrap64 (Int.tdiv t200 8)) 8) (Int.tmod (wrap64 (Int.tdiv t200 64)) 40) (wrap64 (1 + (Int.tmod (wrap64 (Int.tdiv t200 2560)) 12))) x202004_1) else (none)) else (newswireref29_MadeWant.l1 k3 t200 l1 x6_1 x7_3 (wrap64 (x8_3 + 1)) (Int.tmod t200 8) (Int.tmod (wrap64 (Int.tdiv t200 8)) 8) (Int.tmod (wrap64 (Int.tdiv t200 64)) 40) (wrap64 (1 + (Int.tmod (wrap64 (Int.tdiv t200 2560)) 12))) x202004_1)) else (newswireref29_MadeWant.l1 k3 t200 l1 x6_1 x7_3 (wrap64 (x8_3 + 1)) (Int.tmod t200 8) (Int.tmod (wrap64 (Int.tdiv t200 8)) 8) (Int.tmod (wrap64 (Int.tdiv t200 64)) 40) (wrap64 (1 + (Int.tmod (wrap64 (Int.tdiv t200 2560)) 12))) x202004_1)) else (none)) = some (r1, r2, r3, r4, r5) := H
                      have A14 := Aside0.mk A140
                      clear A140
                      by_cases c15 : 0 ≤ x8_3
                      · rw [if_pos c15] at H
                        have c15b0 := eq_true c15
                        have c15b1 : decide (0 ≤ x8_3) = true := decide_eq_true c15
                        clear c15
                        obtain ⟨ji16, hji16⟩ : ∃ j_ : Int, (shr .i64 t209 x8_3) = j_ := ⟨_, rfl⟩
                        replace H : (if (Int.tmod (ji16) 2) = 1 then (if (x7_3.length : Int) < 4 then (if x7_3.length < 17592186044416 then (newswireref29_MadeWant.l1 k3 t200 l1 x6_1 (x7_3 ++ [x8_3]) (wrap64 (x8_3 + 1)) (Int.tmod t200 8) (Int.tmod (wrap64 (Int.tdiv t200 8)) 8) (Int.tmod (wrap64 (Int.tdiv t200 64)) 40) (wrap64 (1 + (Int.tmod (wrap64 (Int.tdiv t200 2560)) 12))) x202004_1) else (none)) else (newswireref29_MadeWant.l1 k3 t200 l1 x6_1 x7_3 (wrap64 (x8_3 + 1)) (Int.tmod t200 8) (Int.tmod (wrap64 (Int.tdiv t200 8)) 8) (Int.tmod (wrap64 (Int.tdiv t200 64)) 40) (wrap64 (1 + (Int.tmod (wrap64 (Int.tdiv t200 2560)) 12))) x202004_1)) else (newswireref29_MadeWant.l1 k3 t200 l1 x6_1 x7_3 (wrap64 (x8_3 + 1)) (Int.tmod t200 8) (Int.tmod (wrap64 (Int.tdiv t200 8)) 8) (Int.tmod (wrap64 (Int.tdiv t200 64)) 40) (wrap64 (1 + (Int.tmod (wrap64 (Int.tdiv t200 2560)) 12))) x202004_1)) = some (r1, r2, r3, r4, r5) := by first | (rw [hji16] at H; exact H) | (simp only [hji16] at H ⊢; exact H)
                        (try rw [hji16] at A14)
                        have hji16_ : (t209 / 2 ^ min x8_3.toNat 64) = ji16 := hji16
                        have hji16z : x8_3 ≤ 64 → (t209 / 2 ^ x8_3.toNat) = ji16 := shr_small hji16
                        by_cases c17 : (Int.tmod (ji16) 2) = 1
                        · rw [if_pos c17] at H
                          have c17b0 : ((Int.tmod (ji16) 2) == 1) = true := beq_iff_eq.mpr c17
                          have c17b1 : ((Int.tmod (ji16) 2) != 1) = false := bne_eq_false_iff_eq.mpr c17
                          clear c17
                          by_cases c18 : (x7_3.length : Int) < 4
                          · rw [if_pos c18] at H
                            have c18b0 : decide ((x7_3.length : Int) < 4) = true := decide_eq_true c18
                            have c18b1 : decide (x7_3.length < 4) = true := decide_eq_true (by omega)
                            clear c18
                            by_cases c19 : x7_3.length < 17592186044416
                            · rw [if_pos c19] at H
                              have LMc19 := Aside0.mk c19
                              clear c19
                              obtain ⟨y210, hy210⟩ : ∃ y_ : List Int, y_ = (x7_3 ++ [x8_3]) := ⟨_, rfl⟩
                              replace H : (newswireref29_MadeWant.l1 k3 t200 l1 x6_1 y210 (wrap64 (x8_3 + 1)) (Int.tmod t200 8) (Int.tmod (wrap64 (Int.tdiv t200 8)) 8) (Int.tmod (wrap64 (Int.tdiv t200 64)) 40) (wrap64 (1 + (Int.tmod (wrap64 (Int.tdiv t200 2560)) 12))) x202004_1) = some (r1, r2, r3, r4, r5) := by first | (rw [hy210]; with_reducible exact H) | (have H2_ := (Option.bind_some _ _).symm.trans H; rw [hy210]; with_reducible exact H2_) | (have H2_ := (Option.bind_some _ _).symm.trans H; with_reducible exact H2_) | with_reducible exact H | (rw [hy210]; exact H) | exact H
                              have Ny210 := Aside0.mk hy210
                              clear hy210
                              have H' := Aside0.mk H
                              clear H
                              have p208 : 0 ≤ (x6_1 : Int) := of_decide_eq_true (by first | (with_reducible assumption) | assumption)
                              have q208 : x6_1 < (l1.length : Int) := of_decide_eq_true (by first | (with_reducible assumption) | assumption)
                              obtain ⟨ad208, e208, hx208_0⟩ := Kd.at_int HR1.out x6_1 p208 q208
                              cases e208
                              replace hx208_0 := (HB.out.cell (World.block_lt_of_cell? w _ hx208_0)).trans hx208_0
                              replace p208 := eq_true p208
                              replace q208 := eq_true q208
                              go_wp2_with (first | ((with_reducible refine gate_callee (f := 36) rfl ?_); refine goesL_ (some 43) rfl rfl Tryd.func36 (by kernel_rfl) rfl #[.int .i64 (rd l1 x6_1), .int .i64 64] rfl (by (try simp only [List.map_toArray, List.map_cons, List.map_nil]); first | done | rfl | (simp only [List.length_drop, List.length_take]; rfl)) ?_; (with_reducible refine (newswireref29_pick.calls (rd l1 x6_1) 64 t209 _ A14.out).mono ?_); rintro e w' ⟨rfl, ⟨nd, rfl⟩⟩; refine ⟨_, rfl, ?_⟩; obtain ⟨Ao20, co20, eo20⟩ := Kd.R_slice HO_7.out; subst eo20) | ((with_reducible refine gate_builtin (b := .append) (xs := #[.tmp 53, .tmp 55]) rfl ?_); (try (refine gate_guard (by rfl) ?_; dsimp only)); at_builtin; refine Kd.R_append (Kd.int .i64) (w0 := w) w.heap.size rfl (.tmp 53) (.tmp 55) 23 3 (.int .i64 0) 8 rfl Tryd.underlying23 info3 rfl (by decide) (by omega) (.slice Ao20 x7_3.length co20) x7_3 x8_3 [.int .i64 x8_3] (fun k_ => (w.heap.size ≤ k_)) (fun _ => False) rfl rfl ?aP (fun _ hk => hk.elim) ?aF ?aO ?aB ?aS ?aL ?_; (case aP => exact rfl); (case aB => exact (by repeat (first | (with_reducible first | exact HB.out | apply below_alloc | apply pw_below_drewN | apply below_drew1 | refine below_set ?_ GE199.out | refine below_set ?_ GE201.out) | exact HB.out))); (case aF => exact (fun k_ hk => (Nat.le_trans (below_size (by repeat (first | (with_reducible first | exact HB.out | apply below_alloc | apply pw_below_drewN | apply below_drew1 | refine below_set ?_ GE199.out | refine below_set ?_ GE201.out) | exact HB.out))) hk))); (case aO => exact (by (with_reducible repeat (first | apply Kd.R_alloc | apply Kd.R_drewN | apply Kd.R_drew)); exact HO_7.out)); (case aS => exact (below_size (by repeat (first | (with_reducible first | exact HB.out | apply below_alloc | apply pw_below_drewN | apply below_drew1 | refine below_set ?_ GE199.out | refine below_set ?_ GE201.out) | exact HB.out)))); (case aL => have := LMc19.out; omega); intro v211 w21 ho hb hg hat; rw [← Ny210.out] at ho; have n0_ := Aside0.mk (Kd.N_afterv (ok := (fun k_ => (w.heap.size ≤ k_) ∧ k_ ≠ gb199 ∧ k_ ≠ gb201)) (by (with_reducible repeat (first | apply Kd.N_alloc | apply Kd.N_drewN | apply Kd.N_drew)); exact Kd.N_mono HO_202004.out (fun _ hk => ⟨⟨hk.1, ⟨hk.2.2.1, hk.2.2.2⟩⟩, hk.2.1⟩)) hg hat); have n1_ := Aside0.mk (blk_grown (g := gb199) (o := .cells #[.int .i64 0, .int .i64 0, .int .i64 0, .int .i64 0, .slice none 0 0] 29 (0, 0)) (by (with_reducible repeat (first | refine blk_drewN ?_ _ | refine blk_drew ?_ | refine blk_alloc ?_ _)); exact BK199.out) hg (Kd.R_ne HO_7.out BK199.out (by decide))); have n2_ := Aside0.mk (blk_grown (g := gb201) (o := .cells #[.int .i64 (Int.tmod t200 8), .int .i64 (Int.tmod (wrap64 (Int.tdiv t200 8)) 8), .int .i64 (Int.tmod (wrap64 (Int.tdiv t200 64)) 40), .int .i64 (wrap64 (1 + (Int.tmod (wrap64 (Int.tdiv t200 2560)) 12))), u202004] 29 (0, 0)) (by (with_reducible repeat (first | refine blk_drewN ?_ _ | refine blk_drew ?_ | refine blk_alloc ?_ _)); exact BK201.out) hg (Kd.R_ne HO_7.out BK201.out (by decide))); have n3_ := Aside0.mk (hb); have n4_ := Aside0.mk (ho); clear HO_202004; clear BK199; clear BK201; clear HB; clear HO_7; have HO_202004 := n0_; have BK199 := n1_; have BK201 := n2_; have HB := n3_; have HO212 := n4_; clear n0_ n1_ n2_ n3_ n4_; clear ho hb hg hat))
                              go_roundg k3
                              case measure => have := HK1.out; have := HJ7.out; have := HK3.out; omega
                              case rel => exact ⟨(y210), (wrap64 (x8_3 + 1)), (by first | rfl | (simp; done) | (simp [*]; done)), H', ⟨by have := HK1.out; have := HJ7.out; have := HK3.out; omega⟩, ⟨by (with_reducible repeat (first | apply Kd.R_alloc | apply Kd.R_drewN | apply Kd.R_drew)); exact HO212.out⟩, ⟨by (with_reducible repeat (first | apply Kd.N_alloc | apply Kd.N_drewN | apply Kd.N_drew)); exact Kd.N_mono HO_202004.out (fun _ hk => ⟨hk.1.1, ⟨hk.2, ⟨hk.1.2.1, hk.1.2.2⟩⟩⟩)⟩, ⟨by (with_reducible repeat (first | refine blk_drewN ?_ _ | refine blk_drew ?_ | refine blk_alloc ?_ _)); exact BK199.out⟩, ⟨by (with_reducible repeat (first | refine blk_drewN ?_ _ | refine blk_drew ?_ | refine blk_alloc ?_ _)); exact BK201.out⟩, ⟨by repeat (first | (with_reducible first | exact HB.out | apply below_alloc | apply pw_below_drewN | apply below_drew1 | refine below_set ?_ GE199.out | refine below_set ?_ GE201.out) | exact HB.out)⟩⟩
                            · rw [if_neg c19] at H
                              exact absurd H (by simp)
                          · rw [if_neg c18] at H
                            have c18b0 : decide ((x7_3.length : Int) < 4) = false := decide_eq_false c18
                            have c18b1 : decide (x7_3.length < 4) = false := decide_eq_false (by omega)
                            clear c18
                            have H' := Aside0.mk H
                            clear H
                            have p208 : 0 ≤ (x6_1 : Int) := of_decide_eq_true (by first | (with_reducible assumption) | assumption)
                            have q208 : x6_1 < (l1.length : Int) := of_decide_eq_true (by first | (with_reducible assumption) | assumption)
                            obtain ⟨ad208, e208, hx208_0⟩ := Kd.at_int HR1.out x6_1 p208 q208
                            cases e208
                            replace hx208_0 := (HB.out.cell (World.block_lt_of_cell? w _ hx208_0)).trans hx208_0
                            replace p208 := eq_true p208
                            replace q208 := eq_true q208
                            go_wp2_with (first | ((with_reducible refine gate_callee (f := 36) rfl ?_); refine goesL_ (some 43) rfl rfl Tryd.func36 (by kernel_rfl) rfl #[.int .i64 (rd l1 x6_1), .int .i64 64] rfl (by (try simp only [List.map_toArray, List.map_cons, List.map_nil]); first | done | rfl | (simp only [List.length_drop, List.length_take]; rfl)) ?_; (with_reducible refine (newswireref29_pick.calls (rd l1 x6_1) 64 t209 _ A14.out).mono ?_); rintro e w' ⟨rfl, ⟨nd, rfl⟩⟩; refine ⟨_, rfl, ?_⟩; obtain ⟨Ao22, co22, eo22⟩ := Kd.R_slice HO_7.out; subst eo22))
                            go_roundg k3
                            case measure => have := HK1.out; have := HJ7.out; have := HK3.out; omega
                            case rel => exact ⟨(x7_3), (wrap64 (x8_3 + 1)), (by first | rfl | (simp; done) | (simp [*]; done)), H', ⟨by have := HK1.out; have := HJ7.out; have := HK3.out; omega⟩, ⟨by (with_reducible repeat (first | apply Kd.R_alloc | apply Kd.R_drewN | apply Kd.R_drew)); exact HO_7.out⟩, ⟨by (with_reducible repeat (first | apply Kd.N_alloc | apply Kd.N_drewN | apply Kd.N_drew)); exact HO_202004.out⟩, ⟨by (with_reducible repeat (first | refine blk_drewN ?_ _ | refine blk_drew ?_ | refine blk_alloc ?_ _)); exact BK199.out⟩, ⟨by (with_reducible repeat (first | refine blk_drewN ?_ _ | refine blk_drew ?_ | refine blk_alloc ?_ _)); exact BK201.out⟩, ⟨by repeat (first | (with_reducible first | exact HB.out | apply below_alloc | apply pw_below_drewN | apply below_drew1 | refine below_set ?_ GE199.out | refine below_set ?_ GE201.out) | exact HB.out)⟩⟩
                        · rw [if_neg c17] at H
                          have c17b0 : ((Int.tmod (ji16) 2) == 1) = false := beq_eq_false_iff_ne.mpr c17
                          have c17b1 : ((Int.tmod (ji16) 2) != 1) = true := bne_iff_ne.mpr c17
                          have H' := Aside0.mk H
                          clear H
                          have p208 : 0 ≤ (x6_1 : Int) := of_decide_eq_true (by first | (with_reducible assumption) | assumption)
                          have q208 : x6_1 < (l1.length : Int) := of_decide_eq_true (by first | (with_reducible assumption) | assumption)
                          obtain ⟨ad208, e208, hx208_0⟩ := Kd.at_int HR1.out x6_1 p208 q208
                          cases e208
                          replace hx208_0 := (HB.out.cell (World.block_lt_of_cell? w _ hx208_0)).trans hx208_0
                          replace p208 := eq_true p208
                          replace q208 := eq_true q208
                          go_wp2_with (first | ((with_reducible refine gate_callee (f := 36) rfl ?_); refine goesL_ (some 43) rfl rfl Tryd.func36 (by kernel_rfl) rfl #[.int .i64 (rd l1 x6_1), .int .i64 64] rfl (by (try simp only [List.map_toArray, List.map_cons, List.map_nil]); first | done | rfl | (simp only [List.length_drop, List.length_take]; rfl)) ?_; (with_reducible refine (newswireref29_pick.calls (rd l1 x6_1) 64 t209 _ A14.out).mono ?_); rintro e w' ⟨rfl, ⟨nd, rfl⟩⟩; refine ⟨_, rfl, ?_⟩))
                          go_roundg k3
                          case measure => have := HK1.out; have := HJ7.out; have := HK3.out; omega
                          case rel => exact ⟨(x7_3), (wrap64 (x8_3 + 1)), (by first | rfl | (simp; done) | (simp [*]; done)), H', ⟨by have := HK1.out; have := HJ7.out; have := HK3.out; omega⟩, ⟨by (with_reducible repeat (first | apply Kd.R_alloc | apply Kd.R_drewN | apply Kd.R_drew)); exact HO_7.out⟩, ⟨by (with_reducible repeat (first | apply Kd.N_alloc | apply Kd.N_drewN | apply Kd.N_drew)); exact HO_202004.out⟩, ⟨by (with_reducible repeat (first | refine blk_drewN ?_ _ | refine blk_drew ?_ | refine blk_alloc ?_ _)); exact BK199.out⟩, ⟨by (with_reducible repeat (first | refine blk_drewN ?_ _ | refine blk_drew ?_ | refine blk_alloc ?_ _)); exact BK201.out⟩, ⟨by repeat (first | (with_reducible first | exact HB.out | apply below_alloc | apply pw_below_drewN | apply below_drew1 | refine below_set ?_ GE199.out | refine below_set ?_ GE201.out) | exact HB.out)⟩⟩
                      · rw [if_neg c15] at H
                        exact absurd H (by simp)
                    · rw [if_neg c13] at H
                      exact absurd H (by simp)
                  · rw [if_neg c12] at H
                    exact absurd H (by simp)
                · rw [if_neg c11] at H
                  have c11b0 : decide (x8_3 < 6) = false := decide_eq_false c11
                  clear c11
                  by_cases c23 : (x7_3.length : Int) > 0
                  · rw [if_pos c23] at H
                    have c23b0 : decide (0 < (x7_3.length : Int)) = true := decide_eq_true c23
                    have c23b1 : decide (0 < x7_3.length) = true := decide_eq_true (by omega)
                    clear c23
                    by_cases c24 : x202004_1.length < 5864062014805
                    · rw [if_pos c24] at H
                      have LMc24 := Aside0.mk c24
                      clear c24
                      obtain ⟨y213, hy213⟩ : ∃ y_ : List (List Int), y_ = (x202004_1 ++ [x7_3]) := ⟨_, rfl⟩
                      replace H : (newswireref29_MadeWant.l0 k3 t200 l1 (wrap64 (x6_1 + 1)) (Int.tmod t200 8) (Int.tmod (wrap64 (Int.tdiv t200 8)) 8) (Int.tmod (wrap64 (Int.tdiv t200 64)) 40) (wrap64 (1 + (Int.tmod (wrap64 (Int.tdiv t200 2560)) 12))) y213) = some (r1, r2, r3, r4, r5) := by first | (rw [hy213]; with_reducible exact H) | (have H2_ := (Option.bind_some _ _).symm.trans H; rw [hy213]; with_reducible exact H2_) | (have H2_ := (Option.bind_some _ _).symm.trans H; with_reducible exact H2_) | with_reducible exact H | (rw [hy213]; exact H) | exact H
                      have Ny213 := Aside0.mk hy213
                      clear hy213
                      have H' := Aside0.mk H
                      clear H
                      obtain ⟨Ao25, co25, eo25⟩ := Kd.R_slice HO_7.out
                      subst eo25
                      have hnb26 := NB201_199.out
                      have hnc26 := NB199_201.out
                      have hcz27_0 : wr.cell? ⟨gb201, 0, none⟩ = some (.int .i64 (Int.tmod t200 8)) := (blk_cell BK201.out 0).trans rfl
                      have hcz27_1 : wr.cell? ⟨gb201, 1, none⟩ = some (.int .i64 (Int.tmod (wrap64 (Int.tdiv t200 8)) 8)) := (blk_cell BK201.out 1).trans rfl
                      have hcz27_2 : wr.cell? ⟨gb201, 2, none⟩ = some (.int .i64 (Int.tmod (wrap64 (Int.tdiv t200 64)) 40)) := (blk_cell BK201.out 2).trans rfl
                      have hcz27_3 : wr.cell? ⟨gb201, 3, none⟩ = some (.int .i64 (wrap64 (1 + (Int.tmod (wrap64 (Int.tdiv t200 2560)) 12)))) := (blk_cell BK201.out 3).trans rfl
                      have hcz27_4 : wr.cell? ⟨gb201, 4, none⟩ = some (u202004) := (blk_cell BK201.out 4).trans rfl
                      have hfz27_0 := blk_frozen BK201.out 0
                      have hfz27_1 := blk_frozen BK201.out 1
                      have hfz27_2 := blk_frozen BK201.out 2
                      have hfz27_3 := blk_frozen BK201.out 3
                      have hfz27_4 := blk_frozen BK201.out 4
                      go_wp2_with (first | ((with_reducible refine gate_builtin (b := .append) (xs := #[.tmp 61, .tmp 63]) rfl ?_); (try (refine gate_guard (by rfl) ?_; dsimp only)); at_builtin; refine Kd.N_append (Kd.slice 3 (Kd.int .i64)) (w0 := w) w.heap.size rfl (.tmp 61) (.tmp 63) 27 23 (.slice none 0 0) 24 rfl Tryd.underlying27 info23 rfl (by decide) (by omega) u202004 x202004_1 x7_3 [.slice Ao25 x7_3.length co25] (fun k_ => (w.heap.size ≤ k_) ∧ k_ ≠ gb199 ∧ k_ ≠ gb201) (fun k_ => ((fun k_ => (w.heap.size ≤ k_) ∧ k_ ≠ gb199 ∧ k_ ≠ gb201)) k_ ∧ some k_ ≠ (u202004 : Value).ownBlock) rfl rfl ?aP (fun _ hk => hk) ?aF ?aO ?aB ?aS ?aL ?_; (case aP => exact (Kd.FK_slice_mk (Kd.R_reads' (Kd.R_mono (ok' := (fun k_ => ((fun k_ => (w.heap.size ≤ k_) ∧ k_ ≠ gb199 ∧ k_ ≠ gb201)) k_ ∧ some k_ ≠ (u202004 : Value).ownBlock)) (Kd.R_types (Kd.R_types (Kd.R_apart' (HO_7.out) (Kd.N_typed HO_202004.out) (by decide)) BK199.out (by decide)) BK201.out (by decide)) (fun k_ hk => ⟨⟨hk.1.1.1, ⟨hk.1.2, hk.2⟩⟩, hk.1.1.2⟩))).2.1 (Kd.R_F (Kd.R_mono (ok' := (fun k_ => ((fun k_ => (w.heap.size ≤ k_) ∧ k_ ≠ gb199 ∧ k_ ≠ gb201)) k_ ∧ some k_ ≠ (u202004 : Value).ownBlock)) (Kd.R_types (Kd.R_types (Kd.R_apart' (HO_7.out) (Kd.N_typed HO_202004.out) (by decide)) BK199.out (by decide)) BK201.out (by decide)) (fun k_ hk => ⟨⟨hk.1.1.1, ⟨hk.1.2, hk.2⟩⟩, hk.1.1.2⟩))))); (case aB => exact (by repeat (first | (with_reducible first | exact HB.out | apply below_alloc | apply pw_below_drewN | apply below_drew1 | refine below_set ?_ GE199.out | refine below_set ?_ GE201.out) | exact HB.out))); (case aF => exact (fun k_ hk => ⟨(Nat.le_trans (below_size (by repeat (first | (with_reducible first | exact HB.out | apply below_alloc | apply pw_below_drewN | apply below_drew1 | refine below_set ?_ GE199.out | refine below_set ?_ GE201.out) | exact HB.out))) hk), Kd.freshB (g := gb199) (o := .cells #[.int .i64 0, .int .i64 0, .int .i64 0, .int .i64 0, .slice none 0 0] 29 (0, 0)) (by (with_reducible repeat (first | refine blk_drewN ?_ _ | refine blk_drew ?_ | refine blk_alloc ?_ _)); exact BK199.out) k_ hk, Kd.freshB (g := gb201) (o := .cells #[.int .i64 (Int.tmod t200 8), .int .i64 (Int.tmod (wrap64 (Int.tdiv t200 8)) 8), .int .i64 (Int.tmod (wrap64 (Int.tdiv t200 64)) 40), .int .i64 (wrap64 (1 + (Int.tmod (wrap64 (Int.tdiv t200 2560)) 12))), u202004] 29 (0, 0)) (by (with_reducible repeat (first | refine blk_drewN ?_ _ | refine blk_drew ?_ | refine blk_alloc ?_ _)); exact BK201.out) k_ hk⟩)); (case aO => exact (by (with_reducible repeat (first | apply Kd.N_alloc | apply Kd.N_drewN | apply Kd.N_drew)); exact Kd.N_mono HO_202004.out (fun _ hk => ⟨hk.1, ⟨hk.2.2.1, hk.2.2.2⟩⟩))); (case aS => exact (below_size (by repeat (first | (with_reducible first | exact HB.out | apply below_alloc | apply pw_below_drewN | apply below_drew1 | refine below_set ?_ GE199.out | refine below_set ?_ GE201.out) | exact HB.out)))); (case aL => have := LMc24.out; omega); intro v214 w28 ho hb hg hat; rw [← Ny213.out] at ho; have n0_ := Aside0.mk (blk_grown (g := gb199) (o := .cells #[.int .i64 0, .int .i64 0, .int .i64 0, .int .i64 0, .slice none 0 0] 29 (0, 0)) (by (with_reducible repeat (first | refine blk_drewN ?_ _ | refine blk_drew ?_ | refine blk_alloc ?_ _)); exact BK199.out) hg (Kd.N_ne HO_202004.out BK199.out (by decide))); have n1_ := Aside0.mk (blk_grown (g := gb201) (o := .cells #[.int .i64 (Int.tmod t200 8), .int .i64 (Int.tmod (wrap64 (Int.tdiv t200 8)) 8), .int .i64 (Int.tmod (wrap64 (Int.tdiv t200 64)) 40), .int .i64 (wrap64 (1 + (Int.tmod (wrap64 (Int.tdiv t200 2560)) 12))), u202004] 29 (0, 0)) (by (with_reducible repeat (first | refine blk_drewN ?_ _ | refine blk_drew ?_ | refine blk_alloc ?_ _)); exact BK201.out) hg (Kd.N_ne HO_202004.out BK201.out (by decide))); have n2_ := Aside0.mk (hb); have n3_ := Aside0.mk (ho); clear BK199; clear BK201; clear HB; clear HO_202004; clear HO_7; have BK199 := n0_; have BK201 := n1_; have HB := n2_; have HO215 := n3_; clear n0_ n1_ n2_ n3_; clear ho hb hg hat; obtain ⟨Ao29, co29, eo29⟩ := Kd.N_slice HO215.out; subst eo29; have hcz30_0 : w28.cell? ⟨gb201, 0, none⟩ = some (.int .i64 (Int.tmod t200 8)) := (blk_cell BK201.out 0).trans rfl; have hcz30_1 : w28.cell? ⟨gb201, 1, none⟩ = some (.int .i64 (Int.tmod (wrap64 (Int.tdiv t200 8)) 8)) := (blk_cell BK201.out 1).trans rfl; have hcz30_2 : w28.cell? ⟨gb201, 2, none⟩ = some (.int .i64 (Int.tmod (wrap64 (Int.tdiv t200 64)) 40)) := (blk_cell BK201.out 2).trans rfl; have hcz30_3 : w28.cell? ⟨gb201, 3, none⟩ = some (.int .i64 (wrap64 (1 + (Int.tmod (wrap64 (Int.tdiv t200 2560)) 12)))) := (blk_cell BK201.out 3).trans rfl; have hcz30_4 : w28.cell? ⟨gb201, 4, none⟩ = some (u202004) := (blk_cell BK201.out 4).trans rfl; have hfz30_0 := blk_frozen BK201.out 0; have hfz30_1 := blk_frozen BK201.out 1; have hfz30_2 := blk_frozen BK201.out 2; have hfz30_3 := blk_frozen BK201.out 3; have hfz30_4 := blk_frozen BK201.out 4))
                      go_roundg k3
                      case measure => have := HK1.out; have := HJ7.out; have := HK3.out; omega
                      case rel => exact ⟨(wrap64 (x6_1 + 1)), (y213), (.slice Ao29 y213.length co29), (by first | rfl | (simp; done) | (simp [*]; done)), H', ⟨by have := HK1.out; have := HJ7.out; have := HK3.out; omega⟩, ⟨by (with_reducible repeat (first | apply Kd.N_alloc | apply Kd.N_drewN | apply Kd.N_drew)); exact Kd.N_mono (Kd.N_far (p := ⟨gb201, 4, none⟩) (Kd.N_mono HO215.out (fun k_ hk => (⟨hk, hk.2.2⟩ : _ ∧ k_ ≠ gb201))) (fun _ hk => hk.2) (.slice Ao29 y213.length co29)) (fun _ hk => ⟨hk.1.1, ⟨hk.1.2.1, hk.1.2.2⟩⟩)⟩, ⟨by (with_reducible repeat (first | refine blk_drewN ?_ _ | refine blk_drew ?_ | refine blk_alloc ?_ _)); refine blk_far ?_ NB199_201.out _; (with_reducible repeat (first | refine blk_drewN ?_ _ | refine blk_drew ?_ | refine blk_alloc ?_ _)); exact BK199.out⟩, ⟨by (with_reducible repeat (first | refine blk_drewN ?_ _ | refine blk_drew ?_ | refine blk_alloc ?_ _)); refine blk_put (cs := #[.int .i64 (Int.tmod t200 8), .int .i64 (Int.tmod (wrap64 (Int.tdiv t200 8)) 8), .int .i64 (Int.tmod (wrap64 (Int.tdiv t200 64)) 40), .int .i64 (wrap64 (1 + (Int.tmod (wrap64 (Int.tdiv t200 2560)) 12))), u202004]) ?_ 4 _ rfl; (with_reducible repeat (first | refine blk_drewN ?_ _ | refine blk_drew ?_ | refine blk_alloc ?_ _)); exact BK201.out⟩, ⟨by repeat (first | (with_reducible first | exact HB.out | apply below_alloc | apply pw_below_drewN | apply below_drew1 | refine below_set ?_ GE199.out | refine below_set ?_ GE201.out) | exact HB.out)⟩⟩
                    · rw [if_neg c24] at H
                      exact absurd H (by simp)
                  · rw [if_neg c23] at H
                    have c23b0 : decide (0 < (x7_3.length : Int)) = false := decide_eq_false c23
                    have c23b1 : decide (0 < x7_3.length) = false := decide_eq_false (by omega)
                    clear c23
                    have H' := Aside0.mk H
                    clear H
                    obtain ⟨Ao31, co31, eo31⟩ := Kd.R_slice HO_7.out
                    subst eo31
                    go_wp2
                    go_roundg k3
                    case measure => have := HK1.out; have := HJ7.out; have := HK3.out; omega
                    case rel => exact ⟨(wrap64 (x6_1 + 1)), (x202004_1), (u202004), (by first | rfl | (simp; done) | (simp [*]; done)), H', ⟨by have := HK1.out; have := HJ7.out; have := HK3.out; omega⟩, ⟨by (with_reducible repeat (first | apply Kd.N_alloc | apply Kd.N_drewN | apply Kd.N_drew)); exact Kd.N_mono HO_202004.out (fun _ hk => ⟨hk.1, ⟨hk.2.2.1, hk.2.2.2⟩⟩)⟩, ⟨by (with_reducible repeat (first | refine blk_drewN ?_ _ | refine blk_drew ?_ | refine blk_alloc ?_ _)); exact BK199.out⟩, ⟨by (with_reducible repeat (first | refine blk_drewN ?_ _ | refine blk_drew ?_ | refine blk_alloc ?_ _)); exact BK201.out⟩, ⟨by repeat (first | (with_reducible first | exact HB.out | apply below_alloc | apply pw_below_drewN | apply below_drew1 | refine below_set ?_ GE199.out | refine below_set ?_ GE201.out) | exact HB.out)⟩⟩
          · replace c10 := Bool.eq_false_iff.mpr c10
            subst c10
            have H1 : (if (x202004_1.length : Int) = 0 then (some ((Int.tmod t200 8), (Int.tmod (wrap64 (Int.tdiv t200 8)) 8), (Int.tmod (wrap64 (Int.tdiv t200 64)) 40), (wrap64 (1 + (Int.tmod (wrap64 (Int.tdiv t200 2560)) 12))), (([(([Int.tmod t200 6] : List Int))] : List (List Int))))) else (some ((Int.tmod t200 8), (Int.tmod (wrap64 (Int.tdiv t200 8)) 8), (Int.tmod (wrap64 (Int.tdiv t200 64)) 40), (wrap64 (1 + (Int.tmod (wrap64 (Int.tdiv t200 2560)) 12))), x202004_1))) = some (r1, r2, r3, r4, r5) := by rw [if_neg (show ¬ (false = true) by decide)] at H; exact H
            clear H
            have H := H1
            clear H1
            by_cases c32 : (x202004_1.length : Int) = 0
            · rw [if_pos c32] at H
              have c32b0 : ((x202004_1.length : Int) == 0) = true := beq_iff_eq.mpr c32
              have c32b1 : ((x202004_1.length : Int) != 0) = false := bne_eq_false_iff_eq.mpr c32
              clear c32
              obtain ⟨y202, hy202⟩ : ∃ y_ : List Int, y_ = (([Int.tmod t200 6] : List Int)) := ⟨_, rfl⟩
              replace H : (some ((Int.tmod t200 8), (Int.tmod (wrap64 (Int.tdiv t200 8)) 8), (Int.tmod (wrap64 (Int.tdiv t200 64)) 40), (wrap64 (1 + (Int.tmod (wrap64 (Int.tdiv t200 2560)) 12))), (([y202] : List (List Int))))) = some (r1, r2, r3, r4, r5) := by first | (rw [hy202]; with_reducible exact H) | (have H2_ := (Option.bind_some _ _).symm.trans H; rw [hy202]; with_reducible exact H2_) | (have H2_ := (Option.bind_some _ _).symm.trans H; with_reducible exact H2_) | with_reducible exact H | (rw [hy202]; exact H) | exact H
              have Ny202 := Aside0.mk hy202
              clear hy202
              obtain ⟨y205, hy205⟩ : ∃ y_ : List (List Int), y_ = (([y202] : List (List Int))) := ⟨_, rfl⟩
              replace H : (some ((Int.tmod t200 8), (Int.tmod (wrap64 (Int.tdiv t200 8)) 8), (Int.tmod (wrap64 (Int.tdiv t200 64)) 40), (wrap64 (1 + (Int.tmod (wrap64 (Int.tdiv t200 2560)) 12))), y205)) = some (r1, r2, r3, r4, r5) := by first | (rw [hy205]; with_reducible exact H) | (have H2_ := (Option.bind_some _ _).symm.trans H; rw [hy205]; with_reducible exact H2_) | (have H2_ := (Option.bind_some _ _).symm.trans H; with_reducible exact H2_) | with_reducible exact H | (rw [hy205]; exact H) | exact H
              have Ny205 := Aside0.mk hy205
              clear hy205
              simp only [Option.some.injEq, Prod.mk.injEq] at H
              obtain ⟨rfl, rfl, rfl, rfl, rfl⟩ := H
              have hnb33 := NB201_199.out
              have hnc33 := NB199_201.out
              have hcz34_0 : wc.cell? ⟨gb201, 0, none⟩ = some (.int .i64 (Int.tmod t200 8)) := (blk_cell BK201.out 0).trans rfl
              have hcz34_1 : wc.cell? ⟨gb201, 1, none⟩ = some (.int .i64 (Int.tmod (wrap64 (Int.tdiv t200 8)) 8)) := (blk_cell BK201.out 1).trans rfl
              have hcz34_2 : wc.cell? ⟨gb201, 2, none⟩ = some (.int .i64 (Int.tmod (wrap64 (Int.tdiv t200 64)) 40)) := (blk_cell BK201.out 2).trans rfl
              have hcz34_3 : wc.cell? ⟨gb201, 3, none⟩ = some (.int .i64 (wrap64 (1 + (Int.tmod (wrap64 (Int.tdiv t200 2560)) 12)))) := (blk_cell BK201.out 3).trans rfl
              have hcz34_4 : wc.cell? ⟨gb201, 4, none⟩ = some (u202004) := (blk_cell BK201.out 4).trans rfl
              have hfz34_0 := blk_frozen BK201.out 0
              have hfz34_1 := blk_frozen BK201.out 1
              have hfz34_2 := blk_frozen BK201.out 2
              have hfz34_3 := blk_frozen BK201.out 3
              have hfz34_4 := blk_frozen BK201.out 4
              obtain ⟨Ao35, co35, eo35⟩ := Kd.N_slice HO_202004.out
              subst eo35
              go_wp2_with (first | ((with_reducible refine gate_dst (N := 72) rfl ?_); (try (refine gate_guard (by rfl) ?_; dsimp only)); refine Kd.R_lit (Kd.int .i64) _ 3 ?hg (N := 72) ?hd (xs := ([Int.tmod t200 6] : List Int)) (inner := [.int .i64 (Int.tmod t200 6)]) (ok := fun _ => True) (okp := fun _ => True) ?hr ?hp (fun _ hk => hk) trivial (Below.refl _ _) (Nat.le_refl _) (by simp) ?_; (case hd => rfl); (case hg => rfl); (case hr => first | (go_simp; done) | (go_simp; rfl)); (case hp => exact (Reps.one (show Kd.M (Kd.int .i64) _ _ _ (Int.tmod t200 6) [.int .i64 (Int.tmod t200 6)] from rfl) (Reps.none _ _))); intro v203 w36 ho37 hb hg_ hnew_; clear hg_ hnew_; (first | rw [← Ny202.out] at ho37 | (simp only [Int.reduceToNat] at ho37; rw [← Ny202.out] at ho37)); have n0_ := Aside0.mk (Kd.N_elder' (by (with_reducible repeat (first | apply Kd.N_alloc | apply Kd.N_drewN | apply Kd.N_drew)); exact HO_202004.out) (Kd.R_base ho37) hb); have n1_ := Aside0.mk (Kd.R_lower (Kd.R_newM (M := fun k_ => (w.heap.size ≤ k_)) ho37 (below_size (by repeat (first | (with_reducible first | exact HB.out | apply below_alloc | apply pw_below_drewN | apply below_drew1 | refine below_set ?_ GE199.out | refine below_set ?_ GE201.out) | exact HB.out))) (fun k_ h_ => h_)) (below_size (by repeat (first | (with_reducible first | exact HB.out | apply below_alloc | apply pw_below_drewN | apply below_drew1 | refine below_set ?_ GE199.out | refine below_set ?_ GE201.out) | exact HB.out)))); have n2_ := Aside0.mk (blk_below (g := gb199) (o := .cells #[.int .i64 0, .int .i64 0, .int .i64 0, .int .i64 0, .slice none 0 0] 29 (0, 0)) (by (with_reducible repeat (first | refine blk_drewN ?_ _ | refine blk_drew ?_ | refine blk_alloc ?_ _)); exact BK199.out) hb); have n3_ := Aside0.mk (blk_below (g := gb201) (o := .cells #[.int .i64 (Int.tmod t200 8), .int .i64 (Int.tmod (wrap64 (Int.tdiv t200 8)) 8), .int .i64 (Int.tmod (wrap64 (Int.tdiv t200 64)) 40), .int .i64 (wrap64 (1 + (Int.tmod (wrap64 (Int.tdiv t200 2560)) 12))), .slice Ao35 x202004_1.length co35] 29 (0, 0)) (by (with_reducible repeat (first | refine blk_drewN ?_ _ | refine blk_drew ?_ | refine blk_alloc ?_ _)); exact BK201.out) hb); have n4_ := Aside0.mk (below_step (by repeat (first | (with_reducible first | exact HB.out | apply below_alloc | apply pw_below_drewN | apply below_drew1 | refine below_set ?_ GE199.out | refine below_set ?_ GE201.out) | exact HB.out)) hb); clear HO_202004; clear BK199; clear BK201; clear HB; have HO_202004 := n0_; have HO204 := n1_; have BK199 := n2_; have BK201 := n3_; have HB := n4_; clear n0_ n1_ n2_ n3_ n4_; clear hb ho37; obtain ⟨Ao38, co38, eo38⟩ := Kd.R_slice HO204.out; subst eo38) | ((with_reducible refine gate_dst (N := 73) rfl ?_); (try (refine gate_guard (by rfl) ?_; dsimp only)); refine Kd.N_lit (Kd.slice 3 (Kd.int .i64)) _ 23 ?hg (N' := 73) ?hd (xs := ([y202] : List (List Int))) (inner := [.slice Ao38 y202.length co38]) (ok := (fun k_ => (w.heap.size ≤ k_) ∧ some k_ ≠ (.slice Ao35 x202004_1.length co35 : Value).ownBlock ∧ k_ ≠ gb199 ∧ k_ ≠ gb201)) (okp := (fun k_ => (w.heap.size ≤ k_) ∧ some k_ ≠ (.slice Ao35 x202004_1.length co35 : Value).ownBlock ∧ k_ ≠ gb199 ∧ k_ ≠ gb201)) ?hr ?hp (fun _ hk => hk) ((show ∀ k_, w36.heap.size ≤ k_ → (fun k_ => (w.heap.size ≤ k_) ∧ some k_ ≠ (.slice Ao35 x202004_1.length co35 : Value).ownBlock ∧ k_ ≠ gb199 ∧ k_ ≠ gb201) k_ from fun k_ hk => ⟨(Nat.le_trans (below_size (by repeat (first | (with_reducible first | exact HB.out | apply below_alloc | apply pw_below_drewN | apply below_drew1 | refine below_set ?_ GE199.out | refine below_set ?_ GE201.out) | exact HB.out))) hk), Kd.fresh' (Kd.N_lt (by (with_reducible repeat (first | apply Kd.N_alloc | apply Kd.N_drewN | apply Kd.N_drew)); exact HO_202004.out)) k_ hk, Kd.freshB (g := gb199) (o := .cells #[.int .i64 0, .int .i64 0, .int .i64 0, .int .i64 0, .slice none 0 0] 29 (0, 0)) (by (with_reducible repeat (first | refine blk_drewN ?_ _ | refine blk_drew ?_ | refine blk_alloc ?_ _)); exact BK199.out) k_ hk, Kd.freshB (g := gb201) (o := .cells #[.int .i64 (Int.tmod t200 8), .int .i64 (Int.tmod (wrap64 (Int.tdiv t200 8)) 8), .int .i64 (Int.tmod (wrap64 (Int.tdiv t200 64)) 40), .int .i64 (wrap64 (1 + (Int.tmod (wrap64 (Int.tdiv t200 2560)) 12))), .slice Ao35 x202004_1.length co35] 29 (0, 0)) (by (with_reducible repeat (first | refine blk_drewN ?_ _ | refine blk_drew ?_ | refine blk_alloc ?_ _)); exact BK201.out) k_ hk⟩) _ (Nat.le_refl _)) (Below.refl _ _) (Nat.le_refl _) (by simp) ?_; (case hd => rfl); (case hg => rfl); (case hr => first | (go_simp; done) | (go_simp; rfl)); (case hp => exact (Reps.one (show Kd.FK (Kd.slice 3 (Kd.int .i64)) _ _ y202 [.slice Ao38 y202.length co38] from (Kd.FK_slice_mk (Kd.R_reads' (Kd.R_mono (ok' := (fun k_ => (w.heap.size ≤ k_) ∧ some k_ ≠ (.slice Ao35 x202004_1.length co35 : Value).ownBlock ∧ k_ ≠ gb199 ∧ k_ ≠ gb201)) (Kd.R_types (Kd.R_types (Kd.R_apart' (HO204.out) (Kd.N_typed HO_202004.out) (by decide)) BK199.out (by decide)) BK201.out (by decide)) (fun k_ hk => ⟨hk.1.1.1.1, ⟨hk.1.1.2, ⟨hk.1.2, hk.2⟩⟩⟩))).2.1 (Kd.R_F (Kd.R_mono (ok' := (fun k_ => (w.heap.size ≤ k_) ∧ some k_ ≠ (.slice Ao35 x202004_1.length co35 : Value).ownBlock ∧ k_ ≠ gb199 ∧ k_ ≠ gb201)) (Kd.R_types (Kd.R_types (Kd.R_apart' (HO204.out) (Kd.N_typed HO_202004.out) (by decide)) BK199.out (by decide)) BK201.out (by decide)) (fun k_ hk => ⟨hk.1.1.1.1, ⟨hk.1.1.2, ⟨hk.1.2, hk.2⟩⟩⟩))))) (Reps.none _ _))); intro v206 w39 ho40 hb hg_ hnew_; clear hg_ hnew_; (first | rw [← Ny205.out] at ho40 | (simp only [Int.reduceToNat] at ho40; rw [← Ny205.out] at ho40)); have n0_ := Aside0.mk (Kd.N_elder' (by (with_reducible repeat (first | apply Kd.N_alloc | apply Kd.N_drewN | apply Kd.N_drew)); exact HO_202004.out) (Kd.N_base ho40) hb); have n1_ := Aside0.mk (Kd.N_lower ho40 (below_size (by repeat (first | (with_reducible first | exact HB.out | apply below_alloc | apply pw_below_drewN | apply below_drew1 | refine below_set ?_ GE199.out | refine below_set ?_ GE201.out) | exact HB.out)))); have n2_ := Aside0.mk (blk_below (g := gb199) (o := .cells #[.int .i64 0, .int .i64 0, .int .i64 0, .int .i64 0, .slice none 0 0] 29 (0, 0)) (by (with_reducible repeat (first | refine blk_drewN ?_ _ | refine blk_drew ?_ | refine blk_alloc ?_ _)); exact BK199.out) hb); have n3_ := Aside0.mk (blk_below (g := gb201) (o := .cells #[.int .i64 (Int.tmod t200 8), .int .i64 (Int.tmod (wrap64 (Int.tdiv t200 8)) 8), .int .i64 (Int.tmod (wrap64 (Int.tdiv t200 64)) 40), .int .i64 (wrap64 (1 + (Int.tmod (wrap64 (Int.tdiv t200 2560)) 12))), .slice Ao35 x202004_1.length co35] 29 (0, 0)) (by (with_reducible repeat (first | refine blk_drewN ?_ _ | refine blk_drew ?_ | refine blk_alloc ?_ _)); exact BK201.out) hb); have n4_ := Aside0.mk (below_step (by repeat (first | (with_reducible first | exact HB.out | apply below_alloc | apply pw_below_drewN | apply below_drew1 | refine below_set ?_ GE199.out | refine below_set ?_ GE201.out) | exact HB.out)) hb); clear HO_202004; clear BK199; clear BK201; clear HB; clear HO204; have HO_202004 := n0_; have HO207 := n1_; have BK199 := n2_; have BK201 := n3_; have HB := n4_; clear n0_ n1_ n2_ n3_ n4_; clear hb ho40; obtain ⟨Ao41, co41, eo41⟩ := Kd.N_slice HO207.out; subst eo41; have hcz42_0 : w39.cell? ⟨gb201, 0, none⟩ = some (.int .i64 (Int.tmod t200 8)) := (blk_cell BK201.out 0).trans rfl; have hcz42_1 : w39.cell? ⟨gb201, 1, none⟩ = some (.int .i64 (Int.tmod (wrap64 (Int.tdiv t200 8)) 8)) := (blk_cell BK201.out 1).trans rfl; have hcz42_2 : w39.cell? ⟨gb201, 2, none⟩ = some (.int .i64 (Int.tmod (wrap64 (Int.tdiv t200 64)) 40)) := (blk_cell BK201.out 2).trans rfl; have hcz42_3 : w39.cell? ⟨gb201, 3, none⟩ = some (.int .i64 (wrap64 (1 + (Int.tmod (wrap64 (Int.tdiv t200 2560)) 12)))) := (blk_cell BK201.out 3).trans rfl; have hcz42_4 : w39.cell? ⟨gb201, 4, none⟩ = some (.slice Ao35 x202004_1.length co35) := (blk_cell BK201.out 4).trans rfl; have hfz42_0 := blk_frozen BK201.out 0; have hfz42_1 := blk_frozen BK201.out 1; have hfz42_2 := blk_frozen BK201.out 2; have hfz42_3 := blk_frozen BK201.out 3; have hfz42_4 := blk_frozen BK201.out 4; have hcz43_0 : w39.cell? ⟨gb199, 0, none⟩ = some (.int .i64 0) := (blk_cell BK199.out 0).trans rfl; have hcz43_1 : w39.cell? ⟨gb199, 1, none⟩ = some (.int .i64 0) := (blk_cell BK199.out 1).trans rfl; have hcz43_2 : w39.cell? ⟨gb199, 2, none⟩ = some (.int .i64 0) := (blk_cell BK199.out 2).trans rfl; have hcz43_3 : w39.cell? ⟨gb199, 3, none⟩ = some (.int .i64 0) := (blk_cell BK199.out 3).trans rfl; have hcz43_4 : w39.cell? ⟨gb199, 4, none⟩ = some (.slice none 0 0) := (blk_cell BK199.out 4).trans rfl; have hfz43_0 := blk_frozen BK199.out 0; have hfz43_1 := blk_frozen BK199.out 1; have hfz43_2 := blk_frozen BK199.out 2; have hfz43_3 := blk_frozen BK199.out 3; have hfz43_4 := blk_frozen BK199.out 4))
              refine bodyPost_ret (results_cell_row rfl _ _ gb199 29 #[.int .i64 (Int.tmod t200 8), .int .i64 (Int.tmod (wrap64 (Int.tdiv t200 8)) 8), .int .i64 (Int.tmod (wrap64 (Int.tdiv t200 64)) 40), .int .i64 (wrap64 (1 + (Int.tmod (wrap64 (Int.tdiv t200 2560)) 12))), .slice Ao41 y205.length co41] (0, 0) _ rfl (by (with_reducible repeat (first | refine blk_drewN ?_ _ | refine blk_drew ?_ | refine blk_alloc ?_ _)); refine blk_put (cs := #[.int .i64 (Int.tmod t200 8), .int .i64 (Int.tmod (wrap64 (Int.tdiv t200 8)) 8), .int .i64 (Int.tmod (wrap64 (Int.tdiv t200 64)) 40), .int .i64 (wrap64 (1 + (Int.tmod (wrap64 (Int.tdiv t200 2560)) 12))), .slice none 0 0]) ?_ 4 _ rfl; (with_reducible repeat (first | refine blk_drewN ?_ _ | refine blk_drew ?_ | refine blk_alloc ?_ _)); refine blk_put (cs := #[.int .i64 (Int.tmod t200 8), .int .i64 (Int.tmod (wrap64 (Int.tdiv t200 8)) 8), .int .i64 (Int.tmod (wrap64 (Int.tdiv t200 64)) 40), .int .i64 0, .slice none 0 0]) ?_ 3 _ rfl; (with_reducible repeat (first | refine blk_drewN ?_ _ | refine blk_drew ?_ | refine blk_alloc ?_ _)); refine blk_put (cs := #[.int .i64 (Int.tmod t200 8), .int .i64 (Int.tmod (wrap64 (Int.tdiv t200 8)) 8), .int .i64 0, .int .i64 0, .slice none 0 0]) ?_ 2 _ rfl; (with_reducible repeat (first | refine blk_drewN ?_ _ | refine blk_drew ?_ | refine blk_alloc ?_ _)); refine blk_put (cs := #[.int .i64 (Int.tmod t200 8), .int .i64 0, .int .i64 0, .int .i64 0, .slice none 0 0]) ?_ 1 _ rfl; (with_reducible repeat (first | refine blk_drewN ?_ _ | refine blk_drew ?_ | refine blk_alloc ?_ _)); refine blk_put (cs := #[.int .i64 0, .int .i64 0, .int .i64 0, .int .i64 0, .slice none 0 0]) ?_ 0 _ rfl; (with_reducible repeat (first | refine blk_drewN ?_ _ | refine blk_drew ?_ | refine blk_alloc ?_ _)); refine blk_far ?_ NB199_201.out _; (with_reducible repeat (first | refine blk_drewN ?_ _ | refine blk_drew ?_ | refine blk_alloc ?_ _)); exact BK199.out) Tryd.underlying29 rfl (by kernel_rfl)) rfl ?_
              exact ⟨_, by first | rfl | (simp [errW_none, errW_some] <;> rfl) | (simp [*, errW_none, errW_some] <;> rfl), by (with_reducible repeat (first | apply Kd.N_alloc | apply Kd.N_drewN | apply Kd.N_drew)); exact Kd.N_mono (Kd.N_far (p := ⟨gb199, 4, none⟩) (Kd.N_far (p := ⟨gb199, 3, none⟩) (Kd.N_far (p := ⟨gb199, 2, none⟩) (Kd.N_far (p := ⟨gb199, 1, none⟩) (Kd.N_far (p := ⟨gb199, 0, none⟩) (Kd.N_far (p := ⟨gb201, 4, none⟩) (Kd.N_mono (Kd.N_mono HO207.out (fun k_ hk => (⟨hk, hk.2.2.2⟩ : _ ∧ k_ ≠ gb201))) (fun k_ hk => (⟨hk, hk.1.2.2.1⟩ : _ ∧ k_ ≠ gb199))) (fun _ hk => hk.1.2) (.slice Ao41 y205.length co41)) (fun _ hk => hk.2) (.int .i64 (Int.tmod t200 8))) (fun _ hk => hk.2) (.int .i64 (Int.tmod (wrap64 (Int.tdiv t200 8)) 8))) (fun _ hk => hk.2) (.int .i64 (Int.tmod (wrap64 (Int.tdiv t200 64)) 40))) (fun _ hk => hk.2) (.int .i64 (wrap64 (1 + (Int.tmod (wrap64 (Int.tdiv t200 2560)) 12))))) (fun _ hk => hk.2) (.slice Ao41 y205.length co41)) (fun _ hk => hk.1.1.1), by repeat (first | (with_reducible first | exact HB.out | apply below_alloc | apply pw_below_drewN | apply below_drew1 | refine below_set ?_ GE199.out | refine below_set ?_ GE201.out) | exact HB.out)⟩
            · rw [if_neg c32] at H
              have c32b0 : ((x202004_1.length : Int) == 0) = false := beq_eq_false_iff_ne.mpr c32
              have c32b1 : ((x202004_1.length : Int) != 0) = true := bne_iff_ne.mpr c32
              have c32b2 : ¬ (x202004_1 = []) := fun h_ => c32 (by rw [h_]; rfl)
              simp only [Option.some.injEq, Prod.mk.injEq] at H
              obtain ⟨rfl, rfl, rfl, rfl, rfl⟩ := H
              have hnb44 := NB201_199.out
              have hnc44 := NB199_201.out
              have hcz45_0 : wc.cell? ⟨gb201, 0, none⟩ = some (.int .i64 (Int.tmod t200 8)) := (blk_cell BK201.out 0).trans rfl
              have hcz45_1 : wc.cell? ⟨gb201, 1, none⟩ = some (.int .i64 (Int.tmod (wrap64 (Int.tdiv t200 8)) 8)) := (blk_cell BK201.out 1).trans rfl
              have hcz45_2 : wc.cell? ⟨gb201, 2, none⟩ = some (.int .i64 (Int.tmod (wrap64 (Int.tdiv t200 64)) 40)) := (blk_cell BK201.out 2).trans rfl
              have hcz45_3 : wc.cell? ⟨gb201, 3, none⟩ = some (.int .i64 (wrap64 (1 + (Int.tmod (wrap64 (Int.tdiv t200 2560)) 12)))) := (blk_cell BK201.out 3).trans rfl
              have hcz45_4 : wc.cell? ⟨gb201, 4, none⟩ = some (u202004) := (blk_cell BK201.out 4).trans rfl
              have hfz45_0 := blk_frozen BK201.out 0
              have hfz45_1 := blk_frozen BK201.out 1
              have hfz45_2 := blk_frozen BK201.out 2
              have hfz45_3 := blk_frozen BK201.out 3
              have hfz45_4 := blk_frozen BK201.out 4
              obtain ⟨Ao46, co46, eo46⟩ := Kd.N_slice HO_202004.out
              subst eo46
              have hcz47_0 : wc.cell? ⟨gb199, 0, none⟩ = some (.int .i64 0) := (blk_cell BK199.out 0).trans rfl
              have hcz47_1 : wc.cell? ⟨gb199, 1, none⟩ = some (.int .i64 0) := (blk_cell BK199.out 1).trans rfl
              have hcz47_2 : wc.cell? ⟨gb199, 2, none⟩ = some (.int .i64 0) := (blk_cell BK199.out 2).trans rfl
              have hcz47_3 : wc.cell? ⟨gb199, 3, none⟩ = some (.int .i64 0) := (blk_cell BK199.out 3).trans rfl
              have hcz47_4 : wc.cell? ⟨gb199, 4, none⟩ = some (.slice none 0 0) := (blk_cell BK199.out 4).trans rfl
              have hfz47_0 := blk_frozen BK199.out 0
              have hfz47_1 := blk_frozen BK199.out 1
              have hfz47_2 := blk_frozen BK199.out 2
              have hfz47_3 := blk_frozen BK199.out 3
              have hfz47_4 := blk_frozen BK199.out 4
              go_wp2
              refine bodyPost_ret (results_cell_row rfl _ _ gb199 29 #[.int .i64 (Int.tmod t200 8), .int .i64 (Int.tmod (wrap64 (Int.tdiv t200 8)) 8), .int .i64 (Int.tmod (wrap64 (Int.tdiv t200 64)) 40), .int .i64 (wrap64 (1 + (Int.tmod (wrap64 (Int.tdiv t200 2560)) 12))), .slice Ao46 x202004_1.length co46] (0, 0) _ rfl (by (with_reducible repeat (first | refine blk_drewN ?_ _ | refine blk_drew ?_ | refine blk_alloc ?_ _)); refine blk_put (cs := #[.int .i64 (Int.tmod t200 8), .int .i64 (Int.tmod (wrap64 (Int.tdiv t200 8)) 8), .int .i64 (Int.tmod (wrap64 (Int.tdiv t200 64)) 40), .int .i64 (wrap64 (1 + (Int.tmod (wrap64 (Int.tdiv t200 2560)) 12))), .slice none 0 0]) ?_ 4 _ rfl; (with_reducible repeat (first | refine blk_drewN ?_ _ | refine blk_drew ?_ | refine blk_alloc ?_ _)); refine blk_put (cs := #[.int .i64 (Int.tmod t200 8), .int .i64 (Int.tmod (wrap64 (Int.tdiv t200 8)) 8), .int .i64 (Int.tmod (wrap64 (Int.tdiv t200 64)) 40), .int .i64 0, .slice none 0 0]) ?_ 3 _ rfl; (with_reducible repeat (first | refine blk_drewN ?_ _ | refine blk_drew ?_ | refine blk_alloc ?_ _)); refine blk_put (cs := #[.int .i64 (Int.tmod t200 8), .int .i64 (Int.tmod (wrap64 (Int.tdiv t200 8)) 8), .int .i64 0, .int .i64 0, .slice none 0 0]) ?_ 2 _ rfl; (with_reducible repeat (first | refine blk_drewN ?_ _ | refine blk_drew ?_ | refine blk_alloc ?_ _)); refine blk_put (cs := #[.int .i64 (Int.tmod t200 8), .int .i64 0, .int .i64 0, .int .i64 0, .slice none 0 0]) ?_ 1 _ rfl; (with_reducible repeat (first | refine blk_drewN ?_ _ | refine blk_drew ?_ | refine blk_alloc ?_ _)); refine blk_put (cs := #[.int .i64 0, .int .i64 0, .int .i64 0, .int .i64 0, .slice none 0 0]) ?_ 0 _ rfl; (with_reducible repeat (first | refine blk_drewN ?_ _ | refine blk_drew ?_ | refine blk_alloc ?_ _)); exact BK199.out) Tryd.underlying29 rfl (by kernel_rfl)) rfl ?_
              exact ⟨_, by first | rfl | (simp [errW_none, errW_some] <;> rfl) | (simp [*, errW_none, errW_some] <;> rfl), by (with_reducible repeat (first | apply Kd.N_alloc | apply Kd.N_drewN | apply Kd.N_drew)); exact Kd.N_mono (Kd.N_far (p := ⟨gb199, 4, none⟩) (Kd.N_far (p := ⟨gb199, 3, none⟩) (Kd.N_far (p := ⟨gb199, 2, none⟩) (Kd.N_far (p := ⟨gb199, 1, none⟩) (Kd.N_far (p := ⟨gb199, 0, none⟩) (Kd.N_mono HO_202004.out (fun k_ hk => (⟨hk, hk.2.1⟩ : _ ∧ k_ ≠ gb199))) (fun _ hk => hk.2) (.int .i64 (Int.tmod t200 8))) (fun _ hk => hk.2) (.int .i64 (Int.tmod (wrap64 (Int.tdiv t200 8)) 8))) (fun _ hk => hk.2) (.int .i64 (Int.tmod (wrap64 (Int.tdiv t200 64)) 40))) (fun _ hk => hk.2) (.int .i64 (wrap64 (1 + (Int.tmod (wrap64 (Int.tdiv t200 2560)) 12))))) (fun _ hk => hk.2) (.slice Ao46 x202004_1.length co46)) (fun _ hk => hk.1.1), by repeat (first | (with_reducible first | exact HB.out | apply below_alloc | apply pw_below_drewN | apply below_drew1 | refine below_set ?_ GE199.out | refine below_set ?_ GE201.out) | exact HB.out)⟩

-- NOT PRINTED: function 11 (newswireref29_Made)

end Go.Proofs.YtnabgijdbcdpmaaDoor.PRightsMatchesReference
