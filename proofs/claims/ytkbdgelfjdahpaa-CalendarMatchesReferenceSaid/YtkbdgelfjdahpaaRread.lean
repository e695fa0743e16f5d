/- The contract of the reference's Read. -/
import Derived.Test.YtkbdgelfjdahpaaRrp
import Derived.Test.YtkbdgelfjdahpaaRmin
namespace Go.Rg
open Go.RowKit
theorem by_end {T G : Prop} (h : T → G) (t : T) : G := h t
theorem any_stepH {P : Program} {l : List Oper} {Q : Exit → Act → World → Prop} {m : Nat} {E : Array Bool} {a : Act} {w : World} (rs : List Nat)
    (hr : (Region.ready .any l.toArray E == rs && !rs.isEmpty && rs.all (fun k => decide (k < l.length))) = true)
    (h : ∀ i ∈ rs, wpList P l.toArray (Exit.then (fun a'' w'' => wpAnyH P .any l.toArray Q (fun _ => True) m (E.setIfInBounds i true) a'' w'') Q) [nthO l i] a w) :
    wpAnyH P .any l.toArray Q (fun _ => True) (m + 1) E a w := by
  simp only [Bool.and_eq_true, beq_iff_eq, List.all_eq_true, decide_eq_true_eq] at hr
  obtain ⟨⟨hr, hne⟩, hlt⟩ := hr
  refine wpAnyH_all hr (by intro e; rw [e] at hne; simp at hne) (fun i hi => ?_)
  have h0 : l.toArray[i]? = some (nthO l i) := by rw [← nthO_get l i (hlt i hi)]; simp
  have hq := h i hi
  have h1 : wpOp P l.toArray (Exit.then (fun a'' w'' => True ∧ wpAnyH P .any l.toArray Q (fun _ => True) m (E.setIfInBounds i true) a'' w'') Q) i (fun a'' w'' => True ∧ wpAnyH P .any l.toArray Q (fun _ => True) m (E.setIfInBounds i true) a'' w'') a w := by
    unfold wpOp
    simp only [h0]
    simpa [wpList, Exit.then] using hq
  have h2 : wpOp P l.toArray Q i (fun a'' w'' => True ∧ wpAnyH P .any l.toArray Q (fun _ => True) m (E.setIfInBounds i true) a'' w'') a w := by
    unfold wpOp at h1 ⊢
    simp only [h0] at h1 ⊢
    split
    · rename_i hw
      rw [if_pos hw] at h1
      rcases h1 with h1 | h1
      · refine .inl ?_
        unfold Oper.wp at h1 ⊢
        generalize (execOp a.eval (nthO l i)).run P w = res at *
        cases res with
        | ok n w' => cases n <;> exact h1
        | halt x w' => cases x <;> exact h1
      · exact .inr ⟨h1.1, by obtain ⟨_, x, y, hxy⟩ := h1; exact ⟨x, y, hxy⟩⟩
    · rename_i hw
      rw [if_neg hw] at h1
      exact h1
  exact h2
theorem region_free {P : Program} {id : Nat} {l : List Oper} {Q : Exit → Act → World → Prop} {a : Act} {w : World} (ks : List Nat) (E : Array Bool) (m : Nat) (hm : P.follows .mixedOrders = true)
    (hB : (Region.noSelect l.toArray && ks.length + m == l.length && okTakes l ks (Array.replicate l.length false) == some E) = true) (hQ : ∀ c a a' w, Q (.panic c) a w → Q (.panic c) a' w)
    (h : wpQuiet P l.toArray (fun _ => True) (fun a' => wpAnyH P .any l.toArray Q (fun _ => True) m E a' w.drew) (pick l ks) a) : (Code.region id l.toArray true).wp P Q a w := by
  simp only [Bool.and_eq_true, beq_iff_eq] at hB
  refine wp_region_any hm ?_
  have := takes_sound (P := P) (S := fun _ => True) (m := m) (w := w.drew) hB.1.1 hQ trivial ks _ E a hB.2 (fun a' ha => ha) h
  rw [hB.1.2] at this
  exact wpAny_of_held _ _ _ _ this
end Go.Rg
namespace Go.Proofs.Ytkbdgelfjdahpaa
open Go.RowKit Go.Rg Go.Shelf
set_option linter.unusedVariables false
set_option linter.unusedSimpArgs false

theorem ext_size (s : ByteArray) (a b : Nat) (h : b ≤ a + 4) : (s.extract a b).size ≤ 4 := by rw [ByteArray.size_extract]; omega

theorem civ_yes {y mo d h mi k o : Int} (hk : minOk y mo d h mi k o) : civRes y mo d h mi o = .tuple #[.int .i64 (atN y mo d h mi o), .int .i64 0] := by
  unfold civRes; rw [if_pos ⟨hk.1, hk.2.1⟩]
theorem civ_no {y mo d h mi o : Int} (hk : ∀ j : Nat, j < 7 → ¬ minOk y mo d h mi j o) : civRes y mo d h mi o = .tuple #[.int .i64 0, .int .i64 60] := by
  unfold civRes
  rw [if_neg]
  intro hc
  have h0 : 0 ≤ (before (nOf y mo) + d + 3) % 7 ∧ (before (nOf y mo) + d + 3) % 7 < 7 := by omega
  exact hk ((before (nOf y mo) + d + 3) % 7).toNat (by omega) ⟨hc.1, hc.2, by omega⟩
set_option maxHeartbeats 2000000 in
theorem rread_sep (date clock : ByteArray) (o : Int) (w : World) (hd : date.size = 10) (hc : clock.size = 5) (h4 : bt date 4 = 45) (h7 : bt date 7 = 45) (h2 : bt clock 2 = 58) :
    Calls Try.prog 18 #[.string date, .string clock, .int .i64 o] w fun e w' => e = .returned (readRes date clock o) ∧ Below w.heap.size w w' := by
  have b1 := bt_at date 4 (by omega)
  have b2 := bt_at date 7 (by omega)
  have b3 := bt_at clock 2 (by omega)
  rw [h4] at b1
  rw [h7] at b2
  rw [h2] at b3
  have t1 : ((date.size : Int) != 10) = false := by simp [hd]
  have t2 : ((clock.size : Int) != 5) = false := by simp [hc]
  go_enter Try.func18, Try.ntmps18
  go_wp2_with fail
  refine region_free [0, 1, 3, 4, 6, 7, 9, 10, 12, 13] #[true, true, false, true, true, false, true, true, false, true, true, false, true, true, false, false, false, false] 8 (by kernel_rfl) (by kernel_rfl) (fun c a a' w h => by cases h.2.1) ?_
  simp only [pick_cons, pick_nil, nthO_succ, nthO_zero]
  repeat (go_big_quiet_step (fail))
  refine wpQuiet_nil ?_
  have hnum : ∀ (s : ByteArray) (w : World), s.size ≤ 4 → Calls Try.prog 30 #[.string s] w fun e w' => e = .returned (.int .i64 (numV s)) ∧ w = w' := fun s w h => rnumber_any s h w
  have hp := rread_plain date clock o hd hc h4 h7 h2
  have z1 := ext_size date 0 4 (by omega)
  have z2 := ext_size date 5 7 (by omega)
  have z3 := ext_size date 8 10 (by omega)
  have z4 := ext_size clock 0 2 (by omega)
  have z5 := ext_size clock 3 5 (by omega)
  generalize date.extract 0 4 = s1 at *
  generalize date.extract 5 7 = s2 at *
  generalize date.extract 8 10 = s3 at *
  generalize clock.extract 0 2 = s4 at *
  generalize clock.extract 3 5 = s5 at *
  -- TREE
  apply by_end
  case h =>
    intro hfin
    refine any_stepH [2, 16] (by kernel_rfl) ?_
    simp only [List.forall_mem_cons, List.forall_mem_nil, nthO_succ, nthO_zero]
    refine ⟨?_, ?_, fun _ h => by cases h⟩
    · go_wp2_with (go_at_call 30; refine (rnumber_any _ z1 _).mono ?_; rintro e w' ⟨rfl, rfl⟩)
      refine any_stepH [5, 16] (by kernel_rfl) ?_
      simp only [List.forall_mem_cons, List.forall_mem_nil, nthO_succ, nthO_zero]
      refine ⟨?_, ?_, fun _ h => by cases h⟩
      · go_wp2_with (go_at_call 30; refine (rnumber_any _ z2 _).mono ?_; rintro e w' ⟨rfl, rfl⟩)
        refine any_stepH [8, 16] (by kernel_rfl) ?_
        simp only [List.forall_mem_cons, List.forall_mem_nil, nthO_succ, nthO_zero]
        refine ⟨?_, ?_, fun _ h => by cases h⟩
        · go_wp2_with (go_at_call 30; refine (rnumber_any _ z3 _).mono ?_; rintro e w' ⟨rfl, rfl⟩)
          refine any_stepH [11, 16] (by kernel_rfl) ?_
          simp only [List.forall_mem_cons, List.forall_mem_nil, nthO_succ, nthO_zero]
          refine ⟨?_, ?_, fun _ h => by cases h⟩
          · go_wp2_with (go_at_call 30; refine (rnumber_any _ z4 _).mono ?_; rintro e w' ⟨rfl, rfl⟩)
            refine any_stepH [14, 16] (by kernel_rfl) ?_
            simp only [List.forall_mem_cons, List.forall_mem_nil, nthO_succ, nthO_zero]
            refine ⟨?_, ?_, fun _ h => by cases h⟩
            · go_wp2_with (go_at_call 30; refine (rnumber_any _ z5 _).mono ?_; rintro e w' ⟨rfl, rfl⟩)
              refine any_stepH [15, 16] (by kernel_rfl) ?_
              simp only [List.forall_mem_cons, List.forall_mem_nil, nthO_succ, nthO_zero]
              refine ⟨?_, ?_, fun _ h => by cases h⟩
              · go_wp2_with fail
                refine any_stepH [16] (by kernel_rfl) ?_
                simp only [List.forall_mem_cons, List.forall_mem_nil, nthO_succ, nthO_zero]
                refine ⟨?_, fun _ h => by cases h⟩
                · go_wp2_with fail
                  refine any_stepH [17] (by kernel_rfl) ?_
                  simp only [List.forall_mem_cons, List.forall_mem_nil, nthO_succ, nthO_zero]
                  refine ⟨?_, fun _ h => by cases h⟩
                  · go_wp2_with fail
                    exact wpAnyH_done (by kernel_rfl) hfin _
              · go_wp2_with fail
                refine any_stepH [15] (by kernel_rfl) ?_
                simp only [List.forall_mem_cons, List.forall_mem_nil, nthO_succ, nthO_zero]
                refine ⟨?_, fun _ h => by cases h⟩
                · go_wp2_with fail
                  refine any_stepH [17] (by kernel_rfl) ?_
                  simp only [List.forall_mem_cons, List.forall_mem_nil, nthO_succ, nthO_zero]
                  refine ⟨?_, fun _ h => by cases h⟩
                  · go_wp2_with fail
                    exact wpAnyH_done (by kernel_rfl) hfin _
            · go_wp2_with fail
              refine any_stepH [14] (by kernel_rfl) ?_
              simp only [List.forall_mem_cons, List.forall_mem_nil, nthO_succ, nthO_zero]
              refine ⟨?_, fun _ h => by cases h⟩
              · go_wp2_with (go_at_call 30; refine (rnumber_any _ z5 _).mono ?_; rintro e w' ⟨rfl, rfl⟩)
                refine any_stepH [15] (by kernel_rfl) ?_
                simp only [List.forall_mem_cons, List.forall_mem_nil, nthO_succ, nthO_zero]
                refine ⟨?_, fun _ h => by cases h⟩
                · go_wp2_with fail
                  refine any_stepH [17] (by kernel_rfl) ?_
                  simp only [List.forall_mem_cons, List.forall_mem_nil, nthO_succ, nthO_zero]
                  refine ⟨?_, fun _ h => by cases h⟩
                  · go_wp2_with fail
                    exact wpAnyH_done (by kernel_rfl) hfin _
          · go_wp2_with fail
            refine any_stepH [11] (by kernel_rfl) ?_
            simp only [List.forall_mem_cons, List.forall_mem_nil, nthO_succ, nthO_zero]
            refine ⟨?_, fun _ h => by cases h⟩
            · go_wp2_with (go_at_call 30; refine (rnumber_any _ z4 _).mono ?_; rintro e w' ⟨rfl, rfl⟩)
              refine any_stepH [14] (by kernel_rfl) ?_
              simp only [List.forall_mem_cons, List.forall_mem_nil, nthO_succ, nthO_zero]
              refine ⟨?_, fun _ h => by cases h⟩
              · go_wp2_with (go_at_call 30; refine (rnumber_any _ z5 _).mono ?_; rintro e w' ⟨rfl, rfl⟩)
                refine any_stepH [15] (by kernel_rfl) ?_
                simp only [List.forall_mem_cons, List.forall_mem_nil, nthO_succ, nthO_zero]
                refine ⟨?_, fun _ h => by cases h⟩
                · go_wp2_with fail
                  refine any_stepH [17] (by kernel_rfl) ?_
                  simp only [List.forall_mem_cons, List.forall_mem_nil, nthO_succ, nthO_zero]
                  refine ⟨?_, fun _ h => by cases h⟩
                  · go_wp2_with fail
                    exact wpAnyH_done (by kernel_rfl) hfin _
        · go_wp2_with fail
          refine any_stepH [8] (by kernel_rfl) ?_
          simp only [List.forall_mem_cons, List.forall_mem_nil, nthO_succ, nthO_zero]
          refine ⟨?_, fun _ h => by cases h⟩
          · go_wp2_with (go_at_call 30; refine (rnumber_any _ z3 _).mono ?_; rintro e w' ⟨rfl, rfl⟩)
            refine any_stepH [11] (by kernel_rfl) ?_
            simp only [List.forall_mem_cons, List.forall_mem_nil, nthO_succ, nthO_zero]
            refine ⟨?_, fun _ h => by cases h⟩
            · go_wp2_with (go_at_call 30; refine (rnumber_any _ z4 _).mono ?_; rintro e w' ⟨rfl, rfl⟩)
              refine any_stepH [14] (by kernel_rfl) ?_
              simp only [List.forall_mem_cons, List.forall_mem_nil, nthO_succ, nthO_zero]
              refine ⟨?_, fun _ h => by cases h⟩
              · go_wp2_with (go_at_call 30; refine (rnumber_any _ z5 _).mono ?_; rintro e w' ⟨rfl, rfl⟩)
                refine any_stepH [15] (by kernel_rfl) ?_
                simp only [List.forall_mem_cons, List.forall_mem_nil, nthO_succ, nthO_zero]
                refine ⟨?_, fun _ h => by cases h⟩
                · go_wp2_with fail
                  refine any_stepH [17] (by kernel_rfl) ?_
                  simp only [List.forall_mem_cons, List.forall_mem_nil, nthO_succ, nthO_zero]
                  refine ⟨?_, fun _ h => by cases h⟩
                  · go_wp2_with fail
                    exact wpAnyH_done (by kernel_rfl) hfin _
      · go_wp2_with fail
        refine any_stepH [5] (by kernel_rfl) ?_
        simp only [List.forall_mem_cons, List.forall_mem_nil, nthO_succ, nthO_zero]
        refine ⟨?_, fun _ h => by cases h⟩
        · go_wp2_with (go_at_call 30; refine (rnumber_any _ z2 _).mono ?_; rintro e w' ⟨rfl, rfl⟩)
          refine any_stepH [8] (by kernel_rfl) ?_
          simp only [List.forall_mem_cons, List.forall_mem_nil, nthO_succ, nthO_zero]
          refine ⟨?_, fun _ h => by cases h⟩
          · go_wp2_with (go_at_call 30; refine (rnumber_any _ z3 _).mono ?_; rintro e w' ⟨rfl, rfl⟩)
            refine any_stepH [11] (by kernel_rfl) ?_
            simp only [List.forall_mem_cons, List.forall_mem_nil, nthO_succ, nthO_zero]
            refine ⟨?_, fun _ h => by cases h⟩
            · go_wp2_with (go_at_call 30; refine (rnumber_any _ z4 _).mono ?_; rintro e w' ⟨rfl, rfl⟩)
              refine any_stepH [14] (by kernel_rfl) ?_
              simp only [List.forall_mem_cons, List.forall_mem_nil, nthO_succ, nthO_zero]
              refine ⟨?_, fun _ h => by cases h⟩
              · go_wp2_with (go_at_call 30; refine (rnumber_any _ z5 _).mono ?_; rintro e w' ⟨rfl, rfl⟩)
                refine any_stepH [15] (by kernel_rfl) ?_
                simp only [List.forall_mem_cons, List.forall_mem_nil, nthO_succ, nthO_zero]
                refine ⟨?_, fun _ h => by cases h⟩
                · go_wp2_with fail
                  refine any_stepH [17] (by kernel_rfl) ?_
                  simp only [List.forall_mem_cons, List.forall_mem_nil, nthO_succ, nthO_zero]
                  refine ⟨?_, fun _ h => by cases h⟩
                  · go_wp2_with fail
                    exact wpAnyH_done (by kernel_rfl) hfin _
    · go_wp2_with fail
      refine any_stepH [2] (by kernel_rfl) ?_
      simp only [List.forall_mem_cons, List.forall_mem_nil, nthO_succ, nthO_zero]
      refine ⟨?_, fun _ h => by cases h⟩
      · go_wp2_with (go_at_call 30; refine (rnumber_any _ z1 _).mono ?_; rintro e w' ⟨rfl, rfl⟩)
        refine any_stepH [5] (by kernel_rfl) ?_
        simp only [List.forall_mem_cons, List.forall_mem_nil, nthO_succ, nthO_zero]
        refine ⟨?_, fun _ h => by cases h⟩
        · go_wp2_with (go_at_call 30; refine (rnumber_any _ z2 _).mono ?_; rintro e w' ⟨rfl, rfl⟩)
          refine any_stepH [8] (by kernel_rfl) ?_
          simp only [List.forall_mem_cons, List.forall_mem_nil, nthO_succ, nthO_zero]
          refine ⟨?_, fun _ h => by cases h⟩
          · go_wp2_with (go_at_call 30; refine (rnumber_any _ z3 _).mono ?_; rintro e w' ⟨rfl, rfl⟩)
            refine any_stepH [11] (by kernel_rfl) ?_
            simp only [List.forall_mem_cons, List.forall_mem_nil, nthO_succ, nthO_zero]
            refine ⟨?_, fun _ h => by cases h⟩
            · go_wp2_with (go_at_call 30; refine (rnumber_any _ z4 _).mono ?_; rintro e w' ⟨rfl, rfl⟩)
              refine any_stepH [14] (by kernel_rfl) ?_
              simp only [List.forall_mem_cons, List.forall_mem_nil, nthO_succ, nthO_zero]
              refine ⟨?_, fun _ h => by cases h⟩
              · go_wp2_with (go_at_call 30; refine (rnumber_any _ z5 _).mono ?_; rintro e w' ⟨rfl, rfl⟩)
                refine any_stepH [15] (by kernel_rfl) ?_
                simp only [List.forall_mem_cons, List.forall_mem_nil, nthO_succ, nthO_zero]
                refine ⟨?_, fun _ h => by cases h⟩
                · go_wp2_with fail
                  refine any_stepH [17] (by kernel_rfl) ?_
                  simp only [List.forall_mem_cons, List.forall_mem_nil, nthO_succ, nthO_zero]
                  refine ⟨?_, fun _ h => by cases h⟩
                  · go_wp2_with fail
                    exact wpAnyH_done (by kernel_rfl) hfin _
  case t =>
    clear hnum z1 z2 z3 z4 z5
    generalize numV s1 = y at *
    generalize numV s2 = mo at *
    generalize numV s3 = d at *
    generalize numV s4 = h at *
    generalize numV s5 = mi at *
    have kC := heap_new (o := .cells #[.int .i64 y, .int .i64 mo, .int .i64 d, .int .i64 h, .int .i64 mi, .int .i64 0] 23) (W := w) rfl
    have hB := ((Below.refl w.heap.size w).alloc (Nat.le_refl _) (.cells #[.int .i64 y, .int .i64 mo, .int .i64 d, .int .i64 h, .int .i64 mi, .int .i64 0] 23)).drew
    have fC := frozen_of (o := 5) kC
    go_wp2_with fail
    clear fC
    have kD : ((w.alloc (.cells #[.int .i64 y, .int .i64 mo, .int .i64 d, .int .i64 h, .int .i64 mi, .int .i64 0] 23)).drew).heap[w.heap.size]? = _ := kC
    clear kC
    generalize (w.alloc (.cells #[.int .i64 y, .int .i64 mo, .int .i64 d, .int .i64 h, .int .i64 mi, .int .i64 0] 23)).drew = V at *
    go_loopw [9] (fun nv wr => ∃ k : Nat, k ≤ 7 ∧ Below w.heap.size w wr ∧ wr.heap[w.heap.size]? = some (.cells #[.int .i64 y, .int .i64 mo, .int .i64 d, .int .i64 h, .int .i64 mi, .int .i64 k] 23) ∧ ∀ j : Nat, j < k → ¬ minOk y mo d h mi j o) (fun nv wr => match wr.heap[w.heap.size]? with | some (.cells vs _ _) => 20 - (intOf (vs.getD 5 undef)).toNat | _ => 0)
    case atStart => exact ⟨0, by omega, hB, kD, fun j hj => by omega⟩
    case round =>
      clear hB kD
      obtain ⟨k, hk, hB, kC, hall⟩ := hrel
      have HALL := Lib.hid hall
      clear hall
      have hm0 : (match wr.heap[w.heap.size]? with | some (.cells vs _ _) => 20 - (intOf (vs.getD 5 undef)).toNat | _ => 0) = 20 - k := by rw [kC]; simp [intOf]
      have Hm := Lib.hid hm0
      clear hm0
      have c0 := (fun o v => cell_of (o := o) (v := v) kC) 0 _ rfl
      have c1 := (fun o v => cell_of (o := o) (v := v) kC) 1 _ rfl
      have c2 := (fun o v => cell_of (o := o) (v := v) kC) 2 _ rfl
      have c3 := (fun o v => cell_of (o := o) (v := v) kC) 3 _ rfl
      have c4 := (fun o v => cell_of (o := o) (v := v) kC) 4 _ rfl
      have c5 := (fun o v => cell_of (o := o) (v := v) kC) 5 _ rfl
      by_cases hk7 : k < 7
      · have hkI : (k : Int) < 7 := by omega
        go_wp2_with fail
        have cM := rminute_any y mo d h mi k o wr
        unfold civil at cM
        clear c0 c1 c2 c3 c4 c5
        by_cases hok : minOk y mo d h mi k o
        · have hr : minRes y mo d h mi k o = .tuple #[.int .i64 (atN y mo d h mi o), .int .i64 0] := by unfold minRes; rw [if_pos hok]
          rw [hr] at cM
          have hv := hp.trans (civ_yes hok)
          have HV := Lib.hid hv
          clear hr hv hok hp
          refine cM.mono ?_
          rintro e w' ⟨rfl, hb⟩
          replace hB := hB.trans (hb.mono hB.size)
          clear hb
          go_wp2_with fail
          go_ret2
          exact ⟨by rw [HV.out]; rfl, hB⟩
        · have hr : minRes y mo d h mi k o = .tuple #[.int .i64 0, .int .i64 60] := by unfold minRes; rw [if_neg hok]
          rw [hr] at cM
          have Hok := Lib.hid hok
          clear hr hok
          refine cM.mono ?_
          rintro e w' ⟨rfl, hb⟩
          replace kC := (hb.block _ (Array.getElem?_eq_some_iff.1 kC).1).trans kC
          replace hB := hB.trans (hb.mono hB.size)
          clear hb
          have c5 := (fun o v => cell_of (o := o) (v := v) kC) 5 _ rfl
          have fC := fun o => frozen_of (o := o) kC
          go_wp2_with fail
          refine ⟨⟨k + 1, by omega, hB.setCell (p := ⟨w.heap.size, 5, none⟩) (Nat.le_refl _) _, heap_set (o := 5) _ kC, fun j hj => ?_⟩, ?_⟩
          · by_cases e : j = k
            · subst e; exact Hok.out
            · exact HALL.out j (by omega)
          · have hs := heap_set (o := 5) (.int .i64 ((k : Int) + 1)) kC
            rw [Hm.out, hs]
            simp [intOf]
            omega
      · obtain rfl : k = 7 := by omega
        have hv := hp.trans (civ_no HALL.out)
        have HV := Lib.hid hv
        clear hv hp
        go_wp2_with fail
        go_ret2
        exact ⟨by rw [HV.out]; rfl, hB⟩
theorem rread_err (date clock : ByteArray) (o : Int) (h : ¬ (date.size = 10 ∧ clock.size = 5 ∧ bt date 4 = 45 ∧ bt date 7 = 45 ∧ bt clock 2 = 58)) : readRes date clock o = .tuple #[.int .i64 0, .int .i64 60] := by
  unfold readRes
  rw [if_neg]
  intro k
  apply h
  have s1 : shp 4 = 45 := by decide +kernel
  have s2 : shp 7 = 45 := by decide +kernel
  have s4 : shp 13 = 58 := by decide +kernel
  have e4 := k.2.2.1 4 (by omega)
  have e7 := k.2.2.1 7 (by omega)
  have e13 := k.2.2.1 13 (by omega)
  unfold okb at e4 e7 e13
  rw [s1, bt_date _ _ k.1 _ (by omega)] at e4
  rw [s2, bt_date _ _ k.1 _ (by omega)] at e7
  rw [s4, bt_clock _ _ k.1 2 13 rfl] at e13
  exact ⟨k.1, k.2.1, by simpa using e4, by simpa using e7, by simpa using e13⟩

set_option maxHeartbeats 2000000 in
theorem rread_any (date clock : ByteArray) (o : Int) (w : World) :
    Calls Try.prog 18 #[.string date, .string clock, .int .i64 o] w fun e w' => e = .returned (readRes date clock o) ∧ Below w.heap.size w w' := by
  by_cases hd : date.size = 10
  · by_cases hc : clock.size = 5
    · have b1 := bt_at date 4 (by omega)
      have b2 := bt_at date 7 (by omega)
      have b3 := bt_at clock 2 (by omega)
      have t1 : ((date.size : Int) != 10) = false := by simp [hd]
      have t2 : ((clock.size : Int) != 5) = false := by simp [hc]
      by_cases h4 : bt date 4 = 45
      · by_cases h7 : bt date 7 = 45
        · by_cases h2 : bt clock 2 = 58
          · exact rread_sep date clock o w hd hc h4 h7 h2
          · have he := rread_err date clock o (fun h => h2 h.2.2.2.2)
            have HE := Lib.hid he
            have q2 : (bt clock 2 != 58) = true := by simpa using h2
            rw [h4] at b1
            rw [h7] at b2
            clear he
            go_enter Try.func18, Try.ntmps18
            go_wp2_with fail
            go_ret2
            exact ⟨by rw [HE.out]; rfl, Below.refl _ _⟩
        · have he := rread_err date clock o (fun h => h7 h.2.2.2.1)
          have HE := Lib.hid he
          have q2 : (bt date 7 != 45) = true := by simpa using h7
          rw [h4] at b1
          clear he
          go_enter Try.func18, Try.ntmps18
          go_wp2_with fail
          go_ret2
          exact ⟨by rw [HE.out]; rfl, Below.refl _ _⟩
      · have he := rread_err date clock o (fun h => h4 h.2.2.1)
        have HE := Lib.hid he
        have q2 : (bt date 4 != 45) = true := by simpa using h4
        clear he
        go_enter Try.func18, Try.ntmps18
        go_wp2_with fail
        go_ret2
        exact ⟨by rw [HE.out]; rfl, Below.refl _ _⟩
    · have he := rread_err date clock o (fun h => hc h.2.1)
      have HE := Lib.hid he
      have t1 : ((date.size : Int) != 10) = false := by simp [hd]
      have t2 : ((clock.size : Int) != 5) = true := by simp; omega
      clear he
      go_enter Try.func18, Try.ntmps18
      go_wp2_with fail
      go_ret2
      exact ⟨by rw [HE.out]; rfl, Below.refl _ _⟩
  · have he := rread_err date clock o (fun h => hd h.1)
    have HE := Lib.hid he
    have t1 : ((date.size : Int) != 10) = true := by simp; omega
    clear he
    go_enter Try.func18, Try.ntmps18
    go_wp2_with fail
    go_ret2
    exact ⟨by rw [HE.out]; rfl, Below.refl _ _⟩
end Go.Proofs.Ytkbdgelfjdahpaa
