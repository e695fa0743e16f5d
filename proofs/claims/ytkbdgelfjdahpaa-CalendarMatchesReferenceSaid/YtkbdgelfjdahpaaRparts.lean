/- The contract of the reference's Parts. -/
import Derived.Test.YtkbdgelfjdahpaaParts
namespace Go.Proofs.Ytkbdgelfjdahpaa
open Go.RowKit Go.Rg Go.Shelf
set_option linter.unusedVariables false
set_option linter.unusedSimpArgs false

theorem right_yes (m o : Int) (w : World) (h : okB m o = true) :
    Calls Try.prog 24 #[.int .i64 m, .int .i64 o] w fun e w' => e = .returned (.bool true) ∧ w = w' := by
  unfold okB at h
  simp at h
  obtain ⟨⟨h1, h2⟩, h3, h4⟩ := h
  go_enter Try.func24, Try.ntmps24
  go_wp2
  go_ret
  exact ⟨rfl, rfl⟩
theorem right_no (m o : Int) (w : World) (h : okB m o = false) :
    Calls Try.prog 24 #[.int .i64 m, .int .i64 o] w fun e w' => e = .returned (.bool false) ∧ w = w' := by
  unfold okB at h
  simp at h
  by_cases h1 : 0 ≤ m <;> by_cases h2 : m ≤ 50000000 <;> by_cases h3 : -840 ≤ o <;> by_cases h4 : o ≤ 840
  all_goals try (exfalso; omega)
  all_goals
    clear h
    go_enter Try.func24, Try.ntmps24
    go_wp2
    go_ret
    exact ⟨rfl, rfl⟩

theorem rparts_no (m o : Int) (w : World) (h : okB m o = false) :
    Calls Try.prog 12 #[.int .i64 m, .int .i64 o] w fun e w' => e = .returned (.tuple #[civil 0 0 0 0 0 0, .int .i64 60]) ∧ Below w.heap.size w w' := by
  have H := Lib.hid h; clear h
  go_enter Try.func12, Try.ntmps12
  go_wp2_with fail
  refine (right_no _ _ _ H.out).mono ?_
  rintro e w' ⟨rfl, rfl⟩
  go_wp2_with fail
  refine bodyPost_ret (v := .tuple #[civil 0 0 0 0 0 0, .int .i64 60]) (by simp [results, Try.results12, go_sem, civil]) rfl ⟨rfl, ?_⟩
  exact (Below.refl _ _).alloc (Nat.le_refl _) _

structure RI (w : World) (k : Nat) (hh mi wd : Int) (W : World) : Prop where
  below : Below w.heap.size w W
  sz : w.heap.size + 2 ≤ W.heap.size
  b0 : W.heap[w.heap.size]? = some (.cells #[.int .i64 0, .int .i64 0, .int .i64 0, .int .i64 0, .int .i64 0, .int .i64 0] 23 (0, 0))
  b1 : W.heap[w.heap.size + 1]? = some (.cells #[.int .i64 (my k), .int .i64 (mm k), .int .i64 1, .int .i64 hh, .int .i64 mi, .int .i64 wd] 23 (0, 0))

theorem days_ge {k : Nat} (h : k ≤ 50000) : 28 ≤ days (my k) (mm k) := by
  unfold days
  have hm : 1 ≤ mm k ∧ mm k ≤ 12 := by unfold mm; omega
  have hy : 1 ≤ my k ∧ my k ≤ 9999 := by unfold my; omega
  rw [if_pos ⟨hy.1, hy.2, hm.1, hm.2⟩]
  have := mlen_bd hm.1 hm.2
  split <;> omega

theorem RI.call {w : World} {k : Nat} {hh mi wd : Int} {A B : World} (h : RI w k hh mi wd A) (hb : Below A.heap.size A B) : RI w k hh mi wd B := by
  have hz := h.sz
  have hz2 := hb.size
  exact ⟨h.below.trans (hb.mono (by omega)), by omega, (hb.block _ (by omega)).trans h.b0, (hb.block _ (by omega)).trans h.b1⟩

set_option maxHeartbeats 1000000 in
theorem rparts_yes (m o : Int) (n : Nat) (w : World) (h : okB m o = true) (hn : n ≤ 50000) (h1 : before n ≤ (m + o + 525600) / 1440) (h2 : (m + o + 525600) / 1440 < before (n + 1)) :
    Calls Try.prog 12 #[.int .i64 m, .int .i64 o] w fun e w' => e = .returned (.tuple #[civil (my n) (mm n) ((m + o + 525600) / 1440 - before n + 1) ((m + o + 525600) % 1440 / 60) ((m + o + 525600) % 60) (((m + o + 525600) / 1440 + 4) % 7), .int .i64 0]) ∧ Below w.heap.size w w' := by
  have H := Lib.hid h
  unfold okB at h
  simp at h
  obtain ⟨⟨b1a, b1b⟩, b2a, b2b⟩ := h
  have H1 := Lib.hid h1; clear h1
  have H2 := Lib.hid h2; clear h2
  have d1a : 0 ≤ (m + o + 525600) / 1440 := by omega
  have d1b : (m + o + 525600) / 1440 ≤ 40000 := by omega
  go_enter Try.func12, Try.ntmps12
  go_wp2_with fail
  refine (right_yes _ _ _ H.out).mono ?_
  rintro e w' ⟨rfl, rfl⟩
  go_wp2_with fail
  have hR0 : RI w 0 ((m + o + 525600) % 1440 / 60) ((m + o + 525600) % 60) ((4 + (m + o + 525600) / 1440) % 7) ((w.alloc (.cells #[.int .i64 0, .int .i64 0, .int .i64 0, .int .i64 0, .int .i64 0, .int .i64 0] 23)).alloc (.cells #[.int .i64 1999, .int .i64 1, .int .i64 1, .int .i64 ((m + o + 525600) % 1440 / 60), .int .i64 ((m + o + 525600) % 60), .int .i64 ((4 + (m + o + 525600) / 1440) % 7)] 23)) :=
    ⟨((Below.refl _ _).alloc (Nat.le_refl _) _).alloc (by simp) _, by simp, heap_old (heap_new rfl), heap_new (by simp)⟩
  generalize ((w.alloc (.cells #[.int .i64 0, .int .i64 0, .int .i64 0, .int .i64 0, .int .i64 0, .int .i64 0] 23)).alloc (.cells #[.int .i64 1999, .int .i64 1, .int .i64 1, .int .i64 ((m + o + 525600) % 1440 / 60), .int .i64 ((m + o + 525600) % 60), .int .i64 ((4 + (m + o + 525600) / 1440) % 7)] 23)) = W0 at hR0 ⊢
  go_loopw [8, 9] (fun d n' wr => ∃ k : Nat, k ≤ n ∧ d = .int .i64 ((m + o + 525600) / 1440 - before k) ∧ RI w k ((m + o + 525600) % 1440 / 60) ((m + o + 525600) % 60) ((4 + (m + o + 525600) / 1440) % 7) wr) (fun d n' wr => (intOf d).toNat)
  case atStart => exact ⟨0, Nat.zero_le _, by simp [before], hR0⟩
  case round =>
    obtain ⟨k, hk, rfl, hR⟩ := hrel
    have hge : before k ≤ (m + o + 525600) / 1440 := Int.le_trans (before_mono hk) H1.out
    have hbk := (before_bd k).1
    have hd := days_bd (my k) (mm k)
    have hd2 := days_ge (k := k) (by omega)
    have e0 := cell_of (o := 0) hR.b1 rfl
    have e1 := cell_of (o := 1) hR.b1 rfl
    go_wp2_with fail
    refine (rdays_any _ _ _).mono ?_
    rintro e w' ⟨rfl, hbw⟩
    have hR1 := hR.call hbw
    clear e0 e1 hR hbw
    have f1 := fun o => frozen_of (o := o) hR1.b1
    have f0 := fun o => frozen_of (o := o) hR1.b0
    have hlt := hR1.sz
    have cb := fun o v => cell_of (o := o) (v := v) hR1.b1
    have e0 := cb 0 _ rfl
    have e1 := cb 1 _ rfl
    have e2 := cb 2 _ rfl
    have e3 := cb 3 _ rfl
    have e4 := cb 4 _ rfl
    have e5 := cb 5 _ rfl
    have ca := fun o v => cell_of (o := o) (v := v) hR1.b0
    have g0 := ca 0 _ rfl
    have g1 := ca 1 _ rfl
    have g2 := ca 2 _ rfl
    have g3 := ca 3 _ rfl
    have g4 := ca 4 _ rfl
    have g5 := ca 5 _ rfl
    clear cb ca
    have HR := Lib.hid hR1
    clear hR1
    by_cases hlt2 : (m + o + 525600) / 1440 - before k < days (my k) (mm k)
    · have hkn : k = n := by
        by_cases e : k = n
        · exact e
        · have := before_mono (show k + 1 ≤ n by omega)
          have h1 := H1.out
          simp only [before] at this
          omega
      subst hkn
      go_wp2_with fail
      have hB : Below w.heap.size w (((((((w'.setCell ⟨w.heap.size + 1, 2, none⟩ (.int .i64 ((m + o + 525600) / 1440 - before k + 1))).setCell ⟨w.heap.size, 0, none⟩ (.int .i64 (my k))).setCell ⟨w.heap.size, 1, none⟩ (.int .i64 (mm k))).setCell ⟨w.heap.size, 2, none⟩ (.int .i64 ((m + o + 525600) / 1440 - before k + 1))).setCell ⟨w.heap.size, 3, none⟩ (.int .i64 ((m + o + 525600) % 1440 / 60))).setCell ⟨w.heap.size, 4, none⟩ (.int .i64 ((m + o + 525600) % 60))).setCell ⟨w.heap.size, 5, none⟩ (.int .i64 ((4 + (m + o + 525600) / 1440) % 7))) := ((((((HR.out.below.setCell (p := ⟨w.heap.size + 1, 2, none⟩) (Nat.le_succ _) _).setCell (p := ⟨w.heap.size, 0, none⟩) (Nat.le_refl _) _).setCell (p := ⟨w.heap.size, 1, none⟩) (Nat.le_refl _) _).setCell (p := ⟨w.heap.size, 2, none⟩) (Nat.le_refl _) _).setCell (p := ⟨w.heap.size, 3, none⟩) (Nat.le_refl _) _).setCell (p := ⟨w.heap.size, 4, none⟩) (Nat.le_refl _) _).setCell (p := ⟨w.heap.size, 5, none⟩) (Nat.le_refl _) _
      have hb0 := (heap_set (o := 5) (.int .i64 ((4 + (m + o + 525600) / 1440) % 7)) (heap_set (o := 4) (.int .i64 ((m + o + 525600) % 60)) (heap_set (o := 3) (.int .i64 ((m + o + 525600) % 1440 / 60)) (heap_set (o := 2) (.int .i64 ((m + o + 525600) / 1440 - before k + 1)) (heap_set (o := 1) (.int .i64 (mm k)) (heap_set (o := 0) (.int .i64 (my k)) (heap_set_ne (p := ⟨w.heap.size + 1, 2, none⟩) (.int .i64 ((m + o + 525600) / 1440 - before k + 1)) (Nat.ne_of_lt (Nat.lt_succ_self _)) HR.out.b0)))))))
      generalize (((((((w'.setCell ⟨w.heap.size + 1, 2, none⟩ (.int .i64 ((m + o + 525600) / 1440 - before k + 1))).setCell ⟨w.heap.size, 0, none⟩ (.int .i64 (my k))).setCell ⟨w.heap.size, 1, none⟩ (.int .i64 (mm k))).setCell ⟨w.heap.size, 2, none⟩ (.int .i64 ((m + o + 525600) / 1440 - before k + 1))).setCell ⟨w.heap.size, 3, none⟩ (.int .i64 ((m + o + 525600) % 1440 / 60))).setCell ⟨w.heap.size, 4, none⟩ (.int .i64 ((m + o + 525600) % 60))).setCell ⟨w.heap.size, 5, none⟩ (.int .i64 ((4 + (m + o + 525600) / 1440) % 7))) = Wf at hB hb0 ⊢
      have cb := fun o v => cell_of (o := o) (v := v) hb0
      have q0 := cb 0 _ rfl
      have q1 := cb 1 _ rfl
      have q2 := cb 2 _ rfl
      have q3 := cb 3 _ rfl
      have q4 := cb 4 _ rfl
      have q5 := cb 5 _ rfl
      rw [show (m + o + 525600) / 1440 + 4 = 4 + (m + o + 525600) / 1440 from Int.add_comm _ _]
      exact bodyPost_ret (v := .tuple #[civil (my k) (mm k) ((m + o + 525600) / 1440 - before k + 1) ((m + o + 525600) % 1440 / 60) ((m + o + 525600) % 60) ((4 + (m + o + 525600) / 1440) % 7), .int .i64 0]) (by simp [results, Try.results12, go_sem, civil, q0, q1, q2, q3, q4, q5]) rfl ⟨rfl, hB⟩
    · have hkn : k + 1 ≤ n := by
        by_cases e : k = n
        · have h2 := H2.out; rw [← e] at h2; simp only [before] at h2; omega
        · omega
      by_cases h12 : k % 12 = 11
      · have t1 : (mm k + 1 == 13) = true := by unfold mm; simp; omega
        have hmy : my (k + 1) = my k + 1 := by unfold my; omega
        have hmm : mm (k + 1) = 1 := by unfold mm; omega
        have hmb : mm k = 12 := by unfold mm; omega
        have hyb : 1999 ≤ my k ∧ my k ≤ 9998 := by unfold my; omega
        obtain ⟨hyb1, hyb2⟩ := hyb
        have hmb1 : mm k ≤ 12 := by omega
        have hmb2 : 1 ≤ mm k := by omega
        have Hmy := Lib.hid hmy
        have Hmm := Lib.hid hmm
        clear hmy hmm hmb h12
        go_wp2_with fail
        refine ⟨⟨k + 1, hkn, by rw [show before (k + 1) = before k + days (my k) (mm k) from rfl, Int.sub_sub], (((HR.out.below).setCell (p := ⟨w.heap.size + 1, 1, none⟩) (Nat.le_succ _) _).setCell (p := ⟨w.heap.size + 1, 1, none⟩) (Nat.le_succ _) _).setCell (p := ⟨w.heap.size + 1, 0, none⟩) (Nat.le_succ _) _, ?_, (heap_set_ne _ (Nat.ne_of_lt (Nat.lt_succ_self _)) (heap_set_ne _ (Nat.ne_of_lt (Nat.lt_succ_self _)) (heap_set_ne _ (Nat.ne_of_lt (Nat.lt_succ_self _)) HR.out.b0))), ?_⟩, by simp [intOf]; omega⟩
        · simp only [World.setCell, Array.size_modify]; exact HR.out.sz
        · rw [Hmy.out, Hmm.out]; exact (heap_set (o := 0) (.int .i64 (my k + 1)) (heap_set (o := 1) (.int .i64 1) (heap_set (o := 1) (.int .i64 (mm k + 1)) HR.out.b1)))
      · have t1 : (mm k + 1 == 13) = false := by unfold mm; simp; omega
        have hmy : my (k + 1) = my k := by unfold my; omega
        have hmm : mm (k + 1) = mm k + 1 := by unfold mm; omega
        have hmb : 1 ≤ mm k ∧ mm k ≤ 12 := by unfold mm; omega
        have Hmy := Lib.hid hmy
        have Hmm := Lib.hid hmm
        obtain ⟨hmb1, hmb2⟩ := hmb
        clear hmy hmm h12
        go_wp2_with fail
        refine ⟨⟨k + 1, hkn, by rw [show before (k + 1) = before k + days (my k) (mm k) from rfl, Int.sub_sub], (HR.out.below).setCell (p := ⟨w.heap.size + 1, 1, none⟩) (Nat.le_succ _) _, ?_, (heap_set_ne _ (Nat.ne_of_lt (Nat.lt_succ_self _)) HR.out.b0), ?_⟩, by simp [intOf]; omega⟩
        · simp only [World.setCell, Array.size_modify]; exact HR.out.sz
        · rw [Hmy.out, Hmm.out]; exact (heap_set (o := 1) (.int .i64 (mm k + 1)) HR.out.b1)
end Go.Proofs.Ytkbdgelfjdahpaa
