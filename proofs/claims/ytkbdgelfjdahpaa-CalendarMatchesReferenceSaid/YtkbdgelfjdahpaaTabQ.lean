/- Plain facts of CalendarThereAndBack, as contracts. -/
import Derived.Test.YtkbdgelfjdahpaaTabP
namespace Go.Proofs.Ytkbdgelfjdahpaa
open Go.RowKit Go.Rg Go.Shelf
set_option linter.unusedVariables false
set_option linter.unusedSimpArgs false

theorem tab_there (m o : Int) (hm : 0 ≤ m ∧ m ≤ 50000000) (ho : -840 ≤ o ∧ o ≤ 840) :
    ∃ y mo d h mi wd P Q, PartsC m o (civil y mo d h mi wd) ∧ minRes y mo d h mi wd o = .tuple #[.int .i64 m, .int .i64 0] ∧ PrintC m o P Q ∧ readRes P Q o = .tuple #[.int .i64 m, .int .i64 0] ∧ P.size = 10 ∧ Q.size = 5 := by
  obtain ⟨T, hT⟩ : ∃ T, m + o + 525600 = T := ⟨_, rfl⟩
  obtain ⟨n, hn, n1, n2⟩ := month_at (T / 1440) (by omega) (by omega)
  have cA : PartsC m o _ := fun w => parts_at m o T hT n w hm ho hn n1 n2
  have cP := print_at m o T hT n hm ho hn n1 n2
  have hb := back T o n hn (by omega) ho n1 n2
  have hmr := back_min T o n hn (by omega) ho n1 n2 (by omega)
  rw [show T - o - 525600 = m by omega] at hmr hb
  exact ⟨_, _, _, _, _, _, _, _, cA, hmr, cP, read_back _ _ _ _ _ _ _ hb.1 hb.2.1 hm, by rw [strOfNums_size]; rfl, by rw [strOfNums_size]; rfl⟩

theorem nOf_bd {y m : Int} (h1 : 1999 ≤ y ∧ y ≤ 2200) (h2 : 1 ≤ m ∧ m ≤ 12) : nOf y m < 100000 := by unfold nOf; omega
theorem okB_of {m o : Int} (hm : 0 ≤ m ∧ m ≤ 50000000) (ho : -840 ≤ o ∧ o ≤ 840) : okB m o = true := by unfold okB; simp; omega

theorem tab_minute (y mo d h mi wd o : Int) :
    minRes y mo d h mi wd o = .tuple #[.int .i64 0, .int .i64 60] ∨ ∃ x, minRes y mo d h mi wd o = .tuple #[.int .i64 x, .int .i64 0] ∧ PartsC x o (civil y mo d h mi wd) ∧ (0 ≤ x ∧ x ≤ 50000000) := by
  by_cases k : minOk y mo d h mi wd o
  · right
    have e : minRes y mo d h mi wd o = .tuple #[.int .i64 (atN y mo d h mi o), .int .i64 0] := by unfold minRes; rw [if_pos k]
    refine ⟨_, e, fun w => ?_, k.2.1⟩
    have hm := month_of k.1.2.1
    have ha := at_day k.1
    have hbs := before_step (nOf y mo)
    have e1 := my_n k.1.1.1 hm
    have e2 := mm_n k.1.1.1 hm
    have hd := k.1.2.1
    rw [e1, e2] at hbs
    have hp := parts_yes (atN y mo d h mi o) o (nOf y mo) w (okB_of k.2.1 k.1.2.2.2.2) (by have := nOf_bd k.1.1 hm; omega) (by rw [ha.1]; omega) (by rw [ha.1, hbs]; omega)
    rw [ha.1, ha.2.1, ha.2.2.1, e1, e2, show before (nOf y mo) + d - 1 - before (nOf y mo) + 1 = d by omega, show (before (nOf y mo) + d - 1 + 4) % 7 = wd by rw [← k.2.2]; congr 1; omega] at hp
    exact hp
  · left
    unfold minRes; rw [if_neg k]

theorem tab_read (s t : ByteArray) (o : Int) :
    readRes s t o = .tuple #[.int .i64 0, .int .i64 60] ∨ ∃ x, readRes s t o = .tuple #[.int .i64 x, .int .i64 0] ∧ PrintC x o s t ∧ s.size = 10 ∧ t.size = 5 := by
  by_cases k : readOk s t o
  · right
    have e : readRes s t o = .tuple #[.int .i64 (atN (n4 (joined s t) 0) (n2 (joined s t) 5) (n2 (joined s t) 8) (n2 (joined s t) 11) (n2 (joined s t) 14) o), .int .i64 0] := by unfold readRes; rw [if_pos k]
    refine ⟨_, e, fun w => ?_, k.1, k.2.1⟩
    have hpb := print_back s t k.1 k.2.1 k.2.2.1
    have kc := k.2.2.2.1
    have kb := k.2.2.2.2
    generalize n4 (joined s t) 0 = y at *
    generalize n2 (joined s t) 5 = mo at *
    generalize n2 (joined s t) 8 = d at *
    generalize n2 (joined s t) 11 = h at *
    generalize n2 (joined s t) 14 = mi at *
    have hm := month_of kc.2.1
    have ha := at_day kc
    have hbs := before_step (nOf y mo)
    have e1 := my_n kc.1.1 hm
    have e2 := mm_n kc.1.1 hm
    have hd := kc.2.1
    rw [e1, e2] at hbs
    have hp := print_yes (atN y mo d h mi o) o (nOf y mo) w (okB_of kb kc.2.2.2.2) (by have := kc.1; unfold nOf; omega) (by rw [ha.1]; omega) (by rw [ha.1, hbs]; omega)
    rw [ha.1, ha.2.1, ha.2.2.1, e1, e2, show before (nOf y mo) + d - 1 - before (nOf y mo) + 1 = d by omega, hpb.1, hpb.2] at hp
    exact hp
  · left
    unfold readRes; rw [if_neg k]
end Go.Proofs.Ytkbdgelfjdahpaa
