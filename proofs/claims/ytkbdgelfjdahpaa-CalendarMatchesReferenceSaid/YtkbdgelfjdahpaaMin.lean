/- The contract of calendar.Minute. -/
import Derived.Test.YtkbdgelfjdahpaaAt
namespace Go.Proofs.Ytkbdgelfjdahpaa
open Go.RowKit Go.Rg Go.Shelf
set_option linter.unusedVariables false
set_option linter.unusedSimpArgs false

def minOk (y m d h mi wd o : Int) : Prop := okC y m d h mi o ∧ (0 ≤ atN y m d h mi o ∧ atN y m d h mi o ≤ 50000000) ∧ (before (nOf y m) + d + 3) % 7 = wd
instance (y m d h mi wd o : Int) : Decidable (minOk y m d h mi wd o) := by unfold minOk; infer_instance
def minRes (y m d h mi wd o : Int) : Value := if minOk y m d h mi wd o then .tuple #[.int .i64 (atN y m d h mi o), .int .i64 0] else .tuple #[.int .i64 0, .int .i64 60]

/-- What Parts makes of the minute of a date and time. -/
theorem at_day {y m d h mi o : Int} (hok : okC y m d h mi o) : (atN y m d h mi o + o + 525600) / 1440 = before (nOf y m) + d - 1 ∧ (atN y m d h mi o + o + 525600) % 1440 / 60 = h ∧ (atN y m d h mi o + o + 525600) % 60 = mi ∧
    before (nOf y m) ≤ before (nOf y m) + d - 1 ∧ before (nOf y m) + d - 1 < before (nOf y m + 1) ∧ nOf y m ≤ 3000 ∧ my (nOf y m) = y ∧ mm (nOf y m) = m := by
  have hmo := month_of hok.2.1
  obtain ⟨⟨h1, h1'⟩, ⟨h2, h2'⟩, ⟨h3, h3'⟩, ⟨h4, h4'⟩, h5, h5'⟩ := hok
  have hy := my_n h1 hmo
  have hm := mm_n h1 hmo
  have e : atN y m d h mi o + o + 525600 = (before (nOf y m) + d - 1) * 1440 + (h * 60 + mi) := by unfold atN; omega
  rw [e]
  refine ⟨by omega, by omega, by omega, by omega, ?_, by unfold nOf; omega, hy, hm⟩
  show _ < before (nOf y m) + days (my (nOf y m)) (mm (nOf y m))
  rw [hy, hm]; omega

theorem minute_any (y m d h mi wd o : Int) (w : World) :
    Calls Try.prog 15 #[civil y m d h mi wd, .int .i64 o] w fun e w' => e = .returned (minRes y m d h mi wd o) ∧ Below w.heap.size w w' := by
  by_cases hok : okC y m d h mi o ∧ (0 ≤ atN y m d h mi o ∧ atN y m d h mi o ≤ 50000000)
  · obtain ⟨hok, hr⟩ := hok
    have hat : atRes y m d h mi o = .tuple #[.int .i64 (atN y m d h mi o), .bool true] := by
      unfold atRes; rw [if_pos hok]; simp [hr.1, hr.2]
    obtain ⟨q1, q2, q3, q4, q5, q6, q7, q8⟩ := at_day hok
    have hB : okB (atN y m d h mi o) o = true := by unfold okB; simp [hr.1, hr.2, hok.2.2.2.2.1, hok.2.2.2.2.2]
    have hp := fun W => parts_yes (atN y m d h mi o) o (nOf y m) W hB (by omega) (by rw [q1]; exact q4) (by rw [q1]; exact q5)
    rw [q1, q2, q3, q7, q8] at hp
    rw [show before (nOf y m) + d - 1 - before (nOf y m) + 1 = d by omega, show before (nOf y m) + d - 1 + 4 = before (nOf y m) + d + 3 by omega] at hp
    have HP := Lib.hid hp
    have Hat := Lib.hid hat
    by_cases hw : (before (nOf y m) + d + 3) % 7 = wd
    · have hres : minRes y m d h mi wd o = .tuple #[.int .i64 (atN y m d h mi o), .int .i64 0] := by
        unfold minRes; rw [if_pos ⟨hok, hr, hw⟩]
      have HR := Lib.hid hres
      subst hw
      clear hp hat hok hr q1 q2 q3 q4 q5 q6 q7 q8 hB hres
      generalize atN y m d h mi o = N at *
      unfold civil
      go_enter Try.func15, Try.ntmps15
      go_wp2_with fail
      refine (at_any y m d h mi _ o _).mono ?_
      rintro e w' ⟨rfl, hb⟩
      rw [Hat.out]
      go_wp2_with fail
      refine (HP.out _).mono ?_
      rintro e w2 ⟨rfl, hb2⟩
      unfold civil
      have hs1 := hb.size
      have hs2 := hb2.size
      simp at hs1
      have k0 : w2.heap[w.heap.size]? = _ := (hb2.block _ (by omega)).trans ((hb.block _ (by simp)).trans (heap_new rfl))
      have hB : Below w.heap.size w w2 := (((Below.refl _ w).alloc (Nat.le_refl _) _).trans (hb.mono (by simp))).trans (hb2.mono (by omega))
      have hlt : w.heap.size < w2.heap.size := by omega
      have c5 := cell_of (o := 5) k0 rfl
      clear k0 hb hb2
      go_wp2
      go_ret2
      exact ⟨HR.out.symm ▸ rfl, hB.alloc (by omega) _⟩
    · have hres : minRes y m d h mi wd o = .tuple #[.int .i64 0, .int .i64 60] := by
        unfold minRes; rw [if_neg (fun hh => hw hh.2.2)]
      have HR := Lib.hid hres
      have hwb : ((before (nOf y m) + d + 3) % 7 == wd) = false := by simpa using hw
      have hwb2 : ((before (nOf y m) + d + 3) % 7 != wd) = true := by simp [bne, hwb]
      clear hw
      clear hp hat hok hr q1 q2 q3 q4 q5 q6 q7 q8 hB hres
      generalize atN y m d h mi o = N at *
      unfold civil
      go_enter Try.func15, Try.ntmps15
      go_wp2_with fail
      refine (at_any y m d h mi _ o _).mono ?_
      rintro e w' ⟨rfl, hb⟩
      rw [Hat.out]
      go_wp2_with fail
      refine (HP.out _).mono ?_
      rintro e w2 ⟨rfl, hb2⟩
      unfold civil
      have hs1 := hb.size
      have hs2 := hb2.size
      simp at hs1
      have k0 : w2.heap[w.heap.size]? = _ := (hb2.block _ (by omega)).trans ((hb.block _ (by simp)).trans (heap_new rfl))
      have hB : Below w.heap.size w w2 := (((Below.refl _ w).alloc (Nat.le_refl _) _).trans (hb.mono (by simp))).trans (hb2.mono (by omega))
      have hlt : w.heap.size < w2.heap.size := by omega
      have c5 := cell_of (o := 5) k0 rfl
      clear k0 hb hb2
      go_wp2
      go_ret2
      exact ⟨HR.out.symm ▸ rfl, hB.alloc (by omega) _⟩
  · have hno : ∃ N : Int, atRes y m d h mi o = .tuple #[.int .i64 N, .bool false] := by
      unfold atRes
      split
      · rename_i hk
        refine ⟨atN y m d h mi o, ?_⟩
        congr
        simp
        have : ¬ (0 ≤ atN y m d h mi o ∧ atN y m d h mi o ≤ 50000000) := fun hh => hok ⟨hk, hh⟩
        omega
      · exact ⟨0, rfl⟩
    obtain ⟨N, hat⟩ := hno
    have hres : minRes y m d h mi wd o = .tuple #[.int .i64 0, .int .i64 60] := by
      unfold minRes; rw [if_neg (fun hh => hok ⟨hh.1, hh.2.1⟩)]
    have HR := Lib.hid hres
    have Hat := Lib.hid hat
    clear hat hok hres
    unfold civil
    go_enter Try.func15, Try.ntmps15
    go_wp2_with fail
    refine (at_any y m d h mi _ o _).mono ?_
    rintro e w' ⟨rfl, hb⟩
    rw [Hat.out]
    go_wp2_with fail
    go_ret2
    exact ⟨HR.out.symm ▸ rfl, ((Below.refl _ w).alloc (Nat.le_refl _) _).trans (hb.mono (by simp))⟩
end Go.Proofs.Ytkbdgelfjdahpaa
