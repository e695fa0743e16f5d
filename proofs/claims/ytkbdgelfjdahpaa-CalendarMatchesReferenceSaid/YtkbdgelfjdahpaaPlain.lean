/- Plain facts of the calendar: every day has its month, and the date and time of a minute is taken back to that minute. -/
import Derived.Test.YtkbdgelfjdahpaaSane
namespace Go.Proofs.Ytkbdgelfjdahpaa
open Go.RowKit Go.Rg Go.Shelf
set_option linter.unusedVariables false
set_option linter.unusedSimpArgs false

theorem month_lt (D : Int) (h0 : 0 ≤ D) : ∀ k : Nat, D < before k → ∃ n, n < k ∧ before n ≤ D ∧ D < before (n + 1) := by
  intro k
  induction k with
  | zero => intro h; simp [before] at h; omega
  | succ k ih =>
    intro h
    by_cases hk : D < before k
    · obtain ⟨n, h1, h2⟩ := ih hk
      exact ⟨n, by omega, h2⟩
    · exact ⟨k, by omega, by omega, h⟩
theorem month_at (D : Int) (h0 : 0 ≤ D) (h1 : D ≤ 40000) : ∃ n, n < 1400 ∧ before n ≤ D ∧ D < before (n + 1) :=
  month_lt D h0 1400 (by have h : (40000 : Int) < before 1400 := by decide +kernel
                         omega)
theorem before_step (n : Nat) : before (n + 1) = before n + days (my n) (mm n) := rfl
theorem month_one {D : Int} {n k : Nat} (h1 : before n ≤ D) (h2 : D < before (n + 1)) (h3 : before k ≤ D) (h4 : D < before (k + 1)) : n = k := by
  rcases Nat.lt_trichotomy n k with h | h | h
  · have := before_mono (show n + 1 ≤ k by omega); omega
  · exact h
  · have := before_mono (show k + 1 ≤ n by omega); omega
theorem nOf_my (n : Nat) : nOf (my n) (mm n) = n := by unfold nOf my mm; omega

/-- The date and time that lies T minutes behind the first of January 1999. -/
theorem back (T o : Int) (n : Nat) (hn : n < 1400) (h0 : 0 ≤ T) (ho : -840 ≤ o ∧ o ≤ 840) (h1 : before n ≤ T / 1440) (h2 : T / 1440 < before (n + 1)) :
    okC (my n) (mm n) (T / 1440 - before n + 1) (T % 1440 / 60) (T % 60) o ∧ atN (my n) (mm n) (T / 1440 - before n + 1) (T % 1440 / 60) (T % 60) o = T - o - 525600 ∧
      (before (nOf (my n) (mm n)) + (T / 1440 - before n + 1) + 3) % 7 = (T / 1440 + 4) % 7 := by
  rw [before_step] at h2
  refine ⟨⟨by unfold my; omega, by omega, by omega, by omega, ho⟩, ?_, ?_⟩
  · unfold atN; rw [nOf_my]; omega
  · rw [nOf_my]; congr 1; omega
theorem back_min (T o : Int) (n : Nat) (hn : n < 1400) (h0 : 0 ≤ T) (ho : -840 ≤ o ∧ o ≤ 840) (h1 : before n ≤ T / 1440) (h2 : T / 1440 < before (n + 1)) (h3 : 0 ≤ T - o - 525600 ∧ T - o - 525600 ≤ 50000000) :
    minRes (my n) (mm n) (T / 1440 - before n + 1) (T % 1440 / 60) (T % 60) ((T / 1440 + 4) % 7) o = .tuple #[.int .i64 (T - o - 525600), .int .i64 0] := by
  obtain ⟨a, b, c⟩ := back T o n hn h0 ho h1 h2
  unfold minRes
  rw [if_pos ⟨a, by rw [b]; exact h3, c⟩, b]
end Go.Proofs.Ytkbdgelfjdahpaa
