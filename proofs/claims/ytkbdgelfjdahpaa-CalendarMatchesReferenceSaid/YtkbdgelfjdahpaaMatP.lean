/- Plain facts of CalendarMatchesReference: both sides of each pair answer alike. -/
import Derived.Test.YtkbdgelfjdahpaaTabQ
import Derived.Test.YtkbdgelfjdahpaaRread
import Derived.Test.YtkbdgelfjdahpaaRparts
namespace Go.Proofs.Ytkbdgelfjdahpaa
open Go.RowKit Go.Rg Go.Shelf
set_option linter.unusedVariables false
set_option linter.unusedSimpArgs false

theorem mat_at (m o : Int) : ∃ y mo d h mi wd e P Q,
    (∀ w, Calls Try.prog 11 #[.int .i64 m, .int .i64 o] w fun r w' => r = .returned (.tuple #[.agg #[.int .i64 y, .int .i64 mo, .int .i64 d, .int .i64 h, .int .i64 mi, .int .i64 wd], .int .i64 e]) ∧ Below w.heap.size w w') ∧
    (∀ w, Calls Try.prog 12 #[.int .i64 m, .int .i64 o] w fun r w' => r = .returned (.tuple #[.agg #[.int .i64 y, .int .i64 mo, .int .i64 d, .int .i64 h, .int .i64 mi, .int .i64 wd], .int .i64 e]) ∧ Below w.heap.size w w') ∧
    (∀ w, Calls Try.prog 13 #[.int .i64 m, .int .i64 o] w fun r w' => r = .returned (.tuple #[.string P, .string Q, .int .i64 e]) ∧ Below w.heap.size w w') ∧
    (∀ w, Calls Try.prog 14 #[.int .i64 m, .int .i64 o] w fun r w' => r = .returned (.tuple #[.string P, .string Q, .int .i64 e]) ∧ Below w.heap.size w w') := by
  cases hb : okB m o with
  | false => exact ⟨_, _, _, _, _, _, _, _, _, fun w => parts_no m o w hb, fun w => rparts_no m o w hb, fun w => print_no m o w hb, fun w => rprint_no m o w hb⟩
  | true =>
    have hb2 := hb
    unfold okB at hb2
    simp at hb2
    obtain ⟨n, hn, n1, n2⟩ := month_at ((m + o + 525600) / 1440) (by omega) (by omega)
    exact ⟨_, _, _, _, _, _, _, _, _, fun w => parts_yes m o n w hb (by omega) n1 n2, fun w => rparts_yes m o n w hb (by omega) n1 n2, fun w => print_yes m o n w hb (by omega) n1 n2, fun w => rprint_yes m o n w hb (by omega) n1 n2⟩
theorem mat_min (y mo d h mi wd o : Int) : ∃ x e,
    (∀ w, Calls Try.prog 15 #[.agg #[.int .i64 y, .int .i64 mo, .int .i64 d, .int .i64 h, .int .i64 mi, .int .i64 wd], .int .i64 o] w fun r w' => r = .returned (.tuple #[.int .i64 x, .int .i64 e]) ∧ Below w.heap.size w w') ∧
    (∀ w, Calls Try.prog 16 #[.agg #[.int .i64 y, .int .i64 mo, .int .i64 d, .int .i64 h, .int .i64 mi, .int .i64 wd], .int .i64 o] w fun r w' => r = .returned (.tuple #[.int .i64 x, .int .i64 e]) ∧ Below w.heap.size w w') := by
  rcases tab_minute y mo d h mi wd o with k | ⟨x, k, _⟩
  · exact ⟨0, 60, fun w => by rw [← k]; exact minute_any y mo d h mi wd o w, fun w => by rw [← k]; exact rminute_any y mo d h mi wd o w⟩
  · exact ⟨x, 0, fun w => by rw [← k]; exact minute_any y mo d h mi wd o w, fun w => by rw [← k]; exact rminute_any y mo d h mi wd o w⟩
theorem mat_read (s t : ByteArray) (o : Int) (hs : s.size ≤ 100) (ht : t.size ≤ 100) : ∃ x e,
    (∀ w, Calls Try.prog 17 #[.string s, .string t, .int .i64 o] w fun r w' => r = .returned (.tuple #[.int .i64 x, .int .i64 e]) ∧ Below w.heap.size w w') ∧
    (∀ w, Calls Try.prog 18 #[.string s, .string t, .int .i64 o] w fun r w' => r = .returned (.tuple #[.int .i64 x, .int .i64 e]) ∧ Below w.heap.size w w') := by
  rcases tab_read s t o with k | ⟨x, k, _⟩
  · exact ⟨0, 60, fun w => by rw [← k]; exact read_any s t o w hs ht, fun w => by rw [← k]; exact rread_any s t o w⟩
  · exact ⟨x, 0, fun w => by rw [← k]; exact read_any s t o w hs ht, fun w => by rw [← k]; exact rread_any s t o w⟩
end Go.Proofs.Ytkbdgelfjdahpaa
