/- The contract of the reference's number. -/
import Derived.Test.YtkbdgelfjdahpaaTabP
namespace Go.Proofs.Ytkbdgelfjdahpaa
open Go.RowKit Go.Rg Go.Shelf
set_option linter.unusedVariables false
set_option linter.unusedSimpArgs false

def dig (s : ByteArray) (j : Nat) : Prop := 48 ≤ bt s j ∧ bt s j ≤ 57
def numOf (s : ByteArray) : Nat → Int
  | 0 => 0
  | k + 1 => 10 * numOf s k + (bt s k - 48)
theorem numOf_bd (s : ByteArray) : ∀ k : Nat, (∀ j, j < k → dig s j) → 0 ≤ numOf s k ∧ numOf s k + 1 ≤ 10 ^ k := by
  intro k
  induction k with
  | zero => intro _; simp [numOf]
  | succ k ih =>
    intro h
    have h1 := ih (fun j hj => h j (by omega))
    have h2 := h k (by omega)
    unfold dig at h2
    simp only [numOf, Int.pow_succ]
    omega
theorem numOf_4 (s : ByteArray) (k : Nat) (hk : k ≤ 4) (h : ∀ j, j < k → dig s j) : 0 ≤ numOf s k ∧ numOf s k ≤ 9999 := by
  have h1 := numOf_bd s k h
  have : k = 0 ∨ k = 1 ∨ k = 2 ∨ k = 3 ∨ k = 4 := by omega
  rcases this with rfl | rfl | rfl | rfl | rfl <;> simp at h1 <;> omega
open Classical in
noncomputable def numV (s : ByteArray) : Int := if ∀ j, j < s.size → dig s j then numOf s s.size else -1

theorem rnumber_any (s : ByteArray) (hs : s.size ≤ 4) (w : World) :
    Calls Try.prog 30 #[.string s] w fun e w' => e = .returned (.int .i64 (numV s)) ∧ w = w' := by
  go_enter Try.func30, Try.ntmps30
  go_wp2_with fail
  go_loopw [3, 4] (fun nv iv wr => ∃ k : Nat, k ≤ s.size ∧ iv = .int .i64 k ∧ nv = .int .i64 (numOf s k) ∧ (∀ j, j < k → dig s j) ∧ w = wr) (fun nv iv wr => 10 - (intOf iv).toNat)
  case atStart => exact ⟨0, by omega, rfl, rfl, fun j hj => by omega, rfl⟩
  case round =>
    obtain ⟨k, hk, rfl, rfl, hall, rfl⟩ := hrel
    have hb := numOf_4 s k (by omega) hall
    have HALL := Lib.hid hall
    clear hall
    by_cases hks : k < s.size
    · have hkI : (k : Int) < s.size := by omega
      have hbt := bt_at s k
      have hbb := bt_bd s k
      by_cases g0 : 48 ≤ bt s k
      · by_cases g1 : bt s k ≤ 57
        · go_wp2_with fail
          refine ⟨⟨k + 1, by omega, by go_num, ?_, fun j hj => ?_, trivial⟩, by simp [intOf]; omega⟩
          · simp only [numOf]
          · by_cases e : j = k
            · subst e; exact ⟨g0, g1⟩
            · exact HALL.out j (by omega)
        · have hv : numV s = -1 := by unfold numV; rw [if_neg (fun h => g1 (h k hks).2)]
          replace g1 : 57 < bt s k := by omega
          go_wp2_with fail
          go_ret
          exact ⟨by rw [hv]; rfl, rfl⟩
      · have hv : numV s = -1 := by unfold numV; rw [if_neg (fun h => g0 (h k hks).1)]
        replace g0 : bt s k < 48 := by omega
        go_wp2_with fail
        go_ret
        exact ⟨by rw [hv]; rfl, rfl⟩
    · obtain rfl : k = s.size := by omega
      have hv : numV s = numOf s s.size := by unfold numV; rw [if_pos HALL.out]
      go_wp2_with fail
      go_ret
      exact ⟨by rw [hv]; rfl, rfl⟩
end Go.Proofs.Ytkbdgelfjdahpaa
