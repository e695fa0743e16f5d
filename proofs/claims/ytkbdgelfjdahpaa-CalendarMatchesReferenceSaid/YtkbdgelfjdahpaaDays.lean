/- Contracts of calendar.isLeap, isIn, lengths and Days, and of the reference's leap and Days. -/
import Derived.Test.YtkbdgelfjdahpaaProg
import Derived.Test.YtkbdgelfjdahpaaRg
import Derived.KernelRfl
import Derived.WalkLawsBesides
import Derived.WalkSpells
import Derived.Outline
import Derived.Laws.ResultCell
import Derived.Lib.Hide
namespace Go.Proofs.Ytkbdgelfjdahpaa
open Go.RowKit
set_option linter.unusedVariables false
set_option linter.unusedSimpArgs false

def leap (y : Int) : Bool := decide (y % 4 = 0) && (!decide (y % 100 = 0) || decide (y % 400 = 0))
def mlen (m : Nat) : Int := [31, 28, 31, 30, 31, 30, 31, 31, 30, 31, 30, 31].getD (m - 1) 0
def days (y m : Int) : Int := if 1 ≤ y ∧ y ≤ 9999 ∧ 1 ≤ m ∧ m ≤ 12 then mlen m.toNat + (if m = 2 ∧ leap y = true then 1 else 0) else 0

theorem ret_bool {a b : Bool} (h : a = b) : Ending.returned (.bool a) = .returned (.bool b) := by rw [h]
theorem ret_int {k : IntKind} {a b : Int} (h : a = b) : Ending.returned (.int k a) = .returned (.int k b) := by rw [h]

theorem isIn_any (x lo hi : Int) (w : World) :
    Calls Try.prog 22 #[.int .i64 x, .int .i64 lo, .int .i64 hi] w fun e w' => e = .returned (.bool (decide (lo ≤ x) && decide (x ≤ hi))) ∧ w = w' := by
  by_cases h : lo ≤ x <;> by_cases h2 : x ≤ hi
  all_goals
    go_enter Try.func22, Try.ntmps22
    go_wp2
    go_ret
    refine ⟨ret_bool ?_, rfl⟩
    simp [h, h2]

theorem isLeap_any (y : Int) (w : World) (h : 1 ≤ y) (h2 : y ≤ 9999) :
    Calls Try.prog 32 #[.int .i64 y] w fun e w' => e = .returned (.bool (leap y)) ∧ w = w' := by
  by_cases h4 : y % 4 = 0 <;> by_cases h100 : y % 100 = 0
  all_goals
    go_enter Try.func32, Try.ntmps32
    go_wp2
    all_goals
      go_ret
      refine ⟨ret_bool ?_, rfl⟩
      simp [leap, h4, h100] <;> first | omega | (rw [Bool.eq_iff_iff]; simp)

theorem rleap_any (y : Int) (w : World) (h : 1 ≤ y) (h2 : y ≤ 9999) :
    Calls Try.prog 33 #[.int .i64 y] w fun e w' => e = .returned (.bool (leap y)) ∧ w = w' := by
  by_cases h4 : y % 4 = 0 <;> by_cases h100 : y % 100 = 0
  all_goals
    go_enter Try.func33, Try.ntmps33
    go_wp2
    all_goals
      go_ret
      refine ⟨ret_bool ?_, rfl⟩
      simp [leap, h4, h100] <;> first | omega | (rw [Bool.eq_iff_iff]; simp)

def lens : Value := .agg #[.int .i64 0, .int .i64 31, .int .i64 28, .int .i64 31, .int .i64 30, .int .i64 31, .int .i64 30, .int .i64 31, .int .i64 31, .int .i64 30, .int .i64 31, .int .i64 30, .int .i64 31]
theorem lengths_any (w : World) :
    Calls Try.prog 31 #[] w fun e w' => e = .returned lens ∧ Below w.heap.size w w' := by
  go_enter Try.func31, Try.ntmps31
  go_wp2
  refine bodyPost_ret (v := lens) (by simp [results, Try.results31, go_sem, lens]) rfl ⟨rfl, ?_⟩
  exact (Below.refl _ _).alloc (Nat.le_refl _) _

theorem twelve {m : Int} (h1 : 1 ≤ m) (h2 : m ≤ 12) : m = 1 ∨ m = 2 ∨ m = 3 ∨ m = 4 ∨ m = 5 ∨ m = 6 ∨ m = 7 ∨ m = 8 ∨ m = 9 ∨ m = 10 ∨ m = 11 ∨ m = 12 := by omega

theorem lens_at {m : Int} (h1 : 1 ≤ m) (h2 : m ≤ 12) (w : World) : (Instr.index 51 lens (.int .i64 m)).run Try.prog w = .ok (.int .i64 (mlen m.toNat)) w := by
  rcases twelve h1 h2 with rfl | rfl | rfl | rfl | rfl | rfl | rfl | rfl | rfl | rfl | rfl | rfl <;> kernel_rfl

theorem mlen_bd {m : Int} (h1 : 1 ≤ m) (h2 : m ≤ 12) : 28 ≤ mlen m.toNat ∧ mlen m.toNat ≤ 31 := by
  rcases twelve h1 h2 with rfl | rfl | rfl | rfl | rfl | rfl | rfl | rfl | rfl | rfl | rfl | rfl <;> decide

theorem days_no (y m : Int) (w : World) (h : ¬ (1 ≤ y ∧ y ≤ 9999 ∧ 1 ≤ m ∧ m ≤ 12)) :
    Calls Try.prog 19 #[.int .i64 y, .int .i64 m] w fun e w' => e = .returned (.int .i64 0) ∧ Below w.heap.size w w' := by
  by_cases hy : (decide (1 ≤ y) && decide (y ≤ 9999)) = true
  · have hm : (decide (1 ≤ m) && decide (m ≤ 12)) = false := by
      simp at hy ⊢; omega
    have Hy := Lib.hid hy; clear hy
    have Hm := Lib.hid hm; clear hm h
    go_enter Try.func19, Try.ntmps19
    go_wp2_with fail
    refine (isIn_any _ _ _ _).mono ?_
    rintro e w' ⟨rfl, rfl⟩
    rw [Hy.out]
    go_wp2_with fail
    refine (isIn_any _ _ _ _).mono ?_
    rintro e w' ⟨rfl, rfl⟩
    rw [Hm.out]
    go_wp2_with fail
    go_ret
    exact ⟨rfl, Below.refl _ _⟩
  · have hy : (decide (1 ≤ y) && decide (y ≤ 9999)) = false := by simpa using hy
    have Hy := Lib.hid hy; clear hy h
    go_enter Try.func19, Try.ntmps19
    go_wp2_with fail
    refine (isIn_any _ _ _ _).mono ?_
    rintro e w' ⟨rfl, rfl⟩
    rw [Hy.out]
    go_wp2_with fail
    go_ret
    exact ⟨rfl, Below.refl _ _⟩

theorem days_yes (y m : Int) (w : World) (h1 : 1 ≤ y) (h2 : y ≤ 9999) (h3 : 1 ≤ m) (h4 : m ≤ 12) :
    Calls Try.prog 19 #[.int .i64 y, .int .i64 m] w fun e w' => e = .returned (.int .i64 (days y m)) ∧ Below w.heap.size w w' := by
  have hy : (decide (1 ≤ y) && decide (y ≤ 9999)) = true := by simp [h1, h2]
  have hm : (decide (1 ≤ m) && decide (m ≤ 12)) = true := by simp [h3, h4]
  have Hy := Lib.hid hy; clear hy
  have Hm := Lib.hid hm; clear hm
  have hidx := lens_at h3 h4
  have hbd := mlen_bd h3 h4
  have hd : days y m = mlen m.toNat + (if m = 2 ∧ leap y = true then 1 else 0) := by simp [days, h1, h2, h3, h4]
  have Hd := Lib.hid hd; clear hd
  generalize mlen m.toNat = L at *
  by_cases e2 : m = 2
  · subst e2
    cases hl : leap y with
    | true =>
      have Hl := Lib.hid hl; clear hl
      go_enter Try.func19, Try.ntmps19
      go_wp2_with fail
      refine (isIn_any _ _ _ _).mono ?_
      rintro e w' ⟨rfl, rfl⟩
      rw [Hy.out]
      go_wp2_with fail
      refine (isIn_any _ _ _ _).mono ?_
      rintro e w' ⟨rfl, rfl⟩
      rw [Hm.out]
      go_wp2_with fail
      refine (lengths_any _).mono ?_
      rintro e w' ⟨rfl, hb⟩
      go_wp2_with fail
      refine (isLeap_any _ _ h1 h2).mono ?_
      rintro e w' ⟨rfl, rfl⟩
      rw [Hl.out]
      go_wp2_with fail
      go_ret
      exact ⟨ret_int (by rw [Hd.out, Hl.out]; simp), hb⟩
    | false =>
      have Hl := Lib.hid hl; clear hl
      go_enter Try.func19, Try.ntmps19
      go_wp2_with fail
      refine (isIn_any _ _ _ _).mono ?_
      rintro e w' ⟨rfl, rfl⟩
      rw [Hy.out]
      go_wp2_with fail
      refine (isIn_any _ _ _ _).mono ?_
      rintro e w' ⟨rfl, rfl⟩
      rw [Hm.out]
      go_wp2_with fail
      refine (lengths_any _).mono ?_
      rintro e w' ⟨rfl, hb⟩
      go_wp2_with fail
      refine (isLeap_any _ _ h1 h2).mono ?_
      rintro e w' ⟨rfl, rfl⟩
      rw [Hl.out]
      go_wp2_with fail
      go_ret
      exact ⟨ret_int (by rw [Hd.out, Hl.out]; simp), hb⟩
  · have e2' : (m == 2) = false := by simpa using e2
    go_enter Try.func19, Try.ntmps19
    go_wp2_with fail
    refine (isIn_any _ _ _ _).mono ?_
    rintro e w' ⟨rfl, rfl⟩
    rw [Hy.out]
    go_wp2_with fail
    refine (isIn_any _ _ _ _).mono ?_
    rintro e w' ⟨rfl, rfl⟩
    rw [Hm.out]
    go_wp2_with fail
    refine (lengths_any _).mono ?_
    rintro e w' ⟨rfl, hb⟩
    go_wp2_with fail
    go_ret
    exact ⟨ret_int (by rw [Hd.out]; simp [e2]), hb⟩

theorem days_any (y m : Int) (w : World) :
    Calls Try.prog 19 #[.int .i64 y, .int .i64 m] w fun e w' => e = .returned (.int .i64 (days y m)) ∧ Below w.heap.size w w' := by
  by_cases h : 1 ≤ y ∧ y ≤ 9999 ∧ 1 ≤ m ∧ m ≤ 12
  · exact days_yes y m w h.1 h.2.1 h.2.2.1 h.2.2.2
  · have : days y m = 0 := by simp only [days]; rw [if_neg h]
    rw [this]; exact days_no y m w h
end Go.Proofs.Ytkbdgelfjdahpaa
