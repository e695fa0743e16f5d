/- Contracts of the reference's Days, and of calendar.months: an iterator. -/
import Derived.Test.YtkbdgelfjdahpaaDays
import Derived.LoopIn
import Derived.LoopNIn
import Derived.BigFrameIn
namespace Go.Proofs.Ytkbdgelfjdahpaa
open Go.RowKit Go.Rg
set_option linter.unusedVariables false
set_option linter.unusedSimpArgs false

theorem rdays_any (y m : Int) (w : World) :
    Calls Try.prog 20 #[.int .i64 y, .int .i64 m] w fun e w' => e = .returned (.int .i64 (days y m)) ∧ Below w.heap.size w w' := by
  by_cases h1 : 1 ≤ y
  · by_cases h2 : y ≤ 9999
    · by_cases h3 : 1 ≤ m
      · by_cases h4 : m ≤ 12
        · have hd : days y m = mlen m.toNat + (if m = 2 ∧ leap y = true then 1 else 0) := by simp [days, h1, h2, h3, h4]
          have Hd := Lib.hid hd; clear hd
          have hcell : ([.int .i64 31, .int .i64 28, .int .i64 31, .int .i64 30, .int .i64 31, .int .i64 30, .int .i64 31, .int .i64 31, .int .i64 30, .int .i64 31, .int .i64 30, .int .i64 31] : List Value)[m.toNat - 1]? = some (.int .i64 (mlen m.toNat)) := by
            rcases twelve h3 h4 with rfl | rfl | rfl | rfl | rfl | rfl | rfl | rfl | rfl | rfl | rfl | rfl <;> rfl
          by_cases e2 : m = 2
          · subst e2
            cases hl : leap y with
            | true =>
              have Hl := Lib.hid hl; clear hl
              go_enter Try.func20, Try.ntmps20
              go_wp2_with fail
              refine (rleap_any _ _ h1 h2).mono ?_
              rintro e w' ⟨rfl, rfl⟩
              rw [Hl.out]
              go_wp2_with fail
              go_ret
              exact ⟨ret_int (by rw [Hd.out, Hl.out]; simp [mlen]), Below.refl _ _⟩
            | false =>
              have Hl := Lib.hid hl; clear hl
              go_enter Try.func20, Try.ntmps20
              go_wp2_with fail
              refine (rleap_any _ _ h1 h2).mono ?_
              rintro e w' ⟨rfl, rfl⟩
              rw [Hl.out]
              go_wp2_with fail
              go_ret
              exact ⟨ret_int (by rw [Hd.out, Hl.out]; simp [mlen]), (Below.refl _ _).alloc (Nat.le_refl _) _⟩
          · have e2' : (m == 2) = false := by simpa using e2
            go_enter Try.func20, Try.ntmps20
            go_wp2_with fail
            go_ret
            exact ⟨ret_int (by rw [Hd.out]; simp [e2]), (Below.refl _ _).alloc (Nat.le_refl _) _⟩
        · have : days y m = 0 := by simp only [days]; rw [if_neg (by omega)]
          rw [this]
          go_enter Try.func20, Try.ntmps20
          go_wp2_with fail
          go_ret
          exact ⟨rfl, Below.refl _ _⟩
      · have : days y m = 0 := by simp only [days]; rw [if_neg (by omega)]
        rw [this]
        go_enter Try.func20, Try.ntmps20
        go_wp2_with fail
        go_ret
        exact ⟨rfl, Below.refl _ _⟩
    · have : days y m = 0 := by simp only [days]; rw [if_neg (by omega)]
      rw [this]
      go_enter Try.func20, Try.ntmps20
      go_wp2_with fail
      go_ret
      exact ⟨rfl, Below.refl _ _⟩
  · have : days y m = 0 := by simp only [days]; rw [if_neg (by omega)]
    rw [this]
    go_enter Try.func20, Try.ntmps20
    go_wp2_with fail
    go_ret
    exact ⟨rfl, Below.refl _ _⟩

theorem months_any (w : World) : Calls Try.prog 23 #[] w fun e w' => e = .returned (.func (.func 34) #[] #[]) ∧ w = w' := by
  go_enter Try.func23, Try.ntmps23
  go_wp2
  go_ret
  exact ⟨rfl, rfl⟩

/-- Month n from January 1999 on. -/
def my (n : Nat) : Int := 1999 + n / 12
def mm (n : Nat) : Int := 1 + n % 12
/-- The days before it. -/
def before : Nat → Int
  | 0 => 0
  | n + 1 => before n + days (my n) (mm n)

def civil (y m d h mi wd : Int) : Value := .agg #[.int .i64 y, .int .i64 m, .int .i64 d, .int .i64 h, .int .i64 mi, .int .i64 wd]
theorem days_bd (y m : Int) : 0 ≤ days y m ∧ days y m ≤ 32 := by
  unfold days
  split
  · rename_i h
    have := mlen_bd (m := m) h.2.2.1 h.2.2.2
    split <;> omega
  · omega
theorem before_bd (n : Nat) : 0 ≤ before n ∧ before n ≤ 32 * n := by
  induction n with
  | zero => simp [before]
  | succ n ih => have := days_bd (my n) (mm n); simp only [before]; omega

def monthArgs (n : Nat) : Array Value := #[civil (my n) (mm n) 0 0 0 0, .int .i64 (before n)]

theorem months_iter (N : Nat) (hN : N ≤ 1000000) : IterOk Try.prog 34 #[] monthArgs (fun n => some n) N (fun _ => False) (fun _ => False) (fun _ => True) := by
  intro l J Jx W _ hJN hJ hJx hY h0
  refine callsIn_of_wp Try.func34 rfl trivial ?_ rfl
  simp only [Try.ntmps34, List.size_toArray, List.length_cons, List.length_nil, Nat.reduceAdd, Nat.reduceSub, Array.replicate_succ, Array.replicate_zero, List.push_toArray, List.append_toArray, List.nil_append, List.cons_append]
  gi_wp2
  gi_loopw [2, 3, 4] (fun b n c wr => ∃ k s : Nat, k ≤ N ∧ b = .int .i64 (before k) ∧ n = .int .i64 k ∧ J k s wr ∧ s ≤ wr.heap.size) (fun b n c wr => N - (intOf n).toNat)
  case atStart => exact ⟨0, _, Nat.zero_le _, rfl, rfl, h0, Nat.le_refl _⟩
  case round =>
    obtain ⟨k, s, hk, rfl, rfl, hj, hs⟩ := hrel
    have hj1 : J k s (wr.alloc (.cells #[.int .i64 (1999 + k / 12), .int .i64 (1 + k % 12), .int .i64 0, .int .i64 0, .int .i64 0, .int .i64 0] 23)) := hJ _ _ _ _ hj ((Fr.refl _ _).alloc _)
    obtain ⟨fn, tmps, assign, body, hy, hR⟩ := hY k s k _ rfl hj1 (by simp; omega)
    simp only [monthArgs, civil, my, mm] at hy
    gi_wp2_with fail
    refine ⟨rfl, hR.mono ?_⟩
    rintro e W' (⟨rfl, hJ', hf⟩ | ⟨rfl, hJx'⟩)
    · have hc : ∀ o v, (#[.int .i64 (1999 + k / 12), .int .i64 (1 + k % 12), .int .i64 0, .int .i64 0, .int .i64 0, .int .i64 0] : Array Value)[o]? = some v → W'.cell? ⟨wr.heap.size, o, none⟩ = some v := fun o v h => hf.cell (cell_new h) (by simp; omega)
      have hc0 := hc 0 _ rfl
      have hc1 := hc 1 _ rfl
      have hk1 := hJN _ _ _ hJ'
      have hb := before_bd k
      have hd := days_bd (my k) (mm k)
      have Hc := Lib.hid hc; clear hc hy hR
      gi_wp2_with fail
      refine ⟨trivial, rfl, CallsIn.mono (callsIn_wide.2 (days_any _ _ _)) ?_⟩
      rintro e w' ⟨rfl, hbw⟩
      have hJ2 := hJ _ _ _ _ hJ' ((Fr.refl _ _).call hbw)
      have hsz := hbw.size
      simp only [my, mm] at hd
      gi_wp2
      exact ⟨⟨k + 1, _, hk1, rfl, by go_num, hJ2, by omega⟩, by simp [intOf]; omega⟩
    · gi_wp2
      refine bodyPost_ret (results_none rfl _ _ _) rfl ?_
      exact ⟨⟨_, rfl⟩, .inr ⟨k, k, rfl, hJx'⟩⟩
end Go.Proofs.Ytkbdgelfjdahpaa
