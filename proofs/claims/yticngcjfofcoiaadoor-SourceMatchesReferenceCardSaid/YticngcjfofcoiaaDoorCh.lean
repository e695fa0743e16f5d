/- The contracts of the reference's has, Chosen and Silenced. -/
import Derived.Test.YticngcjfofcoiaaDoorMd
namespace Go.Proofs.YticngcjfofcoiaaDoor
open Go.RowKit Go.Rg Go.Proofs.YticngcjfofcoiaaDoorW.PrintWords
set_option linter.unusedVariables false
set_option linter.unusedSimpArgs false
set_option maxRecDepth 100000
theorem rhas_some (m : Int) (k : Nat) (hk : k < 64) (w : World) : Calls Tryd.prog 34 #[.int .i64 m, .int .i64 k] w fun e w' => ∃ b : Bool, e = .returned (.bool b) ∧ w' = w := by
 have hk64 : (k : Int) < 64 := by omega
 go_enter Tryd.func34, Tryd.ntmps34
 go_wp2_with fail
 go_ret
 exact ⟨_, rfl, rfl⟩
def ChosenL (n : Nat) (l : List Int) : Prop := l.Pairwise (· < ·) ∧ ∀ y ∈ l, 0 ≤ y ∧ y < n
theorem ChosenL.snoc {n : Nat} {l : List Int} (h : ChosenL n l) : ChosenL (n + 1) (l ++ [(n : Int)]) := by
 refine ⟨List.pairwise_append.2 ⟨h.1, by simp, fun a ha b hb => ?_⟩, fun y hy => ?_⟩
 ·rw [List.mem_singleton] at hb
  have := h.2 a ha
  omega
 ·rcases List.mem_append.1 hy with hy | hy
  ·have := h.2 y hy; exact ⟨this.1, by omega⟩
  ·rw [List.mem_singleton] at hy; exact ⟨by omega, by omega⟩
theorem ChosenL.skip {n : Nat} {l : List Int} (h : ChosenL n l) : ChosenL (n + 1) l := ⟨h.1, fun y hy => by have := h.2 y hy; exact ⟨this.1, by omega⟩⟩
set_option maxHeartbeats 2000000 in
theorem chosen_any (n : Nat) (hn : n ≤ 12) (m : Int) (w : World) : Calls Tryd.prog 12 #[.int .i64 n, .int .i64 m] w fun e w' => ∃ v l, e = .returned v ∧ (Kd.int .i64).R 3 w' w.heap.size (fun k => w.heap.size ≤ k) v l ∧ ChosenL n l ∧ l.length ≤ n ∧ Below w.heap.size w w' := by
 have HN := Lib.hid hn; clear hn
 go_enter Tryd.func12, Tryd.ntmps12
 go_wp2_with fail
 go_loopw [5, 6] (fun lv iv wr => ∃ i : Nat, i ≤ n ∧ iv = .int .i64 i ∧ ∃ l : List Int, Hid ((Kd.int .i64).R 3 wr w.heap.size (fun k => w.heap.size ≤ k) lv l ∧ ChosenL i l ∧ l.length ≤ i ∧ Below w.heap.size w wr)) (fun lv iv wr => n - (intOf iv).toNat)
 case atStart => exact ⟨0, Nat.zero_le _, rfl, [], Lib.hid ⟨Kd.R_nil _ _ _ _ _, ⟨List.Pairwise.nil, fun y h => by cases h⟩, by simp, Below.refl _ _⟩⟩
 case round =>
  obtain ⟨i, hi, rfl, l, HI⟩ := hrel
  by_cases hlt : i < n
  ·have hltI : (i : Int) < (n : Int) := by omega
   have hwi : wrap64 ((i : Int) + 1) = (i : Int) + 1 := by have := HN.out; unfold wrap64; omega
   go_wp2_with fail
   refine (pick_some m 1048576 (by decide) _).mono ?_
   rintro e wq ⟨r, rfl, hq⟩
   subst hq
   go_wp2_with fail
   refine (rhas_some r i (by have := HN.out; omega) _).mono ?_
   rintro e wq ⟨b, rfl, hq⟩
   subst hq
   cases b with
   |false =>
    go_wp2_with fail
    go_roundw
    case rel => exact ⟨i + 1, by omega, by go_num, l, Lib.hid ⟨HI.out.1, HI.out.2.1.skip, by have := HI.out.2.2.1; omega, HI.out.2.2.2⟩⟩
    case measure => exact meas_up hlt hwi
   |true =>
    have h1o := HI.out.1
    have hz0 := HI.out.2.2.2.size
    have hll := HI.out.2.2.1
    have hn0 := HN.out
    go_wp2_with (at_builtin; go_loud (refine Kd.R_append (Kd.int .i64) (w0 := w) w.heap.size rfl (.tmp 16) (.tmp 18) 26 3 (.int .i64 0) 8 rfl Tryd.underlying26 info3 rfl (by decide) (by decide) _ l (i : Int) [.int .i64 (i : Int)] (fun k => w.heap.size ≤ k) (fun _ => False) rfl rfl rfl (fun _ h => h.elim) (fun k hk => Nat.le_trans hz0 hk) h1o HI.out.2.2.2 hz0 (by omega) ?_))
    intro v1 w7 h1 h2 h3 h4
    have HQ := Lib.hid (And.intro h1 h2); clear h1 h2 h3 h4 h1o hz0 hll hn0
    go_wp2_with fail
    go_roundw
    case rel => exact ⟨i + 1, by omega, by go_num, l ++ [(i : Int)], Lib.hid ⟨HQ.out.1, HI.out.2.1.snoc, by have := HI.out.2.2.1; simp; omega, HQ.out.2⟩⟩
    case measure => exact meas_up hlt hwi
  ·obtain rfl : i = n := by omega
   go_wp2_with fail
   go_ret
   exact ⟨_, l, rfl, HI.out.1, HI.out.2.1, HI.out.2.2.1, HI.out.2.2.2⟩
def two : List Src := [⟨10, 1, [11]⟩, ⟨11, 1, [10]⟩]
theorem empty_row {W : World} {g base : Nat} {ok : Nat → Prop} (hz : W.heap.size = g) (hb : base ≤ g) (hok : ok g) : (Kd.int .i64).R 3 (W.alloc (.cells #[] 3)) base ok (.slice (some ⟨g, 0, none⟩) 0 0) [] := by
 subst hz
 exact Kd.R_of_own (own_lit W base 3 .i64 [] hb (by simp)) (fun k hk => by simp [Value.ownBlock] at hk; subst hk; exact hok)
end Go.Proofs.YticngcjfofcoiaaDoor
