/- The contracts of after, done and can, over a way as a list. -/
import Derived.Test.YticngcjfofcoiaaDoorLp
namespace Go.Proofs.YticngcjfofcoiaaDoor
open Go.RowKit Go.Rg Go.Proofs.YticngcjfofcoiaaDoorW.PrintWords
set_option linter.unusedVariables false
set_option linter.unusedSimpArgs false

theorem last_split {v : List Nat} (h : v ≠ []) : ∃ m x, v.length = m + 1 ∧ v[m]? = some x ∧ v.getLast? = some x ∧ x ∈ v := by
  obtain ⟨x, hx⟩ : ∃ x, v.getLast? = some x := by
    cases h' : v.getLast? with
    | none => exact absurd (List.getLast?_eq_none_iff.1 h') h
    | some x => exact ⟨x, rfl⟩
  have hl : 0 < v.length := List.length_pos_iff.2 h
  refine ⟨v.length - 1, x, by omega, ?_, hx, List.mem_of_getLast? hx⟩
  rw [← hx, List.getLast?_eq_getElem?]
theorem after_any (WB : Nat) (nx : Nat → List Nat) (og sd wo : Nat) (W : World) (A : Option Addr) (c : Nat) (v : List Nat) (hW : WebX WB nx og sd wo W) (hnx : NxOk nx) (hA : (Kd.int .i64).C W A v.length (v.map Int.ofNat)) (hv : ∀ x ∈ v, x < 12) :
    Calls Tryd.prog 66 #[.pointer (some ⟨WB, 0, none⟩), .slice A v.length c] W fun e W' => e = .returned (.int .u16 (aft nx og v : Nat)) ∧ Below W.heap.size W W' := by
  by_cases h0 : v = []
  · subst h0
    exact after_nil WB nx og sd wo W A c hW
  · obtain ⟨m, x, hm, hx, hl, hxv⟩ := last_split h0
    have e : aft nx og v = orL 0 (nx x) := by unfold aft; rw [hl]
    rw [e]
    rw [hm] at hA ⊢
    exact after_last WB nx og sd wo W A c m x v hW hnx hA hx (hv x hxv)
theorem isDone_eq (nx : Nat → List Nat) (sd og wo u rest x : Nat) (v : List Nat) (h : v.getLast? = some x) : Flow.isDone (netOf nx sd og wo) (bitsOf u) v rest = (sd.testBit x && decide (rest ≤ Flow.mc (netOf nx sd og (orL u v ||| wo)))) := by
  unfold Flow.isDone
  rw [h, show (netOf nx sd og wo).org = fun i => og.testBit i from rfl, sub_net]
  rfl
theorem done_any (WB : Nat) (nx : Nat → List Nat) (og sd wo u rest : Nat) (W : World) (A : Option Addr) (c : Nat) (v : List Nat) (h0 : v ≠ []) (hW : WebX WB nx og sd wo W) (hnx : NxOk nx) (hA : (Kd.int .i64).C W A v.length (v.map Int.ofNat)) (hv : ∀ x ∈ v, x < 12) (hog : og < 4096) (hsd : sd < 4096) (hwo : wo < 4096) (hu : u < 4096) (hrest : rest < 100) :
    Calls Tryd.prog 65 #[.pointer (some ⟨WB, 0, none⟩), .slice A v.length c, .int .u16 u, .int .i64 rest] W fun e W' => e = .returned (.bool (Flow.isDone (netOf nx sd og wo) (bitsOf u) v rest)) ∧ Below W.heap.size W W' := by
  obtain ⟨m, x, hm, hx, hl, hxv⟩ := last_split h0
  rw [isDone_eq nx sd og wo u rest x v hl]
  rw [hm] at hA ⊢
  exact done_last WB nx og sd wo u rest W A c m x v hW hnx hA hx hv hog hsd hwo hu hrest hm
theorem can_any (WB : Nat) (nx : Nat → List Nat) (og sd wo u all : Nat) (W : World) (A : Option Addr) (c : Nat) (v : List Nat) (x : Nat) (hW : WebX WB nx og sd wo W) (hnx : NxOk nx) (hA : (Kd.int .i64).C W A (v.length + 1) ((v ++ [x]).map Int.ofNat)) (hv : ∀ y ∈ v, y < 12) (hx : x < 12) (hog : og < 4096) (hsd : sd < 4096) (hwo : wo < 4096) (hu : u < 4096) (hall : all < 100) (hc : v.length + 1 ≤ c) :
    Calls Tryd.prog 69 #[.pointer (some ⟨WB, 0, none⟩), .slice A (v.length + 1) c, .int .u16 u, .int .i64 all] W fun e W' => e = .returned (.bool (canB nx sd og wo u v all x)) ∧ Below W.heap.size W W' := by
  have h := can_last WB nx og sd wo u all W A c v.length x (v ++ [x]) hW hnx hA (by simp) (fun y hy => by
    rcases List.mem_append.1 hy with hy | hy
    · exact hv y hy
    · rw [List.mem_singleton] at hy; omega) hog hsd hwo hu hall (by simp) hc
  rw [List.take_left] at h
  exact h
theorem mc_twelve (nx : Nat → List Nat) (hn : NxOk nx) (sd og wo : Nat) : Flow.mc (netOf nx sd og wo) ≤ 12 := by
  have h := Flow.mc_le (hn.fit sd og wo) (D := fun _ => true) (fun x _ _ hd _ => by cases hd)
  rw [show (netOf nx sd og wo).K = 12 from rfl, Flow.count_all] at h
  omega
end Go.Proofs.YticngcjfofcoiaaDoor
