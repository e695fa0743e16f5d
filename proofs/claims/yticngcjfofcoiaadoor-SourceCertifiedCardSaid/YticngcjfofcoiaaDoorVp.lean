/- Plain facts of valid sources. -/
import Derived.Test.YticngcjfofcoiaaDoorSpp
namespace Go.Proofs.YticngcjfofcoiaaDoor
open Go.RowKit Go.Rg Go.Proofs.YticngcjfofcoiaaDoorW.PrintWords
set_option linter.unusedVariables false
set_option linter.unusedSimpArgs false

theorem okAt_some {l : List Src} {xs : List Int} {y : Int} (h : asrt l xs = true) (hy : y ∈ xs) : ∃ s ∈ l, s.id = y := by
  obtain ⟨i, hi, e⟩ := List.getElem_of_mem hy
  have h1 := List.all_eq_true.1 h i (List.mem_range.2 hi)
  unfold okAt at h1
  have hrd : rd xs (i : Int) = y := by simp [rd, hi, e]
  rw [hrd, Bool.and_eq_true] at h1
  obtain ⟨s, hs⟩ := Option.isSome_iff_exists.1 h1.1
  unfold fndS at hs
  exact ⟨s, List.mem_of_find?_eq_some hs, by have := List.find?_some hs; simpa using this⟩
theorem valid_len {l : List Src} (h : validS l = true) : l.length ≤ 12 := by
  unfold validS at h
  simp only [Bool.and_eq_true, decide_eq_true_eq] at h
  exact h.1
theorem valid_at {l : List Src} (h : validS l = true) {i : Nat} (hi : i < l.length) : vAt l i = true := by
  unfold validS at h
  simp only [Bool.and_eq_true] at h
  exact List.all_eq_true.1 h.2 i (List.mem_range.2 hi)
theorem valid_src {l : List Src} (h : validS l = true) {s : Src} (hs : s ∈ l) : 0 ≤ s.id ∧ s.id < 12 ∧ s.frm.length ≤ 3 ∧ (s.kind = 1 ∨ s.kind = 2) ∧ asrt l s.frm = true ∧ s.id ∉ s.frm := by
  obtain ⟨i, hi, e⟩ := List.getElem_of_mem hs
  have h1 := valid_at h hi
  have hg : l.getD i s0 = s := by simp [List.getD, hi, e]
  unfold vAt vHead vTail idAt at h1
  rw [hg] at h1
  simp only [Bool.and_eq_true, Bool.or_eq_true, decide_eq_true_eq, Bool.not_eq_true'] at h1
  obtain ⟨⟨h2, h3, h4, h5⟩, h6, h7, h8⟩ := h1
  exact ⟨h2, h3, h6, h5, h7, fun hm => by rw [List.contains_iff_mem.2 hm] at h8; cases h8⟩
theorem valid_rng {l : List Src} (h : validS l = true) {xs : List Int} (hx : asrt l xs = true) {y : Int} (hy : y ∈ xs) : 0 ≤ y ∧ y < 12 := by
  obtain ⟨s, hs, rfl⟩ := okAt_some hx hy
  have := valid_src h hs
  exact ⟨this.1, this.2.1⟩
theorem valid_asc {l : List Src} (h : validS l = true) {i : Nat} (hi : i + 1 < l.length) : idAt l i < idAt l (i + 1) := by
  have h1 := valid_at h hi
  unfold vAt vHead at h1
  simp only [Bool.and_eq_true, Bool.or_eq_true, decide_eq_true_eq] at h1
  rcases h1.1.2.2.1 with h2 | h2
  · omega
  · simpa using h2
theorem valid_spin {l : List Src} (h : validS l = true) : ∀ s ∈ l, 0 ≤ s.id ∧ s.id < 12 ∧ s.frm.length ≤ 3 ∧ ∀ y ∈ s.frm, 0 ≤ y ∧ y < 12 := fun s hs => by
  have h1 := valid_src h hs
  exact ⟨h1.1, h1.2.1, h1.2.2.1, fun y hy => valid_rng h h1.2.2.2.2.1 hy⟩
theorem valid_ids {l : List Src} (h : validS l = true) : ∀ {i j : Nat}, i < j → j < l.length → idAt l i < idAt l j := by
  intro i j hij
  induction j with
  | zero => omega
  | succ j ih =>
    intro hj
    rcases Nat.lt_or_ge i j with h1 | h1
    · exact Int.lt_trans (ih h1 (by omega)) (valid_asc h hj)
    · obtain rfl : i = j := by omega
      exact valid_asc h hj
/-- One source for one number. -/
theorem valid_uniq {l : List Src} (h : validS l = true) {s t : Src} (hs : s ∈ l) (ht : t ∈ l) (e : s.id = t.id) : s = t := by
  obtain ⟨i, hi, e1⟩ := List.getElem_of_mem hs
  obtain ⟨j, hj, e2⟩ := List.getElem_of_mem ht
  have g1 : idAt l i = s.id := by unfold idAt; simp [List.getD, hi, e1]
  have g2 : idAt l j = t.id := by unfold idAt; simp [List.getD, hj, e2]
  rcases Nat.lt_trichotomy i j with h1 | h1 | h1
  · have := valid_ids h h1 hj; omega
  · subst h1; rw [← e1, ← e2]
  · have := valid_ids h h1 hi; omega
theorem valid_nx {l : List Src} (h : validS l = true) : NxOk (nxL l) := by
  refine ⟨fun i hi v hv => ?_, fun i hm => ?_⟩
  · obtain ⟨s, hs, rfl, _⟩ := (nxL_mem l i v).1 hv
    have := valid_src h hs
    omega
  · obtain ⟨s, hs, e, y, hy, e2⟩ := (nxL_mem l i i).1 hm
    have h1 := valid_src h hs
    have h2 := valid_rng h h1.2.2.2.2.1 hy
    have : y = s.id := by omega
    exact h1.2.2.2.2.2 (this ▸ hy)
theorem valid_og {l : List Src} (h : validS l = true) : ogL l < 4096 := ogL_lt l fun s hs => by have := valid_src h hs; exact ⟨this.1, this.2.1⟩
theorem valid_sd {l : List Src} (h : validS l = true) {xs : List Int} (hx : asrt l xs = true) : sdL xs < 4096 := orL_lt (by decide) fun v hv => by
  obtain ⟨y, hy, rfl⟩ := List.mem_map.1 hv
  have := valid_rng h hx hy
  omega
end Go.Proofs.YticngcjfofcoiaaDoor
