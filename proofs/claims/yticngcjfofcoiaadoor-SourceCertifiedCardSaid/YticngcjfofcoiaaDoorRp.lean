/- Plain facts of the search for all sources to which there are ways. -/
import Derived.Test.YticngcjfofcoiaaDoorEl
import Derived.Laws.BitsAllLaws
namespace Go.Proofs.YticngcjfofcoiaaDoor
open Go.RowKit Go.Rg Go.Proofs.YticngcjfofcoiaaDoorW.PrintWords
set_option linter.unusedVariables false
set_option linter.unusedSimpArgs false

/-- A set without another. -/
def dif (a b : Nat) : Nat := a &&& (65535 - b)
theorem dif_bit {a b i : Nat} (hb : b < 65536) (hi : i < 16) : (dif a b).testBit i = (a.testBit i && !b.testBit i) := by
  unfold dif
  rw [Nat.testBit_and, show 65535 - b = 2 ^ 16 - (b + 1) by omega, Nat.testBit_two_pow_sub_succ (by omega)]
  simp [hi]
theorem dif_lt {a b n : Nat} (ha : a < n) : dif a b < n := Nat.lt_of_le_of_lt Nat.and_le_left ha
theorem andNot16 {a b : Nat} (ha : a < 65536) (hb : b < 65536) : Go.bits .andNot .u16 (a : Int) (b : Int) = ((dif a b : Nat) : Int) := u16_andNot_nat a b ha hb
theorem high_bit {a i : Nat} (ha : a < 4096) (hi : 12 ≤ i) : a.testBit i = false := by
  apply Nat.testBit_lt_two_pow
  exact Nat.lt_of_lt_of_le ha (Nat.pow_le_pow_right (n := 2) (by decide) hi)
theorem elems_iff {s i : Nat} (hs : s < 4096) : i ∈ elems s ↔ s.testBit i = true := by
  simp only [elems, List.mem_filter, List.mem_range]
  constructor
  · exact fun h => h.2
  · intro h
    refine ⟨?_, h⟩
    rcases Nat.lt_or_ge i 12 with h1 | h1
    · exact h1
    · rw [high_bit hs h1] at h; cases h

/-- Whom the sources of a list are quoted by. -/
def nbr (nx : Nat → List Nat) (l : List Nat) : Nat := l.foldl (fun a x => orL a (nx x)) 0
theorem nbr_snoc (nx : Nat → List Nat) (l : List Nat) (x : Nat) : nbr nx (l ++ [x]) = orL (nbr nx l) (nx x) := by simp [nbr]
theorem nbr_lt {nx : Nat → List Nat} (h : NxOk nx) : ∀ (l : List Nat), (∀ x ∈ l, x < 12) → nbr nx l < 4096 := by
  have key : ∀ (l : List Nat) (a : Nat), a < 4096 → (∀ x ∈ l, x < 12) → l.foldl (fun a x => orL a (nx x)) a < 4096 := by
    intro l
    induction l with
    | nil => intro a ha _; exact ha
    | cons x l ih => intro a ha hl; exact ih _ (orL_lt ha (h.lt x (hl x (by simp)))) fun y hy => hl y (by simp [hy])
  exact fun l hl => key l 0 (by decide) hl
theorem nbr_bit (nx : Nat → List Nat) (l : List Nat) (i : Nat) : (nbr nx l).testBit i = true ↔ ∃ x ∈ l, i ∈ nx x := by
  have key : ∀ (l : List Nat) (a : Nat), (l.foldl (fun a x => orL a (nx x)) a).testBit i = true ↔ a.testBit i = true ∨ ∃ x ∈ l, i ∈ nx x := by
    intro l
    induction l with
    | nil => simp
    | cons x l ih =>
      intro a
      rw [List.foldl_cons, ih, orL_bit]
      simp only [Bool.or_eq_true, List.contains_iff_mem, List.mem_cons, exists_eq_or_imp]
      rw [or_assoc]
  rw [nbr, key]
  simp

/-- What holds of those that were found (out) and of those found last (todo). -/
structure RI (nx : Nat → List Nat) (sd og X out todo : Nat) : Prop where
  outs : out < 4096
  todos : todo < 4096
  sub : ∀ i, out.testBit i = true → Flow.Reach (netOf nx sd og X) (fun _ => false) i ∧ X.testBit i = false
  base : ∀ i, og.testBit i = true → X.testBit i = false → out.testBit i = true
  mine : ∀ i, todo.testBit i = true → out.testBit i = true
  step : ∀ x y, out.testBit x = true → todo.testBit x = false → y ∈ nx x → X.testBit y = false → out.testBit y = true
theorem RI.start {nx : Nat → List Nat} {sd og X : Nat} (ho : og < 4096) (hX : X < 4096) : RI nx sd og X (dif og X) (dif og X) := by
  have hb : ∀ i, (dif og X).testBit i = (og.testBit i && !X.testBit i) := fun i => by
    rcases Nat.lt_or_ge i 16 with h | h
    · exact dif_bit (by omega) h
    · rw [high_bit (dif_lt ho) (by omega), high_bit ho (by omega)]; rfl
  refine ⟨dif_lt ho, dif_lt ho, fun i h => ?_, fun i h1 h2 => ?_, fun i h => h, fun x y h1 h2 => ?_⟩
  · rw [hb] at h
    simp only [Bool.and_eq_true, Bool.not_eq_true'] at h
    refine ⟨.base (w := netOf nx sd og X) ?_ h.1 h.2, h.2⟩
    rcases Nat.lt_or_ge i 12 with h1 | h1
    · exact h1
    · rw [high_bit ho h1] at h; cases h.1
  · rw [hb, h1, h2]; rfl
  · rw [h1] at h2; cases h2
def newT (nx : Nat → List Nat) (X out todo : Nat) : Nat := dif (dif (nbr nx (elems todo)) out) X
theorem RI.next {nx : Nat → List Nat} {sd og X out todo : Nat} (h : RI nx sd og X out todo) (hn : NxOk nx) (hX : X < 4096) : RI nx sd og X (out ||| newT nx X out todo) (newT nx X out todo) := by
  have hN := nbr_lt hn (elems todo) (fun x hx => (elems_mem hx).1)
  have hT : newT nx X out todo < 4096 := dif_lt (dif_lt hN)
  have hb : ∀ i, (newT nx X out todo).testBit i = true ↔ (∃ x, todo.testBit x = true ∧ i ∈ nx x) ∧ out.testBit i = false ∧ X.testBit i = false := fun i => by
    have hnb : (nbr nx (elems todo)).testBit i = true ↔ ∃ x, todo.testBit x = true ∧ i ∈ nx x := by
      rw [nbr_bit]
      simp only [elems_iff h.todos]
    rcases Nat.lt_or_ge i 16 with h1 | h1
    · have ho := h.outs
      unfold newT
      rw [dif_bit (by omega) h1, dif_bit (by omega) h1, ← hnb]
      simp [and_assoc]
    · rw [high_bit hT (by omega)]
      constructor
      · intro h; cases h
      · intro ⟨h2, _⟩
        rw [← hnb, high_bit hN (by omega)] at h2
        cases h2
  refine ⟨Nat.or_lt_two_pow (n := 12) h.outs hT, hT, fun i hi => ?_, fun i h1 h2 => ?_, fun i hi => ?_, fun x y h1 h2 h3 h4 => ?_⟩
  · rw [Nat.testBit_or, Bool.or_eq_true] at hi
    rcases hi with hi | hi
    · exact h.sub i hi
    · obtain ⟨⟨x, hx, hxi⟩, h1, h2⟩ := (hb i).1 hi
      obtain ⟨r1, r2⟩ := h.sub x (h.mine x hx)
      have hx12 := r1.lt
      refine ⟨.step r1 r2 rfl (hn.lt x hx12 i hxi) ?_, h2⟩
      simpa [netOf] using hxi
  · rw [Nat.testBit_or, h.base i h1 h2]; rfl
  · rw [Nat.testBit_or, hi]; simp
  · rw [Nat.testBit_or, Bool.or_eq_true] at h1 ⊢
    by_cases hy : out.testBit y = true
    · exact .inl hy
    · have hy' : out.testBit y = false := by simpa using hy
      have hx : out.testBit x = true := by
        rcases h1 with h1 | h1
        · exact h1
        · rw [h2] at h1; cases h1
      by_cases ht : todo.testBit x = true
      · exact .inr ((hb y).2 ⟨⟨x, ht, h3⟩, hy', h4⟩)
      · exact absurd (h.step x y hx (by simpa using ht) h3 h4) hy
theorem RI.done {nx : Nat → List Nat} {sd og X out : Nat} (h : RI nx sd og X out 0) (hn : NxOk nx) : ∀ i, out.testBit i = true ↔ Flow.Reach (netOf nx sd og X) (fun _ => false) i ∧ X.testBit i = false := by
  intro i
  refine ⟨h.sub i, fun ⟨hr, hx⟩ => ?_⟩
  have key : ∀ i, Flow.Reach (netOf nx sd og X) (fun _ => false) i → X.testBit i = false → out.testBit i = true := by
    intro i hr
    induction hr with
    | base hi ho hw => exact fun _ => h.base _ ho hw
    | step hx hw hd hy he ih =>
      intro hxy
      refine h.step _ _ (ih hw) (by simp) ?_ hxy
      simpa [netOf] using he
  exact key i hr hx
/-- A round makes less: those to be found yet, and whether there is anything to do. -/
def rmeas (out todo : Nat) : Nat := 2 * (4096 - out) + (if todo = 0 then 0 else 1)
theorem rmeas_lt {nx : Nat → List Nat} {sd og X out todo : Nat} (h : RI nx sd og X out todo) (hn : NxOk nx) (hX : X < 4096) (h0 : todo ≠ 0) : rmeas (out ||| newT nx X out todo) (newT nx X out todo) < rmeas out todo := by
  have h1 := (h.next hn hX).outs
  have h2 : out ≤ out ||| newT nx X out todo := Nat.left_le_or
  unfold rmeas
  rw [if_neg h0]
  by_cases hT : newT nx X out todo = 0
  · rw [if_pos hT]; omega
  · rw [if_neg hT]
    have h3 : out ≠ out ||| newT nx X out todo := fun e => by
      obtain ⟨i, hi⟩ : ∃ i, (newT nx X out todo).testBit i = true := Nat.exists_testBit_of_ne_zero hT
      have hi12 : i < 16 := by
        rcases Nat.lt_or_ge i 16 with h4 | h4
        · exact h4
        · rw [high_bit (h.next hn hX).todos (by omega)] at hi; cases hi
      have ho : out.testBit i = true := by rw [e, Nat.testBit_or, hi]; simp
      have ho4 := h.outs
      unfold newT at hi
      rw [dif_bit (by omega) hi12, dif_bit (by omega) hi12, ho] at hi
      simp at hi
    omega
end Go.Proofs.YticngcjfofcoiaaDoor
