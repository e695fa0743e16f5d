/- Plain flows: sums, edges added, cuts. -/
namespace Go.Flow
set_option linter.unusedVariables false
set_option linter.unusedSimpArgs false

/-- The sum over the first n. -/
def sum : Nat → (Nat → Int) → Int
  | 0, _ => 0
  | n + 1, g => sum n g + g n
theorem sum_succ (n : Nat) (g : Nat → Int) : sum (n + 1) g = sum n g + g n := rfl
theorem sum_zero' (g : Nat → Int) : sum 0 g = 0 := rfl
theorem sum_congr : ∀ {n : Nat} {g h : Nat → Int}, (∀ i, i < n → g i = h i) → sum n g = sum n h
  | 0, _, _, _ => rfl
  | n + 1, g, h, e => by
    unfold sum
    rw [sum_congr (fun i hi => e i (by omega)), e n (by omega)]
theorem sum_add : ∀ (n : Nat) (g h : Nat → Int), sum n (fun i => g i + h i) = sum n g + sum n h
  | 0, _, _ => rfl
  | n + 1, g, h => by
    simp only [sum_succ, sum_add n g h]; omega
theorem sum_neg : ∀ (n : Nat) (g : Nat → Int), sum n (fun i => - g i) = - sum n g
  | 0, _ => rfl
  | n + 1, g => by
    simp only [sum_succ, sum_neg n g]; omega
theorem sum_sub (n : Nat) (g h : Nat → Int) : sum n (fun i => g i - h i) = sum n g - sum n h := by
  have := sum_add n g (fun i => - h i)
  rw [sum_neg] at this
  rw [Int.sub_eq_add_neg, ← this]
  exact sum_congr fun i _ => by omega
theorem sum_zero : ∀ (n : Nat), sum n (fun _ => 0) = 0
  | 0 => rfl
  | n + 1 => by unfold sum; rw [sum_zero n]; rfl
theorem sum_none {n : Nat} {g : Nat → Int} (h : ∀ i, i < n → g i = 0) : sum n g = 0 := by
  rw [sum_congr h, sum_zero]
theorem sum_one : ∀ {n : Nat} {g : Nat → Int} {k : Nat}, k < n → (∀ i, i < n → i ≠ k → g i = 0) → sum n g = g k
  | 0, _, _, h, _ => absurd h (Nat.not_lt_zero _)
  | n + 1, g, k, h, e => by
    unfold sum
    by_cases hk : k = n
    · subst hk
      rw [sum_none fun i hi => e i (by omega) (by omega)]; omega
    · rw [sum_one (k := k) (by omega) (fun i hi hne => e i (by omega) hne), e n (by omega) (by omega)]; omega
theorem sum_le : ∀ {n : Nat} {g h : Nat → Int}, (∀ i, i < n → g i ≤ h i) → sum n g ≤ sum n h
  | 0, _, _, _ => Int.le_refl _
  | n + 1, g, h, e => by
    unfold sum
    have := sum_le (n := n) (fun i hi => e i (by omega))
    have := e n (by omega)
    omega
theorem sum_nonneg {n : Nat} {g : Nat → Int} (h : ∀ i, i < n → 0 ≤ g i) : 0 ≤ sum n g := by
  have := sum_le (g := fun _ => 0) h
  rwa [sum_zero] at this
theorem sum_comm : ∀ (n m : Nat) (g : Nat → Nat → Int), sum n (fun i => sum m (fun j => g i j)) = sum m (fun j => sum n (fun i => g i j))
  | 0, m, g => by simp only [sum_zero']; rw [sum_zero]
  | n + 1, m, g => by
    show sum n (fun i => sum m (fun j => g i j)) + sum m (fun j => g n j) = sum m (fun j => sum n (fun i => g i j) + g n j)
    rw [sum_comm n m g, sum_add]
/-- One of the terms is no more than the sum, if none is below zero. -/
theorem le_sum : ∀ {n : Nat} {g : Nat → Int} {k : Nat}, k < n → (∀ i, i < n → 0 ≤ g i) → g k ≤ sum n g
  | 0, _, _, h, _ => absurd h (Nat.not_lt_zero _)
  | n + 1, g, k, h, e => by
    unfold sum
    by_cases hk : k = n
    · subst hk
      have := sum_nonneg (n := k) (fun i hi => e i (by omega))
      omega
    · have := le_sum (n := n) (k := k) (by omega) (fun i hi => e i (by omega))
      have := e n (by omega)
      omega
/-- The terms within a set. -/
def only (S : Nat → Bool) (g : Nat → Int) (i : Nat) : Int := if S i = true then g i else 0
theorem sum_split (n : Nat) (S : Nat → Bool) (g : Nat → Int) : sum n g = sum n (only S g) + sum n (only (fun i => !S i) g) := by
  rw [← sum_add]
  refine sum_congr fun i _ => ?_
  unfold only
  cases h : S i <;> simp [h]
/-- What leaves a node. -/
def div (N : Nat) (f : Nat → Nat → Int) (u : Nat) : Int := sum N (f u)
theorem anti_zero {N : Nat} {f : Nat → Nat → Int} (h : ∀ u v, u < N → v < N → f u v = - f v u) (S : Nat → Bool) : sum N (only S fun u => sum N (only S (f u))) = 0 := by
  have e : sum N (only S fun u => sum N (only S (f u))) = sum N fun u => sum N fun v => if S u = true ∧ S v = true then f u v else 0 := by
    refine sum_congr fun u _ => ?_
    unfold only
    cases hu : S u
    · simp only [Bool.false_eq_true, false_and, if_false]; rw [sum_zero]
    · simp only [if_true, true_and]
  rw [e]
  have e2 : (sum N fun u => sum N fun v => if S u = true ∧ S v = true then f u v else 0) = - (sum N fun u => sum N fun v => if S u = true ∧ S v = true then f u v else 0) := by
    conv => lhs; rw [sum_comm]
    rw [← sum_neg]
    refine sum_congr fun u hu => ?_
    rw [← sum_neg]
    refine sum_congr fun v hv => ?_
    by_cases h1 : S u = true <;> by_cases h2 : S v = true <;> simp [h1, h2]
    exact h v u hv hu
  omega
/-- What crosses from a set that holds the source and not the sink is what leaves the source. -/
theorem cross {N s t : Nat} {f : Nat → Nat → Int} {n : Int} (hs : s < N) (ha : ∀ u v, u < N → v < N → f u v = - f v u) (hc : ∀ u, u < N → u ≠ s → u ≠ t → div N f u = 0) (hv : div N f s = n) (S : Nat → Bool) (h1 : S s = true) (h2 : S t = false) :
    sum N (only S fun u => sum N (only (fun v => !S v) (f u))) = n := by
  have e1 : sum N (only S fun u => div N f u) = n := by
    rw [sum_one (k := s) hs]
    · unfold only; rw [if_pos h1]; exact hv
    · intro u hu hne
      unfold only
      by_cases h : S u = true
      · rw [if_pos h]
        by_cases ht : u = t
        · subst ht; rw [h2] at h; cases h
        · exact hc u hu hne ht
      · rw [if_neg h]
  have e2 := anti_zero ha S
  have e3 : sum N (only S fun u => div N f u) = sum N (only S fun u => sum N (only S (f u))) + sum N (only S fun u => sum N (only (fun v => !S v) (f u))) := by
    rw [← sum_add]
    refine sum_congr fun u _ => ?_
    unfold only div
    by_cases h : S u = true
    · simp only [if_pos h]; exact sum_split N S (f u)
    · simp only [if_neg h]; omega
  omega
/-- One unit more from u to v. -/
def add1 (f : Nat → Nat → Int) (u v : Nat) (a b : Nat) : Int := f a b + (if a = u ∧ b = v then 1 else 0) - (if a = v ∧ b = u then 1 else 0)
theorem add1_anti {N : Nat} {f : Nat → Nat → Int} (h : ∀ u v, u < N → v < N → f u v = - f v u) (u v : Nat) : ∀ a b, a < N → b < N → add1 f u v a b = - add1 f u v b a := fun a b ha hb => by
  unfold add1
  have := h a b ha hb
  have e1 : (a = u ∧ b = v) ↔ (b = v ∧ a = u) := And.comm
  have e2 : (a = v ∧ b = u) ↔ (b = u ∧ a = v) := And.comm
  simp only [e1, e2]
  omega
theorem add1_div {N : Nat} (f : Nat → Nat → Int) {u v : Nat} (hu : u < N) (hv : v < N) (a : Nat) : div N (add1 f u v) a = div N f a + (if a = u then 1 else 0) - (if a = v then 1 else 0) := by
  unfold div add1
  rw [sum_sub, sum_add]
  have e1 : (sum N fun b => if a = u ∧ b = v then (1 : Int) else 0) = if a = u then 1 else 0 := by
    rw [sum_one (k := v) hv (fun i _ hne => if_neg (fun h => hne h.2))]
    by_cases h : a = u <;> simp [h]
  have e2 : (sum N fun b => if a = v ∧ b = u then (1 : Int) else 0) = if a = v then 1 else 0 := by
    rw [sum_one (k := u) hu (fun i _ hne => if_neg (fun h => hne h.2))]
    by_cases h : a = v <;> simp [h]
  rw [e1, e2]
/-- One unit more along a path. -/
def addP (f : Nat → Nat → Int) : List Nat → Nat → Nat → Int
  | [] => f
  | [_] => f
  | u :: v :: r => add1 (addP f (v :: r)) u v
theorem addP_anti {N : Nat} {f : Nat → Nat → Int} (h : ∀ u v, u < N → v < N → f u v = - f v u) : ∀ (p : List Nat) a b, a < N → b < N → addP f p a b = - addP f p b a
  | [] => h
  | [_] => h
  | u :: v :: r => add1_anti (addP_anti h (v :: r)) u v
theorem addP_div {N : Nat} (f : Nat → Nat → Int) : ∀ (u : Nat) (r : List Nat) (t : Nat), (∀ x ∈ u :: r, x < N) → (u :: r).getLast? = some t → ∀ a, div N (addP f (u :: r)) a = div N f a + (if a = u then 1 else 0) - (if a = t then 1 else 0)
  | u, [], t, _, ht, a => by
    obtain rfl : u = t := by simpa using ht
    unfold addP; omega
  | u, v :: r, t, h, ht, a => by
    have ih := addP_div f v r t (fun x hx => h x (List.mem_cons_of_mem _ hx)) (by simpa using ht) a
    show div N (add1 (addP f (v :: r)) u v) a = _
    rw [add1_div _ (h u List.mem_cons_self) (h v (by simp)), ih]
    omega
/-- Is b next behind a in the list? -/
def consec : List Nat → Nat → Nat → Bool
  | [], _, _ => false
  | [_], _, _ => false
  | u :: v :: r, a, b => (decide (a = u) && decide (b = v)) || consec (v :: r) a b
theorem consec_mem : ∀ {q : List Nat} {a b : Nat}, consec q a b = true → a ∈ q ∧ b ∈ q
  | [], a, b, h => by simp [consec] at h
  | [_], a, b, h => by simp [consec] at h
  | u :: v :: r, a, b, h => by
    simp only [consec, Bool.or_eq_true, Bool.and_eq_true, decide_eq_true_eq] at h
    rcases h with ⟨rfl, rfl⟩ | h
    · exact ⟨by simp, by simp⟩
    · have := consec_mem h
      exact ⟨List.mem_cons_of_mem _ this.1, List.mem_cons_of_mem _ this.2⟩
theorem consec_tail : ∀ {q : List Nat} {a b : Nat}, consec q a b = true → b ∈ q.tail
  | [], a, b, h => by simp [consec] at h
  | [_], a, b, h => by simp [consec] at h
  | u :: v :: r, a, b, h => by
    simp only [consec, Bool.or_eq_true, Bool.and_eq_true, decide_eq_true_eq] at h
    rcases h with ⟨rfl, rfl⟩ | h
    · simp
    · exact (consec_mem h).2
theorem consec_irr {q : List Nat} (hn : q.Nodup) : ∀ {a b : Nat}, consec q a b = true → consec q b a = false := by
  induction q with
  | nil => intro a b h; simp [consec] at h
  | cons u r ih =>
    intro a b h
    cases r with
    | nil => simp [consec] at h
    | cons v r =>
      rw [Bool.eq_false_iff]
      intro h2
      have hn' := (List.nodup_cons.1 hn)
      simp only [consec, Bool.or_eq_true, Bool.and_eq_true, decide_eq_true_eq] at h h2
      rcases h with ⟨rfl, rfl⟩ | h
      · rcases h2 with ⟨e, _⟩ | h2
        · exact hn'.1 (by rw [← e]; simp)
        · exact hn'.1 (consec_mem h2).2
      · rcases h2 with ⟨rfl, rfl⟩ | h2
        · exact hn'.1 (consec_mem h).2
        · have := ih hn'.2 h
          rw [this] at h2; cases h2
theorem addP_eq (f : Nat → Nat → Int) : ∀ (q : List Nat), q.Nodup → ∀ a b, addP f q a b = f a b + (if consec q a b = true then 1 else 0) - (if consec q b a = true then 1 else 0)
  | [], _, a, b => by simp [addP, consec]
  | [_], _, a, b => by simp [addP, consec]
  | u :: v :: r, hn, a, b => by
    have hn' := List.nodup_cons.1 hn
    have ih := addP_eq f (v :: r) hn'.2 a b
    have n1 : ∀ x, consec (v :: r) u x = true → False := fun x h => hn'.1 (consec_mem h).1
    have n2 : ∀ x, consec (v :: r) x u = true → False := fun x h => hn'.1 (consec_mem h).2
    have huv : u ≠ v := fun e => hn'.1 (by rw [e]; simp)
    show add1 (addP f (v :: r)) u v a b = _
    unfold add1
    rw [ih]
    simp only [consec, Bool.or_eq_true, Bool.and_eq_true, decide_eq_true_eq]
    by_cases h1 : a = u ∧ b = v
    · obtain ⟨rfl, rfl⟩ := h1
      have e1 : ¬ consec (b :: r) a b = true := fun h => n1 _ h
      have e2 : ¬ consec (b :: r) b a = true := fun h => n2 _ h
      have e3 : ¬ (a = b ∧ b = a) := fun h => huv h.1
      have e4 : ¬ (b = a ∧ a = b) := fun h => huv h.2
      simp [e1, e2, e3, e4]
    · by_cases h2 : a = v ∧ b = u
      · obtain ⟨rfl, rfl⟩ := h2
        have e1 : ¬ consec (a :: r) a b = true := fun h => n2 _ h
        have e2 : ¬ consec (a :: r) b a = true := fun h => n1 _ h
        simp [e1, e2, h1]
      · have h3 : ¬ (b = u ∧ a = v) := fun h => h2 ⟨h.2, h.1⟩
        have h4 : ¬ (b = v ∧ a = u) := fun h => h1 ⟨h.2, h.1⟩
        simp [h1, h2, h3, h4]

/-! ### The network of sources -/
/-- Who may be used and how: origins, those who assert, those left out, who quotes whom. -/
structure Web where
  K : Nat
  org : Nat → Bool
  said : Nat → Bool
  wo : Nat → Bool
  E : Nat → Nat → Bool
/-- The room at the beginning: entries 0..K-1, exits K..2K-1, the beginning 2K, the end 2K+1. -/
def cap (w : Web) (a b : Nat) : Int :=
  if a < w.K then (if b = w.K + a ∧ w.wo a = false then 1 else 0)
  else if a < 2 * w.K then
    (if w.wo (a - w.K) = true then 0 else if b < w.K then (if w.E (a - w.K) b = true then w.K else 0) else if b = 2 * w.K + 1 ∧ w.said (a - w.K) = true then w.K else 0)
  else if a = 2 * w.K then (if b < w.K ∧ w.org b = true ∧ w.wo b = false then w.K else 0)
  else 0
/-- What is left of the room after n ways. -/
structure Inv (w : Web) (R : Nat → Nat → Int) (n : Int) : Prop where
  pos : ∀ a b, a < 2 * w.K + 2 → b < 2 * w.K + 2 → 0 ≤ R a b
  anti : ∀ a b, a < 2 * w.K + 2 → b < 2 * w.K + 2 → cap w a b - R a b = - (cap w b a - R b a)
  cons : ∀ a, a < 2 * w.K + 2 → a ≠ 2 * w.K → a ≠ 2 * w.K + 1 → div (2 * w.K + 2) (fun a b => cap w a b - R a b) a = 0
  val : div (2 * w.K + 2) (fun a b => cap w a b - R a b) (2 * w.K) = n
theorem Inv.zero (w : Web) : Inv w (cap w) 0 := by
  have hp : ∀ a b, 0 ≤ cap w a b := fun a b => by
    unfold cap
    repeat' split
    all_goals omega
  refine ⟨fun a b _ _ => hp a b, fun a b _ _ => by omega, fun a _ _ _ => ?_, ?_⟩
  · unfold div; exact sum_none fun i _ => Int.sub_self _
  · unfold div; exact sum_none fun i _ => Int.sub_self _
/-- Room taken along a path. -/
def takeP (R : Nat → Nat → Int) (q : List Nat) (a b : Nat) : Int := R a b - (if consec q a b = true then 1 else 0) + (if consec q b a = true then 1 else 0)
theorem Inv.take {w : Web} {R : Nat → Nat → Int} {n : Int} (h : Inv w R n) {r : List Nat} (hn : (2 * w.K :: r).Nodup) (hl : ∀ x ∈ 2 * w.K :: r, x < 2 * w.K + 2) (ht : (2 * w.K :: r).getLast? = some (2 * w.K + 1)) (hr : ∀ a b, consec (2 * w.K :: r) a b = true → 0 < R a b) : Inv w (takeP R (2 * w.K :: r)) (n + 1) := by
  have hN := h.anti
  have e : ∀ a b, cap w a b - takeP R (2 * w.K :: r) a b = addP (fun a b => cap w a b - R a b) (2 * w.K :: r) a b := fun a b => by
    rw [addP_eq _ _ hn]
    unfold takeP
    omega
  have hd : ∀ a, div (2 * w.K + 2) (fun a b => cap w a b - takeP R (2 * w.K :: r) a b) a = div (2 * w.K + 2) (addP (fun a b => cap w a b - R a b) (2 * w.K :: r)) a := fun a => sum_congr fun b _ => e a b
  refine ⟨fun a b ha hb => ?_, fun a b ha hb => ?_, fun a ha h1 h2 => ?_, ?_⟩
  · unfold takeP
    have := h.pos a b ha hb
    by_cases hc : consec (2 * w.K :: r) a b = true
    · have := hr a b hc
      rw [if_pos hc]
      split <;> omega
    · rw [if_neg hc]
      split <;> omega
  · rw [e, e]
    exact addP_anti (N := 2 * w.K + 2) h.anti _ a b ha hb
  · rw [hd, addP_div _ _ _ _ hl ht, h.cons a ha h1 h2, if_neg h1, if_neg h2]; omega
  · rw [hd, addP_div _ _ _ _ hl ht, h.val, if_pos rfl, if_neg (by omega)]; omega
/-! ### Rooms that never run out -/
theorem Inv.le_cap {w : Web} {R : Nat → Nat → Int} {n : Int} (h : Inv w R n) {a b : Nat} (ha : a < 2 * w.K + 2) (hb : b < 2 * w.K + 2) : cap w a b - R a b ≤ cap w a b := by
  have := h.pos a b ha hb; omega
theorem cap_in {w : Web} {a b : Nat} (ha : a < w.K) (hb : b ≠ w.K + a) : cap w a b = 0 := by
  unfold cap; rw [if_pos ha, if_neg (fun h => hb h.1)]
theorem cap_self {w : Web} {a : Nat} (ha : a < w.K) : cap w a (w.K + a) = if w.wo a = true then 0 else 1 := by
  unfold cap; rw [if_pos ha]; cases w.wo a <;> simp
theorem cap_to_exit {w : Web} {a b : Nat} (ha : a < w.K) (hb : b ≠ a) : cap w b (w.K + a) = 0 := by
  unfold cap
  split
  · rw [if_neg (fun h => hb (by omega))]
  · split
    · split
      · rfl
      · rw [if_neg (by omega), if_neg (fun h => by omega)]
    · split
      · rw [if_neg (fun h => by omega)]
      · rfl
/-- What goes into an entry, but from its exit, is one at most. -/
theorem Inv.into {w : Web} {R : Nat → Nat → Int} {n : Int} (h : Inv w R n) {i b : Nat} (hi : i < w.K) (hb : b < 2 * w.K + 2) (hne : b ≠ w.K + i) : cap w b i - R b i ≤ 1 ∧ 0 ≤ cap w b i - R b i := by
  have hN : w.K + i < 2 * w.K + 2 := by omega
  have hin : i < 2 * w.K + 2 := by omega
  have hc : sum (2 * w.K + 2) (fun x => cap w i x - R i x) = 0 := h.cons i hin (by omega) (by omega)
  have hpos : ∀ x, x < 2 * w.K + 2 → x ≠ w.K + i → 0 ≤ cap w x i - R x i := fun x hx hxne => by
    have h1 := h.pos i x hin hx
    have h2 := h.anti i x hin hx
    rw [cap_in hi hxne] at h2
    omega
  have hs : sum (2 * w.K + 2) (fun x => cap w i x - R i x) = sum (2 * w.K + 2) (only (fun x => decide (x = w.K + i)) (fun x => cap w i x - R i x)) + sum (2 * w.K + 2) (only (fun x => !decide (x = w.K + i)) (fun x => cap w i x - R i x)) := sum_split _ _ _
  have h1 : sum (2 * w.K + 2) (only (fun x => decide (x = w.K + i)) (fun x => cap w i x - R i x)) = cap w i (w.K + i) - R i (w.K + i) := by
    rw [sum_one (k := w.K + i) hN]
    · unfold only; simp
    · intro x _ hx; unfold only; simp [hx]
  have h2 : sum (2 * w.K + 2) (only (fun x => !decide (x = w.K + i)) (fun x => cap w i x - R i x)) = - sum (2 * w.K + 2) (only (fun x => !decide (x = w.K + i)) (fun x => cap w x i - R x i)) := by
    rw [← sum_neg]
    refine sum_congr fun x hx => ?_
    unfold only
    by_cases he : x = w.K + i
    · simp [he]
    · simp only [he, decide_false, Bool.not_false, if_true]
      exact h.anti i x hin hx
  have h3 : cap w b i - R b i ≤ sum (2 * w.K + 2) (only (fun x => !decide (x = w.K + i)) (fun x => cap w x i - R x i)) := by
    have := le_sum (g := only (fun x => !decide (x = w.K + i)) (fun x => cap w x i - R x i)) hb (fun x hx => by
      unfold only
      by_cases he : x = w.K + i
      · simp [he]
      · simp only [he, decide_false, Bool.not_false, if_true]; exact hpos x hx he)
    unfold only at this ⊢
    simpa [hne] using this
  have h4 := cap_self (w := w) hi
  have h5 := h.pos i (w.K + i) hin hN
  refine ⟨?_, hpos b hb hne⟩
  have h6 : cap w i (w.K + i) ≤ 1 := by rw [h4]; split <;> omega
  omega
/-- What goes out of an exit, but to its entry, is one at most. -/
theorem Inv.outof {w : Web} {R : Nat → Nat → Int} {n : Int} (h : Inv w R n) {i b : Nat} (hi : i < w.K) (hb : b < 2 * w.K + 2) (hne : b ≠ i) : cap w (w.K + i) b - R (w.K + i) b ≤ 1 ∧ 0 ≤ cap w (w.K + i) b - R (w.K + i) b := by
  have hN : w.K + i < 2 * w.K + 2 := by omega
  have hin : i < 2 * w.K + 2 := by omega
  have hc : sum (2 * w.K + 2) (fun x => cap w (w.K + i) x - R (w.K + i) x) = 0 := h.cons (w.K + i) hN (by omega) (by omega)
  have hpos : ∀ x, x < 2 * w.K + 2 → x ≠ i → 0 ≤ cap w (w.K + i) x - R (w.K + i) x := fun x hx hxne => by
    have h1 := h.pos x (w.K + i) hx hN
    have h2 := h.anti x (w.K + i) hx hN
    rw [cap_to_exit hi hxne] at h2
    omega
  have hs : sum (2 * w.K + 2) (fun x => cap w (w.K + i) x - R (w.K + i) x) = sum (2 * w.K + 2) (only (fun x => decide (x = i)) (fun x => cap w (w.K + i) x - R (w.K + i) x)) + sum (2 * w.K + 2) (only (fun x => !decide (x = i)) (fun x => cap w (w.K + i) x - R (w.K + i) x)) := sum_split _ _ _
  have h1 : sum (2 * w.K + 2) (only (fun x => decide (x = i)) (fun x => cap w (w.K + i) x - R (w.K + i) x)) = cap w (w.K + i) i - R (w.K + i) i := by
    rw [sum_one (k := i) hin]
    · unfold only; simp
    · intro x _ hx; unfold only; simp [hx]
  have h3 : cap w (w.K + i) b - R (w.K + i) b ≤ sum (2 * w.K + 2) (only (fun x => !decide (x = i)) (fun x => cap w (w.K + i) x - R (w.K + i) x)) := by
    have := le_sum (g := only (fun x => !decide (x = i)) (fun x => cap w (w.K + i) x - R (w.K + i) x)) hb (fun x hx => by
      unfold only
      by_cases he : x = i
      · simp [he]
      · simp only [he, decide_false, Bool.not_false, if_true]; exact hpos x hx he)
    unfold only at this ⊢
    simpa [hne] using this
  have h4 := cap_self (w := w) hi
  have h5 := h.pos i (w.K + i) hin hN
  have h7 := h.anti i (w.K + i) hin hN
  refine ⟨?_, hpos b hb hne⟩
  have h6 : cap w i (w.K + i) ≤ 1 := by rw [h4]; split <;> omega
  omega
/-- A set that holds the beginning, not the end, and what room leads to from it. -/
structure Closed (w : Web) (R : Nat → Nat → Int) (S : Nat → Bool) : Prop where
  first : S (2 * w.K) = true
  last : S (2 * w.K + 1) = false
  next : ∀ a b, a < 2 * w.K + 2 → b < 2 * w.K + 2 → S a = true → 0 < R a b → S b = true
/-- The sources whose entry is in the set, and not their exit. -/
def cutOf (w : Web) (S : Nat → Bool) (i : Nat) : Bool := S i && (!S (w.K + i) && !w.wo i)
/-- How many of the first K. -/
def count (K : Nat) (D : Nat → Bool) : Int := sum K fun i => if D i = true then 1 else 0
theorem Closed.enter {w : Web} {R : Nat → Nat → Int} {n : Int} {S : Nat → Bool} (h : Inv w R n) (hK : 2 ≤ w.K) (hS : Closed w R S) {i : Nat} (hi : i < w.K) (ho : w.org i = true) (hw : w.wo i = false) : S i = true := by
  refine hS.next (2 * w.K) i (by omega) (by omega) hS.first ?_
  have h1 := (h.into hi (show 2 * w.K < 2 * w.K + 2 by omega) (by omega)).1
  have h2 : cap w (2 * w.K) i = w.K := by
    unfold cap
    rw [if_neg (by omega), if_neg (by omega), if_pos rfl, if_pos ⟨hi, ho, hw⟩]
  omega
theorem cap_edge {w : Web} {x y : Nat} (hx : x < w.K) (hy : y < w.K) (he : w.E x y = true) (hw : w.wo x = false) : cap w (w.K + x) y = w.K := by
  unfold cap
  rw [if_neg (by omega), if_pos (by omega), show w.K + x - w.K = x by omega, hw, if_neg (by simp), if_pos hy, if_pos he]
theorem cap_end {w : Web} {x : Nat} (hx : x < w.K) (hs : w.said x = true) (hw : w.wo x = false) : cap w (w.K + x) (2 * w.K + 1) = w.K := by
  unfold cap
  rw [if_neg (by omega), if_pos (by omega), show w.K + x - w.K = x by omega, hw, if_neg (by simp), if_neg (by omega), if_pos ⟨rfl, hs⟩]
theorem Closed.step {w : Web} {R : Nat → Nat → Int} {n : Int} {S : Nat → Bool} (h : Inv w R n) (hK : 2 ≤ w.K) (hS : Closed w R S) {x y : Nat} (hx : x < w.K) (hy : y < w.K) (he : w.E x y = true) (hw : w.wo x = false) (hin : S x = true) (hc : cutOf w S x = false) : S y = true := by
  have hex : S (w.K + x) = true := by
    unfold cutOf at hc
    rw [hin, hw] at hc
    simpa using hc
  by_cases hxy : y = x
  · subst hxy; exact hin
  refine hS.next (w.K + x) y (by omega) (by omega) hex ?_
  have h1 := (h.outof hx (show y < 2 * w.K + 2 by omega) hxy).1
  rw [cap_edge hx hy he hw] at h1
  omega
theorem Closed.out {w : Web} {R : Nat → Nat → Int} {n : Int} {S : Nat → Bool} (h : Inv w R n) (hK : 2 ≤ w.K) (hS : Closed w R S) {x : Nat} (hx : x < w.K) (hs : w.said x = true) (hw : w.wo x = false) (hin : S x = true) : cutOf w S x = true := by
  rw [← Bool.not_eq_false]
  intro hc
  have hex : S (w.K + x) = true := by
    unfold cutOf at hc
    rw [hin, hw] at hc
    simpa using hc
  have := hS.next (w.K + x) (2 * w.K + 1) (by omega) (by omega) hex (by
    have h1 := (h.outof hx (show 2 * w.K + 1 < 2 * w.K + 2 by omega) (by omega)).1
    rw [cap_end hx hs hw] at h1
    omega)
  rw [hS.last] at this; cases this
theorem sum_cut : ∀ {m n : Nat} {g : Nat → Int}, n ≤ m → (∀ i, n ≤ i → i < m → g i = 0) → sum m g = sum n g
  | 0, n, g, h, _ => by
    obtain rfl : n = 0 := by omega
    rfl
  | m + 1, n, g, h, e => by
    by_cases hn : n = m + 1
    · subst hn; rfl
    · rw [sum_succ, e m (by omega) (by omega), sum_cut (n := n) (m := m) (by omega) (fun i h1 h2 => e i h1 (by omega))]; omega
/-- A wide room never runs out. -/
theorem Inv.wide {w : Web} {R : Nat → Nat → Int} {n : Int} (h : Inv w R n) (hK : 2 ≤ w.K) (hE : ∀ x, w.E x x = false) {a b : Nat} (ha : a < 2 * w.K + 2) (hb : b < 2 * w.K + 2) (hka : w.K ≤ a) (hc : cap w a b ≠ 0) : 0 < R a b := by
  by_cases h1 : a < 2 * w.K
  · obtain ⟨x, rfl⟩ : ∃ x, a = w.K + x := ⟨a - w.K, by omega⟩
    have hx : x < w.K := by omega
    have hbx : b ≠ x := by
      rintro rfl
      apply hc
      unfold cap
      rw [if_neg (by omega), if_pos (by omega), show w.K + b - w.K = b by omega, hE b]
      split
      · rfl
      · simp
    have h2 := (h.outof hx hb hbx).1
    have h3 : cap w (w.K + x) b = w.K := by
      revert hc
      unfold cap
      rw [if_neg (by omega), if_pos h1]
      repeat' split
      all_goals simp
    omega
  · have h3 : cap w a b = w.K ∧ b < w.K := by
      revert hc
      unfold cap
      rw [if_neg (by omega), if_neg h1]
      split
      · split
        · rename_i h4; intro _; exact ⟨rfl, h4.1⟩
        · intro h; exact absurd rfl h
      · intro h; exact absurd rfl h
    have h2 := (h.into h3.2 ha (by omega)).1
    omega
/-- What crosses is the cut. -/
theorem Closed.count {w : Web} {R : Nat → Nat → Int} {n : Int} {S : Nat → Bool} (h : Inv w R n) (hK : 2 ≤ w.K) (hE : ∀ x, w.E x x = false) (hS : Closed w R S) : count w.K (cutOf w S) = n := by
  have hx := cross (N := 2 * w.K + 2) (s := 2 * w.K) (t := 2 * w.K + 1) (f := fun a b => cap w a b - R a b) (by omega) h.anti h.cons h.val S hS.first hS.last
  rw [← hx]
  have hz : ∀ a b, a < 2 * w.K + 2 → b < 2 * w.K + 2 → S a = true → S b = false → R a b = 0 := fun a b ha hb h1 h2 => by
    have := h.pos a b ha hb
    by_cases hr : 0 < R a b
    · have := hS.next a b ha hb h1 hr
      rw [h2] at this; cases this
    · omega
  rw [sum_cut (n := w.K) (m := 2 * w.K + 2) (by omega)]
  · unfold Flow.count
    refine sum_congr fun i hi => ?_
    unfold only
    show (if cutOf w S i = true then (1 : Int) else 0) = if S i = true then sum (2 * w.K + 2) (fun b => if (!S b) = true then cap w i b - R i b else 0) else 0
    by_cases hs : S i = true
    · rw [if_pos hs, sum_one (k := w.K + i) (by omega)]
      · by_cases he : S (w.K + i) = true
        · simp [cutOf, hs, he]
        · have he' : S (w.K + i) = false := by simpa using he
          rw [show (!S (w.K + i)) = true by rw [he']; rfl, if_pos rfl, hz i (w.K + i) (by omega) (by omega) hs he', cap_self hi]
          cases hw : w.wo i <;> simp [cutOf, hs, he', hw]
      · intro b hb hne
        split
        · rename_i hb'
          have hb' : S b = false := by simpa using hb'
          rw [hz i b (by omega) hb hs hb', cap_in hi hne]; rfl
        · rfl
    · rw [if_neg hs]
      simp [cutOf, hs]
  · intro a ha1 ha2
    unfold only
    show (if S a = true then sum (2 * w.K + 2) (fun b => if (!S b) = true then cap w a b - R a b else 0) else 0) = 0
    by_cases hs : S a = true
    · rw [if_pos hs]
      refine sum_none fun b hb => ?_
      split
      · rename_i hb'
        have hb' : S b = false := by simpa using hb'
        have h0 := hz a b ha2 hb hs hb'
        by_cases hc : cap w a b = 0
        · omega
        · have := h.wide hK hE ha2 hb ha1 hc
          omega
      · rfl
    · rw [if_neg hs]
/-! ### Cuts -/
/-- The sources to which there are ways without a set; those of the set may be the last. -/
inductive Reach (w : Web) (D : Nat → Bool) : Nat → Prop
  | base {i : Nat} : i < w.K → w.org i = true → w.wo i = false → Reach w D i
  | step {x y : Nat} : Reach w D x → w.wo x = false → D x = false → y < w.K → w.E x y = true → Reach w D y
theorem Reach.lt {w : Web} {D : Nat → Bool} {i : Nat} (h : Reach w D i) : i < w.K := by
  cases h <;> assumption
/-- Without this set there is no way to one who asserts. -/
def Cut (w : Web) (D : Nat → Bool) : Prop := ∀ x, Reach w D x → w.wo x = false → D x = false → w.said x = true → False
theorem Closed.cut {w : Web} {R : Nat → Nat → Int} {n : Int} {S : Nat → Bool} (h : Inv w R n) (hK : 2 ≤ w.K) (hS : Closed w R S) : Cut w (cutOf w S) := by
  have hin : ∀ x, Reach w (cutOf w S) x → S x = true := by
    intro x hx
    induction hx with
    | base hi ho hw => exact hS.enter h hK hi ho hw
    | step hx hw hd hy he ih => exact hS.step h hK hx.lt hy he hw ih hd
  intro x hx hw hd hs
  have := hS.out h hK hx.lt hs hw (hin x hx)
  rw [hd] at this; cases this
open Classical in
/-- The side of a cut where the beginning is. -/
noncomputable def side (w : Web) (D : Nat → Bool) (a : Nat) : Bool :=
  if a < w.K then decide (Reach w D a) else if a < 2 * w.K then decide (Reach w D (a - w.K) ∧ w.wo (a - w.K) = false ∧ D (a - w.K) = false) else decide (a = 2 * w.K)
theorem side_entry {w : Web} {D : Nat → Bool} {i : Nat} (hi : i < w.K) : side w D i = true ↔ Reach w D i := by
  unfold side; rw [if_pos hi]; simp
theorem side_exit {w : Web} {D : Nat → Bool} {i : Nat} (hi : i < w.K) : side w D (w.K + i) = true ↔ Reach w D i ∧ w.wo i = false ∧ D i = false := by
  unfold side; rw [if_neg (by omega), if_pos (by omega), show w.K + i - w.K = i by omega]; simp
theorem side_first {w : Web} {D : Nat → Bool} : side w D (2 * w.K) = true := by
  unfold side
  by_cases h : 2 * w.K < w.K
  · omega
  · rw [if_neg h, if_neg (by omega)]; simp
theorem side_last {w : Web} {D : Nat → Bool} : side w D (2 * w.K + 1) = false := by
  unfold side
  rw [if_neg (by omega), if_neg (by omega)]; simp
/-- The room across a cut is the cut's. -/
theorem cut_cap {w : Web} {D : Nat → Bool} (hD : Cut w D) {a b : Nat} (ha : a < 2 * w.K + 2) (hb : b < 2 * w.K + 2) (h1 : side w D a = true) (h2 : side w D b = false) (hc : cap w a b ≠ 0) : a < w.K ∧ b = w.K + a ∧ D a = true ∧ w.wo a = false := by
  by_cases hk : a < w.K
  · have hb' : b = w.K + a := by
      by_cases h : b = w.K + a
      · exact h
      · exact absurd (cap_in hk h) hc
    subst hb'
    have hw : w.wo a = false := by
      rw [cap_self hk] at hc
      cases hw : w.wo a <;> simp [hw] at hc ⊢
    refine ⟨hk, rfl, ?_, hw⟩
    rw [← Bool.not_eq_false]
    intro hd
    have := (side_exit (D := D) hk).2 ⟨(side_entry hk).1 h1, hw, hd⟩
    rw [h2] at this; cases this
  · exfalso
    by_cases hk2 : a < 2 * w.K
    · obtain ⟨x, rfl⟩ : ∃ x, a = w.K + x := ⟨a - w.K, by omega⟩
      have hx : x < w.K := by omega
      obtain ⟨hr, hw, hd⟩ := (side_exit hx).1 h1
      unfold cap at hc
      rw [if_neg hk, if_pos hk2, show w.K + x - w.K = x by omega, hw, if_neg (by simp)] at hc
      split at hc
      · rename_i hbk
        by_cases he : w.E x b = true
        · have := (side_entry (D := D) hbk).2 (.step hr hw hd hbk he)
          rw [h2] at this; cases this
        · rw [if_neg he] at hc; exact hc rfl
      · split at hc
        · rename_i hs
          exact hD x hr hw hd hs.2
        · exact hc rfl
    · unfold cap at hc
      rw [if_neg hk, if_neg hk2] at hc
      split at hc
      · split at hc
        · rename_i h3
          have := (side_entry (D := D) h3.1).2 (.base h3.1 h3.2.1 h3.2.2)
          rw [h2] at this; cases this
        · exact hc rfl
      · exact hc rfl
/-- No more than a cut has. -/
theorem Inv.le_cut {w : Web} {R : Nat → Nat → Int} {n : Int} {D : Nat → Bool} (h : Inv w R n) (hD : Cut w D) : n ≤ count w.K D := by
  have hx := cross (N := 2 * w.K + 2) (s := 2 * w.K) (t := 2 * w.K + 1) (f := fun a b => cap w a b - R a b) (by omega) h.anti h.cons h.val (side w D) side_first side_last
  have hc : count w.K D = sum (2 * w.K + 2) (fun i => if i < w.K ∧ D i = true then 1 else 0) := by
    rw [sum_cut (n := w.K) (m := 2 * w.K + 2) (by omega) (fun i h1 h2 => if_neg (by omega))]
    exact sum_congr fun i hi => by simp [hi]
  rw [← hx, hc]
  refine sum_le fun a ha => ?_
  unfold only
  show (if side w D a = true then sum (2 * w.K + 2) (fun b => if (!side w D b) = true then cap w a b - R a b else 0) else 0) ≤ _
  by_cases h1 : side w D a = true
  · rw [if_pos h1]
    have hle : sum (2 * w.K + 2) (fun b => if (!side w D b) = true then cap w a b - R a b else 0) ≤ sum (2 * w.K + 2) (fun b => if (a < w.K ∧ D a = true) ∧ b = w.K + a then 1 else 0) := by
      refine sum_le fun b hb => ?_
      by_cases h2 : side w D b = true
      · simp only [h2, Bool.not_true, Bool.false_eq_true, if_false]
        split <;> omega
      · have h2 : side w D b = false := by simpa using h2
        simp only [h2, Bool.not_false, if_true]
        have h3 := h.le_cap ha hb
        by_cases h0 : cap w a b = 0
        · split <;> omega
        · obtain ⟨k1, k2, k3, k4⟩ := cut_cap hD ha hb h1 h2 h0
          rw [if_pos ⟨⟨k1, k3⟩, k2⟩]
          have : cap w a b ≤ 1 := by rw [k2, cap_self k1]; split <;> omega
          omega
    refine Int.le_trans hle ?_
    by_cases hk : a < w.K ∧ D a = true
    · rw [if_pos hk, sum_one (k := w.K + a) (by omega) (fun b _ hne => if_neg (fun h => hne h.2)), if_pos ⟨hk, rfl⟩]
      omega
    · rw [if_neg hk, sum_none (fun b _ => if_neg (fun h => hk h.1))]
      omega
  · rw [if_neg h1]
    split <;> omega
/-- The least number of sources that leave no way. -/
structure MinCut (w : Web) (n : Int) : Prop where
  some_ : ∃ D, Cut w D ∧ count w.K D = n
  least : ∀ D, Cut w D → n ≤ count w.K D
theorem MinCut.unique {w : Web} {m n : Int} (h : MinCut w m) (k : MinCut w n) : m = n := by
  obtain ⟨D, hD, e⟩ := h.some_
  obtain ⟨D', hD', e'⟩ := k.some_
  have := h.least D' hD'
  have := k.least D hD
  omega
theorem Closed.min {w : Web} {R : Nat → Nat → Int} {n : Int} {S : Nat → Bool} (h : Inv w R n) (hK : 2 ≤ w.K) (hE : ∀ x, w.E x x = false) (hS : Closed w R S) : MinCut w n :=
  ⟨⟨_, hS.cut h hK, hS.count h hK hE⟩, fun D hD => h.le_cut hD⟩
theorem sum_tight : ∀ {n : Nat} {g h : Nat → Int}, (∀ i, i < n → g i ≤ h i) → sum n h ≤ sum n g → ∀ i, i < n → g i = h i
  | 0, _, _, _, _, i, hi => absurd hi (Nat.not_lt_zero _)
  | n + 1, g, h, e, hs, i, hi => by
    rw [sum_succ, sum_succ] at hs
    have h1 := sum_le (n := n) (fun i hi => e i (by omega))
    have h2 := e n (by omega)
    by_cases hn : i = n
    · subst hn; omega
    · exact sum_tight (n := n) (fun i hi => e i (by omega)) (by omega) i (by omega)
/-- Across a least cut all room is taken. -/
theorem least_side {w : Web} {R : Nat → Nat → Int} {n : Int} {D : Nat → Bool} (h : Inv w R n) (hD : Cut w D) (hn : count w.K D = n) : ∀ a b, a < 2 * w.K + 2 → b < 2 * w.K + 2 → side w D a = true → side w D b = false → R a b = 0 := by
  have hx := cross (N := 2 * w.K + 2) (s := 2 * w.K) (t := 2 * w.K + 1) (f := fun a b => cap w a b - R a b) (by omega) h.anti h.cons h.val (side w D) side_first side_last
  have hc : count w.K D = sum (2 * w.K + 2) (fun i => if i < w.K ∧ D i = true then 1 else 0) := by
    rw [sum_cut (n := w.K) (m := 2 * w.K + 2) (by omega) (fun i h1 h2 => if_neg (by omega))]
    exact sum_congr fun i hi => by simp [hi]
  have hrow : ∀ a, a < 2 * w.K + 2 → side w D a = true → ∀ b, b < 2 * w.K + 2 → (if (!side w D b) = true then cap w a b - R a b else 0) ≤ (if (!side w D b) = true then cap w a b else 0) := fun a ha h1 b hb => by
    split
    · exact h.le_cap ha hb
    · omega
  have hcap : ∀ a, a < 2 * w.K + 2 → side w D a = true → sum (2 * w.K + 2) (fun b => if (!side w D b) = true then cap w a b else 0) ≤ if a < w.K ∧ D a = true then 1 else 0 := fun a ha h1 => by
    have hle : sum (2 * w.K + 2) (fun b => if (!side w D b) = true then cap w a b else 0) ≤ sum (2 * w.K + 2) (fun b => if (a < w.K ∧ D a = true) ∧ b = w.K + a then 1 else 0) := by
      refine sum_le fun b hb => ?_
      by_cases h2 : side w D b = true
      · simp only [h2, Bool.not_true, Bool.false_eq_true, if_false]
        split <;> omega
      · have h2 : side w D b = false := by simpa using h2
        simp only [h2, Bool.not_false, if_true]
        by_cases h0 : cap w a b = 0
        · split <;> omega
        · obtain ⟨k1, k2, k3, k4⟩ := cut_cap hD ha hb h1 h2 h0
          rw [if_pos ⟨⟨k1, k3⟩, k2⟩]
          have : cap w a b ≤ 1 := by rw [k2, cap_self k1]; split <;> omega
          omega
    refine Int.le_trans hle ?_
    by_cases hk : a < w.K ∧ D a = true
    · rw [if_pos hk, sum_one (k := w.K + a) (by omega) (fun b _ hne => if_neg (fun h => hne h.2)), if_pos ⟨hk, rfl⟩]
      omega
    · rw [if_neg hk, sum_none (fun b _ => if_neg (fun h => hk h.1))]
      omega
  intro a b ha hb h1 h2
  have ht := sum_tight (n := 2 * w.K + 2) (g := only (side w D) fun u => sum (2 * w.K + 2) (only (fun v => !side w D v) fun b => cap w u b - R u b)) (h := fun i => if i < w.K ∧ D i = true then 1 else 0) (fun i hi => by
    unfold only
    by_cases hs : side w D i = true
    · rw [if_pos hs]
      exact Int.le_trans (sum_le fun b hb => hrow i hi hs b hb) (hcap i hi hs)
    · rw [if_neg hs]; split <;> omega) (by rw [hx, ← hc, hn]; omega) a ha
  unfold only at ht
  rw [if_pos h1] at ht
  have h5 := hcap a ha h1
  have h6 := sum_le (n := 2 * w.K + 2) (fun b hb => hrow a ha h1 b hb)
  have h7 := sum_tight (n := 2 * w.K + 2) (fun b hb => hrow a ha h1 b hb) (by
    have ht' : sum (2 * w.K + 2) (fun b => if (!side w D b) = true then cap w a b - R a b else 0) = if a < w.K ∧ D a = true then 1 else 0 := ht
    omega) b hb
  simp only [h2, Bool.not_false, if_true] at h7
  omega
/-- What room leads to from the beginning is on the side of each least cut. -/
theorem closed_within {w : Web} {R : Nat → Nat → Int} {n : Int} {S D : Nat → Bool} (h : Inv w R n) (hD : Cut w D) (hn : count w.K D = n) (hmin : ∀ P : Nat → Prop, P (2 * w.K) → (∀ a b, a < 2 * w.K + 2 → b < 2 * w.K + 2 → P a → 0 < R a b → P b) → ∀ a, a < 2 * w.K + 2 → S a = true → P a) : ∀ a, a < 2 * w.K + 2 → S a = true → side w D a = true :=
  hmin (fun a => side w D a = true) side_first fun a b ha hb h1 hr => by
    rw [← Bool.not_eq_false]
    intro h2
    have := least_side h hD hn a b ha hb h1 h2
    omega
/-! ### Ways -/
def Chn (E : Nat → Nat → Bool) : List Nat → Prop
  | [] => True
  | [_] => True
  | x :: y :: r => E x y = true ∧ Chn E (y :: r)
/-- A way from an origin to one who asserts. -/
structure Way (w : Web) (p : List Nat) : Prop where
  org : ∃ x r, p = x :: r ∧ w.org x = true
  ok : ∀ x ∈ p, x < w.K ∧ w.wo x = false
  chn : Chn w.E p
  said : ∃ x, p.getLast? = some x ∧ w.said x = true
  nodup : p.Nodup
/-- Ways without a common source. -/
structure Ways (w : Web) (ps : List (List Nat)) : Prop where
  each : ∀ p ∈ ps, Way w p
  apart : ps.Pairwise fun p q => ∀ x ∈ p, x ∉ q
/-- Room given back along a path. -/
def giveP (R : Nat → Nat → Int) (q : List Nat) (a b : Nat) : Int := R a b + (if consec q a b = true then 1 else 0) - (if consec q b a = true then 1 else 0)
theorem cap_pos (w : Web) (a b : Nat) : 0 ≤ cap w a b := by
  unfold cap
  repeat' split
  all_goals omega
theorem Inv.give {w : Web} {R : Nat → Nat → Int} {n : Int} (h : Inv w R n) {r : List Nat} (hn : (2 * w.K :: r).Nodup) (hl : ∀ x ∈ 2 * w.K :: r, x < 2 * w.K + 2) (ht : (2 * w.K :: r).getLast? = some (2 * w.K + 1)) (hr : ∀ a b, consec (2 * w.K :: r) a b = true → 0 < cap w a b - R a b) : Inv w (giveP R (2 * w.K :: r)) (n - 1) := by
  have e : ∀ a b, cap w a b - giveP R (2 * w.K :: r) a b = - addP (fun a b => - (cap w a b - R a b)) (2 * w.K :: r) a b := fun a b => by
    rw [addP_eq _ _ hn]
    unfold giveP
    omega
  have hd : ∀ a, div (2 * w.K + 2) (fun a b => cap w a b - giveP R (2 * w.K :: r) a b) a = - div (2 * w.K + 2) (addP (fun a b => - (cap w a b - R a b)) (2 * w.K :: r)) a := fun a => by
    unfold div
    rw [← sum_neg]
    exact sum_congr fun b _ => e a b
  have hneg : ∀ a, div (2 * w.K + 2) (fun a b => - (cap w a b - R a b)) a = - div (2 * w.K + 2) (fun a b => cap w a b - R a b) a := fun a => by
    unfold div
    rw [← sum_neg]
  have hanti : ∀ u v, u < 2 * w.K + 2 → v < 2 * w.K + 2 → (fun a b => - (cap w a b - R a b)) u v = - (fun a b => - (cap w a b - R a b)) v u := fun u v hu hv => by
    have := h.anti u v hu hv
    simp only
    omega
  refine ⟨fun a b ha hb => ?_, fun a b ha hb => ?_, fun a ha h1 h2 => ?_, ?_⟩
  · unfold giveP
    have := h.pos a b ha hb
    by_cases hc : consec (2 * w.K :: r) b a = true
    · have h3 := hr b a hc
      have h4 := h.anti a b ha hb
      have h5 := cap_pos w a b
      rw [if_pos hc]
      split <;> omega
    · rw [if_neg hc]
      split <;> omega
  · rw [e, e]
    have := addP_anti (N := 2 * w.K + 2) hanti (2 * w.K :: r) a b ha hb
    omega
  · rw [hd, addP_div _ _ _ _ hl ht, hneg, h.cons a ha h1 h2, if_neg h1, if_neg h2]; rfl
  · rw [hd, addP_div _ _ _ _ hl ht, hneg, h.val, if_pos rfl, if_neg (by omega)]; omega
/-- From here the flow leads to the end. -/
inductive Leads (w : Web) (R : Nat → Nat → Int) : Nat → Prop
  | base {i : Nat} : i < w.K → 0 < cap w (w.K + i) (2 * w.K + 1) - R (w.K + i) (2 * w.K + 1) → Leads w R i
  | step {x y : Nat} : x < w.K → Leads w R y → 0 < cap w (w.K + x) y - R (w.K + x) y → Leads w R x
theorem Leads.lt {w : Web} {R : Nat → Nat → Int} {i : Nat} (h : Leads w R i) : i < w.K := by cases h <;> assumption
/-- The flow goes from node u along these sources to the end. -/
def Good (w : Web) (R : Nat → Nat → Int) : Nat → List Nat → Prop
  | u, [] => 0 < cap w u (2 * w.K + 1) - R u (2 * w.K + 1)
  | u, i :: r => i < w.K ∧ 0 < cap w u i - R u i ∧ Good w R (w.K + i) r
theorem Good.suffix {w : Web} {R : Nat → Nat → Int} : ∀ {p : List Nat} {u x : Nat}, Good w R u p → p.Nodup → x ∈ p → ∃ r, Good w R (w.K + x) r ∧ (x :: r).Nodup
  | [], u, x, _, _, hx => by cases hx
  | i :: p, u, x, h, hn, hx => by
    by_cases e : x = i
    · subst e; exact ⟨p, h.2.2, hn⟩
    · rcases List.mem_cons.1 hx with e' | hx
      · exact absurd e' e
      · exact Good.suffix h.2.2 (List.nodup_cons.1 hn).2 hx
theorem Leads.path {w : Web} {R : Nat → Nat → Int} {i : Nat} (h : Leads w R i) : ∃ r, Good w R (w.K + i) r ∧ (i :: r).Nodup := by
  induction h with
  | base hi hf => exact ⟨[], hf, by simp⟩
  | @step x y hx hy hf ih =>
    obtain ⟨r, hg, hn⟩ := ih
    by_cases hxy : x ∈ y :: r
    · exact Good.suffix (u := w.K + x) (p := y :: r) ⟨hy.lt, hf, hg⟩ hn hxy
    · exact ⟨y :: r, ⟨hy.lt, hf, hg⟩, List.nodup_cons.2 ⟨hxy, hn⟩⟩
open Classical in
theorem Inv.start {w : Web} {R : Nat → Nat → Int} {n : Int} (h : Inv w R n) (hn : 0 < n) : ∃ i, Leads w R i ∧ 0 < cap w (2 * w.K) i - R (2 * w.K) i := by
  refine Classical.byContradiction fun hno => ?_
  let S : Nat → Bool := fun a => if a < w.K then decide (¬ Leads w R a) else if a < 2 * w.K then decide (¬ Leads w R (a - w.K)) else decide (a = 2 * w.K)
  have s1 : S (2 * w.K) = true := by
    show (if 2 * w.K < w.K then _ else if 2 * w.K < 2 * w.K then _ else _) = true
    rw [if_neg (by omega), if_neg (by omega)]; simp
  have s2 : S (2 * w.K + 1) = false := by
    show (if 2 * w.K + 1 < w.K then _ else if 2 * w.K + 1 < 2 * w.K then _ else _) = false
    rw [if_neg (by omega), if_neg (by omega)]; simp
  have se : ∀ i, i < w.K → (S i = true ↔ ¬ Leads w R i) := fun i hi => by
    show (if i < w.K then _ else _) = true ↔ _
    rw [if_pos hi]; simp
  have sx : ∀ i, i < w.K → (S (w.K + i) = true ↔ ¬ Leads w R i) := fun i hi => by
    show (if w.K + i < w.K then _ else if w.K + i < 2 * w.K then _ else _) = true ↔ _
    rw [if_neg (by omega), if_pos (by omega), show w.K + i - w.K = i by omega]; simp
  have hx := cross (N := 2 * w.K + 2) (s := 2 * w.K) (t := 2 * w.K + 1) (f := fun a b => cap w a b - R a b) (by omega) h.anti h.cons h.val S s1 s2
  have hle : sum (2 * w.K + 2) (only S fun u => sum (2 * w.K + 2) (only (fun v => !S v) fun b => cap w u b - R u b)) ≤ 0 := by
    refine Int.le_trans (sum_le (h := fun _ => 0) fun a ha => ?_) (by rw [sum_zero]; exact Int.le_refl _)
    unfold only
    show (if S a = true then sum (2 * w.K + 2) (fun b => if (!S b) = true then cap w a b - R a b else 0) else 0) ≤ 0
    split
    · rename_i h1
      refine Int.le_trans (sum_le (h := fun _ => 0) fun b hb => ?_) (by rw [sum_zero]; exact Int.le_refl _)
      split
      · rename_i h2
        have h2 : S b = false := by simpa using h2
        refine Int.not_lt.1 fun hf => ?_
        have h3 := h.le_cap ha hb
        have hc : cap w a b ≠ 0 := by omega
        by_cases hk : a < w.K
        · by_cases he : b = w.K + a
          · subst he
            have := (sx a hk).2 ((se a hk).1 h1)
            rw [h2] at this; cases this
          · exact hc (cap_in hk he)
        · by_cases hk2 : a < 2 * w.K
          · obtain ⟨x, rfl⟩ : ∃ x, a = w.K + x := ⟨a - w.K, by omega⟩
            have hxK : x < w.K := by omega
            have hl := (sx x hxK).1 h1
            by_cases hbk : b < w.K
            · have hlb : Leads w R b := Classical.byContradiction fun hb' => by
                have := (se b hbk).2 hb'
                rw [h2] at this; cases this
              exact hl (.step hxK hlb hf)
            · by_cases hbe : b = 2 * w.K + 1
              · subst hbe; exact hl (.base hxK hf)
              · apply hc
                unfold cap
                rw [if_neg hk, if_pos hk2]
                split
                · rfl
                · first | rw [if_neg hbk, if_neg (fun h => hbe h.1)] | rw [if_neg (fun h => hbe h.1)]
          · have hbk : b < w.K := by
              refine Classical.byContradiction fun hbk => hc ?_
              unfold cap
              rw [if_neg hk, if_neg hk2]
              split
              · rw [if_neg (fun h => hbk h.1)]
              · rfl
            have ha2 : a = 2 * w.K := by
              refine Classical.byContradiction fun ha2 => hc ?_
              unfold cap
              rw [if_neg hk, if_neg hk2, if_neg ha2]
            subst ha2
            have hlb : Leads w R b := Classical.byContradiction fun hb' => by
              have := (se b hbk).2 hb'
              rw [h2] at this; cases this
            exact hno ⟨b, hlb, hf⟩
      · omega
    · omega
  omega
/-- The nodes along these sources. -/
def nodes (w : Web) : List Nat → List Nat
  | [] => [2 * w.K + 1]
  | i :: r => i :: (w.K + i) :: nodes w r
theorem mem_nodes {w : Web} : ∀ {p : List Nat} {a : Nat}, a ∈ nodes w p ↔ a = 2 * w.K + 1 ∨ (∃ i ∈ p, a = i ∨ a = w.K + i)
  | [], a => by simp [nodes]
  | i :: r, a => by
    simp only [nodes, List.mem_cons, mem_nodes (p := r)]
    constructor
    · rintro (rfl | rfl | h | ⟨j, hj, h⟩)
      · exact .inr ⟨a, .inl rfl, .inl rfl⟩
      · exact .inr ⟨i, .inl rfl, .inr rfl⟩
      · exact .inl h
      · exact .inr ⟨j, .inr hj, h⟩
    · rintro (h | ⟨j, rfl | hj, h⟩)
      · exact .inr (.inr (.inl h))
      · rcases h with rfl | rfl
        · exact .inl rfl
        · exact .inr (.inl rfl)
      · exact .inr (.inr (.inr ⟨j, hj, h⟩))
theorem nodes_last {w : Web} : ∀ (p : List Nat) (u : Nat), (u :: nodes w p).getLast? = some (2 * w.K + 1)
  | [], u => by simp [nodes]
  | i :: r, u => by
    have := nodes_last (w := w) r (w.K + i)
    simp only [nodes]
    rw [List.getLast?_cons_cons, List.getLast?_cons_cons]
    exact this
theorem nodes_nodup {w : Web} : ∀ {p : List Nat}, p.Nodup → (∀ x ∈ p, x < w.K) → (nodes w p).Nodup
  | [], _, _ => by simp [nodes]
  | i :: r, hn, hl => by
    have hn' := List.nodup_cons.1 hn
    have hi := hl i List.mem_cons_self
    have hl' : ∀ x ∈ r, x < w.K := fun x hx => hl x (List.mem_cons_of_mem _ hx)
    have ih := nodes_nodup (w := w) hn'.2 hl'
    simp only [nodes]
    refine List.nodup_cons.2 ⟨fun h => ?_, List.nodup_cons.2 ⟨fun h => ?_, ih⟩⟩
    · rcases List.mem_cons.1 h with h | h
      · omega
      · rcases mem_nodes.1 h with h | ⟨j, hj, h⟩
        · omega
        · have := hl' j hj
          rcases h with rfl | h
          · exact hn'.1 hj
          · omega
    · rcases mem_nodes.1 h with h | ⟨j, hj, h⟩
      · omega
      · have := hl' j hj
        rcases h with h | h
        · omega
        · obtain rfl : i = j := by omega
          exact hn'.1 hj
theorem Good.lt {w : Web} {R : Nat → Nat → Int} : ∀ {p : List Nat} {u : Nat}, Good w R u p → ∀ x ∈ p, x < w.K
  | [], u, _, x, hx => by cases hx
  | i :: p, u, h, x, hx => by
    rcases List.mem_cons.1 hx with rfl | hx
    · exact h.1
    · exact Good.lt h.2.2 x hx
/-- What goes into an entry goes on to its exit. -/
theorem Inv.thru {w : Web} {R : Nat → Nat → Int} {n : Int} (h : Inv w R n) {i b : Nat} (hi : i < w.K) (hb : b < 2 * w.K + 2) (hne : b ≠ w.K + i) : cap w b i - R b i ≤ cap w i (w.K + i) - R i (w.K + i) := by
  have hN : w.K + i < 2 * w.K + 2 := by omega
  have hin : i < 2 * w.K + 2 := by omega
  have hc : sum (2 * w.K + 2) (fun x => cap w i x - R i x) = 0 := h.cons i hin (by omega) (by omega)
  have hs : sum (2 * w.K + 2) (fun x => cap w i x - R i x) = sum (2 * w.K + 2) (only (fun x => decide (x = w.K + i)) (fun x => cap w i x - R i x)) + sum (2 * w.K + 2) (only (fun x => !decide (x = w.K + i)) (fun x => cap w i x - R i x)) := sum_split _ _ _
  have h1 : sum (2 * w.K + 2) (only (fun x => decide (x = w.K + i)) (fun x => cap w i x - R i x)) = cap w i (w.K + i) - R i (w.K + i) := by
    rw [sum_one (k := w.K + i) hN]
    · unfold only; simp
    · intro x _ hx; unfold only; simp [hx]
  have h2 : sum (2 * w.K + 2) (only (fun x => !decide (x = w.K + i)) (fun x => cap w i x - R i x)) = - sum (2 * w.K + 2) (only (fun x => !decide (x = w.K + i)) (fun x => cap w x i - R x i)) := by
    rw [← sum_neg]
    refine sum_congr fun x hx => ?_
    unfold only
    by_cases he : x = w.K + i
    · simp [he]
    · simp only [he, decide_false, Bool.not_false, if_true]
      exact h.anti i x hin hx
  have h3 : cap w b i - R b i ≤ sum (2 * w.K + 2) (only (fun x => !decide (x = w.K + i)) (fun x => cap w x i - R x i)) := by
    have := le_sum (g := only (fun x => !decide (x = w.K + i)) (fun x => cap w x i - R x i)) hb (fun x hx => by
      unfold only
      by_cases he : x = w.K + i
      · simp [he]
      · simp only [he, decide_false, Bool.not_false, if_true]; exact (h.into hi hx he).2)
    unfold only at this ⊢
    simpa [hne] using this
  omega
theorem Good.pos {w : Web} {R : Nat → Nat → Int} {n : Int} (h : Inv w R n) : ∀ {p : List Nat} {u : Nat}, u < 2 * w.K + 2 → (∀ x ∈ p, u ≠ w.K + x) → p.Nodup → Good w R u p → ∀ a b, consec (u :: nodes w p) a b = true → 0 < cap w a b - R a b
  | [], u, hu, _, _, hg, a, b, hc => by
    simp only [nodes, consec, Bool.or_false, Bool.and_eq_true, decide_eq_true_eq] at hc
    obtain ⟨rfl, rfl⟩ := hc
    exact hg
  | i :: r, u, hu, hne, hn, hg, a, b, hc => by
    obtain ⟨g1, g2, g3⟩ := hg
    have hn' := List.nodup_cons.1 hn
    have hcons : consec (u :: nodes w (i :: r)) a b = ((decide (a = u) && decide (b = i)) || ((decide (a = i) && decide (b = w.K + i)) || consec ((w.K + i) :: nodes w r) a b)) := rfl
    rw [hcons] at hc
    simp only [Bool.or_eq_true, Bool.and_eq_true, decide_eq_true_eq] at hc
    rcases hc with ⟨rfl, rfl⟩ | ⟨rfl, rfl⟩ | hc
    · exact g2
    · have := h.thru g1 hu (hne a List.mem_cons_self)
      omega
    · exact Good.pos h (by omega) (fun x hx e => hn'.1 (by rw [Nat.add_left_cancel e]; exact hx)) hn'.2 g3 a b hc
theorem good_chn {w : Web} {R : Nat → Nat → Int} {n : Int} (h : Inv w R n) : ∀ {p : List Nat} {i : Nat}, i < w.K → (∀ x ∈ p, x < w.K) → Good w R (w.K + i) p → Chn w.E (i :: p) ∧ ∃ x, (i :: p).getLast? = some x ∧ w.said x = true
  | [], i, hi, _, hg => by
    refine ⟨trivial, i, by simp, ?_⟩
    have hg' : 0 < cap w (w.K + i) (2 * w.K + 1) - R (w.K + i) (2 * w.K + 1) := hg
    have h1 := h.le_cap (a := w.K + i) (b := 2 * w.K + 1) (by omega) (by omega)
    have hc : cap w (w.K + i) (2 * w.K + 1) ≠ 0 := by omega
    rw [← Bool.not_eq_false]
    intro hs
    apply hc
    unfold cap
    rw [if_neg (by omega), if_pos (by omega), show w.K + i - w.K = i by omega, hs]
    split
    · rfl
    · rw [if_neg (by omega)]; simp
  | j :: p, i, hi, hl, hg => by
    obtain ⟨g1, g2, g3⟩ := hg
    obtain ⟨c1, x, c2, c3⟩ := good_chn h g1 (fun x hx => hl x (List.mem_cons_of_mem _ hx)) g3
    refine ⟨⟨?_, c1⟩, x, by rw [List.getLast?_cons_cons]; exact c2, c3⟩
    have h1 := h.le_cap (a := w.K + i) (b := j) (by omega) (by omega)
    have hc : cap w (w.K + i) j ≠ 0 := by omega
    rw [← Bool.not_eq_false]
    intro he
    apply hc
    unfold cap
    rw [if_neg (by omega), if_pos (by omega), show w.K + i - w.K = i by omega, he]
    split
    · rfl
    · simp
theorem good_wo {w : Web} {R : Nat → Nat → Int} {n : Int} (h : Inv w R n) : ∀ {p : List Nat} {u : Nat}, u < 2 * w.K + 2 → (∀ x ∈ p, u ≠ w.K + x) → p.Nodup → Good w R u p → ∀ x ∈ p, w.wo x = false ∧ cap w x (w.K + x) - R x (w.K + x) = 1
  | [], u, _, _, _, _, x, hx => by cases hx
  | i :: r, u, hu, hne, hn, hg, x, hx => by
    obtain ⟨g1, g2, g3⟩ := hg
    have hn' := List.nodup_cons.1 hn
    rcases List.mem_cons.1 hx with rfl | hx
    · have h1 := h.thru g1 hu (hne x List.mem_cons_self)
      have h2 := h.le_cap (a := x) (b := w.K + x) (by omega) (by omega)
      rw [cap_self g1] at h1 h2 ⊢
      cases hw : w.wo x
      · rw [hw] at h1 h2
        simp at h1 h2 ⊢
        omega
      · rw [hw] at h1 h2
        simp at h1 h2
        omega
    · exact good_wo h (by omega) (fun y hy e => hn'.1 (by rw [Nat.add_left_cancel e]; exact hy)) hn'.2 g3 x hx
theorem consec_self {w : Web} : ∀ {p : List Nat} {u x : Nat}, x ∈ p → consec (u :: nodes w p) x (w.K + x) = true
  | [], u, x, h => by cases h
  | i :: r, u, x, h => by
    have hcons : consec (u :: nodes w (i :: r)) x (w.K + x) = ((decide (x = u) && decide (w.K + x = i)) || ((decide (x = i) && decide (w.K + x = w.K + i)) || consec ((w.K + i) :: nodes w r) x (w.K + x))) := rfl
    rw [hcons]
    rcases List.mem_cons.1 h with rfl | h
    · simp
    · rw [consec_self h]; simp
/-- The sources that the flow goes through. -/
def act (w : Web) (R : Nat → Nat → Int) (i : Nat) : Prop := cap w i (w.K + i) - R i (w.K + i) = 1
theorem Inv.ways {w : Web} : ∀ (n : Nat) {R : Nat → Nat → Int}, Inv w R n → ∃ ps, ps.length = n ∧ Ways w ps ∧ ∀ p ∈ ps, ∀ x ∈ p, act w R x
  | 0, R, h => ⟨[], rfl, ⟨fun p hp => (by cases hp), List.Pairwise.nil⟩, fun p hp => (by cases hp)⟩
  | n + 1, R, h => by
    obtain ⟨i, hl, hs⟩ := h.start (by omega)
    obtain ⟨r, hg, hn⟩ := hl.path
    have hi := hl.lt
    have hG : Good w R (2 * w.K) (i :: r) := ⟨hi, hs, hg⟩
    have hlt := hG.lt
    have hne : ∀ x ∈ i :: r, 2 * w.K ≠ w.K + x := fun x hx => by have := hlt x hx; omega
    have hp := Good.pos h (by omega) hne hn hG
    have hnn : (2 * w.K :: nodes w (i :: r)).Nodup := List.nodup_cons.2 ⟨fun hm => by
      rcases mem_nodes.1 hm with e | ⟨j, hj, e⟩
      · omega
      · have := hlt j hj; omega, nodes_nodup hn hlt⟩
    have hlt2 : ∀ x ∈ 2 * w.K :: nodes w (i :: r), x < 2 * w.K + 2 := fun x hx => by
      rcases List.mem_cons.1 hx with rfl | hx
      · omega
      · rcases mem_nodes.1 hx with e | ⟨j, hj, e⟩
        · omega
        · have := hlt j hj; omega
    have h2 := h.give hnn hlt2 (nodes_last _ _) hp
    have hwo := good_wo h (show 2 * w.K < 2 * w.K + 2 by omega) hne hn hG
    obtain ⟨ps, e1, e2, e3⟩ := Inv.ways n (by rw [show ((n : Nat) : Int) = ((n + 1 : Nat) : Int) - 1 by omega]; exact h2)
    have hmem : ∀ x, x < w.K → (x ∈ 2 * w.K :: nodes w (i :: r) → x ∈ i :: r) ∧ (w.K + x ∈ 2 * w.K :: nodes w (i :: r) → x ∈ i :: r) := fun x hx => by
      refine ⟨fun h3 => ?_, fun h3 => ?_⟩
      · rcases List.mem_cons.1 h3 with e | h3
        · omega
        · rcases mem_nodes.1 h3 with e | ⟨j, hj, e⟩
          · omega
          · have := hlt j hj
            rcases e with rfl | e
            · exact hj
            · omega
      · rcases List.mem_cons.1 h3 with e | h3
        · omega
        · rcases mem_nodes.1 h3 with e | ⟨j, hj, e⟩
          · omega
          · have := hlt j hj
            rcases e with e | e
            · omega
            · rw [Nat.add_left_cancel e]; exact hj
    have hact : ∀ x, x < w.K → act w (giveP R (2 * w.K :: nodes w (i :: r))) x → x ∉ i :: r ∧ act w R x := fun x hx ha => by
      unfold act giveP at ha
      by_cases hxp : x ∈ i :: r
      · have h3 := consec_self (w := w) (u := 2 * w.K) hxp
        have h4 := consec_irr hnn h3
        rw [if_pos h3, if_neg (by rw [h4]; simp)] at ha
        have := (hwo x hxp).2
        omega
      · have h3 : ¬ consec (2 * w.K :: nodes w (i :: r)) x (w.K + x) = true := fun h3 => hxp ((hmem x hx).1 (consec_mem h3).1)
        have h4 : ¬ consec (2 * w.K :: nodes w (i :: r)) (w.K + x) x = true := fun h3 => hxp ((hmem x hx).1 (consec_mem h3).2)
        rw [if_neg h3, if_neg h4] at ha
        refine ⟨hxp, ?_⟩
        unfold act
        omega
    obtain ⟨c1, y, c2, c3⟩ := good_chn h hi (fun x hx => hlt x (List.mem_cons_of_mem _ hx)) hG.2.2
    have horg : w.org i = true := by
      have h1 := h.le_cap (a := 2 * w.K) (b := i) (by omega) (by omega)
      have hc : cap w (2 * w.K) i ≠ 0 := by omega
      rw [← Bool.not_eq_false]
      intro he
      apply hc
      unfold cap
      rw [if_neg (by omega), if_neg (by omega), if_pos rfl, he]
      simp
    refine ⟨(i :: r) :: ps, by simp [e1], ⟨fun p hp => ?_, List.pairwise_cons.2 ⟨fun p hp x hx hxp => ?_, e2.apart⟩⟩, fun p hp x hx => ?_⟩
    · rcases List.mem_cons.1 hp with rfl | hp
      · exact ⟨⟨i, r, rfl, horg⟩, fun x hx => ⟨hlt x hx, (hwo x hx).1⟩, c1, ⟨y, c2, c3⟩, hn⟩
      · exact e2.each p hp
    · exact (hact x (hlt x hx) (e3 p hp x hxp)).1 hx
    · rcases List.mem_cons.1 hp with rfl | hp
      · exact (hwo x hx).2
      · exact (hact x ((e2.each p hp).ok x hx).1 (e3 p hp x hx)).2
/-! ### Ways and cuts -/
theorem Way.hits {w : Web} {p : List Nat} {D : Nat → Bool} (h : Way w p) (hD : Cut w D) : ∃ x ∈ p, D x = true := by
  refine Classical.byContradiction fun hno => ?_
  have hd : ∀ x ∈ p, D x = false := fun x hx => by
    rw [← Bool.not_eq_true]
    exact fun e => hno ⟨x, hx, e⟩
  have key : ∀ (r : List Nat) (x : Nat), Reach w D x → Chn w.E (x :: r) → (∀ y ∈ x :: r, y < w.K ∧ w.wo y = false ∧ D y = false) → ∃ y, (x :: r).getLast? = some y ∧ Reach w D y := by
    intro r
    induction r with
    | nil => intro x hx _ _; exact ⟨x, by simp, hx⟩
    | cons y r ih =>
      intro x hx hc hok
      obtain ⟨z, h1, h2⟩ := ih y (.step hx (hok x List.mem_cons_self).2.1 (hok x List.mem_cons_self).2.2 (hok y (by simp)).1 hc.1) hc.2 (fun z hz => hok z (List.mem_cons_of_mem _ hz))
      exact ⟨z, by rw [List.getLast?_cons_cons]; exact h1, h2⟩
  obtain ⟨x, r, rfl, ho⟩ := h.org
  obtain ⟨y, h1, h2⟩ := key r x (.base (h.ok x List.mem_cons_self).1 ho (h.ok x List.mem_cons_self).2) h.chn (fun y hy => ⟨(h.ok y hy).1, (h.ok y hy).2, hd y hy⟩)
  obtain ⟨z, h3, h4⟩ := h.said
  rw [h1] at h3
  cases h3
  have hy := List.mem_of_getLast? h1
  exact hD y h2 (h.ok y hy).2 (hd y hy) h4
/-- A set without one. -/
def less (D : Nat → Bool) (x i : Nat) : Bool := D i && decide (i ≠ x)
theorem count_less {K : Nat} {D : Nat → Bool} {x : Nat} (hx : x < K) (hD : D x = true) : count K D = count K (less D x) + 1 := by
  have e : count K D = sum K (fun i => (if less D x i = true then 1 else 0) + (if i = x then 1 else 0)) := by
    unfold count
    refine sum_congr fun i _ => ?_
    unfold less
    by_cases h : i = x
    · subst h; simp [hD]
    · cases hd : D i <;> simp [h]
  rw [e, sum_add, sum_one (k := x) (g := fun i => if i = x then (1 : Int) else 0) hx (fun i _ hne => if_neg hne), if_pos rfl]
  rfl
theorem count_nonneg (K : Nat) (D : Nat → Bool) : 0 ≤ count K D := sum_nonneg fun i _ => by split <;> omega
theorem len_le_count {K : Nat} : ∀ {xs : List Nat} {D : Nat → Bool}, xs.Nodup → (∀ x ∈ xs, x < K ∧ D x = true) → (xs.length : Int) ≤ count K D
  | [], D, _, _ => count_nonneg K D
  | x :: xs, D, hn, h => by
    have hn' := List.nodup_cons.1 hn
    have hx := h x List.mem_cons_self
    rw [count_less hx.1 hx.2]
    have := len_le_count (D := less D x) hn'.2 (fun y hy => by
      have := h y (List.mem_cons_of_mem _ hy)
      refine ⟨this.1, ?_⟩
      unfold less
      rw [this.2]
      have hne : y ≠ x := fun e => hn'.1 (by rw [← e]; exact hy)
      simp [hne])
    simp only [List.length_cons]
    omega
theorem Ways.le_cut {w : Web} {ps : List (List Nat)} {D : Nat → Bool} (h : Ways w ps) (hD : Cut w D) : (ps.length : Int) ≤ count w.K D := by
  have key : ∀ ps : List (List Nat), Ways w ps → ∃ xs : List Nat, xs.length = ps.length ∧ xs.Nodup ∧ (∀ x ∈ xs, x < w.K ∧ D x = true) ∧ ∀ x ∈ xs, ∃ p ∈ ps, x ∈ p := by
    intro ps
    induction ps with
    | nil => intro _; exact ⟨[], rfl, by simp, fun x hx => (by cases hx), fun x hx => (by cases hx)⟩
    | cons p ps ih =>
      intro h
      have ha := List.pairwise_cons.1 h.apart
      obtain ⟨xs, e1, e2, e3, e4⟩ := ih ⟨fun q hq => h.each q (List.mem_cons_of_mem _ hq), ha.2⟩
      obtain ⟨x, hx, hd⟩ := (h.each p List.mem_cons_self).hits hD
      refine ⟨x :: xs, by simp [e1], List.nodup_cons.2 ⟨fun hm => ?_, e2⟩, fun y hy => ?_, fun y hy => ?_⟩
      · obtain ⟨q, hq, hxq⟩ := e4 x hm
        exact ha.1 q hq x hx hxq
      · rcases List.mem_cons.1 hy with rfl | hy
        · exact ⟨((h.each p List.mem_cons_self).ok y hx).1, hd⟩
        · exact e3 y hy
      · rcases List.mem_cons.1 hy with rfl | hy
        · exact ⟨p, List.mem_cons_self, hx⟩
        · obtain ⟨q, hq, hyq⟩ := e4 y hy
          exact ⟨q, List.mem_cons_of_mem _ hq, hyq⟩
  obtain ⟨xs, e1, e2, e3, _⟩ := key ps h
  rw [← e1]
  exact len_le_count e2 e3
/-! ### There is a greatest flow -/
/-- What room leads to from the beginning. -/
inductive Seen (w : Web) (R : Nat → Nat → Int) : Nat → Prop
  | base : Seen w R (2 * w.K)
  | step {a b : Nat} : Seen w R a → b < 2 * w.K + 2 → 0 < R a b → Seen w R b
theorem Seen.lt {w : Web} {R : Nat → Nat → Int} {a : Nat} (h : Seen w R a) : a < 2 * w.K + 2 := by
  cases h
  · omega
  · assumption
/-- A path by room, from its end. -/
def RPath (w : Web) (R : Nat → Nat → Int) : List Nat → Prop
  | [] => False
  | [a] => a = 2 * w.K
  | b :: a :: r => 0 < R a b ∧ b < 2 * w.K + 2 ∧ RPath w R (a :: r)
theorem RPath.suffix {w : Web} {R : Nat → Nat → Int} : ∀ {p : List Nat} {x : Nat}, RPath w R p → p.Nodup → x ∈ p → ∃ r, RPath w R (x :: r) ∧ (x :: r).Nodup
  | [], x, h, _, _ => h.elim
  | [a], x, h, hn, hx => by
    obtain rfl : x = a := by simpa using hx
    exact ⟨[], h, hn⟩
  | b :: a :: r, x, h, hn, hx => by
    rcases List.mem_cons.1 hx with rfl | hx
    · exact ⟨a :: r, h, hn⟩
    · exact RPath.suffix h.2.2 (List.nodup_cons.1 hn).2 hx
theorem Seen.path {w : Web} {R : Nat → Nat → Int} {b : Nat} (h : Seen w R b) : ∃ r, RPath w R (b :: r) ∧ (b :: r).Nodup := by
  induction h with
  | base => exact ⟨[], rfl, by simp⟩
  | @step a b ha hb hr ih =>
    obtain ⟨r, h1, h2⟩ := ih
    by_cases hm : b ∈ a :: r
    · exact RPath.suffix h1 h2 hm
    · exact ⟨a :: r, ⟨hr, hb, h1⟩, List.nodup_cons.2 ⟨hm, h2⟩⟩
theorem RPath.lt {w : Web} {R : Nat → Nat → Int} : ∀ {p : List Nat}, RPath w R p → ∀ x ∈ p, x < 2 * w.K + 2
  | [], h, _, _ => h.elim
  | [a], h, x, hx => by
    have e : a = 2 * w.K := h
    obtain rfl : x = a := by simpa using hx
    omega
  | b :: a :: r, h, x, hx => by
    rcases List.mem_cons.1 hx with rfl | hx
    · exact h.2.1
    · exact RPath.lt h.2.2 x hx
theorem consec_append : ∀ (p : List Nat) (u v a b : Nat), consec (p ++ [u] ++ [v]) a b = (consec (p ++ [u]) a b || (decide (a = u) && decide (b = v)))
  | [], u, v, a, b => by simp [consec]
  | [x], u, v, a, b => by simp [consec]
  | x :: y :: r, u, v, a, b => by
    have ih := consec_append (y :: r) u v a b
    simp only [List.cons_append, consec] at ih ⊢
    rw [ih, Bool.or_assoc]
theorem RPath.rev {w : Web} {R : Nat → Nat → Int} : ∀ {p : List Nat}, RPath w R p → ∃ r, p.reverse = 2 * w.K :: r ∧ ∀ a b, consec p.reverse a b = true → 0 < R a b
  | [], h => h.elim
  | [a], h => by
    have e : a = 2 * w.K := h
    subst e
    exact ⟨[], rfl, fun a b hc => by simp [consec] at hc⟩
  | b :: a :: r, h => by
    obtain ⟨q, e, hc⟩ := RPath.rev h.2.2
    refine ⟨q ++ [b], by rw [List.reverse_cons, e]; rfl, fun x y hxy => ?_⟩
    rw [List.reverse_cons, List.reverse_cons, consec_append, ← List.reverse_cons, Bool.or_eq_true, Bool.and_eq_true, decide_eq_true_eq, decide_eq_true_eq] at hxy
    rcases hxy with hxy | ⟨rfl, rfl⟩
    · exact hc x y hxy
    · exact h.1
theorem cut_all (w : Web) : Cut w (fun _ => true) := fun x _ _ h _ => by simp at h
theorem count_all : ∀ K : Nat, count K (fun _ => true) = K
  | 0 => rfl
  | K + 1 => by
    have := count_all K
    unfold count at this ⊢
    rw [sum_succ, this]
    simp
open Classical in
theorem max_flow {w : Web} : ∀ (d : Nat) {R : Nat → Nat → Int} {n : Nat}, Inv w R n → w.K - n ≤ d → ∃ (m : Nat) (R' : Nat → Nat → Int), Inv w R' m ∧ ¬ Seen w R' (2 * w.K + 1)
  | d, R, n, h, hd => by
    by_cases hs : Seen w R (2 * w.K + 1)
    · obtain ⟨r, h1, h2⟩ := hs.path
      obtain ⟨q, e, hc⟩ := h1.rev
      have hnd : (2 * w.K :: q).Nodup := by rw [← e]; exact List.pairwise_reverse.2 (List.Pairwise.imp (fun h => Ne.symm h) h2)
      have h3 := h.take (r := q) hnd (fun x hx => by
        rw [← e] at hx
        exact h1.lt x (List.mem_reverse.1 hx)) (by rw [← e]; simp) (by rw [← e]; exact hc)
      have hle := h3.le_cut (cut_all w)
      rw [count_all] at hle
      match d, hd with
      | 0, hd => omega
      | d + 1, hd => exact max_flow d (n := n + 1) (by rw [show ((n + 1 : Nat) : Int) = (n : Int) + 1 by omega]; exact h3) (by omega)
    · exact ⟨n, R, h, hs⟩
open Classical in
theorem closed_seen {w : Web} {R : Nat → Nat → Int} (h : ¬ Seen w R (2 * w.K + 1)) : Closed w R (fun a => decide (Seen w R a)) :=
  ⟨by simpa using Seen.base, by simpa using h, fun a b ha hb h1 hr => by
    have h1 : Seen w R a := by simpa using h1
    simpa using Seen.step h1 hb hr⟩
theorem exists_min {w : Web} (hK : 2 ≤ w.K) (hE : ∀ x, w.E x x = false) : ∃ n : Nat, MinCut w n ∧ ∃ ps, ps.length = n ∧ Ways w ps := by
  obtain ⟨m, R, h, hs⟩ := max_flow w.K (Inv.zero w) (Nat.sub_le _ _)
  obtain ⟨ps, e1, e2, _⟩ := Inv.ways m h
  exact ⟨m, (closed_seen hs).min h hK hE, ps, e1, e2⟩
/-! ### A way more, from a source -/
/-- Other origins, and more sources left out. -/
def sub (w : Web) (o X : Nat → Bool) : Web := { w with org := o, wo := fun i => w.wo i || X i }
def one (l i : Nat) : Bool := decide (i = l)
def or2 (a b : Nat → Bool) (i : Nat) : Bool := a i || b i
def inL (p : List Nat) (i : Nat) : Bool := p.contains i
theorem inL_iff {p : List Nat} {i : Nat} : inL p i = true ↔ i ∈ p := by unfold inL; simp
theorem Chn.suffix {E : Nat → Nat → Bool} : ∀ (a : List Nat) {b : List Nat}, Chn E (a ++ b) → Chn E b
  | [], _, h => h
  | [x], [], _ => trivial
  | [x], y :: b, h => h.2
  | x :: y :: a, b, h => Chn.suffix (y :: a) h.2
theorem Chn.front {E : Nat → Nat → Bool} : ∀ (a : List Nat) {b : List Nat}, Chn E (a ++ b) → Chn E a
  | [], _, _ => trivial
  | [x], _, _ => trivial
  | x :: y :: a, b, h => ⟨h.1, Chn.front (y :: a) h.2⟩
theorem Chn.join {E : Nat → Nat → Bool} : ∀ (a : List Nat) {z : Nat} {b : List Nat}, Chn E (a ++ [z]) → Chn E (z :: b) → Chn E (a ++ z :: b)
  | [], _, _, _, h => h
  | [x], z, b, h1, h2 => ⟨h1.1, h2⟩
  | x :: y :: a, z, b, h1, h2 => ⟨h1.1, Chn.join (y :: a) h1.2 h2⟩
/-- A list's part before its first element with a property, that element, the rest. -/
theorem first_hit {P : Nat → Prop} : ∀ (q : List Nat), (∃ x ∈ q, P x) → ∃ a z b, q = a ++ z :: b ∧ P z ∧ ∀ x ∈ a, ¬ P x
  | [], h => by obtain ⟨x, hx, _⟩ := h; cases hx
  | y :: q, h => by
    by_cases hy : P y
    · exact ⟨[], y, q, rfl, hy, fun x hx => (by cases hx)⟩
    · obtain ⟨x, hx, hp⟩ := h
      rcases List.mem_cons.1 hx with rfl | hx
      · exact absurd hp hy
      · obtain ⟨a, z, b, e, h1, h2⟩ := first_hit q ⟨x, hx, hp⟩
        refine ⟨y :: a, z, b, by rw [e]; rfl, h1, fun x hx => ?_⟩
        rcases List.mem_cons.1 hx with rfl | hx
        · exact hy
        · exact h2 x hx
theorem last_suffix {α : Type} : ∀ (a : List α) {z : α} {b : List α}, (a ++ z :: b).getLast? = (z :: b).getLast?
  | [], _, _ => rfl
  | [x], z, b => by rw [List.singleton_append, List.getLast?_cons_cons]
  | x :: y :: a, z, b => by
    have := last_suffix (y :: a) (z := z) (b := b)
    rw [← this]
    simp only [List.cons_append]
    rw [List.getLast?_cons_cons]
/-- One of the lists, and the others. -/
theorem pick_out {ps : List (List Nat)} {p : List Nat} (hp : p ∈ ps) {w : Web} (h : Ways w ps) : ∃ qs, qs.length + 1 = ps.length ∧ Ways w qs ∧ (∀ q ∈ qs, q ∈ ps) ∧ ∀ q ∈ qs, ∀ x ∈ q, x ∉ p := by
  induction ps with
  | nil => cases hp
  | cons r ps ih =>
    have ha := List.pairwise_cons.1 h.apart
    have hr : Ways w ps := ⟨fun q hq => h.each q (List.mem_cons_of_mem _ hq), ha.2⟩
    rcases List.mem_cons.1 hp with rfl | hp'
    · exact ⟨ps, rfl, hr, fun q hq => List.mem_cons_of_mem _ hq, fun q hq x hx hxp => ha.1 q hq x hxp hx⟩
    · obtain ⟨qs, e1, e2, e3, e4⟩ := ih hp' hr
      refine ⟨r :: qs, by simp [e1], ⟨fun q hq => ?_, List.pairwise_cons.2 ⟨fun q hq => ha.1 q (e3 q hq), e2.apart⟩⟩, fun q hq => ?_, fun q hq x hx hxp => ?_⟩
      · rcases List.mem_cons.1 hq with rfl | hq
        · exact h.each q List.mem_cons_self
        · exact e2.each q hq
      · rcases List.mem_cons.1 hq with rfl | hq
        · exact List.mem_cons_self
        · exact List.mem_cons_of_mem _ (e3 q hq)
      · rcases List.mem_cons.1 hq with rfl | hq
        · exact ha.1 p hp' x hx hxp
        · exact e4 q hq x hx hxp
/-- The same ways, where the first of each is an origin and none of the others' is used. -/
theorem Ways.into {w : Web} {o o' X Y : Nat → Bool} {qs : List (List Nat)} (h : Ways (sub w o X) qs) (ho : ∀ q ∈ qs, ∀ x r, q = x :: r → o x = true → o' x = true) (hY : ∀ q ∈ qs, ∀ x ∈ q, Y x = false) : Ways (sub w o' (or2 X Y)) qs := by
  refine ⟨fun q hq => ?_, h.apart⟩
  have hw := h.each q hq
  obtain ⟨x, r, e, hx⟩ := hw.org
  refine ⟨⟨x, r, e, ho q hq x r e hx⟩, fun y hy => ⟨(hw.ok y hy).1, ?_⟩, hw.chn, hw.said, hw.nodup⟩
  have h1 := (hw.ok y hy).2
  have h2 := hY q hq y hy
  show (w.wo y || (X y || Y y)) = false
  have h1' : (w.wo y || X y) = false := h1
  rw [h2, Bool.or_false]
  exact h1'
theorem exchange {w : Web} {o X : Nat → Bool} {l k : Nat} (h1 : ∃ q, Way (sub w (one l) X) q) (h2 : ∃ ps, ps.length = k + 1 ∧ Ways (sub w (or2 o (one l)) X) ps) :
    ∃ t qs, Way (sub w (one l) X) (l :: t) ∧ qs.length = k ∧ Ways (sub w o (or2 X (inL (l :: t)))) qs := by
  obtain ⟨ps, hpl, hps⟩ := h2
  by_cases hl : ∃ p ∈ ps, l ∈ p
  · obtain ⟨p, hp, hlp⟩ := hl
    obtain ⟨a, b, e⟩ := List.append_of_mem hlp
    obtain ⟨qs, e1, e2, e3, e4⟩ := pick_out hp hps
    have hw := hps.each p hp
    subst e
    refine ⟨b, qs, ⟨⟨l, b, rfl, by unfold sub one; simp⟩, fun x hx => hw.ok x (List.mem_append_right _ hx), Chn.suffix a hw.chn, ?_, (List.nodup_append.1 hw.nodup).2.1⟩, by omega, e2.into (fun q hq x r e hx => ?_) (fun q hq x hx => ?_)⟩
    · obtain ⟨x, hx, hs⟩ := hw.said
      exact ⟨x, by rw [← hx, last_suffix], hs⟩
    · have hne : x ≠ l := fun e' => e4 q hq x (by rw [e]; exact List.mem_cons_self) (by rw [e']; simp)
      have hx' : (o x || one l x) = true := hx
      have : one l x = false := by unfold one; simp [hne]
      rw [this, Bool.or_false] at hx'
      exact hx'
    · rw [← Bool.not_eq_true, inL_iff]
      intro hm
      exact e4 q hq x hx (List.mem_append_right _ hm)
  · obtain ⟨q, hq⟩ := h1
    obtain ⟨x0, t, e0, hx0⟩ := hq.org
    have hx0l : x0 = l := by
      have : one l x0 = true := hx0
      unfold one at this
      simpa using this
    subst hx0l
    subst e0
    have horg : ∀ qs : List (List Nat), (∀ q ∈ qs, q ∈ ps) → ∀ q ∈ qs, ∀ x r, q = x :: r → (or2 o (one x0)) x = true → o x = true := fun qs hs q hq' x r e hx => by
      have hne : x ≠ x0 := fun e' => hl ⟨q, hs q hq', by rw [e, e']; exact List.mem_cons_self⟩
      have hx' : (o x || one x0 x) = true := hx
      have : one x0 x = false := by unfold one; simp [hne]
      rw [this, Bool.or_false] at hx'
      exact hx'
    by_cases hit : ∃ x ∈ x0 :: t, ∃ p ∈ ps, x ∈ p
    · obtain ⟨a, z, b, e, ⟨p, hp, hzp⟩, hno⟩ := first_hit (P := fun x => ∃ p ∈ ps, x ∈ p) (x0 :: t) hit
      obtain ⟨c, d, ep⟩ := List.append_of_mem hzp
      obtain ⟨qs, e1, e2, e3, e4⟩ := pick_out hp hps
      have hw := hps.each p hp
      have hqn := hq.nodup
      have hqc := hq.chn
      rw [e] at hqn hqc
      subst ep
      have hdis : ∀ x ∈ a, x ∉ z :: d := fun x hx hxd => hno x hx ⟨_, hp, List.mem_append_right _ hxd⟩
      have hR : ∃ t', a ++ z :: d = x0 :: t' := by
        cases a with
        | nil =>
          have : x0 = z := by simpa using (List.cons.inj (show x0 :: t = z :: b from e)).1
          exact ⟨d, by rw [this]; rfl⟩
        | cons y a =>
          have : x0 = y := (List.cons.inj e).1
          exact ⟨a ++ z :: d, by rw [this]; rfl⟩
      obtain ⟨t', et⟩ := hR
      have hway : Way (sub w (one x0) X) (x0 :: t') := by
        rw [← et]
        refine ⟨⟨x0, t', et, hx0⟩, fun x hx => ?_, ?_, ?_, ?_⟩
        · rcases List.mem_append.1 hx with hx | hx
          · exact hq.ok x (by rw [e]; exact List.mem_append_left _ hx)
          · exact hw.ok x (List.mem_append_right _ hx)
        · refine Chn.join a (Chn.front (a ++ [z]) (b := b) ?_) (Chn.suffix c hw.chn)
          rw [List.append_assoc]
          exact hqc
        · obtain ⟨x, hx, hs⟩ := hw.said
          exact ⟨x, by rw [last_suffix, ← hx, last_suffix], hs⟩
        · exact List.nodup_append.2 ⟨(List.nodup_append.1 hqn).1, (List.nodup_append.1 hw.nodup).2.1, fun x hx y hy e' => hdis x hx (by rw [e']; exact hy)⟩
      refine ⟨t', qs, hway, by omega, e2.into (horg qs e3) (fun q' hq' x hx => ?_)⟩
      rw [← Bool.not_eq_true, inL_iff, ← et]
      intro hm
      rcases List.mem_append.1 hm with hm | hm
      · exact hno x hm ⟨q', e3 q' hq', hx⟩
      · exact e4 q' hq' x hx (List.mem_append_right _ hm)
    · match ps, hpl, hps with
      | [], hpl, _ => simp at hpl
      | p :: qs, hpl, hps =>
        have hr : Ways (sub w (or2 o (one x0)) X) qs := ⟨fun q hq => hps.each q (List.mem_cons_of_mem _ hq), (List.pairwise_cons.1 hps.apart).2⟩
        refine ⟨t, qs, hq, by simpa using hpl, hr.into (horg qs (fun q hq => List.mem_cons_of_mem _ hq)) (fun q' hq' x hx => ?_)⟩
        rw [← Bool.not_eq_true, inL_iff]
        intro hm
        exact hit ⟨x, hm, q', List.mem_cons_of_mem _ hq', hx⟩
/-! ### The least number, and how a way may begin -/
open Classical in
noncomputable def mc (w : Web) : Nat := if h : ∃ n : Nat, MinCut w n then Classical.choose h else 0
/-- There are two sources or more, and none quotes itself. -/
structure Fit (w : Web) : Prop where
  two : 2 ≤ w.K
  irr : ∀ x, w.E x x = false
theorem Fit.sub {w : Web} (h : Fit w) (o X : Nat → Bool) : Fit (sub w o X) := ⟨h.two, h.irr⟩
theorem mc_spec {w : Web} (h : Fit w) : MinCut w (mc w) := by
  have he : ∃ n : Nat, MinCut w n := by obtain ⟨n, h1, _⟩ := exists_min h.two h.irr; exact ⟨n, h1⟩
  unfold mc
  rw [dif_pos he]
  exact Classical.choose_spec he
theorem mc_eq {w : Web} (h : Fit w) {n : Nat} (hn : MinCut w n) : mc w = n := by
  have := (mc_spec h).unique hn
  omega
theorem ways_mc {w : Web} (h : Fit w) : ∃ ps, ps.length = mc w ∧ Ways w ps := by
  obtain ⟨n, h1, ps, e, h2⟩ := exists_min h.two h.irr
  exact ⟨ps, by rw [e, mc_eq h h1], h2⟩
theorem Ways.le_mc {w : Web} (h : Fit w) {ps : List (List Nat)} (hp : Ways w ps) : ps.length ≤ mc w := by
  obtain ⟨D, hD, e⟩ := (mc_spec h).some_
  have := hp.le_cut hD
  omega
theorem mc_le {w : Web} (h : Fit w) {D : Nat → Bool} (hD : Cut w D) : (mc w : Int) ≤ count w.K D := (mc_spec h).least D hD
theorem Ways.take {w : Web} {ps : List (List Nat)} (h : Ways w ps) (k : Nat) : Ways w (ps.take k) :=
  ⟨fun p hp => h.each p (List.mem_of_mem_take hp), h.apart.sublist (List.take_sublist _ _)⟩
theorem ways_of {w : Web} (h : Fit w) {k : Nat} (hk : k ≤ mc w) : ∃ ps, ps.length = k ∧ Ways w ps := by
  obtain ⟨ps, e, hp⟩ := ways_mc h
  exact ⟨ps.take k, by rw [List.length_take]; omega, hp.take k⟩
/-- A way's beginning. -/
structure Begun (w : Web) (U : Nat → Bool) (v : List Nat) : Prop where
  org : ∃ x r, v = x :: r ∧ w.org x = true
  ok : ∀ x ∈ v, x < w.K ∧ w.wo x = false ∧ U x = false
  chn : Chn w.E v
  nodup : v.Nodup
/-- It can be completed, and leaves so many. -/
def Ext (w : Web) (U : Nat → Bool) (rest : Nat) (v : List Nat) : Prop := ∃ t, Way (sub w w.org U) (v ++ t) ∧ rest ≤ mc (sub w w.org (or2 U (inL (v ++ t))))
/-- What the program asks of a beginning p with a further source l. -/
def CanP (w : Web) (U : Nat → Bool) (p : List Nat) (l all : Nat) : Prop := mc (sub w (one l) (or2 U (inL p))) = 1 ∧ all ≤ mc (sub w (or2 w.org (one l)) (or2 U (inL p)))
theorem or2_assoc (a b c : Nat → Bool) : or2 (or2 a b) c = or2 a (or2 b c) := by funext i; simp [or2, Bool.or_assoc]
theorem inL_append (p q : List Nat) : inL (p ++ q) = or2 (inL p) (inL q) := by funext i; simp [inL, or2]
theorem one_cut {w : Web} {l : Nat} {X : Nat → Bool} : Cut (sub w (one l) X) (one l) := by
  have : ∀ x, Reach (sub w (one l) X) (one l) x → x = l := by
    intro x hx
    induction hx with
    | base hi ho _ =>
      have ho : one l _ = true := ho
      unfold one at ho
      simpa using ho
    | step hx hw hd hy he ih =>
      subst ih
      unfold one at hd
      simp at hd
  intro x hx _ hd _
  rw [this x hx] at hd
  unfold one at hd
  simp at hd
theorem count_one {K l : Nat} (hl : l < K) : count K (one l) = 1 := by
  unfold count
  rw [sum_one (k := l) hl (fun i _ hne => by unfold one; simp [hne])]
  unfold one; simp
theorem can_iff {w : Web} (hf : Fit w) {U : Nat → Bool} {p : List Nat} {l rest : Nat} (hb : Begun w U (p ++ [l])) : CanP w U p l (rest + 1) ↔ Ext w U rest (p ++ [l]) := by
  have hl : l < w.K := (hb.ok l (by simp)).1
  constructor
  · rintro ⟨h1, h2⟩
    obtain ⟨ps1, e1, w1⟩ := ways_mc (hf.sub (one l) (or2 U (inL p)))
    obtain ⟨ps2, e2, w2⟩ := ways_of (hf.sub (or2 w.org (one l)) (or2 U (inL p))) h2
    have hq : ∃ q, Way (sub w (one l) (or2 U (inL p))) q := by
      match ps1, e1, w1 with
      | [], e1, _ => rw [h1] at e1; simp at e1
      | q :: _, _, w1 => exact ⟨q, w1.each q List.mem_cons_self⟩
    obtain ⟨t, qs, hw, e3, w3⟩ := exchange hq ⟨ps2, e2, w2⟩
    have hno : ∀ x ∈ l :: t, w.wo x = false ∧ U x = false ∧ x ∉ p := fun x hx => by
      have h := (hw.ok x hx).2
      have h : (w.wo x || (U x || inL p x)) = false := h
      simp only [Bool.or_eq_false_iff] at h
      refine ⟨h.1, h.2.1, fun hm => ?_⟩
      rw [inL_iff.2 hm] at h
      cases h.2.2
    refine ⟨t, ?_, ?_⟩
    · rw [List.append_assoc]
      refine ⟨?_, fun x hx => ?_, Chn.join p hb.chn hw.chn, ?_, ?_⟩
      · obtain ⟨x, r, e, ho⟩ := hb.org
        cases p with
        | nil =>
          have : l = x := (List.cons.inj e).1
          exact ⟨l, t, rfl, by rw [this]; exact ho⟩
        | cons y p =>
          have : y = x := (List.cons.inj e).1
          exact ⟨y, p ++ [l] ++ t, by simp, by rw [this]; exact ho⟩
      · rcases List.mem_append.1 hx with hx | hx
        · have := hb.ok x (List.mem_append_left _ hx)
          refine ⟨this.1, ?_⟩
          show (w.wo x || U x) = false
          rw [this.2.1, this.2.2]; rfl
        · have := hno x hx
          refine ⟨(hw.ok x hx).1, ?_⟩
          show (w.wo x || U x) = false
          rw [this.1, this.2.1]; rfl
      · obtain ⟨x, hx, hs⟩ := hw.said
        refine ⟨x, ?_, hs⟩
        show (p ++ l :: t).getLast? = some x
        rw [last_suffix]; exact hx
      · exact List.nodup_append.2 ⟨(List.nodup_append.1 hb.nodup).1, hw.nodup, fun x hx y hy e => (hno y hy).2.2 (by rw [← e]; exact hx)⟩
    · have := w3.le_mc (hf.sub _ _)
      rw [e3] at this
      rw [List.append_assoc, inL_append, ← or2_assoc]
      exact this
  · rintro ⟨t, hw, hr⟩
    rw [List.append_assoc] at hw hr
    have hway : ∀ o : Nat → Bool, o l = true → Way (sub w o (or2 U (inL p))) (l :: t) := fun o ho => by
      have hn := List.nodup_append.1 hw.nodup
      refine ⟨⟨l, t, rfl, ho⟩, fun x hx => ⟨(hw.ok x (List.mem_append_right _ hx)).1, ?_⟩, Chn.suffix p hw.chn, ?_, hn.2.1⟩
      · have h := (hw.ok x (List.mem_append_right _ hx)).2
        have h : (w.wo x || U x) = false := h
        simp only [Bool.or_eq_false_iff] at h
        show (w.wo x || (U x || inL p x)) = false
        rw [h.1, h.2]
        rw [← Bool.not_eq_true]
        intro hm
        exact hn.2.2 x (inL_iff.1 (by simpa using hm)) x hx rfl
      · obtain ⟨x, hx, hs⟩ := hw.said
        have hx : (p ++ l :: t).getLast? = some x := hx
        exact ⟨x, by rw [← last_suffix p]; exact hx, hs⟩
    constructor
    · have h1 := (show Ways (sub w (one l) (or2 U (inL p))) [l :: t] from ⟨fun q hq => by rw [List.mem_singleton.1 hq]; exact hway _ (by unfold one; simp), List.pairwise_singleton _ _⟩).le_mc (hf.sub _ _)
      have h2 := mc_le (hf.sub (one l) (or2 U (inL p))) one_cut
      have h3 : count (sub w (one l) (or2 U (inL p))).K (one l) = 1 := count_one hl
      simp only [List.length_singleton] at h1
      omega
    · obtain ⟨qs, e, w2⟩ := ways_of (hf.sub w.org (or2 U (inL (p ++ l :: t)))) hr
      have hno : ∀ q ∈ qs, ∀ x ∈ q, w.wo x = false ∧ U x = false ∧ x ∉ p ∧ x ∉ l :: t := fun q hq x hx => by
        have h := ((w2.each q hq).ok x hx).2
        have h : (w.wo x || (U x || inL (p ++ l :: t) x)) = false := h
        simp only [Bool.or_eq_false_iff] at h
        refine ⟨h.1, h.2.1, fun hm => ?_, fun hm => ?_⟩
        · rw [inL_iff.2 (List.mem_append_left _ hm)] at h; cases h.2.2
        · rw [inL_iff.2 (List.mem_append_right _ hm)] at h; cases h.2.2
      have hall : Ways (sub w (or2 w.org (one l)) (or2 U (inL p))) ((l :: t) :: qs) := by
        refine ⟨fun q hq => ?_, List.pairwise_cons.2 ⟨fun q hq x hx hxq => (hno q hq x hxq).2.2.2 hx, w2.apart⟩⟩
        rcases List.mem_cons.1 hq with rfl | hq
        · exact hway _ (by unfold or2 one; simp)
        · have hw2 := w2.each q hq
          obtain ⟨x, r, ex, hx⟩ := hw2.org
          refine ⟨⟨x, r, ex, ?_⟩, fun y hy => ⟨(hw2.ok y hy).1, ?_⟩, hw2.chn, hw2.said, hw2.nodup⟩
          · have hx : w.org x = true := hx
            show (w.org x || one l x) = true
            rw [hx]; rfl
          · have h := hno q hq y hy
            show (w.wo y || (U y || inL p y)) = false
            rw [h.1, h.2.1]
            rw [← Bool.not_eq_true]
            intro hm
            exact h.2.2.1 (inL_iff.1 (by simpa using hm))
      have := hall.le_mc (hf.sub _ _)
      simp only [List.length_cons] at this
      omega
/-! ### The least ways -/
/-- May this source follow the last one, or be the first? -/
def after (w : Web) (v : List Nat) (i : Nat) : Bool := match v.getLast? with
  | none => w.org i
  | some x => w.E x i
open Classical in
/-- The sources that the program tries behind v, and those that it takes. -/
noncomputable def fits (w : Web) (U : Nat → Bool) (v : List Nat) (all : Nat) (i : Nat) : Bool := after w v i && (!U i && (!inL v i && (!w.wo i && decide (CanP w U v i all))))
noncomputable def isDone (w : Web) (U : Nat → Bool) (v : List Nat) (rest : Nat) : Bool := (match v.getLast? with | none => false | some x => w.said x) && decide (rest ≤ mc (sub w w.org (or2 U (inL v))))
/-- A way, source by source. -/
noncomputable def grow (w : Web) (U : Nat → Bool) (rest : Nat) : Nat → List Nat → Option (List Nat)
  | 0, _ => none
  | k + 1, v => if isDone w U v rest = true then some v else match (List.range w.K).find? (fits w U v (rest + 1)) with
    | none => none
    | some i => grow w U rest k (v ++ [i])
theorem begun_snoc {w : Web} {U : Nat → Bool} {v : List Nat} {i : Nat} (hv : v = [] ∨ Begun w U v) (hi : i < w.K) (ha : after w v i = true) (hU : U i = false) (hn : i ∉ v) (hw : w.wo i = false) : Begun w U (v ++ [i]) := by
  rcases hv with rfl | hv
  · exact ⟨⟨i, [], rfl, ha⟩, fun x hx => (by rw [show x = i by simpa using hx]; exact ⟨hi, hw, hU⟩), trivial, by simp⟩
  · refine ⟨?_, fun x hx => ?_, ?_, ?_⟩
    · obtain ⟨x, r, e, ho⟩ := hv.org
      exact ⟨x, r ++ [i], by rw [e]; rfl, ho⟩
    · rcases List.mem_append.1 hx with hx | hx
      · exact hv.ok x hx
      · obtain rfl : x = i := by simpa using hx
        exact ⟨hi, hw, hU⟩
    · have key : ∀ (a : List Nat) (x : Nat), a.getLast? = some x → Chn w.E a → w.E x i = true → Chn w.E (a ++ [i]) := by
        intro a
        induction a with
        | nil => intro x h; simp at h
        | cons y a ih =>
          intro x h hc he
          cases a with
          | nil =>
            obtain rfl : y = x := by simpa using h
            exact ⟨he, trivial⟩
          | cons z a =>
            rw [List.getLast?_cons_cons] at h
            exact ⟨hc.1, ih x h hc.2 he⟩
      cases hl : v.getLast? with
      | none =>
        obtain ⟨x, r, e, _⟩ := hv.org
        rw [e] at hl
        simp at hl
      | some x =>
        unfold after at ha
        rw [hl] at ha
        exact key v x hl hv.chn ha
    · exact List.nodup_append.2 ⟨hv.nodup, by simp, fun x hx y hy e => hn (by rw [← show y = i by simpa using hy, ← e]; exact hx)⟩
theorem after_of_way {w : Web} {U : Nat → Bool} {v : List Nat} {i : Nat} {t : List Nat} (h : Way (sub w w.org U) (v ++ i :: t)) : i < w.K ∧ after w v i = true ∧ U i = false ∧ i ∉ v ∧ w.wo i = false := by
  have hok := h.ok i (by simp)
  have hok2 : (w.wo i || U i) = false := hok.2
  simp only [Bool.or_eq_false_iff] at hok2
  have hn := List.nodup_append.1 h.nodup
  refine ⟨hok.1, ?_, hok2.2, fun hm => hn.2.2 i hm i List.mem_cons_self rfl, hok2.1⟩
  cases hl : v.getLast? with
  | none =>
    obtain rfl : v = [] := by simpa using hl
    obtain ⟨x, r, e, ho⟩ := h.org
    have : i = x := (List.cons.inj e).1
    unfold after
    simp only [List.getLast?_nil]
    rw [this]
    exact ho
  | some x =>
    unfold after
    rw [hl]
    have key : ∀ (a : List Nat) (x : Nat), a.getLast? = some x → Chn w.E (a ++ i :: t) → w.E x i = true := by
      intro a
      induction a with
      | nil => intro x h; simp at h
      | cons y a ih =>
        intro x h hc
        cases a with
        | nil =>
          obtain rfl : y = x := by simpa using h
          exact hc.1
        | cons z a =>
          rw [List.getLast?_cons_cons] at h
          exact ih x h hc.2
    exact key v x hl h.chn
theorem nodup_len {K : Nat} {v : List Nat} (hn : v.Nodup) (hl : ∀ x ∈ v, x < K) : v.length ≤ K := by
  have := len_le_count (K := K) (D := fun _ => true) hn (fun x hx => ⟨hl x hx, rfl⟩)
  rw [count_all] at this
  omega
theorem grow_spec {w : Web} (hf : Fit w) {U : Nat → Bool} {rest : Nat} : ∀ (k : Nat) (v : List Nat), w.K < k + v.length → (v = [] ∨ Begun w U v) → Ext w U rest v → ∃ p, grow w U rest k v = some p ∧ Way (sub w w.org U) p ∧ rest ≤ mc (sub w w.org (or2 U (inL p)))
  | 0, v, hk, hv, _ => by
    rcases hv with rfl | hv
    · simp at hk
    · have := nodup_len hv.nodup (fun x hx => (hv.ok x hx).1)
      omega
  | k + 1, v, hk, hv, he => by
    unfold grow
    by_cases hd : isDone w U v rest = true
    · rw [if_pos hd]
      unfold isDone at hd
      simp only [Bool.and_eq_true, decide_eq_true_eq] at hd
      refine ⟨v, rfl, ?_, hd.2⟩
      rcases hv with rfl | hv
      · simp at hd
      · refine ⟨hv.org, fun x hx => ⟨(hv.ok x hx).1, ?_⟩, hv.chn, ?_, hv.nodup⟩
        · show (w.wo x || U x) = false
          rw [(hv.ok x hx).2.1, (hv.ok x hx).2.2]; rfl
        · cases hl : v.getLast? with
          | none => rw [hl] at hd; simp at hd
          | some x => rw [hl] at hd; exact ⟨x, rfl, hd.1⟩
    · rw [if_neg hd]
      obtain ⟨t, hw, hr⟩ := he
      cases t with
      | nil =>
        exfalso
        apply hd
        rw [List.append_nil] at hw hr
        unfold isDone
        simp only [Bool.and_eq_true, decide_eq_true_eq]
        refine ⟨?_, hr⟩
        obtain ⟨x, hx, hs⟩ := hw.said
        rw [hx]
        exact hs
      | cons i t =>
        obtain ⟨a1, a2, a3, a4, a5⟩ := after_of_way hw
        have hb := begun_snoc hv a1 a2 a3 a4 a5
        have hcan := (can_iff hf (rest := rest) hb).2 ⟨t, by rw [List.append_assoc]; exact hw, by rw [List.append_assoc]; exact hr⟩
        have hfit : fits w U v (rest + 1) i = true := by
          unfold fits
          have h4 : inL v i = false := by rw [← Bool.not_eq_true, inL_iff]; exact a4
          simp [a2, a3, h4, a5, hcan]
        cases hfd : (List.range w.K).find? (fits w U v (rest + 1)) with
        | none =>
          have := List.find?_eq_none.1 hfd i (List.mem_range.2 a1)
          exact absurd hfit this
        | some j =>
          have hj := List.find?_some hfd
          have hjK := List.mem_range.1 (List.mem_of_find?_eq_some hfd)
          unfold fits at hj
          simp only [Bool.and_eq_true, Bool.not_eq_true', decide_eq_true_eq] at hj
          have hjn : j ∉ v := fun hm => by rw [inL_iff.2 hm] at hj; cases hj.2.2.1
          have hbj := begun_snoc hv hjK hj.1 hj.2.1 hjn hj.2.2.2.1
          have hej := (can_iff hf hbj).1 hj.2.2.2.2
          obtain ⟨p, h1, h2, h3⟩ := grow_spec hf k (v ++ [j]) (by simp; omega) (.inr hbj) hej
          exact ⟨p, h1, h2, h3⟩
/-- There is a way that leaves so many, if there is one more. -/
theorem ext_nil {w : Web} (hf : Fit w) {U : Nat → Bool} {rest : Nat} (h : rest + 1 ≤ mc (sub w w.org U)) : Ext w U rest [] := by
  obtain ⟨ps, e, hp⟩ := ways_of (hf.sub w.org U) h
  match ps, e, hp with
  | [], e, _ => simp at e
  | p :: qs, e, hp =>
    refine ⟨p, hp.each p List.mem_cons_self, ?_⟩
    have hr : Ways (sub w w.org U) qs := ⟨fun q hq => hp.each q (List.mem_cons_of_mem _ hq), (List.pairwise_cons.1 hp.apart).2⟩
    have := (hr.into (o' := w.org) (Y := inL p) (fun _ _ _ _ _ h => h) (fun q hq x hx => by
      rw [← Bool.not_eq_true, inL_iff]
      exact fun hm => (List.pairwise_cons.1 hp.apart).1 q hq x hm hx)).le_mc (hf.sub _ _)
    simp only [List.length_cons] at e
    show rest ≤ mc (sub w w.org (or2 U (inL p)))
    omega
/-- The ways, one after the other, as many as are left. -/
noncomputable def leastF (w : Web) : Nat → (Nat → Bool) → List (List Nat)
  | 0, _ => []
  | r + 1, U => match grow w U r (w.K + 1) [] with
    | none => []
    | some p => p :: leastF w r (or2 U (inL p))
theorem leastF_spec {w : Web} (hf : Fit w) : ∀ (r : Nat) (U : Nat → Bool), r ≤ mc (sub w w.org U) → (leastF w r U).length = r ∧ Ways (sub w w.org U) (leastF w r U)
  | 0, U, _ => ⟨rfl, fun p hp => (by cases hp), List.Pairwise.nil⟩
  | r + 1, U, h => by
    obtain ⟨p, e, hw, hr⟩ := grow_spec hf (w.K + 1) [] (by simp) (.inl rfl) (ext_nil hf h)
    obtain ⟨h1, h2⟩ := leastF_spec hf r (or2 U (inL p)) hr
    unfold leastF
    rw [e]
    refine ⟨by simp [h1], fun q hq => ?_, List.pairwise_cons.2 ⟨fun q hq x hx hxq => ?_, h2.apart⟩⟩
    · rcases List.mem_cons.1 hq with rfl | hq
      · exact hw
      · have hq2 := h2.each q hq
        refine ⟨hq2.org, fun x hx => ⟨(hq2.ok x hx).1, ?_⟩, hq2.chn, hq2.said, hq2.nodup⟩
        have h3 : (w.wo x || (U x || inL p x)) = false := (hq2.ok x hx).2
        simp only [Bool.or_eq_false_iff] at h3
        show (w.wo x || U x) = false
        rw [h3.1, h3.2.1]; rfl
    · have h3 : (w.wo x || (U x || inL p x)) = false := ((h2.each q hq).ok x hxq).2
      simp only [Bool.or_eq_false_iff] at h3
      rw [inL_iff.2 hx] at h3
      cases h3.2.2
/-! ### The first cut -/
open Classical in
/-- The sources whose entry room leads to, and not to their exit. -/
noncomputable def cutB (w : Web) (R : Nat → Nat → Int) (i : Nat) : Bool := cutOf w (fun a => decide (Seen w R a)) i
open Classical in
theorem seen_side {w : Web} {R R' : Nat → Nat → Int} {n n' : Int} (hf : Fit w) (h : Inv w R n) (h' : Inv w R' n') (hs : ¬ Seen w R (2 * w.K + 1)) (hs' : ¬ Seen w R' (2 * w.K + 1)) : ∀ a, Seen w R a → Seen w R' a := by
  have c := closed_seen hs
  have c' := closed_seen hs'
  have e : n = n' := (c.min h hf.two hf.irr).unique (c'.min h' hf.two hf.irr)
  have hcut := c'.cut h' hf.two
  have hcount := c'.count h' hf.two hf.irr
  have hin : ∀ x, Reach w (cutB w R') x → Seen w R' x := by
    intro x hx
    have : (fun a => decide (Seen w R' a)) x = true := by
      induction hx with
      | base hi ho hw => exact c'.enter h' hf.two hi ho hw
      | step hx hw hd hy he ih => exact c'.step h' hf.two hx.lt hy he hw ih hd
    simpa using this
  intro a ha
  have hside : side w (cutB w R') a = true := by
    induction ha with
    | base => exact side_first
    | @step a b ha hb hr ih =>
      rw [← Bool.not_eq_false]
      intro h2
      have := least_side h hcut (by rw [hcount, e]) a b ha.lt hb ih h2
      omega
  unfold side at hside
  split at hside
  · exact hin a (by simpa using hside)
  · split at hside
    · rename_i h1 h2
      have hside : Reach w (cutB w R') (a - w.K) ∧ w.wo (a - w.K) = false ∧ cutB w R' (a - w.K) = false := by simpa using hside
      obtain ⟨r1, r2, r3⟩ := hside
      have h3 := hin _ r1
      unfold cutB cutOf at r3
      rw [show w.K + (a - w.K) = a by omega, r2] at r3
      simpa [h3] using r3
    · have : a = 2 * w.K := by simpa using hside
      rw [this]
      exact Seen.base
theorem cutB_same {w : Web} {R R' : Nat → Nat → Int} {n n' : Int} (hf : Fit w) (h : Inv w R n) (h' : Inv w R' n') (hs : ¬ Seen w R (2 * w.K + 1)) (hs' : ¬ Seen w R' (2 * w.K + 1)) : cutB w R = cutB w R' := by
  have e : Seen w R = Seen w R' := by
    funext a
    exact propext ⟨seen_side hf h h' hs hs' a, seen_side hf h' h hs' hs a⟩
  funext i
  unfold cutB
  rw [e]
theorem max_ex (w : Web) : ∃ (m : Nat) (R' : Nat → Nat → Int), Inv w R' m ∧ ¬ Seen w R' (2 * w.K + 1) := max_flow w.K (Inv.zero w) (Nat.sub_le _ _)
/-- The first cut: a set. -/
noncomputable def firstB (w : Web) : Nat → Bool := cutB w (Classical.choose (Classical.choose_spec (max_ex w)))
theorem firstB_eq {w : Web} (hf : Fit w) {R : Nat → Nat → Int} {n : Int} (h : Inv w R n) (hs : ¬ Seen w R (2 * w.K + 1)) : cutB w R = firstB w := by
  have hc := Classical.choose_spec (Classical.choose_spec (max_ex w))
  exact cutB_same hf h hc.1 hs hc.2
theorem firstB_cut {w : Web} (hf : Fit w) : Cut w (firstB w) ∧ count w.K (firstB w) = mc w := by
  obtain ⟨m, R, h, hs⟩ := max_ex w
  rw [← firstB_eq hf h hs]
  have c := closed_seen hs
  refine ⟨c.cut h hf.two, ?_⟩
  have h1 : count w.K (cutB w R) = m := c.count h hf.two hf.irr
  rw [h1, mc_eq hf (c.min h hf.two hf.irr)]
theorem flow_mc {w : Web} (hf : Fit w) {R : Nat → Nat → Int} {n : Nat} (h : Inv w R n) (hs : ¬ Seen w R (2 * w.K + 1)) : mc w = n := mc_eq hf ((closed_seen hs).min h hf.two hf.irr)
/-! ### The first cut, said without a flow -/
def IsMin (w : Web) (D : Nat → Bool) : Prop := Cut w D ∧ count w.K D = mc w
theorem firstB_iff {w : Web} (hf : Fit w) {i : Nat} (hi : i < w.K) : firstB w i = true ↔ (∀ D, IsMin w D → Reach w D i) ∧ w.wo i = false ∧ ∃ D, IsMin w D ∧ D i = true := by
  obtain ⟨m, R, h, hs⟩ := max_ex w
  have hm : mc w = m := flow_mc hf h hs
  rw [← firstB_eq hf h hs]
  have c := closed_seen hs
  have hself : IsMin w (cutB w R) := ⟨c.cut h hf.two, by rw [hm]; exact c.count h hf.two hf.irr⟩
  have hwithin : ∀ D, IsMin w D → ∀ a, Seen w R a → side w D a = true := fun D hD a ha => by
    induction ha with
    | base => exact side_first
    | @step a b ha hb hr ih =>
      rw [← Bool.not_eq_false]
      intro h2
      have := least_side h hD.1 (by rw [hD.2, hm]) a b ha.lt hb ih h2
      omega
  constructor
  · intro hc
    have hc' := hc
    unfold cutB cutOf at hc'
    simp only [Bool.and_eq_true, decide_eq_true_eq, Bool.not_eq_true'] at hc'
    exact ⟨fun D hD => (side_entry hi).1 (hwithin D hD i hc'.1), hc'.2.2, _, hself, hc⟩
  · rintro ⟨h1, h2, D, hD, hDi⟩
    have hr := h1 _ hself
    -- the closed side holds what is reached without its cut
    have hin : ∀ x, Reach w (cutB w R) x → Seen w R x := by
      intro x hx
      have : (fun a => @decide (Seen w R a) (Classical.propDecidable _)) x = true := by
        induction hx with
        | base hi ho hw => exact c.enter h hf.two hi ho hw
        | step hx hw hd hy he ih => exact c.step h hf.two hx.lt hy he hw ih hd
      simpa using this
    have hsi := hin i hr
    have hne : ¬ Seen w R (w.K + i) := fun hse => by
      have := (side_exit hi).1 (hwithin D hD _ hse)
      rw [hDi] at this
      cases this.2.2
    unfold cutB cutOf
    simp [hsi, hne, h2]
theorem firstB_lt {w : Web} (hf : Fit w) {i : Nat} (h : firstB w i = true) (hi : i < w.K) : Reach w (firstB w) i :=
  ((firstB_iff hf hi).1 h).1 _ (firstB_cut hf)
/-- The cut as a list. -/
noncomputable def firstL (w : Web) : List Nat := (List.range w.K).filter (firstB w)
theorem filter_count : ∀ (K : Nat) (D : Nat → Bool), (((List.range K).filter D).length : Int) = count K D
  | 0, _ => rfl
  | K + 1, D => by
    have ih := filter_count K D
    unfold count at ih ⊢
    rw [List.range_succ, List.filter_append, List.length_append, sum_succ, ← ih, List.filter_cons]
    cases h : D K <;> simp
theorem firstL_len {w : Web} (hf : Fit w) : (firstL w).length = mc w := by
  have h1 := filter_count w.K (firstB w)
  have h2 := (firstB_cut hf).2
  unfold firstL
  omega
/-! ### Webs with the same ways -/
/-- The same cuts in every part. -/
structure Alike (w w' : Web) : Prop where
  K : w'.K = w.K
  wo : w'.wo = w.wo
  org : w'.org = w.org
theorem min_same {w w' : Web} (hf : Fit w) (hf' : Fit w') (hK : w'.K = w.K) (h : ∀ D, Cut w D ↔ Cut w' D) : mc w' = mc w := by
  refine mc_eq hf' ⟨?_, fun D hD => ?_⟩
  · obtain ⟨D, hD, e⟩ := (mc_spec hf).some_
    exact ⟨D, (h D).1 hD, by rw [hK]; exact e⟩
  · rw [hK]
    exact (mc_spec hf).least D ((h D).2 hD)
theorem first_same {w w' : Web} (hf : Fit w) (hf' : Fit w') (hK : w'.K = w.K) (hwo : w'.wo = w.wo) (hc : ∀ D, Cut w D ↔ Cut w' D) (hr : ∀ D i, i < w.K → (Reach w D i ↔ Reach w' D i)) : firstL w' = firstL w := by
  unfold firstL
  rw [hK]
  have hm := min_same hf hf' hK hc
  have hIs : ∀ D, IsMin w D ↔ IsMin w' D := fun D => by
    unfold IsMin
    rw [hc D, hK, hm]
  refine List.filter_congr fun i hi => ?_
  have hi := List.mem_range.1 hi
  rw [Bool.eq_iff_iff, firstB_iff hf hi, firstB_iff hf' (by rw [hK]; exact hi), hwo]
  constructor
  · rintro ⟨h1, h2, D, h3, h4⟩
    exact ⟨fun D hD => (hr D i hi).2 (h1 D ((hIs D).1 hD)), h2, D, (hIs D).2 h3, h4⟩
  · rintro ⟨h1, h2, D, h3, h4⟩
    exact ⟨fun D hD => (hr D i hi).1 (h1 D ((hIs D).2 hD)), h2, D, (hIs D).1 h3, h4⟩
/-! ### Plain laws -/
theorem mc_mono {w w' : Web} (hf : Fit w) (hf' : Fit w') (hK : w'.K = w.K) (h : ∀ D, Cut w D → Cut w' D) : mc w' ≤ mc w := by
  obtain ⟨D, hD, e⟩ := (mc_spec hf).some_
  have := (mc_spec hf').least D (h D hD)
  rw [hK, e] at this
  omega
/-- More of D. -/
theorem Reach.anti {w : Web} {D D' : Nat → Bool} (h : ∀ i, D i = true → D' i = true) {x : Nat} (hx : Reach w D' x) : Reach w D x := by
  induction hx with
  | base hi ho hw => exact .base hi ho hw
  | step hx hw hd hy he ih =>
    refine .step ih hw ?_ hy he
    rw [← Bool.not_eq_true]
    intro e
    rw [h _ e] at hd
    cases hd
theorem count_or {K : Nat} {D : Nat → Bool} {x : Nat} : count K (or2 D (one x)) ≤ count K D + 1 := by
  have h : count K (or2 D (one x)) ≤ sum K (fun i => (if D i = true then 1 else 0) + (if i = x then 1 else 0)) := by
    refine sum_le fun i _ => ?_
    unfold or2 one
    by_cases h : i = x <;> cases D i <;> simp [h]
  rw [sum_add] at h
  have h2 : sum K (fun i => if i = x then (1 : Int) else 0) ≤ 1 := by
    by_cases hx : x < K
    · rw [sum_one (k := x) hx (fun i _ hne => if_neg hne), if_pos rfl]; omega
    · rw [sum_none (fun i hi => if_neg (by omega))]; omega
  have h3 : count K D = sum K (fun i => if D i = true then 1 else 0) := rfl
  omega
/-- One more that asserts. -/
theorem mc_more {w w' : Web} (hf : Fit w) (hf' : Fit w') (hK : w'.K = w.K) (hwo : w'.wo = w.wo) (hor : w'.org = w.org) (hE : w'.E = w.E) {x : Nat} (hs : ∀ i, w'.said i = true ↔ w.said i = true ∨ i = x) : mc w ≤ mc w' ∧ mc w' ≤ mc w + 1 := by
  have hr : ∀ D i, Reach w D i ↔ Reach w' D i := fun D i => by
    constructor
    · intro h
      induction h with
      | base hi ho hw => exact .base (by rw [hK]; exact hi) (by rw [hor]; exact ho) (by rw [hwo]; exact hw)
      | step hx hw hd hy he ih => exact .step ih (by rw [hwo]; exact hw) hd (by rw [hK]; exact hy) (by rw [hE]; exact he)
    · intro h
      induction h with
      | base hi ho hw => exact .base (by rw [← hK]; exact hi) (by rw [← hor]; exact ho) (by rw [← hwo]; exact hw)
      | step hx hw hd hy he ih => exact .step ih (by rw [← hwo]; exact hw) hd (by rw [← hK]; exact hy) (by rw [← hE]; exact he)
  constructor
  · exact mc_mono hf' hf hK.symm fun D hD y hy hw hd hsy => hD y ((hr D y).1 hy) (by rw [hwo]; exact hw) hd ((hs y).2 (.inl hsy))
  · obtain ⟨D, hD, e⟩ := (mc_spec hf).some_
    have hc : Cut w' (or2 D (one x)) := fun y hy hw hd hsy => by
      have hd' : (D y || one x y) = false := hd
      simp only [Bool.or_eq_false_iff] at hd'
      have hyx : y ≠ x := fun e => by
        have := hd'.2
        unfold one at this
        simp [e] at this
      have hy2 : Reach w D y := (hr D y).2 (hy.anti fun i hi => by unfold or2; rw [hi]; rfl)
      rcases (hs y).1 hsy with h | h
      · exact hD y hy2 (by rw [← hwo]; exact hw) hd'.1 h
      · exact hyx h
    have h1 := (mc_spec hf').least _ hc
    have h2 := count_or (K := w.K) (D := D) (x := x)
    rw [hK] at h1
    omega
/-- No more than those who assert. -/
theorem mc_said {w : Web} (hf : Fit w) : (mc w : Int) ≤ count w.K w.said := mc_le hf fun x _ _ hd hs => by rw [hs] at hd; cases hd
/-- A further source that quotes one that asserts, and nobody quotes it. -/
theorem mc_copy {w w' : Web} (hf : Fit w) (hf' : Fit w') (hK : w'.K = w.K) (hwo : w'.wo = w.wo) (hor : w'.org = w.org) {a c : Nat} (ha : w.said a = true) (hcE : ∀ y, w.E c y = false) (hE : ∀ x y, w'.E x y = true ↔ w.E x y = true ∨ (x = a ∧ y = c)) (hs : ∀ i, w'.said i = true ↔ w.said i = true ∨ i = c) (hco : w.org c = false) (hci : ∀ x, w.E x c = false) (hac : a ≠ c) : mc w' = mc w := by
  have up : ∀ D i, Reach w D i → Reach w' D i := fun D i h => by
    induction h with
    | base hi ho hw => exact .base (by rw [hK]; exact hi) (by rw [hor]; exact ho) (by rw [hwo]; exact hw)
    | step hx hw hd hy he ih => exact .step ih (by rw [hwo]; exact hw) hd (by rw [hK]; exact hy) ((hE _ _).2 (.inl he))
  have down : ∀ D i, Reach w' D i → Reach w D i ∨ (i = c ∧ Reach w D a ∧ w.wo a = false ∧ D a = false) := fun D i h => by
    induction h with
    | base hi ho hw => exact .inl (.base (by rw [← hK]; exact hi) (by rw [← hor]; exact ho) (by rw [← hwo]; exact hw))
    | @step x y hx hw hd hy he ih =>
      rw [hwo] at hw
      rw [hK] at hy
      rcases (hE _ _).1 he with he | ⟨rfl, rfl⟩
      · rcases ih with ih | ⟨rfl, _⟩
        · exact .inl (.step ih hw hd hy he)
        · rw [hcE] at he; cases he
      · rcases ih with ih | ⟨e, _⟩
        · exact .inr ⟨rfl, ih, hw, hd⟩
        · exact absurd e hac
  refine min_same hf hf' hK fun D => ⟨fun h y hy hw hd hsy => ?_, fun h y hy hw hd hsy => ?_⟩
  · rcases down D y hy with h1 | ⟨rfl, h1, h2, h3⟩
    · rcases (hs y).1 hsy with h4 | rfl
      · exact h y h1 (by rw [← hwo]; exact hw) hd h4
      · cases h1 with
        | base hi ho _ => rw [hco] at ho; cases ho
        | step _ _ _ _ he => rw [hci] at he; cases he
    · exact h a h1 h2 h3 ha
  · exact h y (up D y hy) (by rw [hwo]; exact hw) hd ((hs y).2 (.inl hsy))
/-- More left out. -/
theorem mc_without {w w' : Web} (hf : Fit w) (hf' : Fit w') (hK : w'.K = w.K) (hwo : ∀ i, w.wo i = true → w'.wo i = true) (hor : w'.org = w.org) (hE : w'.E = w.E) (hs : w'.said = w.said) : mc w' ≤ mc w := by
  have hw2 : ∀ i, w'.wo i = false → w.wo i = false := fun i h => by
    rw [← Bool.not_eq_true]
    intro e
    rw [hwo i e] at h
    cases h
  refine mc_mono hf hf' hK fun D hD x hx hw hd hsx => hD x ?_ (hw2 x hw) hd (by rw [← hs]; exact hsx)
  clear hsx hw hd
  induction hx with
  | base hi ho hw => exact .base (by rw [← hK]; exact hi) (by rw [← hor]; exact ho) (hw2 _ hw)
  | step hx hw hd hy he ih => exact .step ih (hw2 _ hw) hd (by rw [← hK]; exact hy) (by rw [← hE]; exact he)
/-- A source that no way leads to any more. -/
theorem mc_silent {w w' : Web} (hf : Fit w) (hf' : Fit w') (hK : w'.K = w.K) (hwo : w'.wo = w.wo) {i : Nat} {G : Nat → Bool} (hG : ∀ x, w'.org x = true → G x = true) (hGE : ∀ x y, G x = true → w'.E x y = true → G y = true) (hiG : G i = false) (hor : ∀ x, x ≠ i → w'.org x = w.org x) (hE : ∀ x y, G x = true → y ≠ i → w'.E x y = w.E x y) (hEG : ∀ x y, x ≠ i → (w.org y = true → y ≠ i → G y = true) ∧ (G x = true → w.E x y = true → y ≠ i → G y = true)) (hs : ∀ x, G x = true → w'.said x = w.said x) :
    mc w' ≤ mc w ∧ mc w ≤ mc w' + 1 ∧ (firstB w i = true → i < w.K → mc w' + 1 ≤ mc w) := by
  have inG : ∀ D x, Reach w' D x → G x = true := fun D x h => by
    induction h with
    | base hi ho hw => exact hG _ ho
    | step hx hw hd hy he ih => exact hGE _ _ ih he
  have ne : ∀ x, G x = true → x ≠ i := fun x h e => by rw [e, hiG] at h; cases h
  have down : ∀ D x, Reach w' (less D i) x → Reach w D x := fun D x h => by
    induction h with
    | @base y hi ho hw => exact .base (by rw [← hK]; exact hi) (by rw [← hor y (ne y (hG y ho))]; exact ho) (by rw [← hwo]; exact hw)
    | @step x y hx hw hd hy he ih =>
      have hgx := inG _ _ hx
      have hgy := hGE _ _ hgx he
      refine .step ih (by rw [← hwo]; exact hw) ?_ (by rw [← hK]; exact hy) (by rw [← hE x y hgx (ne y hgy)]; exact he)
      have hd' : (D x && decide (x ≠ i)) = false := hd
      simpa [ne x hgx] using hd'
  have hcut : ∀ D, Cut w D → Cut w' (less D i) := fun D hD x hx hw hd hsx => by
    have hgx := inG _ _ hx
    have hd' : (D x && decide (x ≠ i)) = false := hd
    exact hD x (down D x hx) (by rw [← hwo]; exact hw) (by simpa [ne x hgx] using hd') (by rw [← hs x hgx]; exact hsx)
  have hle : ∀ D, count w.K (less D i) ≤ count w.K D := fun D => sum_le fun x _ => by
    unfold less
    cases D x <;> simp
    split <;> omega
  refine ⟨?_, ?_, fun hi hiK => ?_⟩
  · obtain ⟨D, hD, e⟩ := (mc_spec hf).some_
    have h1 := (mc_spec hf').least _ (hcut D hD)
    have h2 := hle D
    rw [hK] at h1
    omega
  · obtain ⟨D, hD, e⟩ := (mc_spec hf').some_
    have up : ∀ x, Reach w (or2 D (one i)) x → x ≠ i → Reach w' D x := fun x h => by
      induction h with
      | @base y hi ho hw => intro hne; exact .base (by rw [hK]; exact hi) (by rw [hor y hne]; exact ho) (by rw [hwo]; exact hw)
      | @step x y hx hw hd hy he ih =>
        intro hne
        have hd' : (D x || one i x) = false := hd
        simp only [Bool.or_eq_false_iff] at hd'
        have hxi : x ≠ i := fun e => by
          have := hd'.2
          unfold one at this
          simp [e] at this
        have hx' := ih hxi
        exact .step hx' (by rw [hwo]; exact hw) hd'.1 (by rw [hK]; exact hy) (by rw [hE x y (inG _ _ hx') hne]; exact he)
    have hc : Cut w (or2 D (one i)) := fun x hx hw hd hsx => by
      have hd' : (D x || one i x) = false := hd
      simp only [Bool.or_eq_false_iff] at hd'
      have hxi : x ≠ i := fun e => by
        have := hd'.2
        unfold one at this
        simp [e] at this
      have hx' := up x hx hxi
      exact hD x hx' (by rw [hwo]; exact hw) hd'.1 (by rw [hs x (inG _ _ hx')]; exact hsx)
    have h1 := (mc_spec hf).least _ hc
    have h2 := count_or (K := w.K) (D := D) (x := i)
    rw [hK] at e
    omega
  · obtain ⟨h1, h2⟩ := firstB_cut hf
    have h3 := (mc_spec hf').least _ (hcut _ h1)
    have h4 := count_less hiK hi
    rw [hK] at h3
    omega
/-! ### Sources that no way reaches -/
/-- The second web adds only what no way reaches: G is what ways may hold. -/
structure Ring (w w' : Web) (G : Nat → Bool) : Prop where
  K : w'.K = w.K
  wo : w'.wo = w.wo
  org : w'.org = w.org
  og : ∀ i, w.org i = true → G i = true
  E : ∀ x y, G x = true → w'.E x y = w.E x y
  cl : ∀ x y, G x = true → w.E x y = true → G y = true
  said : ∀ x, G x = true → w'.said x = w.said x
theorem Ring.part {w w' : Web} {G : Nat → Bool} (h : Ring w w' G) {o X : Nat → Bool} (ho : ∀ i, o i = true → G i = true) : Ring (sub w o X) (sub w' o X) G :=
  ⟨h.K, by show (fun i => w'.wo i || X i) = fun i => w.wo i || X i; rw [h.wo], rfl, ho, h.E, h.cl, h.said⟩
theorem Ring.reach {w w' : Web} {G : Nat → Bool} (h : Ring w w' G) {D : Nat → Bool} {x : Nat} : (Reach w D x ↔ Reach w' D x) ∧ (Reach w D x → G x = true) := by
  have g : ∀ x, Reach w D x → G x = true := fun x hx => by
    induction hx with
    | base hi ho hw => exact h.og _ ho
    | step hx hw hd hy he ih => exact h.cl _ _ ih he
  have up : ∀ x, Reach w D x → Reach w' D x := fun x hx => by
    induction hx with
    | base hi ho hw => exact .base (by rw [h.K]; exact hi) (by rw [h.org]; exact ho) (by rw [h.wo]; exact hw)
    | step hx hw hd hy he ih => exact .step ih (by rw [h.wo]; exact hw) hd (by rw [h.K]; exact hy) (by rw [h.E _ _ (g _ hx)]; exact he)
  have down : ∀ x, Reach w' D x → Reach w D x := fun x hx => by
    induction hx with
    | base hi ho hw => exact .base (by rw [← h.K]; exact hi) (by rw [← h.org]; exact ho) (by rw [← h.wo]; exact hw)
    | step hx hw hd hy he ih => exact .step ih (by rw [← h.wo]; exact hw) hd (by rw [← h.K]; exact hy) (by rw [← h.E _ _ (g _ ih)]; exact he)
  exact ⟨⟨up x, down x⟩, g x⟩
theorem Ring.cut {w w' : Web} {G : Nat → Bool} (h : Ring w w' G) (D : Nat → Bool) : Cut w D ↔ Cut w' D :=
  ⟨fun hD x hx hw hd hs => hD x (h.reach.1.2 hx) (by rw [← h.wo]; exact hw) hd (by rw [← h.said x (h.reach.2 (h.reach.1.2 hx))]; exact hs),
    fun hD x hx hw hd hs => hD x (h.reach.1.1 hx) (by rw [h.wo]; exact hw) hd (by rw [h.said x (h.reach.2 hx)]; exact hs)⟩
theorem Ring.num {w w' : Web} {G : Nat → Bool} (hf : Fit w) (hf' : Fit w') (h : Ring w w' G) : mc w' = mc w := min_same hf hf' h.K h.cut
theorem Ring.cuts {w w' : Web} {G : Nat → Bool} (hf : Fit w) (hf' : Fit w') (h : Ring w w' G) : firstL w' = firstL w := first_same hf hf' h.K h.wo h.cut fun D i _ => h.reach.1
theorem Ring.follow {w w' : Web} {G : Nat → Bool} (h : Ring w w' G) {v : List Nat} (hv : ∀ x ∈ v, G x = true) (i : Nat) : after w' v i = after w v i ∧ (after w v i = true → G i = true) := by
  unfold Flow.after
  cases hl : v.getLast? with
  | none => exact ⟨by simp only [h.org], fun ho => h.og i ho⟩
  | some x =>
    have hx := hv x (List.mem_of_getLast? hl)
    exact ⟨h.E x i hx, fun he => h.cl x i hx he⟩
theorem find_congr {α : Type} : ∀ {l : List α} {p q : α → Bool}, (∀ x ∈ l, p x = q x) → l.find? p = l.find? q
  | [], _, _, _ => rfl
  | a :: l, p, q, h => by
    rw [List.find?_cons, List.find?_cons, h a List.mem_cons_self, find_congr fun x hx => h x (List.mem_cons_of_mem _ hx)]
theorem Ring.takes {w w' : Web} {G : Nat → Bool} (hf : Fit w) (hf' : Fit w') (h : Ring w w' G) {U : Nat → Bool} {v : List Nat} {all : Nat} (hv : ∀ x ∈ v, G x = true) (i : Nat) : fits w' U v all i = fits w U v all i := by
  have ha := h.follow hv i
  unfold Flow.fits
  rw [ha.1, h.wo]
  cases hw : Flow.after w v i with
  | false => simp
  | true =>
    have hgi := ha.2 hw
    have e1 : Flow.mc (sub w' (one i) (or2 U (inL v))) = Flow.mc (sub w (one i) (or2 U (inL v))) := (h.part (o := one i) (X := or2 U (inL v)) (fun j hj => by
      unfold one at hj
      rw [show j = i by simpa using hj]
      exact hgi)).num (hf.sub _ _) (hf'.sub _ _)
    have e2 : Flow.mc (sub w' (or2 w'.org (one i)) (or2 U (inL v))) = Flow.mc (sub w (or2 w.org (one i)) (or2 U (inL v))) := by
      rw [h.org]
      refine (h.part (o := or2 w.org (one i)) (X := or2 U (inL v)) (fun j hj => ?_)).num (hf.sub _ _) (hf'.sub _ _)
      have hj : (w.org j || one i j) = true := hj
      rw [Bool.or_eq_true] at hj
      rcases hj with hj | hj
      · exact h.og j hj
      · unfold one at hj
        rw [show j = i by simpa using hj]
        exact hgi
    have e3 : CanP w' U v i all ↔ CanP w U v i all := by
      unfold CanP
      rw [e1, e2]
    rw [show CanP w' U v i all = CanP w U v i all from propext e3]
theorem Ring.grows {w w' : Web} {G : Nat → Bool} (hf : Fit w) (hf' : Fit w') (h : Ring w w' G) {U : Nat → Bool} {rest : Nat} : ∀ (k : Nat) (v : List Nat), (∀ x ∈ v, G x = true) → grow w' U rest k v = grow w U rest k v
  | 0, v, _ => rfl
  | k + 1, v, hv => by
    unfold Flow.grow
    have hd : isDone w' U v rest = isDone w U v rest := by
      unfold isDone
      have e : Flow.mc (sub w' w'.org (or2 U (inL v))) = Flow.mc (sub w w.org (or2 U (inL v))) := by
        rw [h.org]
        exact (h.part (o := w.org) (X := or2 U (inL v)) h.og).num (hf.sub _ _) (hf'.sub _ _)
      rw [e]
      cases hl : v.getLast? with
      | none => rfl
      | some x => simp only [h.said x (hv x (List.mem_of_getLast? hl))]
    have hfd : (List.range w'.K).find? (Flow.fits w' U v (rest + 1)) = (List.range w.K).find? (Flow.fits w U v (rest + 1)) := by
      rw [h.K]
      exact find_congr fun i _ => h.takes hf hf' hv i
    rw [hd, hfd]
    split
    · rfl
    · cases hq : (List.range w.K).find? (Flow.fits w U v (rest + 1)) with
      | none => rfl
      | some i =>
        have hi := List.find?_some hq
        unfold Flow.fits at hi
        simp only [Bool.and_eq_true] at hi
        exact Ring.grows hf hf' h k (v ++ [i]) fun x hx => by
          rcases List.mem_append.1 hx with hx | hx
          · exact hv x hx
          · rw [show x = i by simpa using hx]
            exact (h.follow hv i).2 hi.1
theorem Ring.ways {w w' : Web} {G : Nat → Bool} (hf : Fit w) (hf' : Fit w') (h : Ring w w' G) : ∀ (r : Nat) (U : Nat → Bool), leastF w' r U = leastF w r U
  | 0, _ => rfl
  | r + 1, U => by
    unfold leastF
    rw [h.K, h.grows hf hf' (w.K + 1) [] (fun x hx => (by cases hx))]
    cases grow w U r (w.K + 1) [] with
    | none => rfl
    | some p => simp only [Ring.ways hf hf' h r (or2 U (inL p))]
/-- None asserts that a way reaches. -/
theorem mc_none {w : Web} (hf : Fit w) (h : ∀ x, Reach w (fun _ => false) x → w.said x = false) : mc w = 0 := by
  have := mc_le hf (D := fun _ => false) fun x hx _ _ hs => by rw [h x hx] at hs; cases hs
  have h2 : count w.K (fun _ => false) = 0 := by
    unfold count
    exact sum_none fun i _ => by simp
  omega
/-- Ways and a cut of the same number: the least. -/
theorem mc_cert {w : Web} (hf : Fit w) {ps : List (List Nat)} {D : Nat → Bool} (hp : Ways w ps) (hD : Cut w D) (hn : count w.K D = ps.length) : mc w = ps.length := by
  have h1 := hp.le_mc hf
  have h2 := mc_le hf hD
  omega
end Go.Flow
