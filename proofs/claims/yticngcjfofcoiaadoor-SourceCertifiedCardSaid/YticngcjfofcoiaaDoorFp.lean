/- Plain facts of the search by room that gives the first cut. -/
import Derived.Test.YticngcjfofcoiaaDoorRp
namespace Go.Proofs.YticngcjfofcoiaaDoor
open Go.RowKit Go.Rg Go.Proofs.YticngcjfofcoiaaDoorW.PrintWords
set_option linter.unusedVariables false
set_option linter.unusedSimpArgs false

/-- The nodes not seen. -/
def unseen (S : Nat → Bool) : Nat := ((List.range 26).filter fun i => !S i).length
theorem unseen_set {S : Nat → Bool} {x : Nat} (hx : x < 26) (hS : S x = false) : unseen (setS S x) + 1 = unseen S := by
  have key : ∀ n : Nat, ((List.range n).filter fun i => !setS S x i).length + (if x < n then 1 else 0) = ((List.range n).filter fun i => !S i).length := by
    intro n
    induction n with
    | zero => simp
    | succ n ih =>
      rw [List.range_succ, List.filter_append, List.filter_append, List.length_append, List.length_append, ← ih]
      rcases Nat.lt_trichotomy n x with h | h | h
      · have h1 : ¬ x < n + 1 := by omega
        have h2 : ¬ x < n := by omega
        have h3 : setS S x n = S n := by unfold setS; rw [decide_eq_false (by omega)]; rfl
        simp [h1, h2, h3, List.filter_cons]
      · subst h
        have h3 : setS S n n = true := by simp [setS]
        simp [h3, hS, List.filter_cons]
      · have h1 : x < n + 1 := by omega
        have h2 : x < n := by omega
        have h3 : setS S x n = S n := by unfold setS; rw [decide_eq_false (by omega)]; rfl
        simp [h1, h2, h3, List.filter_cons]
        omega
  have := key 26
  rw [if_pos hx] at this
  exact this

/-- What holds before a node is taken. -/
structure BI (w : Flow.Web) (R : Nat → Nat → Int) (S : Nat → Bool) (l : List Nat) : Prop where
  top : S 24 = true
  sub : ∀ x, S x = true → Flow.Seen w R x
  mine : ∀ x ∈ l, x < 26 ∧ S x = true
  step : ∀ x, S x = true → x ∉ l → ∀ y, y < 26 → 0 < R x y → S y = true
  tot : unseen S + l.length ≤ 26
/-- What holds while the node h is looked at, of those before k. -/
structure BJ (w : Flow.Web) (R : Nat → Nat → Int) (S0 : Nat → Bool) (l0 : List Nat) (h k : Nat) (S : Nat → Bool) (l : List Nat) : Prop where
  top : S 24 = true
  sub : ∀ x, S x = true → Flow.Seen w R x
  mine : ∀ x ∈ l, x < 26 ∧ S x = true
  step : ∀ x, S x = true → x ∉ l → x ≠ h → ∀ y, y < 26 → 0 < R x y → S y = true
  row : ∀ y, y < k → 0 < R h y → S y = true
  hd : S h = true
  num : unseen S + l.length < unseen S0 + l0.length
  tot : unseen S + l.length ≤ 25
theorem BI.start {w : Flow.Web} (hK : w.K = 12) (R : Nat → Nat → Int) : BI w R (setS (fun _ => false) 24) [24] := by
  have h1 : ∀ x, setS (fun _ => false) 24 x = true ↔ x = 24 := fun x => by unfold setS; by_cases h : x = 24 <;> simp [h]
  refine ⟨(h1 24).2 rfl, fun x hx => ?_, fun x hx => ?_, fun x hx hn => ?_, by decide⟩
  · rw [(h1 x).1 hx, show (24 : Nat) = 2 * w.K by omega]; exact .base
  · rw [List.mem_singleton] at hx; exact ⟨by omega, (h1 x).2 hx⟩
  · exact absurd (by rw [(h1 x).1 hx]; simp) hn
theorem BJ.start {w : Flow.Web} {R : Nat → Nat → Int} {S : Nat → Bool} {h : Nat} {t : List Nat} (hI : BI w R S (h :: t)) : BJ w R S (h :: t) h 0 S t :=
  ⟨hI.top, hI.sub, fun x hx => hI.mine x (by simp [hx]), fun x hx hn he => hI.step x hx (by simp [hn, he]), fun y hy => absurd hy (Nat.not_lt_zero _), (hI.mine h (by simp)).2, by simp, by have := hI.tot; simp at this; omega⟩
theorem BJ.see {w : Flow.Web} (hK : w.K = 12) {R : Nat → Nat → Int} {S0 S : Nat → Bool} {l0 l : List Nat} {h k : Nat} (hJ : BJ w R S0 l0 h k S l) (hk : k < 26) (hR : 0 < R h k) (hS : S k = false) : BJ w R S0 l0 h (k + 1) (setS S k) (l ++ [k]) := by
  have h1 : ∀ x, setS S k x = true ↔ x = k ∨ S x = true := fun x => by unfold setS; by_cases h : x = k <;> simp [h]
  refine ⟨(h1 _).2 (.inr hJ.top), fun x hx => ?_, fun x hx => ?_, fun x hx hn he y hy hr => ?_, fun y hy hr => ?_, (h1 _).2 (.inr hJ.hd), ?_, ?_⟩
  · rcases (h1 x).1 hx with rfl | hx
    · exact .step (hJ.sub h hJ.hd) (by omega) hR
    · exact hJ.sub x hx
  · rcases List.mem_append.1 hx with hx | hx
    · exact ⟨(hJ.mine x hx).1, (h1 x).2 (.inr (hJ.mine x hx).2)⟩
    · rw [List.mem_singleton] at hx; exact ⟨by omega, (h1 x).2 (.inl hx)⟩
  · rw [List.mem_append, List.mem_singleton] at hn
    rcases (h1 x).1 hx with rfl | hx
    · exact absurd (.inr rfl) hn
    · exact (h1 y).2 (.inr (hJ.step x hx (fun h => hn (.inl h)) he y hy hr))
  · rcases Nat.lt_or_ge y k with h | h
    · exact (h1 y).2 (.inr (hJ.row y h hr))
    · exact (h1 y).2 (.inl (by omega))
  · have := unseen_set hk hS
    have := hJ.num
    rw [List.length_append, List.length_singleton]
    omega
  · have := unseen_set hk hS
    have := hJ.tot
    rw [List.length_append, List.length_singleton]
    omega
theorem BJ.skip {w : Flow.Web} {R : Nat → Nat → Int} {S0 S : Nat → Bool} {l0 l : List Nat} {h k : Nat} (hJ : BJ w R S0 l0 h k S l) (hR : 0 < R h k → S k = true) : BJ w R S0 l0 h (k + 1) S l :=
  ⟨hJ.top, hJ.sub, hJ.mine, hJ.step, fun y hy hr => by
    rcases Nat.lt_or_ge y k with h | h
    · exact hJ.row y h hr
    · obtain rfl : y = k := by omega
      exact hR hr, hJ.hd, hJ.num, hJ.tot⟩
theorem BJ.done {w : Flow.Web} {R : Nat → Nat → Int} {S0 S : Nat → Bool} {l0 l : List Nat} {h : Nat} (hJ : BJ w R S0 l0 h 26 S l) : BI w R S l :=
  ⟨hJ.top, hJ.sub, hJ.mine, fun x hx hn y hy hr => by
    by_cases he : x = h
    · subst he; exact hJ.row y hy hr
    · exact hJ.step x hx hn he y hy hr, by have := hJ.tot; omega⟩
theorem BI.all {w : Flow.Web} (hK : w.K = 12) {R : Nat → Nat → Int} {S : Nat → Bool} (hI : BI w R S []) : ∀ x, S x = true ↔ Flow.Seen w R x := by
  intro x
  refine ⟨hI.sub x, fun h => ?_⟩
  induction h with
  | base => rw [show 2 * w.K = 24 by omega]; exact hI.top
  | @step a b ha hb hr ih => exact hI.step a ih (by simp) b (by omega) hr
/-- The sources of the cut among the first k. -/
def cutTo (S : Nat → Bool) (wo k : Nat) : List Nat := (List.range k).filter fun i => S i && (!S (12 + i) && !wo.testBit i)
theorem cutTo_step (S : Nat → Bool) (wo k : Nat) : cutTo S wo (k + 1) = cutTo S wo k ++ (if (S k && (!S (12 + k) && !wo.testBit k)) = true then [k] else []) := by
  unfold cutTo
  rw [List.range_succ, List.filter_append]
  congr 1
  simp only [List.filter_cons, List.filter_nil]
theorem cutTo_len (S : Nat → Bool) (wo k : Nat) : (cutTo S wo k).length ≤ k := by
  have := List.length_filter_le (fun i => S i && (!S (12 + i) && !wo.testBit i)) (List.range k)
  simpa [cutTo] using this
open Classical in
theorem BI.first {nx : Nat → List Nat} (hn : NxOk nx) {sd og wo : Nat} {R : Nat → Nat → Int} {n : Nat} {S : Nat → Bool} (hI : BI (netOf nx sd og wo) R S []) (h : Flow.Inv (netOf nx sd og wo) R n) (hs : ¬ Flow.Seen (netOf nx sd og wo) R 25) : cutTo S wo 12 = Flow.firstL (netOf nx sd og wo) := by
  have hf := hn.fit sd og wo
  have hall := hI.all (w := netOf nx sd og wo) rfl
  unfold Flow.firstL cutTo
  rw [← Flow.firstB_eq hf h hs]
  refine List.filter_congr fun i hi => ?_
  have hd : ∀ x, decide (Flow.Seen (netOf nx sd og wo) R x) = S x := fun x => by
    cases hx : S x with
    | true => exact decide_eq_true ((hall x).1 hx)
    | false => exact decide_eq_false fun h => by rw [(hall x).2 h] at hx; cases hx
  unfold Flow.cutB Flow.cutOf
  show (S i && (!S (12 + i) && !wo.testBit i)) = _
  show _ = (decide (Flow.Seen (netOf nx sd og wo) R i) && (!decide (Flow.Seen (netOf nx sd og wo) R (12 + i)) && !wo.testBit i))
  rw [hd, hd]
/-- Who was seen, as it lies; how long a list is. -/
def seenW (SB : Nat) (W : World) (i : Nat) : Bool := match W.cell? ⟨SB, i, none⟩ with
  | some (.bool b) => b
  | _ => false
def lenV : Value → Nat
  | .slice _ n _ => n
  | _ => 0
theorem seenW_eq {SB : Nat} {S : Nat → Bool} {W : World} (h : ∀ i, i < 26 → W.cell? ⟨SB, i, none⟩ = some (.bool (S i)) ∧ W.frozen? ⟨SB, i, none⟩ = false) : unseen (seenW SB W) = unseen S := by
  unfold unseen
  congr 1
  refine List.filter_congr fun i hi => ?_
  unfold seenW
  rw [(h i (List.mem_range.1 hi)).1]
end Go.Proofs.YticngcjfofcoiaaDoor
