/- A region that draws its order, walked order by order, every world on the way meeting S; two codes in a row with what lies between them named. -/
import Derived.Test.YticngcjfofcoiaaDoorRt
set_option linter.unusedVariables false
set_option linter.unusedSimpArgs false
namespace Go.Rg
open Go.RowKit
theorem any_stepS {P : Program} {l : List Oper} {Q : Exit → Act → World → Prop} {S : World → Prop} {m : Nat} {E : Array Bool} {a : Act} {w : World} (rs : List Nat)
    (hr : (Region.ready .any l.toArray E == rs && !rs.isEmpty && rs.all (fun k => decide (k < l.length))) = true)
    (h : ∀ i ∈ rs, wpList P l.toArray (Exit.then (fun a'' w'' => S w'' ∧ wpAnyH P .any l.toArray Q S m (E.setIfInBounds i true) a'' w'') Q) [nthO l i] a w) :
    wpAnyH P .any l.toArray Q S (m + 1) E a w := by
  simp only [Bool.and_eq_true, beq_iff_eq, List.all_eq_true, decide_eq_true_eq] at hr
  obtain ⟨⟨hr, hne⟩, hlt⟩ := hr
  refine wpAnyH_all hr (by intro e; rw [e] at hne; simp at hne) (fun i hi => ?_)
  have h0 : l.toArray[i]? = some (nthO l i) := by rw [← nthO_get l i (hlt i hi)]; simp
  have hq := h i hi
  have h1 : wpOp P l.toArray (Exit.then (fun a'' w'' => S w'' ∧ wpAnyH P .any l.toArray Q S m (E.setIfInBounds i true) a'' w'') Q) i (fun a'' w'' => S w'' ∧ wpAnyH P .any l.toArray Q S m (E.setIfInBounds i true) a'' w'') a w := by
    unfold wpOp
    simp only [h0]
    simpa [wpList, Exit.then] using hq
  unfold wpOp at h1 ⊢
  simp only [h0] at h1 ⊢
  split
  · rename_i hw
    rw [if_pos hw] at h1
    rcases h1 with h1 | h1
    · refine .inl ?_
      unfold Oper.wp at h1 ⊢
      generalize (execOp a.eval (nthO l i)).run P w = res at *
      cases res with
      | ok n w' => cases n <;> exact h1
      | halt x w' => cases x <;> exact h1
    · exact .inr ⟨h1.1, by obtain ⟨_, x, y, hxy⟩ := h1; exact ⟨x, y, hxy⟩⟩
  · rename_i hw
    rw [if_neg hw] at h1
    exact h1
/-- The operations 'ks' first, which only read; the rest order by order. -/
theorem region_freeS {P : Program} {id : Nat} {l : List Oper} {Q : Exit → Act → World → Prop} {a : Act} {w : World} (B : Nat → Prop) (ks : List Nat) (E : Array Bool) (m : Nat) (hm : P.follows .mixedOrders = true)
    (hB : (Region.noSelect l.toArray && ks.length + m == l.length && okTakes l ks (Array.replicate l.length false) == some E) = true) (hQ : ∀ (c : List PanicEntry) (a : Act) (d : Option Tmp) (v : Value) (w : World), Q (.panic c) (a.put d v) w → Q (.panic c) a w)
    (h : wpQuiet P l.toArray (fun w' => ∃ x : ExtB B w, w' = x.val) (fun a' => wpAnyH P .any l.toArray Q (fun w' => ∃ x : ExtB B w, w' = x.val) m E a' w.drew) (pick l ks) a) : (Code.region id l.toArray true).wp P Q a w := by
  simp only [Bool.and_eq_true, beq_iff_eq] at hB
  refine wp_region_any hm ?_
  have := takes_soundP (P := P) (S := fun w' => ∃ x : ExtB B w, w' = x.val) (m := m) (w := w.drew) hB.1.1 hQ ⟨⟨w.drew, (Fr.refl _ _).drew⟩, rfl⟩ ks _ E a hB.2 (fun a' ha => ha) h
  rw [hB.1.2] at this
  exact wpAny_of_held _ _ _ _ this
/-- Two codes in a row, with what lies between them named. -/
theorem wp_mid {P : Program} {c d : Code} {Q : Exit → Act → World → Prop} {a : Act} {w : World} (M : Act → World → Prop) (h1 : c.wp P (Exit.then M Q) a w) (h2 : ∀ a w, M a w → d.wp P Q a w) : (Code.seq c d).wp P Q a w := by
  refine wp_seq (Code.wp_mono (fun e a w h => ?_) h1)
  cases e <;> first | exact h2 _ _ h | exact h
theorem wp_then {P : Program} {c : Code} {Q : Exit → Act → World → Prop} {K : Act → World → Prop} {a : Act} {w : World} (M : Act → World → Prop) (h1 : c.wp P (Exit.then M Q) a w) (h2 : ∀ a w, M a w → K a w) : c.wp P (Exit.then K Q) a w := by
  refine Code.wp_mono (fun e a w h => ?_) h1
  cases e <;> first | exact h2 _ _ h | exact h
end Go.Rg
