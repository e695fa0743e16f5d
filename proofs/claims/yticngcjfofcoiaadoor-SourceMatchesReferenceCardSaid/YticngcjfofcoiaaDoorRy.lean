/- General words on marks: what ranges over functions leave in a frame when they stand in a loop. -/
import Derived.Test.YticngcjfofcoiaaDoorZa
set_option linter.unusedVariables false
set_option linter.unusedSimpArgs false
namespace Go.Rg
open Go.RowKit
def marks (bs : List Nat) : List Deferred := bs.map fun b => { target := .collected b, args := #[] }
structure Marks (lo : Nat) (bs : List Nat) (W : World) : Prop where
 nd : bs.Nodup
 at_ : ∀ b ∈ bs, lo ≤ b ∧ W.heap[b]? = some (.deferred (some []))
theorem Marks.nil (lo : Nat) (W : World) : Marks lo [] W := ⟨List.nodup_nil, fun b h => by cases h⟩
theorem Marks.lt {lo : Nat} {bs : List Nat} {W : World} (h : Marks lo bs W) {b : Nat} (hb : b ∈ bs) : b < W.heap.size := (Array.getElem?_eq_some_iff.1 (h.at_ b hb).2).1
theorem Marks.fr {lo : Nat} {bs : List Nat} {S : Nat → Prop} {A B : World} (h : Marks lo bs A) (hf : Fr S A B) (hS : ∀ b ∈ bs, ¬ S b) : Marks lo bs B :=
 ⟨h.nd, fun b hb => ⟨(h.at_ b hb).1, (hf.block b (h.lt hb) (hS b hb)).trans (h.at_ b hb).2⟩⟩
theorem Marks.ne {lo : Nat} {bs : List Nat} {W : World} (h : Marks lo bs W) {k : Nat} {vs : Array Value} {t : TypeId} {fz : Nat × Nat} (hk : W.heap[k]? = some (.cells vs t fz)) : ∀ b ∈ bs, b ≠ k := fun b hb e => by
 subst e
 rw [(h.at_ b hb).2] at hk
 cases hk
theorem Marks.call {lo n : Nat} {bs : List Nat} {A B : World} (h : Marks lo bs A) (hb : Below n A B) (hn : A.heap.size ≤ n) : Marks lo bs B :=
 ⟨h.nd, fun b hb' => ⟨(h.at_ b hb').1, (hb.block b (Nat.lt_of_lt_of_le (h.lt hb') hn)).trans (h.at_ b hb').2⟩⟩
theorem Marks.cons {lo : Nat} {bs : List Nat} {W : World} {B : Nat} (h : Marks lo bs W) (hB : ∀ b ∈ bs, b < B) (hlo : lo ≤ B) (hk : W.heap[B]? = some (.deferred (some []))) : Marks lo (B :: bs) W :=
 ⟨List.nodup_cons.2 ⟨fun hm => by have := hB B hm; omega, h.nd⟩, fun b hb => by
  rcases List.mem_cons.1 hb with rfl | hb
  ·exact ⟨hlo, hk⟩
  ·exact h.at_ b hb⟩
section
variable {P : Program}
theorem leaves_marks {fn : Func} {tmps : Array Value} {R : Ending → World → Prop} {v : Value} {lo : Nat} : ∀ (bs : List Nat) (W : World), Marks lo bs W →
  (∀ W', Fr (fun k => k ∈ bs) W W' → W'.heap.size = W.heap.size → (results fn tmps).run P W' = .ok v W' ∧ R (.returned v) W') → LeavesInM Fence.wide 0 P fn tmps R (marks bs) .returning W
 |[], W, _, h => by
  obtain ⟨h1, h2⟩ := h W (Fr.refl _ _) rfl
  exact ⟨v, h1, h2⟩
 |b :: bs, W, hM, h => by
  obtain ⟨hlo, hb⟩ := hM.at_ b (by simp)
  have hnd := List.nodup_cons.1 hM.nd
  refine ⟨by simp, .inl ⟨b, W.putObj b (.deferred none), rfl, run_takeDeferred hb, ?_⟩⟩
  have hF : Fr (fun k => k = b) W (W.putObj b (.deferred none)) := (Fr.refl _ _).putObj _ _ (fun _ => rfl)
  refine leaves_marks (v := v) (lo := lo) bs _ ?_ ?_
  ·refine ⟨hnd.2, fun c hc => ⟨(hM.at_ c (by simp [hc])).1, ?_⟩⟩
   exact (hF.block c (hM.lt (by simp [hc])) (fun e => hnd.1 (e ▸ hc))).trans (hM.at_ c (by simp [hc])).2
  ·intro W' hf hs
   exact h W' ((hF.mono fun k _ e => by simp [e]).trans (hf.mono fun k _ e => by simp [e])) (by rw [hs]; simp)
theorem leave_marks {fn : Func} {tmps : Array Value} {R : Ending → World → Prop} {v : Value} {lo : Nat} {bs : List Nat} {W : World} (hM : Marks lo bs W)
  (h : ∀ W', Fr (fun k => k ∈ bs) W W' → Below lo W W' → W'.heap.size = W.heap.size → (results fn tmps).run P W' = .ok v W' ∧ R (.returned v) W') :
  bodyPostM Fence.wide 0 P fn R .ret { tmps := tmps, defers := marks bs } W := leaves_marks bs W hM fun W' hf hs => h W' hf ⟨hf.os, hf.tape, hf.output, hf.size, fun k hk => by
   rcases Nat.lt_or_ge k W.heap.size with h1 | h1
   ·exact hf.block k h1 (fun hm => by have := (hM.at_ k hm).1; omega)
   ·rw [Array.getElem?_eq_none h1, Array.getElem?_eq_none (by omega)]⟩ hs
end
end Go.Rg
