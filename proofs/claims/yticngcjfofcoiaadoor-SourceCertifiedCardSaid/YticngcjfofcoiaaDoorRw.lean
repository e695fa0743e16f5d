/- A range over a function: the statement's rule where the iterator lays blocks of its own between the rounds, and the rounds lay theirs: D tells which blocks are the rounds'. -/
import Derived.Test.YticngcjfofcoiaaDoorRg
set_option linter.unusedVariables false
set_option linter.unusedSimpArgs false
namespace Go.Rg
open Go.RowKit
section
variable {P : Program}

/-- The rounds' blocks, one round more: those from s on that lie. -/
def more (D : Nat → Prop) (s : Nat) (W : World) : Nat → Prop := fun k => D k ∨ (s ≤ k ∧ k < W.heap.size)

/-- What a function value (gf, lb) does as an iterator: it hands over the elements of L, one by one, until a round says no. It turns blocks of 'priv' and its own new ones; it leans on blocks of 'rel' and 'priv' and its own new ones. J i D: i rounds are over; D: the rounds' blocks. What is handed over lies from s on. -/
def IterB {α : Type} (P : Program) (gf : FuncId) (lb : Array Value) (L : List α) (Arg : Nat → α → Array Value → World → Prop) (priv rel : Nat → Prop) (Pre : World → Prop) : Prop :=
  ∀ (l : Nat) (J Jx : Nat → (Nat → Prop) → World → Prop) (W : World), Pre W →
    (∀ i D A B, J i D A → Fr (fun k => priv k ∨ (W.heap.size ≤ k ∧ ¬ D k)) A B → J i D B) →
    (∀ i D A B, Jx i D A → Fr (fun k => priv k ∨ (W.heap.size ≤ k ∧ ¬ D k)) A B → Jx i D B) →
    (∀ i D s x args W1, L[i]? = some x → J i D W1 → Arg s x args W1 → W.heap.size ≤ s → s ≤ W1.heap.size → (∀ k, D k → W.heap.size ≤ k ∧ k < s) → YieldAt Fence.wide 0 P l args W1 fun e W' =>
      (e = .returned (.bool true) ∧ J (i + 1) (more D s W') W' ∧ Fr (fun k => D k ∨ s ≤ k ∨ (k < W.heap.size ∧ ¬ rel k ∧ ¬ priv k)) W1 W') ∨ (e = .returned (.bool false) ∧ Jx i (more D s W') W' ∧ Fr (fun k => D k ∨ s ≤ k ∨ (k < W.heap.size ∧ ¬ rel k ∧ ¬ priv k)) W1 W')) →
    J 0 (fun _ => False) W →
    CallsIn Fence.wide 0 P gf (#[.func (.yield l) #[] #[]] ++ lb) W fun e W' => (∃ v, e = .returned v) ∧ ((∃ D, J L.length D W') ∨ (∃ i x D, L[i]? = some x ∧ Jx i D W'))

/-- How the body of a round may be left. -/
def rPostB (own D : Nat → Prop) (s : Nat) (I : Nat → (Nat → Prop) → World → Prop) (Ix : Code → Nat → (Nat → Prop) → World → Prop) (i : Nat) (W : World) : Exit → Act → World → Prop
  | .normal, _, W' => Fr (fun k => own k ∨ D k ∨ s ≤ k) W W' ∧ I (i + 1) (more D s W') W'
  | .ret, _, W' => Fr (fun k => own k ∨ D k ∨ s ≤ k) W W' ∧ Ix .ret i (more D s W') W'
  | .exit id, _, W' => Fr (fun k => own k ∨ D k ∨ s ≤ k) W W' ∧ Ix (.exit id) i (more D s W') W'
  | .goto _, _, _ => False
  | .panic _, _, _ => False
  | .outgrown, _, _ => False

theorem rPostB_out {own D : Nat → Prop} {s : Nat} {I : Nat → (Nat → Prop) → World → Prop} {Ix : Code → Nat → (Nat → Prop) → World → Prop} {i : Nat} {W : World} : ¬ LetsOut (rPostB own D s I Ix i W) := fun ⟨_, _, h⟩ => h

theorem more_putObj {D : Nat → Prop} {s r : Nat} {W : World} {o : Obj} : more D s (W.putObj r o) = more D s W := by
  unfold more; rw [World.putObj_size]

/-- 'for .. := range g { body }', outside a round; B0: the heap's size where it begins. -/
theorem wp_rangeB {α : Type} {g : Operand} {ps : Array Tmp} {assign body : Code} {Q : Exit → Act → World → Prop} {a : Act} {w : World} (B0 : Nat) (hB0 : w.heap.size = B0)
    {gf : Nat} {lb : Array Value} (hg : a.eval g = .func (.func gf) #[] lb) (eg : ∀ args w, (callFunc gf args).run P w = .ok (.enter gf args) w)
    {L : List α} {Arg : Nat → α → Array Value → World → Prop} {priv rel : Nat → Prop} {Pre : World → Prop} (hseq : IterB P gf lb L Arg priv rel Pre)
    (hps : ∀ s x args W, Arg s x args W → args.size = ps.size) (own : Nat → Prop) (hpre : ∀ W, Fr (fun _ => False) w W → Pre W)
    (hlt : ∀ k, priv k ∨ rel k ∨ own k → k < B0) (hown : ∀ k, own k → ¬ priv k ∧ ¬ rel k)
    (I : Nat → (Nat → Prop) → World → Prop) (Ix : Code → Nat → (Nat → Prop) → World → Prop)
    (hI : ∀ i D A B, I i D A → B0 + 2 ≤ A.heap.size → (∀ k, D k → B0 + 2 ≤ k) → Fr (fun k => priv k ∨ (B0 ≤ k ∧ ¬ D k)) A B → I i D B)
    (hIx : ∀ c i D A B, Ix c i D A → B0 + 2 ≤ A.heap.size → (∀ k, D k → B0 + 2 ≤ k) → Fr (fun k => priv k ∨ (B0 ≤ k ∧ ¬ D k)) A B → Ix c i D B)
    (h0 : ∀ W, Fr (fun _ => False) w W → W.heap.size = B0 + 2 → I 0 (fun _ => False) W)
    (A : Nat → (Nat → Prop) → Nat → α → Act → World → Prop) (hA : ∀ i D s x a' X Y, A i D s x a' X → B0 + 2 ≤ s → s ≤ X.heap.size → (∀ k, D k → B0 + 2 ≤ k ∧ k < s) → Fr (fun k => k = B0 + 1) X Y → Y.heap.size = X.heap.size → A i D s x a' Y)
    (hassign : ∀ (l i : Nat) (D : Nat → Prop) (s : Nat) (x : α) (args : Array Value) (W : World), L[i]? = some x → I i D W → Arg s x args W → B0 + 2 ≤ s → s ≤ W.heap.size → (∀ k, D k → B0 + 2 ≤ k ∧ k < s) →
      assign.wpIn (Fence.wide.inRound l) 0 P (Exit.then (fun a' W' => Fr (fun k => own k ∨ D k ∨ s ≤ k) W W' ∧ A i D s x a' W') (fun _ _ _ => False)) { tmps := (ps.zip args).foldl (fun t (p, v) => t.setIfInBounds p v) a.tmps, defers := [] } W)
    (hbody : ∀ (l i : Nat) (D : Nat → Prop) (s : Nat) (x : α) (a' : Act) (W : World), L[i]? = some x → A i D s x a' W → B0 + 2 ≤ s → s ≤ W.heap.size → (∀ k, D k → B0 + 2 ≤ k ∧ k < s) → body.wpIn (Fence.wide.inRound l) 0 P (rPostB own D s I Ix i W) a' W)
    (hdone : ∀ (D : Nat → Prop) (W : World), I L.length D W → B0 + 2 ≤ W.heap.size → W.heap[B0]? = some (.deferred (some [])) → Q .normal { a with defers := { target := .collected B0, args := #[] } :: a.defers } W)
    (hstop : ∀ (c : Code) (i : Nat) (x : α) (D : Nat → Prop) (W : World), L[i]? = some x → Ix c i D W → B0 + 2 ≤ W.heap.size → W.heap[B0]? = some (.deferred (some [])) → c.wp P Q { a with defers := { target := .collected B0, args := #[] } :: a.defers } W) :
    (Code.rangeFunc g ps assign body).wp P Q a w := by
  subst hB0
  refine (wpIn_wide (n := 0)).1 (wpIn_rangeFunc ?_)
  intro fn _
  obtain ⟨rec, hrec⟩ : ∃ rec : LoopState → Option Code → Loop, rec = fun st pe => { state := st, pending := pe, fn, tmps := a.tmps, params := ps, assign, body, defers := w.heap.size } := ⟨_, rfl⟩
  obtain ⟨W1, hW1⟩ : ∃ W1, (w.alloc (.deferred (some []))).alloc (.loop (rec .ready none)) = W1 := ⟨_, rfl⟩
  have hL1 : W1.heap[w.heap.size + 1]? = some (.loop (rec .ready none)) := by
    rw [← hW1]; have := World.alloc_heap_new (w.alloc (.deferred (some []))) (.loop (rec .ready none)); rwa [World.size_alloc] at this
  have hK1 : W1.heap[w.heap.size]? = some (.deferred (some [])) := by
    rw [← hW1]; exact (Below.heap_alloc _ _ _ (by simp)).trans (World.alloc_heap_new w _)
  have hF1 : Fr (fun _ => False) w W1 := by rw [← hW1]; exact ((Fr.refl _ w).alloc _).alloc _
  have hs1 : W1.heap.size = w.heap.size + 2 := by rw [← hW1]; simp
  refine ⟨w.heap.size + 1, [{ target := .collected w.heap.size, args := #[] }], W1, { target := .fn (.func gf) lb, args := #[.func (.yield (w.heap.size + 1)) #[] #[]] }, W1, gf,
    #[.func (.yield (w.heap.size + 1)) #[] #[]] ++ lb, W1, ?_, ?_, ?_, ?_, fun h => by simp [Fence.wide] at h, ?_⟩
  · rw [← hW1, hrec]; exact run_enterLoop_outer _ _ _ _ _
  · simp only [resolve, hg]
    simp [go_sem]
  · intro f' hf'; trivial
  · simp [invoke, go_sem, eg]
  · have wk : ∀ {D : Nat → Prop} {X Y : World}, Fr (fun k => priv k ∨ (W1.heap.size ≤ k ∧ ¬ D k)) X Y → Fr (fun k => priv k ∨ (w.heap.size ≤ k ∧ ¬ D k)) X Y := fun h => h.mono fun k _ hk => hk.imp id fun hk => ⟨by omega, hk.2⟩
    have nP : ∀ {D : Nat → Prop} {k : Nat}, w.heap.size ≤ k → k < w.heap.size + 2 → ¬ (priv k ∨ (W1.heap.size ≤ k ∧ ¬ D k)) := fun {D k} h1 h2 h => by
      rcases h with h | h
      · have := hlt _ (.inl h); omega
      · omega
    refine (hseq (w.heap.size + 1)
      (fun i D W => I i D W ∧ (w.heap.size + 2 ≤ W.heap.size ∧ ∀ k, D k → w.heap.size + 2 ≤ k) ∧ W.heap[w.heap.size + 1]? = some (.loop (rec .ready none)) ∧ W.heap[w.heap.size]? = some (.deferred (some [])))
      (fun i D W => ∃ c, Ix c i D W ∧ (w.heap.size + 2 ≤ W.heap.size ∧ ∀ k, D k → w.heap.size + 2 ≤ k) ∧ W.heap[w.heap.size + 1]? = some (.loop (rec .done (some c))) ∧ W.heap[w.heap.size]? = some (.deferred (some [])))
      W1 (hpre W1 hF1) ?_ ?_ ?_ ⟨h0 W1 hF1 hs1, ⟨by omega, fun k h => h.elim⟩, hL1, hK1⟩).mono ?_
    · rintro i D X Y ⟨hi, hs, hl, hk⟩ hf
      exact ⟨hI i D X Y hi hs.1 hs.2 (wk hf), ⟨Nat.le_trans hs.1 hf.size, hs.2⟩, (hf.block _ (by omega) (nP (by omega) (by omega))).trans hl, (hf.block _ (by omega) (nP (by omega) (by omega))).trans hk⟩
    · rintro i D X Y ⟨c, hi, hs, hl, hk⟩ hf
      exact ⟨c, hIx c i D X Y hi hs.1 hs.2 (wk hf), ⟨Nat.le_trans hs.1 hf.size, hs.2⟩, (hf.block _ (by omega) (nP (by omega) (by omega))).trans hl, (hf.block _ (by omega) (nP (by omega) (by omega))).trans hk⟩
    · rintro i D s x args W hx ⟨hi, ⟨hs, hD2⟩, hl, hk⟩ harg hss hsW hDs
      rw [hs1] at hss
      have hD : ∀ k, D k → w.heap.size + 2 ≤ k ∧ k < s := fun k h => ⟨hD2 k h, (hDs k h).2⟩
      have hy := run_yield (P := P) (args := args) hl (by rw [hrec]; exact hps s x args W harg)
      rw [hrec] at hy
      have nO : ∀ {k : Nat}, w.heap.size ≤ k → k < w.heap.size + 2 → ¬ (own k ∨ D k ∨ s ≤ k) := fun {k} h1 h2 h => by
        rcases h with h | h | h
        · have := hlt _ (.inr (.inr h)); omega
        · have := hD _ h; omega
        · omega
      refine ⟨fn, _, assign, body, hy, roundIn_of_wpIn trivial (wpIn_mono (hassign _ i D s x args W hx hi harg hss hsW hD) ?_)⟩
      rintro e a' Wa hq
      cases e with
      | normal =>
        obtain ⟨hfa, hax⟩ := hq
        have hla := (hfa.block _ (by omega) (nO (by omega) (by omega))).trans hl
        have hka := (hfa.block _ (by omega) (nO (by omega) (by omega))).trans hk
        have hsa : s ≤ Wa.heap.size := Nat.le_trans hsW hfa.size
        refine ⟨_, run_beginRound hla (by rw [hrec]), ?_⟩
        obtain ⟨W2, hW2⟩ : ∃ W2, Wa.putObj (w.heap.size + 1) (.loop { rec .ready none with state := .busy }) = W2 := ⟨_, rfl⟩
        rw [hW2]
        have hf2 : Fr (fun k => k = w.heap.size + 1) Wa W2 := by rw [← hW2]; exact (Fr.refl _ _).putObj _ _ (fun _ => rfl)
        have hs2 : W2.heap.size = Wa.heap.size := by rw [← hW2]; simp
        have hl2 : W2.heap[w.heap.size + 1]? = some (.loop { rec .ready none with state := .busy }) := by rw [← hW2]; exact World.putObj_heap_same (by omega)
        have hk2 : W2.heap[w.heap.size]? = some (.deferred (some [])) := (hf2.block _ (by omega) (by omega)).trans hka
        refine wpIn_mono (hbody _ i D s x a' W2 hx (hA _ _ _ _ _ _ _ hax hss hsa hD hf2 hs2) hss (by omega) hD) ?_
        have fin : ∀ (jump : Option Code) (W3 : World), Fr (fun k => own k ∨ D k ∨ s ≤ k) W2 W3 →
            (Instr.endRound (w.heap.size + 1) jump).run P W3 = .ok (.bool jump.isNone) (W3.putObj (w.heap.size + 1) (.loop (rec (if jump.isNone then .ready else .done) jump))) ∧
            (W3.putObj (w.heap.size + 1) (.loop (rec (if jump.isNone then .ready else .done) jump))).heap[w.heap.size + 1]? = some (.loop (rec (if jump.isNone then .ready else .done) jump)) ∧
            (W3.putObj (w.heap.size + 1) (.loop (rec (if jump.isNone then .ready else .done) jump))).heap[w.heap.size]? = some (.deferred (some [])) ∧ w.heap.size + 2 ≤ W3.heap.size := fun jump W3 hf3 => by
          have hl3 := (hf3.block _ (by omega) (nO (by omega) (by omega))).trans hl2
          have := run_endRound (P := P) jump hl3
          rw [hrec] at this ⊢
          have hz := hf3.size
          exact ⟨this, World.putObj_heap_same (by omega), (World.putObj_heap_other (by omega)).trans ((hf3.block _ (by omega) (nO (by omega) (by omega))).trans hk2), by omega⟩
        have hfL : ∀ (W3 : World) (o : Obj), Fr (fun k => priv k ∨ (w.heap.size ≤ k ∧ ¬ more D s W3 k)) W3 (W3.putObj (w.heap.size + 1) o) := fun W3 o => (Fr.refl _ _).putObj _ _ (fun _ => .inr ⟨by omega, fun h => by
          rcases h with h | h
          · have := hD _ h; omega
          · omega⟩)
        have hm2 : ∀ (W3 : World) (k : Nat), more D s W3 k → w.heap.size + 2 ≤ k := fun W3 k h => by
          rcases h with h | h
          · exact (hD _ h).1
          · omega
        have tot : ∀ (W3 : World) (o : Obj), Fr (fun k => own k ∨ D k ∨ s ≤ k) W2 W3 → Fr (fun k => D k ∨ s ≤ k ∨ (k < W1.heap.size ∧ ¬ rel k ∧ ¬ priv k)) W (W3.putObj (w.heap.size + 1) o) := fun W3 o hf3 => by
          have hnn : ∀ k, own k ∨ D k ∨ s ≤ k → D k ∨ s ≤ k ∨ (k < W1.heap.size ∧ ¬ rel k ∧ ¬ priv k) := fun k hk => by
            rcases hk with hk | hk | hk
            · exact .inr (.inr ⟨by have := hlt _ (.inr (.inr hk)); omega, (hown k hk).2, (hown k hk).1⟩)
            · exact .inl hk
            · exact .inr (.inl hk)
          have hLL : ∀ k, k = w.heap.size + 1 → D k ∨ s ≤ k ∨ (k < W1.heap.size ∧ ¬ rel k ∧ ¬ priv k) := fun k e => by
            subst e
            exact .inr (.inr ⟨by omega, fun hr => by have := hlt _ (.inr (.inl hr)); omega, fun hr => by have := hlt _ (.inl hr); omega⟩)
          exact (((hfa.mono fun k _ h => hnn k h).trans (hf2.mono fun k _ h => hLL k h)).trans (hf3.mono fun k _ h => hnn k h)).putObj _ _ (fun _ => hLL _ rfl)
        rintro e a3 W3 hp
        cases e with
        | normal =>
          obtain ⟨hf3, hi3⟩ := hp
          obtain ⟨hr, hl4, hk4, hz⟩ := fin none W3 hf3
          have hi4 := hI _ _ _ _ hi3 hz (hm2 W3) (hfL _ (.loop (rec (if (none : Option Code).isNone then .ready else .done) none)))
          exact ⟨_, _, hr, .inl ⟨rfl, ⟨by rw [more_putObj]; exact hi4, ⟨by simpa using hz, by rw [more_putObj]; exact hm2 W3⟩, hl4, hk4⟩, tot _ _ hf3⟩⟩
        | ret =>
          obtain ⟨hf3, hi3⟩ := hp
          obtain ⟨hr, hl4, hk4, hz⟩ := fin (some .ret) W3 hf3
          exact ⟨_, _, hr, .inr ⟨rfl, ⟨.ret, by rw [more_putObj]; exact hIx _ _ _ _ _ hi3 hz (hm2 W3) (hfL _ _), ⟨by simpa using hz, by rw [more_putObj]; exact hm2 W3⟩, hl4, hk4⟩, tot _ _ hf3⟩⟩
        | exit id =>
          obtain ⟨hf3, hi3⟩ := hp
          obtain ⟨hr, hl4, hk4, hz⟩ := fin (some (.exit id)) W3 hf3
          exact ⟨_, _, hr, .inr ⟨rfl, ⟨.exit id, by rw [more_putObj]; exact hIx _ _ _ _ _ hi3 hz (hm2 W3) (hfL _ _), ⟨by simpa using hz, by rw [more_putObj]; exact hm2 W3⟩, hl4, hk4⟩, tot _ _ hf3⟩⟩
        | goto t => exact hp.elim
        | panic ch => exact hp.elim
        | outgrown => exact hp.elim
      | exit id => exact hq.elim
      | goto t => exact hq.elim
      | ret => exact hq.elim
      | panic ch => exact hq.elim
      | outgrown => exact hq.elim
    · have hfL : ∀ (D : Nat → Prop) (W3 : World) (o : Obj), (∀ k, D k → w.heap.size + 2 ≤ k) → Fr (fun k => priv k ∨ (w.heap.size ≤ k ∧ ¬ D k)) W3 (W3.putObj (w.heap.size + 1) o) := fun D W3 o hD => (Fr.refl _ _).putObj _ _ (fun _ => .inr ⟨by omega, fun h => by have := hD _ h; omega⟩)
      rintro e W2 ⟨⟨v, rfl⟩, (⟨D, hi, hs, hl, hk⟩ | ⟨i, x, D, hx, c, hi, hs, hl, hk⟩)⟩
      · refine ⟨none, _, by have := run_endLoop (P := P) hl (by rw [hrec]; simp); rw [hrec] at this; exact this, ?_⟩
        exact hdone D _ (hI _ _ _ _ hi hs.1 hs.2 (hfL _ _ _ hs.2)) (by simpa using hs.1) ((World.putObj_heap_other (by omega)).trans hk)
      · refine ⟨some c, _, by have := run_endLoop (P := P) hl (by rw [hrec]; simp); rw [hrec] at this; exact this, ?_⟩
        exact (wpIn_wide (n := 0)).2 (hstop c i x D _ hx (hIx _ _ _ _ _ hi hs.1 hs.2 (hfL _ _ _ hs.2)) (by simpa using hs.1) ((World.putObj_heap_other (by omega)).trans hk))
end
end Go.Rg
