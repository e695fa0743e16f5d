/- General words on a frame of blocks and on a range over a function, at the wide fence: the statement's rule, and how a walk outside a round serves inside one. -/
import Derived.RangeFuncNested
import Derived.RangeFuncBound
import Derived.RangeFuncCalls
import Derived.RangeFuncLeaves
import Derived.OrdersHeld
import Derived.Deep.Draws
import Derived.OrdersIn
import Derived.WalkKit
import Derived.Shelf.Abstract
import Derived.OwnWalkIn
import Derived.TacticsInMore
import Derived.Deep.Quiet
import Derived.Deep.QuietTactic
import Derived.BigQuiet
set_option linter.unusedVariables false
set_option linter.unusedSimpArgs false
namespace Go.Rg
open Go.RowKit
structure Fr (S : Nat → Prop) (A B : World) : Prop where
 os : B.os = A.os
 tape : B.tape = A.tape
 output : B.output = A.output
 size : A.heap.size ≤ B.heap.size
 block : ∀ k, k < A.heap.size → ¬ S k → B.heap[k]? = A.heap[k]?
theorem Fr.refl (S : Nat → Prop) (A : World) : Fr S A A := ⟨rfl, rfl, rfl, Nat.le_refl _, fun _ _ _ => rfl⟩
theorem Fr.trans {S : Nat → Prop} {A B C : World} (h : Fr S A B) (k : Fr S B C) : Fr S A C :=
 ⟨k.os.trans h.os, k.tape.trans h.tape, k.output.trans h.output, Nat.le_trans h.size k.size, fun i hi hs => (k.block i (Nat.lt_of_lt_of_le hi h.size) hs).trans (h.block i hi hs)⟩
theorem Fr.trans' {S T : Nat → Prop} {A B C : World} (h : Fr S A B) (k : Fr T B C) (hT : ∀ i, i < A.heap.size → T i → S i) : Fr S A C :=
 ⟨k.os.trans h.os, k.tape.trans h.tape, k.output.trans h.output, Nat.le_trans h.size k.size, fun i hi hs => (k.block i (Nat.lt_of_lt_of_le hi h.size) (fun ht => hs (hT i hi ht))).trans (h.block i hi hs)⟩
theorem Fr.mono {S T : Nat → Prop} {A B : World} (h : Fr S A B) (hs : ∀ k, k < A.heap.size → S k → T k) : Fr T A B :=
 ⟨h.os, h.tape, h.output, h.size, fun i hi ht => h.block i hi (fun hk => ht (hs i hi hk))⟩
theorem Fr.drew {S : Nat → Prop} {A B : World} (h : Fr S A B) : Fr S A B.drew := ⟨h.os, h.tape, h.output, h.size, h.block⟩
theorem Fr.drewN {S : Nat → Prop} {A B : World} (h : Fr S A B) (n : Nat) : Fr S A (B.drewN n) := ⟨h.os, h.tape, h.output, h.size, h.block⟩
theorem Fr.alloc {S : Nat → Prop} {A B : World} (h : Fr S A B) (o : Obj) : Fr S A (B.alloc o) :=
 h.trans ⟨rfl, rfl, rfl, by simp, fun k hk _ => Below.heap_alloc _ _ _ hk⟩
theorem Fr.setCell {S : Nat → Prop} {A B : World} (h : Fr S A B) (p : Addr) (u : Value) (hp : p.block < A.heap.size → S p.block) : Fr S A (B.setCell p u) :=
 ⟨h.os, h.tape, h.output, by simpa [World.setCell] using h.size, fun k hk hs =>
  (Below.heap_setCell B p u k (fun e => by subst e; exact hs (hp hk))).trans (h.block k hk hs)⟩
theorem Fr.putObj {S : Nat → Prop} {A B : World} (h : Fr S A B) (r : Nat) (o : Obj) (hp : r < A.heap.size → S r) : Fr S A (B.putObj r o) :=
 ⟨h.os, h.tape, h.output, by simpa using h.size, fun k hk hs => (World.putObj_heap_other (fun e => by subst e; exact hs (hp hk))).trans (h.block k hk hs)⟩
theorem Fr.of_below {n : Nat} {A B : World} (h : Below n A B) : Fr (fun k => n ≤ k) A B := ⟨h.os, h.tape, h.output, h.size, fun k _ hs => h.block k (by omega)⟩
theorem Fr.below {S : Nat → Prop} {n : Nat} {A B : World} (h : Fr S A B) (hs : ∀ k, k < n → ¬ S k) (hn : n ≤ A.heap.size) : Below n A B := ⟨h.os, h.tape, h.output, h.size, fun k hk => h.block k (by omega) (hs k hk)⟩
theorem Fr.grown {S : Nat → Prop} {A B C : World} {row : Option Nat} (h : Fr S A B) (hg : B.grownBy C row) (hr : ∀ k, row = some k → k < A.heap.size → S k) : Fr S A C :=
 ⟨hg.os.trans h.os, hg.tape.trans h.tape, hg.output.trans h.output, Nat.le_trans h.size hg.size, fun k hk hs =>
  (hg.block k (Nat.lt_of_lt_of_le hk h.size) (fun e => hs (hr k e.symm hk))).trans (h.block k hk hs)⟩
theorem Fr.call {S : Nat → Prop} {A B C : World} (h : Fr S A B) (k : Below B.heap.size B C) : Fr S A C :=
 h.trans ⟨k.os, k.tape, k.output, k.size, fun i hi _ => k.block i hi⟩
theorem Fr.cell {S : Nat → Prop} {A B : World} (h : Fr S A B) {p : Addr} {v : Value} (hc : A.cell? p = some v) (hs : ¬ S p.block) : B.cell? p = some v := by
 rw [← hc]; exact World.cell?_of_block (w := A) (h.block p.block (World.block_lt_of_cell? A p hc) hs)
theorem Fr.frozen {S : Nat → Prop} {A B : World} (h : Fr S A B) {p : Addr} (hl : p.block < A.heap.size) (hs : ¬ S p.block) : B.frozen? p = A.frozen? p := World.frozen?_of_block (w := A) (h.block p.block hl hs)
theorem heap_new {W : World} {o : Obj} {k : Nat} (h : W.heap.size = k) : (W.alloc o).heap[k]? = some o := by subst h; exact World.alloc_heap_new W o
theorem heap_old {W : World} {o r : Obj} {k : Nat} (h : W.heap[k]? = some r) : (W.alloc o).heap[k]? = some r := (Below.heap_alloc W o k (Array.getElem?_eq_some_iff.1 h).1).trans h
theorem cell_of {W : World} {k o : Nat} {vs : Array Value} {t : TypeId} {fz : Nat × Nat} {v : Value} (h : W.heap[k]? = some (.cells vs t fz)) (hv : vs[o]? = some v) : W.cell? ⟨k, o, none⟩ = some v := by
 unfold World.cell?
 rw [h]
 exact hv
theorem frozen_of {W : World} {k o : Nat} {vs : Array Value} {t : TypeId} (h : W.heap[k]? = some (.cells vs t (0, 0))) : W.frozen? ⟨k, o, none⟩ = false := by
 simp [World.frozen?, h]
theorem heap_set {W : World} {k o : Nat} {vs : Array Value} {t : TypeId} {fz : Nat × Nat} (v : Value) (h : W.heap[k]? = some (.cells vs t fz)) : (W.setCell ⟨k, o, none⟩ v).heap[k]? = some (.cells (vs.setIfInBounds o v) t fz) := by
 obtain ⟨hlt, e⟩ := Array.getElem?_eq_some_iff.1 h
 show (W.heap.modify k _)[k]? = _
 rw [Array.getElem?_eq_getElem (by rw [Array.size_modify]; exact hlt), Array.getElem_modify_self, e]
 simp
theorem heap_set_ne {W : World} {p : Addr} {k : Nat} {r : Obj} (v : Value) (hne : k ≠ p.block) (h : W.heap[k]? = some r) : (W.setCell p v).heap[k]? = some r := (Below.heap_setCell W p v k hne).trans h
section
variable {P : Program} {ops : Array Oper} {Q : Exit → Act → World → Prop}
def noDefer (o : Oper) : Bool := match o.op with | .defer _ => false | _ => true
theorem noDefer_spec {o : Oper} (h : noDefer o = true) : ∀ c, o.op ≠ .defer c := by
 intro c hc
 simp [noDefer, hc] at h
theorem calls_round {f : FuncId} {args : Array Value} {w : World} {R : Ending → World → Prop} (l n : Nat) (h : Calls P f args w R) : CallsIn (Fence.wide.inRound l) n P f args w R :=
 CallsIn.inRound l (callsIn_wide.2 h)
theorem rows_round {row : String} {args : Array Value} {w : World} {R : Value → World → Prop} (l n : Nat) (h : Rows P row args w R) : RowsIn (Fence.wide.inRound l) n P row args w R :=
 fun c cs _ => let ⟨v, w', r, s⟩ := h c cs; ⟨v, w', r, stepsIn_wide.2 s⟩
theorem oper_round {o : Oper} {a : Act} {w : World} {K : Act → World → Prop} (l n : Nat) (hd : noDefer o = true) (hQ : ¬ LetsOut Q)
  (h : o.wp P a w K Q ∨ (o.asks P a w ∧ LetsOut Q)) : o.wpIn (Fence.wide.inRound l) n P a w K Q := by
 have h := h.resolve_right (fun x => hQ x.2)
 refine ⟨fun _ _ => trivial, ?_⟩
 rw [Oper.semAt_eq _ _ _ (noDefer_spec hd)]
 unfold Oper.wp at h
 generalize (execOp a.eval o).run P w = r at *
 cases r with
 |ok x w' =>
  cases x <;> simp only [Oper.upon, Oper.uponIn] at h ⊢ <;> first | exact h | skip
  ·exact ⟨fun hx => by simp [Fence.wide] at hx, calls_round l _ h⟩
  ·exact ⟨fun hx => by simp [Fence.wide] at hx, rows_round l _ h⟩
 |halt x w' => cases x <;> simp only [Oper.upon, Oper.uponIn] at h ⊢ <;> exact h
theorem list_round (l n : Nat) (hQ : ¬ LetsOut Q) : ∀ (os : List Oper) (a : Act) (w : World), os.all noDefer = true → wpList P ops Q os a w → wpListIn (Fence.wide.inRound l) n P ops Q os a w
 |[], _, _, _, h => h
 |o :: os, a, w, hd, h => by
  simp only [List.all_cons, Bool.and_eq_true] at hd
  simp only [wpList, wpListIn] at h ⊢
  split
  ·rename_i hw
   rw [if_pos hw] at h
   refine Oper.wpIn_mono (fun a w h => list_round l n hQ os a w hd.2 h) (oper_round l n hd.1 hQ ?_)
   exact h
  ·rename_i hw
   rw [if_neg hw] at h
   exact ⟨fun _ _ => trivial, list_round l n hQ os _ w hd.2 h⟩
theorem op_round {i : Nat} {a : Act} {w : World} {K : Act → World → Prop} (l n : Nat) (hd : ops.all noDefer = true) (hQ : ¬ LetsOut Q) (h : wpOp P ops Q i K a w) :
  wpOpIn (Fence.wide.inRound l) n P ops Q i K a w := by
 unfold wpOp at h
 unfold wpOpIn
 cases ho : ops[i]? with
 |none => simp only [ho] at h ⊢; exact h
 |some o =>
  simp only [ho] at h ⊢
  have hdo : noDefer o = true := by
   obtain ⟨hlt, e⟩ := Array.getElem?_eq_some_iff.1 ho
   rw [Array.all_eq_true] at hd
   rw [← e]; exact hd i hlt
  split
  ·rename_i hw
   rw [if_pos hw] at h
   exact oper_round l n hdo hQ h
  ·rename_i hw
   rw [if_neg hw] at h
   exact ⟨fun _ _ => trivial, h⟩
theorem any_round {md : Region.Mode} (l n : Nat) (hd : ops.all noDefer = true) (hQ : ¬ LetsOut Q) : ∀ (fuel : Nat) (listed : Array Bool) (a : Act) (w : World),
  wpAny P md ops Q fuel listed a w → wpAnyIn (Fence.wide.inRound l) n P md ops Q fuel listed a w
 |0, _, _, _, h => h
 |fuel + 1, listed, a, w, h => ⟨h.1, fun i hi => wpOpIn_mono (fun a w h => any_round l n hd hQ fuel _ a w h) (op_round l n hd hQ (h.2 i hi))⟩
theorem region_round_any {id : Nat} {a : Act} {w : World} (l n : Nat) (hd : ops.all noDefer = true) (hm : P.follows .mixedOrders = true) (hQ : ¬ LetsOut Q)
  (h : wpAny P .any ops Q ops.size (Array.replicate ops.size false) a { w with drawn := w.drawn + 1 }) : (Code.region id ops true).wpIn (Fence.wide.inRound l) n P Q a w :=
 wpIn_region_any hm (any_round l n hd hQ _ _ _ _ h)
end
section
variable {P : Program}
def IterOk {α : Type} (P : Program) (gf : FuncId) (lb : Array Value) (encs : α → Array Value) (xs : Nat → Option α) (N : Nat) (priv rel : Nat → Prop) (Pre : World → Prop) : Prop :=
 ∀ (l : Nat) (J : Nat → Nat → World → Prop) (Jx : Nat → World → Prop) (W : World), Pre W → (∀ i s A, J i s A → i ≤ N) → (∀ i s A B, J i s A → Fr priv A B → J i s B) → (∀ i A B, Jx i A → Fr priv A B → Jx i B) →
  (∀ i s x W1, xs i = some x → J i s W1 → s ≤ W1.heap.size → YieldAt Fence.wide 0 P l (encs x) W1 fun e W' =>
   (e = .returned (.bool true) ∧ J (i + 1) W'.heap.size W' ∧ Fr (fun k => k < s ∧ ¬ rel k ∧ ¬ priv k) W1 W') ∨ (e = .returned (.bool false) ∧ Jx i W')) →
  J 0 W.heap.size W →
  CallsIn Fence.wide 0 P gf (#[.func (.yield l) #[] #[]] ++ lb) W fun e W' => (∃ v, e = .returned v) ∧ ((∃ n s, xs n = none ∧ J n s W') ∨ (∃ i x, xs i = some x ∧ Jx i W'))
def rPost (B0 s z : Nat) (own : Nat → Prop) (I : Nat → Nat → World → Prop) (Ix : Code → Nat → World → Prop) (i : Nat) (W : World) : Exit → Act → World → Prop
 |.normal, _, W' => Fr (fun k => own k ∨ (B0 + 2 ≤ k ∧ k < s) ∨ z ≤ k) W W' ∧ I (i + 1) W'.heap.size W'
 |.ret, _, W' => Fr (fun k => own k ∨ (B0 + 2 ≤ k ∧ k < s) ∨ z ≤ k) W W' ∧ Ix .ret i W'
 |.exit id, _, W' => Fr (fun k => own k ∨ (B0 + 2 ≤ k ∧ k < s) ∨ z ≤ k) W W' ∧ Ix (.exit id) i W'
 |.goto _, _, _ => False
 |.panic _, _, _ => False
 |.outgrown, _, _ => False
theorem wp_range {α : Type} {g : Operand} {ps : Array Tmp} {assign body : Code} {Q : Exit → Act → World → Prop} {a : Act} {w : World} (B0 : Nat) (hB0 : w.heap.size = B0)
  {gf : Nat} {lb : Array Value} (hg : a.eval g = .func (.func gf) #[] lb) (eg : ∀ args w, (callFunc gf args).run P w = .ok (.enter gf args) w)
  {encs : α → Array Value} {xs : Nat → Option α} {N : Nat} {priv rel : Nat → Prop} {Pre : World → Prop} (hseq : IterOk P gf lb encs xs N priv rel Pre)
  (hps : ∀ x, (encs x).size = ps.size) (own : Nat → Prop) (hpre : ∀ W, Fr (fun _ => False) w W → Pre W)
  (hlt : ∀ k, priv k ∨ rel k ∨ own k → k < B0) (hown : ∀ k, own k → ¬ priv k ∧ ¬ rel k)
  (I : Nat → Nat → World → Prop) (Ix : Code → Nat → World → Prop)
  (hI : ∀ i s A B, I i s A → B0 + 2 ≤ A.heap.size → Fr (fun k => priv k ∨ k = B0 ∨ k = B0 + 1) A B → I i s B)
  (hIx : ∀ c i A B, Ix c i A → B0 + 2 ≤ A.heap.size → Fr (fun k => priv k ∨ k = B0 ∨ k = B0 + 1) A B → Ix c i B)
  (hN : ∀ i s W, I i s W → i ≤ N)
  (h0 : ∀ W, Fr (fun _ => False) w W → W.heap.size = B0 + 2 → I 0 W.heap.size W)
  (A : Nat → Nat → Nat → α → Act → World → Prop) (hA : ∀ i s z x a' X Y, A i s z x a' X → B0 + 2 ≤ X.heap.size → Fr (fun k => k = B0 + 1) X Y → Y.heap.size = X.heap.size → A i s z x a' Y)
  (hassign : ∀ (l i s : Nat) (x : α) (W : World), xs i = some x → I i s W → B0 + 2 ≤ s → s ≤ W.heap.size →
   assign.wpIn (Fence.wide.inRound l) 0 P (Exit.then (fun a' W' => Fr (fun k => own k ∨ (B0 + 2 ≤ k ∧ k < s)) W W' ∧ A i s W.heap.size x a' W') (fun _ _ _ => False)) { tmps := (ps.zip (encs x)).foldl (fun t (p, v) => t.setIfInBounds p v) a.tmps, defers := [] } W)
  (hbody : ∀ (l i s z : Nat) (x : α) (a' : Act) (W : World), xs i = some x → A i s z x a' W → B0 + 2 ≤ s → s ≤ z → z ≤ W.heap.size → body.wpIn (Fence.wide.inRound l) 0 P (rPost B0 s z own I Ix i W) a' W)
  (hdone : ∀ (n s : Nat) (W : World), xs n = none → I n s W → B0 + 2 ≤ W.heap.size → W.heap[B0]? = some (.deferred (some [])) → Q .normal { a with defers := { target := .collected B0, args := #[] } :: a.defers } W)
  (hstop : ∀ (c : Code) (i : Nat) (x : α) (W : World), xs i = some x → Ix c i W → B0 + 2 ≤ W.heap.size → W.heap[B0]? = some (.deferred (some [])) → c.wp P Q { a with defers := { target := .collected B0, args := #[] } :: a.defers } W) :
  (Code.rangeFunc g ps assign body).wp P Q a w := by
 subst hB0
 refine (wpIn_wide (n := 0)).1 (wpIn_rangeFunc ?_)
 intro fn _
 obtain ⟨rec, hrec⟩ : ∃ rec : LoopState → Option Code → Loop, rec = fun st pe => { state := st, pending := pe, fn, tmps := a.tmps, params := ps, assign, body, defers := w.heap.size } := ⟨_, rfl⟩
 obtain ⟨W1, hW1⟩ : ∃ W1, (w.alloc (.deferred (some []))).alloc (.loop (rec .ready none)) = W1 := ⟨_, rfl⟩
 have hL1 : W1.heap[w.heap.size + 1]? = some (.loop (rec .ready none)) := by
  rw [← hW1]; have := World.alloc_heap_new (w.alloc (.deferred (some []))) (.loop (rec .ready none)); rwa [World.size_alloc] at this
 have hK1 : W1.heap[w.heap.size]? = some (.deferred (some [])) := by
  rw [← hW1]; exact (Below.heap_alloc _ _ _ (by simp)).trans (World.alloc_heap_new w _)
 have hF1 : Fr (fun _ => False) w W1 := by rw [← hW1]; exact ((Fr.refl _ w).alloc _).alloc _
 have hs1 : W1.heap.size = w.heap.size + 2 := by rw [← hW1]; simp
 refine ⟨w.heap.size + 1, [{ target := .collected w.heap.size, args := #[] }], W1, { target := .fn (.func gf) lb, args := #[.func (.yield (w.heap.size + 1)) #[] #[]] }, W1, gf,
  #[.func (.yield (w.heap.size + 1)) #[] #[]] ++ lb, W1, ?_, ?_, ?_, ?_, fun h => by simp [Fence.wide] at h, ?_⟩
 ·rw [← hW1, hrec]; exact run_enterLoop_outer _ _ _ _ _
 ·simp only [resolve, hg]
  simp [go_sem]
 ·intro f' hf'; trivial
 ·simp [invoke, go_sem, eg]
 ·refine (hseq (w.heap.size + 1)
   (fun i s W => I i s W ∧ (w.heap.size + 2 ≤ s ∧ w.heap.size + 2 ≤ W.heap.size) ∧ W.heap[w.heap.size + 1]? = some (.loop (rec .ready none)) ∧ W.heap[w.heap.size]? = some (.deferred (some [])))
   (fun i W => ∃ c, Ix c i W ∧ w.heap.size + 2 ≤ W.heap.size ∧ W.heap[w.heap.size + 1]? = some (.loop (rec .done (some c))) ∧ W.heap[w.heap.size]? = some (.deferred (some [])))
   W1 (hpre W1 hF1) (fun i s A h => hN i s A h.1) ?_ ?_ ?_ ⟨h0 W1 hF1 hs1, ⟨by omega, by omega⟩, hL1, hK1⟩).mono ?_
  ·rintro i s X Y ⟨hi, hs, hl, hk⟩ hf
   refine ⟨hI i s X Y hi hs.2 (hf.mono fun k _ h => .inl h), ⟨hs.1, Nat.le_trans hs.2 hf.size⟩, (hf.block _ (by omega) ?_).trans hl, (hf.block _ (by omega) ?_).trans hk⟩
   ·intro hp; have := hlt _ (.inl hp); omega
   ·intro hp; have := hlt _ (.inl hp); omega
  ·rintro i X Y ⟨c, hi, hs, hl, hk⟩ hf
   refine ⟨c, hIx c i X Y hi hs (hf.mono fun k _ h => .inl h), Nat.le_trans hs hf.size, (hf.block _ (by omega) ?_).trans hl, (hf.block _ (by omega) ?_).trans hk⟩
   ·intro hp; have := hlt _ (.inl hp); omega
   ·intro hp; have := hlt _ (.inl hp); omega
  ·rintro i s x W hx ⟨hi, ⟨hss, hs⟩, hl, hk⟩ hsW
   have hy := run_yield (P := P) (args := encs x) hl (by rw [hrec]; exact hps x)
   rw [hrec] at hy
   have noL : ¬ (own (w.heap.size + 1) ∨ (w.heap.size + 2 ≤ w.heap.size + 1 ∧ w.heap.size + 1 < s)) := by
    rintro (h | h)
    ·have := hlt _ (.inr (.inr h)); omega
    ·omega
   have noD : ¬ (own w.heap.size ∨ (w.heap.size + 2 ≤ w.heap.size ∧ w.heap.size < s)) := by
    rintro (h | h)
    ·have := hlt _ (.inr (.inr h)); omega
    ·omega
   have noL2 : ¬ (own (w.heap.size + 1) ∨ (w.heap.size + 2 ≤ w.heap.size + 1 ∧ w.heap.size + 1 < s) ∨ W.heap.size ≤ w.heap.size + 1) := by
    rintro (h | h | h)
    ·exact noL (.inl h)
    ·exact noL (.inr h)
    ·omega
   have noD2 : ¬ (own w.heap.size ∨ (w.heap.size + 2 ≤ w.heap.size ∧ w.heap.size < s) ∨ W.heap.size ≤ w.heap.size) := by
    rintro (h | h | h)
    ·exact noD (.inl h)
    ·exact noD (.inr h)
    ·omega
   refine ⟨fn, _, assign, body, hy, roundIn_of_wpIn trivial (wpIn_mono (hassign _ i s x W hx hi hss hsW) ?_)⟩
   rintro e a' Wa hq
   cases e with
   |normal =>
    obtain ⟨hfa, hax⟩ := hq
    have hla := (hfa.block _ (by omega) noL).trans hl
    have hka := (hfa.block _ (by omega) noD).trans hk
    have hsa : w.heap.size + 2 ≤ Wa.heap.size := Nat.le_trans hs hfa.size
    refine ⟨_, run_beginRound hla (by rw [hrec]), ?_⟩
    obtain ⟨W2, hW2⟩ : ∃ W2, Wa.putObj (w.heap.size + 1) (.loop { rec .ready none with state := .busy }) = W2 := ⟨_, rfl⟩
    rw [hW2]
    have hf2 : Fr (fun k => k = w.heap.size + 1) Wa W2 := by rw [← hW2]; exact (Fr.refl _ _).putObj _ _ (fun _ => rfl)
    have hs2 : W2.heap.size = Wa.heap.size := by rw [← hW2]; simp
    have hl2 : W2.heap[w.heap.size + 1]? = some (.loop { rec .ready none with state := .busy }) := by rw [← hW2]; exact World.putObj_heap_same (by omega)
    have hk2 : W2.heap[w.heap.size]? = some (.deferred (some [])) := (hf2.block _ (by omega) (by omega)).trans hka
    have hza := hfa.size
    refine wpIn_mono (hbody _ i s W.heap.size x a' W2 hx (hA _ _ _ _ _ _ _ hax hsa hf2 hs2) hss hsW (by omega)) ?_
    have fin : ∀ (jump : Option Code) (W3 : World), Fr (fun k => own k ∨ (w.heap.size + 2 ≤ k ∧ k < s) ∨ W.heap.size ≤ k) W2 W3 →
      (Instr.endRound (w.heap.size + 1) jump).run P W3 = .ok (.bool jump.isNone) (W3.putObj (w.heap.size + 1) (.loop (rec (if jump.isNone then .ready else .done) jump))) ∧
      (W3.putObj (w.heap.size + 1) (.loop (rec (if jump.isNone then .ready else .done) jump))).heap[w.heap.size + 1]? = some (.loop (rec (if jump.isNone then .ready else .done) jump)) ∧
      (W3.putObj (w.heap.size + 1) (.loop (rec (if jump.isNone then .ready else .done) jump))).heap[w.heap.size]? = some (.deferred (some [])) ∧ w.heap.size + 2 ≤ W3.heap.size := fun jump W3 hf3 => by
     have hl3 := (hf3.block _ (by omega) noL2).trans hl2
     have := run_endRound (P := P) jump hl3
     rw [hrec] at this ⊢
     have hz := hf3.size
     exact ⟨this, World.putObj_heap_same (by omega), (World.putObj_heap_other (by omega)).trans ((hf3.block _ (by omega) noD2).trans hk2), by omega⟩
    have hfL : ∀ (W3 : World) (o : Obj), Fr (fun k => priv k ∨ k = w.heap.size ∨ k = w.heap.size + 1) W3 (W3.putObj (w.heap.size + 1) o) := fun W3 o => (Fr.refl _ _).putObj _ _ (fun _ => .inr (.inr rfl))
    have tot : ∀ (W3 : World) (o : Obj), Fr (fun k => own k ∨ (w.heap.size + 2 ≤ k ∧ k < s) ∨ W.heap.size ≤ k) W2 W3 → Fr (fun k => k < s ∧ ¬ rel k ∧ ¬ priv k) W (W3.putObj (w.heap.size + 1) o) := fun W3 o hf3 => by
     have hnn : ∀ k, own k ∨ (w.heap.size + 2 ≤ k ∧ k < s) → k < s ∧ ¬ rel k ∧ ¬ priv k := fun k hk => by
      rcases hk with hk | hk
      ·exact ⟨by have := hlt _ (.inr (.inr hk)); omega, (hown k hk).2, (hown k hk).1⟩
      ·exact ⟨hk.2, fun hr => by have := hlt _ (.inr (.inl hr)); omega, fun hr => by have := hlt _ (.inl hr); omega⟩
     have hLL : ∀ k, k = w.heap.size + 1 → k < s ∧ ¬ rel k ∧ ¬ priv k := fun k e => by
      subst e
      exact ⟨by omega, fun hr => by have := hlt _ (.inr (.inl hr)); omega, fun hr => by have := hlt _ (.inl hr); omega⟩
     exact (((hfa.mono fun k _ h => hnn k h).trans (hf2.mono fun k _ h => hLL k h)).trans' hf3 (fun k hk h => by
      rcases h with h | h | h
      ·exact hnn k (.inl h)
      ·exact hnn k (.inr h)
      ·omega)).putObj _ _ (fun _ => hLL _ rfl)
    rintro e a3 W3 hp
    cases e with
    |normal =>
     obtain ⟨hf3, hi3⟩ := hp
     obtain ⟨hr, hl4, hk4, hz⟩ := fin none W3 hf3
     have hz2 := hf3.size
     have hi4 := hI _ _ _ _ hi3 hz (hfL _ (.loop (rec (if (none : Option Code).isNone then .ready else .done) none)))
     exact ⟨_, _, hr, .inl ⟨rfl, ⟨by rw [World.putObj_size]; exact hi4, ⟨by simpa using hz, by simpa using hz⟩, hl4, hk4⟩, tot _ _ hf3⟩⟩
    |ret =>
     obtain ⟨hf3, hi3⟩ := hp
     obtain ⟨hr, hl4, hk4, hz⟩ := fin (some .ret) W3 hf3
     exact ⟨_, _, hr, .inr ⟨rfl, .ret, hIx _ _ _ _ hi3 hz (hfL _ _), by simpa using hz, hl4, hk4⟩⟩
    |exit id =>
     obtain ⟨hf3, hi3⟩ := hp
     obtain ⟨hr, hl4, hk4, hz⟩ := fin (some (.exit id)) W3 hf3
     exact ⟨_, _, hr, .inr ⟨rfl, .exit id, hIx _ _ _ _ hi3 hz (hfL _ _), by simpa using hz, hl4, hk4⟩⟩
    |goto t => exact hp.elim
    |panic ch => exact hp.elim
    |outgrown => exact hp.elim
   |exit id => exact hq.elim
   |goto t => exact hq.elim
   |ret => exact hq.elim
   |panic ch => exact hq.elim
   |outgrown => exact hq.elim
  ·have hfL : ∀ (W3 : World) (o : Obj), Fr (fun k => priv k ∨ k = w.heap.size ∨ k = w.heap.size + 1) W3 (W3.putObj (w.heap.size + 1) o) := fun W3 o => (Fr.refl _ _).putObj _ _ (fun _ => .inr (.inr rfl))
   rintro e W2 ⟨⟨v, rfl⟩, (⟨n, s, hx, hi, hs, hl, hk⟩ | ⟨i, x, hx, c, hi, hs, hl, hk⟩)⟩
   ·refine ⟨none, _, by have := run_endLoop (P := P) hl (by rw [hrec]; simp); rw [hrec] at this; exact this, ?_⟩
    exact hdone n s _ hx (hI _ _ _ _ hi hs.2 (hfL _ _)) (by simpa using hs.2) ((World.putObj_heap_other (by omega)).trans hk)
   ·refine ⟨some c, _, by have := run_endLoop (P := P) hl (by rw [hrec]; simp); rw [hrec] at this; exact this, ?_⟩
    exact (wpIn_wide (n := 0)).2 (hstop c i x _ hx (hIx _ _ _ _ hi hs (hfL _ _)) (by simpa using hs) ((World.putObj_heap_other (by omega)).trans hk))
theorem calls_of_wp_marks {f : FuncId} {fn : Func} {c : Code} {args : Array Value} {w : World} {R : Ending → World → Prop}
  (hf : P.funcs[f]? = some fn) (hb : fn.body = some c)
  (h : c.wp P (bodyPostM Fence.wide 0 P fn R) { tmps := args ++ Array.replicate (fn.ntmps - args.size) undef, defers := [] } w) : Calls P f args w R :=
 (callsIn_wide (n := 0)).1 (callsIn_of_wp_marks hf hb trivial ((wpIn_wide (n := 0)).2 h) rfl)
end
end Go.Rg
/- A region that draws its order: operations that only read, and calls that only make memory, walked once in an order of our own; behind them the operations whose order is forced, walked as a list. Outside a round and inside one. -/
set_option linter.unusedVariables false
set_option linter.unusedSimpArgs false
namespace Go.Rg
open Go.RowKit
section
variable {P : Program} {ops : Array Oper} {md : Region.Mode} {C : World → Prop}
def anyK (P : Program) (md : Region.Mode) (ops : Array Oper) (C : World → Prop) (K : List Nat) (Qa : Act → Prop) : Nat → Array Bool → Act → Prop
 |0, listed, a => (∀ j ∈ Region.ready md ops listed, j ∉ K) ∧ Qa a
 |fuel + 1, listed, a => Region.ready md ops listed ≠ [] ∧ ∀ i ∈ Region.ready md ops listed, i ∈ K → qOp P ops C i (anyK P md ops C K Qa fuel (listed.setIfInBounds i true)) a
theorem anyK_first {K : List Nat} {Qa : Act → Prop} {i : Nat} {oi : Oper} {v : Value} (hi : ops[i]? = some oi) (hsel : ∀ (j : Nat) (o : Oper) cs b, ops[j]? = some o → o.op ≠ .select cs b) :
  ∀ (fuel : Nat) (listed : Array Bool) (a : Act),
   (∀ j oj, ops[j]? = some oj → j ≠ i → listed.getD j true = false → (∀ e ∈ oj.after, Region.binds md e = true → e.on ≠ i) → oi.apart ops oj = true) →
   i ∈ Region.ready md ops listed → YieldsIn P ops C oi v a →
   anyK P md ops C K Qa fuel (listed.setIfInBounds i true) (a.put oi.dst v) → anyK P md ops C K Qa (fuel + 1) listed a := by
 intro fuel
 induction fuel with
 |zero =>
  intro listed a _ hr hy H
  refine ⟨fun h => (by rw [h] at hr; cases hr), fun j hj hjK => ?_⟩
  by_cases hji : j = i
  ·subst hji; exact hy.qOp hi H
  ·exact (H.1 j (ready_mono hj hji) hjK).elim
 |succ fuel ih =>
  intro listed a hfree hr hy H
  refine ⟨fun h => (by rw [h] at hr; cases hr), fun j hj hjK => ?_⟩
  by_cases hji : j = i
  ·subst hji; exact hy.qOp hi H
  ·have h1 := H.2 j (ready_mono hj hji) hjK
   obtain ⟨hjun, oj, hoj, hall⟩ := mem_ready.1 hj
   have hnot : ∀ e ∈ oj.after, Region.binds md e = true → e.on ≠ i := fun e he hb heq => by
    have h1 := hall e he hb
    have h0 := (mem_ready.1 hr).1
    rw [heq] at h1
    rcases Nat.lt_or_ge i listed.size with h' | h'
    ·simp [h'] at h0 h1; rw [h0] at h1; cases h1
    ·simp [Array.getElem?_eq_none h'] at h1
   have h2 := qOp_put hoj (hfree j oj hoj hji hjun hnot) (fun cs b => hsel i oi cs b hi) (fun cs b => hsel j oj cs b hoj) hy h1
   have hfree' : ∀ k ok, ops[k]? = some ok → k ≠ i → (listed.setIfInBounds j true).getD k true = false →
     (∀ e ∈ ok.after, Region.binds md e = true → e.on ≠ i) → oi.apart ops ok = true := fun k ok hk hki hun hno => by
    refine hfree k ok hk hki ?_ hno
    by_cases hjk : j = k
    ·subst hjk; exact hjun
    ·rw [getD_set_ne true hjk] at hun; exact hun
   refine qOp_mono (fun a' h3 => ih (listed.setIfInBounds j true) a' hfree' (ready_mono hr (Ne.symm hji)) h3.1 ?_) h2
   rw [Array.setIfInBounds_comm _ _ hji]
   exact h3.2
def ixQ (md : Region.Mode) (ops : Array Oper) : List Nat → Array Bool → Option (Array Bool)
 |[], listed => some listed
 |k :: ks, listed => if (Region.ready md ops listed).contains k && Region.free md ops listed k then ixQ md ops ks (listed.setIfInBounds k true) else none
theorem anyK_lex {K : List Nat} {Qa : Act → Prop} (hs : Region.noSelect ops = true) : ∀ (ks : List Nat) (l : List Oper) (listed E : Array Bool) (a : Act), ks.map (fun k => ops[k]?) = l.map some →
  ixQ md ops ks listed = some E → (∀ j ∈ Region.ready md ops E, j ∉ K) → wpQuiet P ops C Qa l a → anyK P md ops C K Qa ks.length listed a
 |[], [], _, _, _, _, hB, hE, h => by
  simp only [ixQ, Option.some.injEq] at hB
  subst hB
  exact ⟨hE, h⟩
 |[], _ :: _, _, _, _, hm, _, _, _ => by simp at hm
 |_ :: _, [], _, _, _, hm, _, _, _ => by simp at hm
 |k :: ks, o :: l, listed, E, a, hm, hB, hE, h => by
  simp only [List.map_cons, List.cons.injEq] at hm
  obtain ⟨h0, hm⟩ := hm
  simp only [ixQ] at hB
  split at hB
  ·rename_i hc
   simp only [Bool.and_eq_true] at hc
   have hst : qOp P ops C k (wpQuiet P ops C Qa l) a := by unfold qOp; simp only [h0]; exact h
   obtain ⟨v, hy, hK⟩ := yieldsIn_of_qOp h0 hst
   exact anyK_first h0 (Region.noSelect_spec hs) ks.length listed a (Region.free_spec h0 hc.2) (by simpa using hc.1) hy (anyK_lex hs ks l _ E _ hm hB hE hK)
  ·cases hB
def unl (K : List Nat) (listed : Array Bool) : Nat := (K.filter fun k => !listed.getD k true).length
theorem unl_set {listed : Array Bool} {i : Nat} (hi : listed.getD i true = false) : ∀ (K : List Nat), K.Nodup → (i ∈ K → unl K (listed.setIfInBounds i true) + 1 = unl K listed) ∧ (i ∉ K → unl K (listed.setIfInBounds i true) = unl K listed)
 |[], _ => by simp [unl]
 |x :: xs, hn => by
  have hn' := List.nodup_cons.1 hn
  have ih := unl_set hi xs hn'.2
  have hlt : i < listed.size := by
   rcases Nat.lt_or_ge i listed.size with h' | h'
   ·exact h'
   ·simp [Array.getElem?_eq_none h'] at hi
  have hset : (listed.setIfInBounds i true).getD i true = true := by simp [hlt]
  by_cases hx : x = i
  ·subst hx
   refine ⟨fun _ => ?_, fun h => absurd (List.mem_cons_self ..) h⟩
   have h2 := ih.2 hn'.1
   unfold unl at *
   rw [List.filter_cons_of_neg (by rw [hset]; simp), List.filter_cons_of_pos (by rw [hi]; rfl), List.length_cons, h2]
  ·have he : (listed.setIfInBounds i true).getD x true = listed.getD x true := getD_set_ne true (Ne.symm hx)
   refine ⟨fun h => ?_, fun h => ?_⟩
   ·have h1 := ih.1 (by simpa [Ne.symm hx] using h)
    unfold unl at *
    rw [List.filter_cons, List.filter_cons, he]
    split
    ·simp only [List.length_cons]; omega
    ·exact h1
   ·have h1 := ih.2 (fun hh => h (List.mem_cons_of_mem _ hh))
    unfold unl at *
    rw [List.filter_cons, List.filter_cons, he]
    split
    ·simp only [List.length_cons]; omega
    ·exact h1
def waits (md : Region.Mode) (ops : Array Oper) (K : List Nat) : Bool :=
 (List.range ops.size).all fun j => K.contains j || match ops[j]? with
  |some oj => K.all fun k => oj.after.any fun e => Region.binds md e && e.on == k
  |none => true
theorem waits_spec {K : List Nat} (h : waits md ops K = true) {listed : Array Bool} {j : Nat} (hj : j ∈ Region.ready md ops listed) {k : Nat} (hk : k ∈ K) (hu : listed.getD k true = false) : j ∈ K := by
 obtain ⟨_, o, ho, hall⟩ := mem_ready.1 hj
 simp only [waits, List.all_eq_true, List.mem_range, Bool.or_eq_true, List.contains_iff_mem] at h
 rcases h j (Array.getElem?_eq_some_iff.1 ho).1 with h | h
 ·exact h
 ·rw [ho] at h
  simp only [List.all_eq_true] at h
  obtain ⟨e, he, hb⟩ := Array.any_eq_true'.1 (h k hk)
  simp only [Bool.and_eq_true, beq_iff_eq] at hb
  have := hall e he hb.1
  rw [hb.2] at this
  rcases Nat.lt_or_ge k listed.size with h' | h'
  ·simp [h'] at hu this; rw [hu] at this; cases this
  ·simp [Array.getElem?_eq_none h'] at hu
theorem any_of_anyK {K : List Nat} {Qa : Act → Prop} {Q : Exit → Act → World → Prop} {m : Nat} {E : Array Bool} (hn : K.Nodup) (hw : waits md ops K = true) (hEs : E.size = ops.size) (hEv : ∀ k, k < ops.size → E.getD k true = K.contains k)
  (ht : ∀ a w, C w → Qa a → wpAny P md ops Q m E a w) : ∀ (fuel : Nat) (listed : Array Bool) (a : Act) (w : World), C w → listed.size = ops.size → (∀ k, k < ops.size → k ∉ K → listed.getD k true = false) → unl K listed = fuel →
   anyK P md ops C K Qa fuel listed a → wpAny P md ops Q (fuel + m) listed a w
 |0, listed, a, w, hC, hs, hk, hu, h => by
  have : listed = E := by
   apply Array.ext (by omega)
   intro k h1 h2
   have hE := hEv k (by omega)
   by_cases hkK : k ∈ K
   ·have h3 : listed.getD k true = true := by
     cases hc : listed.getD k true with
     |true => rfl
     |false =>
      have : k ∈ K.filter fun k => !listed.getD k true := List.mem_filter.2 ⟨hkK, by rw [hc]; rfl⟩
      have h4 := List.length_pos_of_mem this
      unfold unl at hu
      omega
    simp [h1, h2, hkK] at h3 hE
    rw [h3, hE]
   ·have h3 := hk k (by omega) hkK
    simp [h1, h2, hkK] at h3 hE
    rw [h3, hE]
  subst this
  rw [Nat.zero_add]
  exact ht a w hC h.2
 |fuel + 1, listed, a, w, hC, hs, hk, hu, h => by
  have hex : ∃ k ∈ K, listed.getD k true = false := by
   have : 0 < (K.filter fun k => !listed.getD k true).length := by unfold unl at hu; omega
   obtain ⟨k, hkm⟩ := List.exists_mem_of_length_pos this
   have := List.mem_filter.1 hkm
   exact ⟨k, this.1, by simpa using this.2⟩
  obtain ⟨k0, hk0, hk0u⟩ := hex
  rw [show fuel + 1 + m = (fuel + m) + 1 by omega]
  refine ⟨fun h0 => absurd h0 h.1, fun i hi => ?_⟩
  have hiK := waits_spec hw hi hk0 hk0u
  have hiu := (mem_ready.1 hi).1
  refine wpOp_of_qOp hC (fun a' w' hC' h' => any_of_anyK hn hw hEs hEv ht fuel _ a' w' hC' (by simpa using hs) (fun k hk1 hk2 => ?_) ?_ h') (h.2 i hi hiK)
  ·by_cases e : i = k
   ·subst e; exact absurd hiK hk2
   ·rw [getD_set_ne true e]; exact hk k hk1 hk2
  ·have := (unl_set hiu K hn).1 hiK
   omega
def ixF (md : Region.Mode) (ops : Array Oper) : List Nat → Array Bool → Bool
 |[], listed => (Region.ready md ops listed).isEmpty
 |k :: ks, listed => Region.ready md ops listed == [k] && ixF md ops ks (listed.setIfInBounds k true)
theorem any_of_list {Q : Exit → Act → World → Prop} : ∀ (ks : List Nat) (l : List Oper) (listed : Array Bool) (a : Act) (w : World), ks.map (fun k => ops[k]?) = l.map some → ixF md ops ks listed = true →
  wpList P ops Q l a w → wpAny P md ops Q ks.length listed a w
 |[], [], _, _, _, _, hB, h => ⟨by simpa [ixF] using hB, h⟩
 |[], _ :: _, _, _, _, hm, _, _ => by simp at hm
 |_ :: _, [], _, _, _, hm, _, _ => by simp at hm
 |k :: ks, o :: l, listed, a, w, hm, hB, h => by
  simp only [List.map_cons, List.cons.injEq] at hm
  obtain ⟨h0, hm⟩ := hm
  simp only [ixF, Bool.and_eq_true, beq_iff_eq] at hB
  obtain ⟨hr, hB⟩ := hB
  show wpAny P md ops Q (ks.length + 1) listed a w
  refine ⟨fun h0 => (by rw [hr] at h0; cases h0), fun i hi => ?_⟩
  rw [hr] at hi
  obtain rfl : i = k := by simpa using hi
  have h1 : wpOp P ops Q i (wpList P ops Q l) a w := by unfold wpOp; simp only [h0]; exact h
  exact wpOp_mono (fun a' w' h' => any_of_list ks l _ a' w' hm hB h') h1
def okTail (md : Region.Mode) (ops : Array Oper) (ks1 ks2 : List Nat) : Bool :=
 Region.noSelect ops && decide ks1.Nodup && waits md ops ks1 && ks1.length + ks2.length == ops.size &&
 (match ixQ md ops ks1 (Array.replicate ops.size false) with
  |some E => E.size == ops.size && (List.range ops.size).all (fun k => E.getD k true == ks1.contains k) && (Region.ready md ops E).all (fun j => !ks1.contains j) && ixF md ops ks2 E
  |none => false) && ks1.all (fun k => decide (k < ops.size))
theorem unl_none {K : List Nat} {n : Nat} (h : ∀ k ∈ K, k < n) : unl K (Array.replicate n false) = K.length := by
 unfold unl
 rw [List.filter_eq_self.2]
 intro k hk
 simp [h k hk]
theorem any_tail {Q : Exit → Act → World → Prop} {ks1 ks2 : List Nat} {l1 l2 : List Oper} (hB : okTail md ops ks1 ks2 = true) (h1 : ks1.map (fun k => ops[k]?) = l1.map some) (h2 : ks2.map (fun k => ops[k]?) = l2.map some)
  {a : Act} {w : World} (hC : C w) (h : wpQuiet P ops C (fun a' => ∀ w', C w' → wpList P ops Q l2 a' w') l1 a) : wpAny P md ops Q ops.size (Array.replicate ops.size false) a w := by
 simp only [okTail, Bool.and_eq_true, decide_eq_true_eq, beq_iff_eq] at hB
 obtain ⟨⟨⟨⟨⟨hs, hn⟩, hw⟩, hl⟩, hm⟩, hlt⟩ := hB
 cases hE : ixQ md ops ks1 (Array.replicate ops.size false) with
 |none => rw [hE] at hm; cases hm
 |some E =>
  rw [hE] at hm
  simp only [Bool.and_eq_true, beq_iff_eq, List.all_eq_true, List.mem_range, Bool.not_eq_true', List.contains_eq_mem, decide_eq_false_iff_not] at hm
  obtain ⟨⟨⟨hEs, hEv⟩, hEr⟩, hF⟩ := hm
  have hK := anyK_lex (P := P) (C := C) (K := ks1) hs ks1 l1 _ E a h1 hE hEr h
  have hlt' : ∀ k ∈ ks1, k < ops.size := by simpa using hlt
  have := any_of_anyK (Q := Q) (m := ks2.length) hn hw hEs (fun k hk => by simpa using hEv k hk) (fun a w hC hq => any_of_list ks2 l2 E a w h2 hF (hq w hC)) ks1.length _ a w hC (by simp) (fun k hk _ => by simp [hk]) (unl_none hlt') hK
  rwa [hl] at this
def Ext (w : World) : Type := { W : World // Fr (fun _ => False) w W }
def extC (w : World) : World → Prop := fun w' => ∃ x : Ext w, w' = x.val
def Ext.here (w : World) : Ext w := ⟨w, Fr.refl _ _⟩
instance (w : World) : Nonempty (Ext w) := ⟨Ext.here w⟩
theorem cell_ext {w : World} {p : Addr} {v : Value} (h : w.cell? p = some v) : ∀ x : Ext w, x.val.cell? p = some v := fun x => x.2.cell h (fun h => h)
theorem block_ext {w : World} {k : Nat} {o : Obj} (h : w.heap[k]? = some o) : ∀ x : Ext w, x.val.heap[k]? = some o := fun x => (x.2.block k (Array.getElem?_eq_some_iff.1 h).1 (fun h => h)).trans h
theorem call_ext {f : FuncId} {args : Array Value} {w : World} {x : Ext w} {v : Value} (h : Calls P f args x.val fun e w' => e = .returned v ∧ Below x.val.heap.size x.val w') :
  Calls P f args x.val fun e w'' => e = .returned v ∧ ∃ y : Ext w, w'' = y.val :=
 h.mono fun e w' ⟨he, hb⟩ => ⟨he, ⟨w', x.2.call hb⟩, rfl⟩
theorem call_ext_same {f : FuncId} {args : Array Value} {w : World} {x : Ext w} {v : Value} (h : Calls P f args x.val fun e w' => e = .returned v ∧ x.val = w') :
  Calls P f args x.val fun e w'' => e = .returned v ∧ ∃ y : Ext w, w'' = y.val :=
 h.mono fun e w' ⟨he, hb⟩ => ⟨he, x, hb.symm⟩
theorem extC_drew (w : World) : extC w { w with drawn := w.drawn + 1 } := ⟨⟨w.drew, (Fr.refl _ _).drew⟩, rfl⟩
def nthO : List Oper → Nat → Oper
 |[], _ => { dst := none, op := .move (.const undef), type := 0, pos := "", after := #[], guard := none }
 |o :: _, 0 => o
 |_ :: l, k + 1 => nthO l k
def pick (l : List Oper) : List Nat → List Oper
 |[] => []
 |k :: ks => nthO l k :: pick l ks
theorem nthO_zero (o : Oper) (l : List Oper) : nthO (o :: l) 0 = o := rfl
theorem nthO_succ (o : Oper) (l : List Oper) (k : Nat) : nthO (o :: l) (k + 1) = nthO l k := rfl
theorem pick_nil (l : List Oper) : pick l [] = [] := rfl
theorem pick_cons (l : List Oper) (k : Nat) (ks : List Nat) : pick l (k :: ks) = nthO l k :: pick l ks := rfl
theorem nthO_get : ∀ (l : List Oper) (k : Nat), k < l.length → l[k]? = some (nthO l k)
 |[], _, h => by simp at h
 |o :: _, 0, _ => rfl
 |_ :: l, k + 1, h => by rw [List.getElem?_cons_succ, nthO_succ]; exact nthO_get l k (by simpa using h)
theorem pick_map {l : List Oper} : ∀ (ks : List Nat), ks.all (fun k => decide (k < l.length)) = true → ks.map (fun k => l.toArray[k]?) = (pick l ks).map some
 |[], _ => rfl
 |k :: ks, h => by
  simp only [List.all_cons, Bool.and_eq_true, decide_eq_true_eq] at h
  have ih := pick_map ks h.2
  rw [List.map_cons, ih, pick_cons, List.map_cons, ← nthO_get l k h.1]
  simp
theorem region_tail {id : Nat} {l : List Oper} {Q : Exit → Act → World → Prop} {a : Act} {w : World} (ks1 ks2 : List Nat) (hm : P.follows .mixedOrders = true) (hB : (okTail .any l.toArray ks1 ks2 && (ks1 ++ ks2).all fun k => decide (k < l.length)) = true)
  (h : wpQuiet P l.toArray (fun w' => ∃ x : Ext w, w' = x.val) (fun a' => ∀ w', (∃ x : Ext w, w' = x.val) → wpList P l.toArray Q (pick l ks2) a' w') (pick l ks1) a) : (Code.region id l.toArray true).wp P Q a w := by
 simp only [Bool.and_eq_true, List.all_append] at hB
 exact wp_region_any hm (any_tail (C := extC w) hB.1 (pick_map _ hB.2.1) (pick_map _ hB.2.2) (extC_drew w) h)
theorem region_tail_round {id : Nat} {l : List Oper} {Q : Exit → Act → World → Prop} {a : Act} {w : World} {lp n : Nat} (ks1 ks2 : List Nat) (hm : P.follows .mixedOrders = true) (hB : (okTail .any l.toArray ks1 ks2 && (ks1 ++ ks2).all fun k => decide (k < l.length)) = true) (hd : l.toArray.all noDefer = true) (hQ : ¬ LetsOut Q)
  (h : wpQuiet P l.toArray (fun w' => ∃ x : Ext w, w' = x.val) (fun a' => ∀ w', (∃ x : Ext w, w' = x.val) → wpList P l.toArray Q (pick l ks2) a' w') (pick l ks1) a) : (Code.region id l.toArray true).wpIn (Fence.wide.inRound lp) n P Q a w := by
 simp only [Bool.and_eq_true, List.all_append] at hB
 exact region_round_any lp n hd hm hQ (any_tail (C := extC w) hB.1 (pick_map _ hB.2.1) (pick_map _ hB.2.2) (extC_drew w) h)
theorem region_ext {id : Nat} {l : List Oper} {Q : Exit → Act → World → Prop} {a : Act} {w : World} (hm : P.follows .mixedOrders = true) (hB : Region.lexB .any l.toArray = true)
  (h : wpQuiet P l.toArray (fun w' => ∃ x : Ext w, w' = x.val) (fun a' => ∀ w', (∃ x : Ext w, w' = x.val) → Q .normal a' w') l a) : (Code.region id l.toArray true).wp P Q a w :=
 wp_region_quiet (C := extC w) hm hB (extC_drew w) h
theorem region_ext_round {id : Nat} {l : List Oper} {Q : Exit → Act → World → Prop} {a : Act} {w : World} {lp n : Nat} (hm : P.follows .mixedOrders = true) (hB : Region.lexB .any l.toArray = true) (hd : l.toArray.all noDefer = true) (hQ : ¬ LetsOut Q)
  (h : wpQuiet P l.toArray (fun w' => ∃ x : Ext w, w' = x.val) (fun a' => ∀ w', (∃ x : Ext w, w' = x.val) → Q .normal a' w') l a) : (Code.region id l.toArray true).wpIn (Fence.wide.inRound lp) n P Q a w := by
 simp only [Region.lexB, Bool.and_eq_true] at hB
 refine region_round_any lp n hd hm hQ (wpAny_of_quiet (C := extC w) (Q := fun a' => ∀ w', extC w w' → Q .normal a' w') (fun _ w' hw' h => h w' hw') _ _ _ _ (extC_drew w) ?_)
 exact wpAnyQ_lex (C := extC w) (md := .any) hB.1 l 0 (Array.replicate l.toArray.size false) a (by simp) (by simpa using hB.2) h
def plainCall (c : Callee) : Bool := match c with
 |.builtin .len | .builtin .min | .builtin .max | .builtin .cap => true
 |_ => false
def plainOp (o : Oper) : Bool := match o.op with
 |.call c => plainCall c.callee
 |.move _ | .assign _ | .nilCheck _ | .pick .. | .load .. | .binOp .. | .unOp .. | .convert .. | .slice .. | .fieldAddr .. | .field .. | .indexAddr .. | .index .. | .extract .. | .build .. | .makeFunc .. => true
 |_ => false
theorem run_value {s : Sem Value} {w w' : World} {n : Next} (h : (do pure (Next.value (← s)) : Sem Next).run P w = .ok n w') : ∃ v, n = .value v := by
 simp only [Sem.run_bind] at h
 cases hs : s.run P w <;> rw [hs] at h <;> simp [Result.andThen] at h
 exact ⟨_, h.1.symm⟩
theorem plainOp_value {o : Oper} {ρ : Operand → Value} {w w' : World} {n : Next} (h : plainOp o = true) (hr : (execOp ρ o).run P w = .ok n w') : ∃ v, n = .value v := by
 unfold plainOp at h
 unfold execOp at hr
 cases ho : o.op <;> simp only [ho] at h hr <;> first | exact run_value hr | (cases h; done) | skip
 ·simp at hr; exact ⟨_, hr.1.symm⟩
 ·simp at hr; exact ⟨_, hr.1.symm⟩
 ·rename_i c a b
  simp only [Sem.run_bind] at hr
  generalize Sem.run P (asBool (ρ c)) w = r at hr
  cases r <;> simp [Result.andThen] at hr
  exact ⟨_, hr.1.symm⟩
 ·(repeat' split at hr) <;> first | (simp at hr; exact ⟨_, hr.1.symm⟩) | (simp [runtimePanic] at hr; done) | skip
  all_goals
   simp only [Sem.run_bind] at hr
   generalize Sem.run P program w = r1 at hr
   cases r1 with
   |halt x w1 => simp [Result.andThen] at hr
   |ok x w1 =>
    simp only [Result.andThen_ok] at hr
    generalize Sem.run P (nilAhead _ _ _ _) w1 = r2 at hr
    cases r2 with
    |halt y w2 => simp [Result.andThen] at hr
    |ok y w2 =>
     simp only [Result.andThen_ok] at hr
     split at hr
     ·simp [Sem.run_bind, Result.andThen] at hr
     ·simp at hr; exact ⟨_, hr.1.symm⟩
 ·rename_i c
  unfold plainCall at h
  unfold resolve at hr
  cases hc : c.callee with
  |builtin b =>
   simp only [hc, Sem.run_bind, Sem.run_pure, Result.andThen, invoke] at h hr
   cases b <;> simp at h <;> exact run_value hr
  |_ => simp [hc] at h
theorem yieldsIf_of_in {o : Oper} {v : Value} {a : Act} (hp : plainOp o = true) (h : YieldsIn P ops C o v a) : YieldsIf P ops C o v a := by
 rcases h with ⟨hw, hv⟩ | h
 ·refine .inl ⟨hw, fun w hC => ?_⟩
  have h1 := hv w hC
  unfold Oper.quietAt at h1
  have hne := fun n w' => plainOp_value (P := P) (ρ := a.eval) (w := w) (w' := w') (n := n) hp
  generalize (execOp a.eval o).run P w = r at *
  cases r with
  |ok n w' =>
   obtain ⟨u, rfl⟩ := hne n w' rfl
   simp only [Oper.quietUpon] at h1
   obtain ⟨e1, e2⟩ := h1
   rw [e1, e2]
  |halt x w' => simp only [Oper.quietUpon] at h1
 ·exact .inr h
def seqQ (P : Program) (l : List Oper) (S : World → Prop) (Q : Exit → Act → World → Prop) : List (List Nat × Nat) → List Nat → Act → World → Prop
 |[], rest, a, w => wpQuiet P l.toArray S (fun a' => Q .normal a' w) (pick l rest) a
 |(qs, k) :: r, rest, a, w => wpQuiet P l.toArray S (fun a' => wpList P l.toArray (Exit.then (fun a'' w'' => S w'' ∧ seqQ P l S Q r rest a'' w'') Q) [nthO l k] a' w) (pick l qs) a
def okTakes (l : List Oper) : List Nat → Array Bool → Option (Array Bool)
 |[], listed => some listed
 |k :: ks, listed => if decide (k < l.length) && plainOp (nthO l k) && (Region.ready .any l.toArray listed).contains k && Region.free .any l.toArray listed k then okTakes l ks (listed.setIfInBounds k true) else none
def okSeq (l : List Oper) : List (List Nat × Nat) → List Nat → Array Bool → Bool
 |[], rest, listed => match okTakes l rest listed with
  |some E => (Region.ready .any l.toArray E).isEmpty
  |none => false
 |(qs, k) :: r, rest, listed => match okTakes l qs listed with
  |some E => decide (k < l.length) && Region.ready .any l.toArray E == [k] && okSeq l r rest (E.setIfInBounds k true)
  |none => false
def seqLen : List (List Nat × Nat) → List Nat → Nat
 |[], rest => rest.length
 |(qs, _) :: r, rest => qs.length + (seqLen r rest + 1)
def ExtB (B : Nat → Prop) (w : World) : Type := { W : World // Fr B w W }
instance (B : Nat → Prop) (w : World) : Nonempty (ExtB B w) := ⟨⟨w, Fr.refl _ _⟩⟩
theorem cell_extB {B : Nat → Prop} {w : World} {p : Addr} {v : Value} (h : w.cell? p = some v) (hB : ¬ B p.block) : ∀ x : ExtB B w, x.val.cell? p = some v := fun x => x.2.cell h hB
def okSegs (l : List Oper) (segs : List (List Nat × Nat)) (rest : List Nat) : Bool :=
 Region.noSelect l.toArray && seqLen segs rest == l.length && okSeq l segs rest (Array.replicate l.length false)
end
end Go.Rg
/- A range over a function: the statement's rule where the iterator lays blocks of its own between the rounds, and the rounds lay theirs: D tells which blocks are the rounds'. -/
set_option linter.unusedVariables false
set_option linter.unusedSimpArgs false
namespace Go.Rg
open Go.RowKit
section
variable {P : Program}
def more (D : Nat → Prop) (s : Nat) (W : World) : Nat → Prop := fun k => D k ∨ (s ≤ k ∧ k < W.heap.size)
end
end Go.Rg
/- A region that draws its order, at the wide fence: operations that only read and calls that only make memory first, in any order; then the rest in the one order that is left, yield among it. -/
set_option linter.unusedVariables false
set_option linter.unusedSimpArgs false
namespace Go.Rg
open Go.RowKit
section
variable {P : Program} {ops : Array Oper} {md : Region.Mode} {C : World → Prop} {Q : Exit → Act → World → Prop}
theorem takes_soundP {l : List Oper} {S : World → Prop} {Q : Exit → Act → World → Prop} (hs : Region.noSelect l.toArray = true) (hQ : ∀ (c : List PanicEntry) (a : Act) (d : Option Tmp) (v : Value) (w : World), Q (.panic c) (a.put d v) w → Q (.panic c) a w) {m : Nat} {w : World} (hS : S w) {Qa : Act → Prop} : ∀ (ks : List Nat) (listed E : Array Bool) (a : Act),
  okTakes l ks listed = some E → (∀ a', Qa a' → wpAnyH P .any l.toArray Q S m E a' w) → wpQuiet P l.toArray S Qa (pick l ks) a → wpAnyH P .any l.toArray Q S (ks.length + m) listed a w
 |[], listed, E, a, hB, hk, h => by
  simp only [okTakes, Option.some.injEq] at hB
  subst hB
  simp only [List.length_nil, Nat.zero_add]
  exact hk a h
 |k :: ks, listed, E, a, hB, hk, h => by
  simp only [okTakes] at hB
  split at hB
  ·rename_i hc
   simp only [Bool.and_eq_true, decide_eq_true_eq] at hc
   obtain ⟨⟨⟨hlt, hp⟩, hr⟩, hf⟩ := hc
   have h0 : l.toArray[k]? = some (nthO l k) := by rw [← nthO_get l k hlt]; simp
   have hst : qOp P l.toArray S k (wpQuiet P l.toArray S Qa (pick l ks)) a := by unfold qOp; simp only [h0]; exact h
   obtain ⟨v, hy, hK⟩ := yieldsIn_of_qOp h0 hst
   rw [List.length_cons, show ks.length + 1 + m = (ks.length + m) + 1 by omega]
   exact wpAnyH_take h0 hs hf hr (fun c a w => hQ c a _ _ w) (yieldsIf_of_in hp hy) hS (takes_soundP hs hQ hS ks _ E _ hB hk hK)
  ·cases hB
theorem seq_soundP {l : List Oper} {S : World → Prop} {Q : Exit → Act → World → Prop} (hs : Region.noSelect l.toArray = true) (hQ : ∀ (c : List PanicEntry) (a : Act) (d : Option Tmp) (v : Value) (w : World), Q (.panic c) (a.put d v) w → Q (.panic c) a w) (hQo : ¬ LetsOut Q) : ∀ (segs : List (List Nat × Nat)) (rest : List Nat) (listed : Array Bool) (a : Act) (w : World), S w →
  okSeq l segs rest listed = true → seqQ P l S Q segs rest a w → wpAnyH P .any l.toArray Q S (seqLen segs rest) listed a w
 |[], rest, listed, a, w, hS, hB, h => by
  simp only [okSeq] at hB
  split at hB
  ·rename_i E hE
   have := takes_soundP (m := 0) hs hQ hS rest listed E a hE (fun a' hq => wpAnyH_done (by simpa using hB) hq 0) h
   simpa [seqLen] using this
  ·cases hB
 |(qs, k) :: r, rest, listed, a, w, hS, hB, h => by
  simp only [okSeq] at hB
  split at hB
  ·rename_i E hE
   simp only [Bool.and_eq_true, decide_eq_true_eq, beq_iff_eq] at hB
   obtain ⟨⟨hlt, hr⟩, hB⟩ := hB
   have h0 : l.toArray[k]? = some (nthO l k) := by rw [← nthO_get l k hlt]; simp
   refine takes_soundP (m := seqLen r rest + 1) hs hQ hS qs listed E a hE (fun a' hq => ?_) h
   refine wpAnyH_all hr (by simp) (fun i hi => ?_)
   obtain rfl : i = k := by simpa using hi
   have h1 : wpOp P l.toArray (Exit.then (fun a'' w'' => S w'' ∧ seqQ P l S Q r rest a'' w'') Q) i (fun a'' w'' => S w'' ∧ seqQ P l S Q r rest a'' w'') a' w := by
    unfold wpOp
    simp only [h0]
    simpa [wpList, Exit.then] using hq
   have h2 : wpOp P l.toArray Q i (fun a'' w'' => S w'' ∧ seqQ P l S Q r rest a'' w'') a' w := by
    unfold wpOp at h1 ⊢
    simp only [h0] at h1 ⊢
    split
    ·rename_i hw
     rw [if_pos hw] at h1
     rcases h1 with h1 | h1
     ·refine .inl ?_
      unfold Oper.wp at h1 ⊢
      generalize (execOp a'.eval (nthO l i)).run P w = res at *
      cases res with
      |ok n w' => cases n <;> exact h1
      |halt x w' => cases x <;> exact h1
     ·exact (hQo (by obtain ⟨_, x, y, hxy⟩ := h1; exact ⟨x, y, hxy⟩)).elim
    ·rename_i hw
     rw [if_neg hw] at h1
     exact h1
   exact wpOp_mono (fun a'' w'' ⟨hS', h'⟩ => ⟨hS', seq_soundP hs hQ hQo r rest _ a'' w'' hS' hB h'⟩) h2
  ·cases hB
theorem region_seq_anyP {l : List Oper} {Q : Exit → Act → World → Prop} {a : Act} {w : World} (B : Nat → Prop) (segs : List (List Nat × Nat)) (rest : List Nat) (hB : okSegs l segs rest = true) (hQ : ∀ (c : List PanicEntry) (a : Act) (d : Option Tmp) (v : Value) (w : World), Q (.panic c) (a.put d v) w → Q (.panic c) a w) (hQo : ¬ LetsOut Q)
  (h : seqQ P l (fun w' => ∃ x : ExtB B w, w' = x.val) Q segs rest a { w with drawn := w.drawn + 1 }) : wpAny P .any l.toArray Q l.toArray.size (Array.replicate l.toArray.size false) a { w with drawn := w.drawn + 1 } := by
 simp only [okSegs, Bool.and_eq_true, beq_iff_eq] at hB
 have := seq_soundP (P := P) hB.1.1 hQ hQo segs rest _ a _ ⟨⟨w.drew, (Fr.refl _ _).drew⟩, rfl⟩ hB.2 h
 rw [hB.1.2] at this
 exact wpAny_of_held _ _ _ _ this
theorem region_seqP {id : Nat} {l : List Oper} {Q : Exit → Act → World → Prop} {a : Act} {w : World} (B : Nat → Prop) (segs : List (List Nat × Nat)) (rest : List Nat) (hm : P.follows .mixedOrders = true) (hB : okSegs l segs rest = true) (hQ : ∀ (c : List PanicEntry) (a : Act) (d : Option Tmp) (v : Value) (w : World), Q (.panic c) (a.put d v) w → Q (.panic c) a w) (hQo : ¬ LetsOut Q)
  (h : seqQ P l (fun w' => ∃ x : ExtB B w, w' = x.val) Q segs rest a { w with drawn := w.drawn + 1 }) : (Code.region id l.toArray true).wp P Q a w :=
 wp_region_any hm (region_seq_anyP B segs rest hB hQ hQo h)
end
end Go.Rg
/- A region that draws its order, walked order by order, every world on the way meeting S; two codes in a row with what lies between them named. -/
set_option linter.unusedVariables false
set_option linter.unusedSimpArgs false
namespace Go.Rg
open Go.RowKit
theorem any_stepS {P : Program} {l : List Oper} {Q : Exit → Act → World → Prop} {S : World → Prop} {m : Nat} {E : Array Bool} {a : Act} {w : World} (rs : List Nat)
  (hr : (Region.ready .any l.toArray E == rs && !rs.isEmpty && rs.all (fun k => decide (k < l.length))) = true)
  (h : ∀ i ∈ rs, wpList P l.toArray (Exit.then (fun a'' w'' => S w'' ∧ wpAnyH P .any l.toArray Q S m (E.setIfInBounds i true) a'' w'') Q) [nthO l i] a w) :
  wpAnyH P .any l.toArray Q S (m + 1) E a w := by
 simp only [Bool.and_eq_true, beq_iff_eq, List.all_eq_true, decide_eq_true_eq] at hr
 obtain ⟨⟨hr, hne⟩, hlt⟩ := hr
 refine wpAnyH_all hr (by intro e; rw [e] at hne; simp at hne) (fun i hi => ?_)
 have h0 : l.toArray[i]? = some (nthO l i) := by rw [← nthO_get l i (hlt i hi)]; simp
 have hq := h i hi
 have h1 : wpOp P l.toArray (Exit.then (fun a'' w'' => S w'' ∧ wpAnyH P .any l.toArray Q S m (E.setIfInBounds i true) a'' w'') Q) i (fun a'' w'' => S w'' ∧ wpAnyH P .any l.toArray Q S m (E.setIfInBounds i true) a'' w'') a w := by
  unfold wpOp
  simp only [h0]
  simpa [wpList, Exit.then] using hq
 unfold wpOp at h1 ⊢
 simp only [h0] at h1 ⊢
 split
 ·rename_i hw
  rw [if_pos hw] at h1
  rcases h1 with h1 | h1
  ·refine .inl ?_
   unfold Oper.wp at h1 ⊢
   generalize (execOp a.eval (nthO l i)).run P w = res at *
   cases res with
   |ok n w' => cases n <;> exact h1
   |halt x w' => cases x <;> exact h1
  ·exact .inr ⟨h1.1, by obtain ⟨_, x, y, hxy⟩ := h1; exact ⟨x, y, hxy⟩⟩
 ·rename_i hw
  rw [if_neg hw] at h1
  exact h1
theorem region_freeS {P : Program} {id : Nat} {l : List Oper} {Q : Exit → Act → World → Prop} {a : Act} {w : World} (B : Nat → Prop) (ks : List Nat) (E : Array Bool) (m : Nat) (hm : P.follows .mixedOrders = true)
  (hB : (Region.noSelect l.toArray && ks.length + m == l.length && okTakes l ks (Array.replicate l.length false) == some E) = true) (hQ : ∀ (c : List PanicEntry) (a : Act) (d : Option Tmp) (v : Value) (w : World), Q (.panic c) (a.put d v) w → Q (.panic c) a w)
  (h : wpQuiet P l.toArray (fun w' => ∃ x : ExtB B w, w' = x.val) (fun a' => wpAnyH P .any l.toArray Q (fun w' => ∃ x : ExtB B w, w' = x.val) m E a' w.drew) (pick l ks) a) : (Code.region id l.toArray true).wp P Q a w := by
 simp only [Bool.and_eq_true, beq_iff_eq] at hB
 refine wp_region_any hm ?_
 have := takes_soundP (P := P) (S := fun w' => ∃ x : ExtB B w, w' = x.val) (m := m) (w := w.drew) hB.1.1 hQ ⟨⟨w.drew, (Fr.refl _ _).drew⟩, rfl⟩ ks _ E a hB.2 (fun a' ha => ha) h
 rw [hB.1.2] at this
 exact wpAny_of_held _ _ _ _ this
end Go.Rg
/- A region that draws its order: first what only moves values (it may come anywhere); then what only reads and calls that only make memory, in any order; then the rest in the one order that is left. What waits for what is looked up through the edges, not only one step. -/
set_option linter.unusedVariables false
set_option linter.unusedSimpArgs false
namespace Go.Rg
open Go.RowKit
section
variable {P : Program} {ops : Array Oper} {md : Region.Mode} {C : World → Prop}
def reach (md : Region.Mode) (ops : Array Oper) : Nat → Nat → Nat → Bool
 |0, _, _ => false
 |f + 1, j, k => match ops[j]? with
  |some o => o.after.any fun e => Region.binds md e && (e.on == k || reach md ops f e.on k)
  |none => false
def Down (md : Region.Mode) (ops : Array Oper) (listed : Array Bool) : Prop := ∀ j, j < ops.size → listed.getD j true = true → ∀ o, ops[j]? = some o → ∀ e ∈ o.after, Region.binds md e = true → listed.getD e.on false = true
theorem reach_spec {listed : Array Bool} (hD : Down md ops listed) (hs : listed.size = ops.size) : ∀ (f j k : Nat), reach md ops f j k = true → (∀ o, ops[j]? = some o → ∀ e ∈ o.after, Region.binds md e = true → listed.getD e.on false = true) → listed.getD k false = true
 |0, _, _, h, _ => by simp [reach] at h
 |f + 1, j, k, h, hj => by
  unfold reach at h
  cases ho : ops[j]? with
  |none => rw [ho] at h; cases h
  |some o =>
   rw [ho] at h
   obtain ⟨e, he, hb⟩ := Array.any_eq_true'.1 h
   simp only [Bool.and_eq_true, Bool.or_eq_true, beq_iff_eq] at hb
   have hl := hj o ho e he hb.1
   rcases hb.2 with rfl | hr
   ·exact hl
   ·have hlt : e.on < ops.size := by
     rcases Nat.lt_or_ge e.on listed.size with h' | h'
     ·omega
     ·simp [Array.getElem?_eq_none h'] at hl
    refine reach_spec hD hs f e.on k hr (hD e.on hlt ?_)
    simpa [hs, hlt] using hl
theorem Down.step {listed : Array Bool} {i : Nat} (hD : Down md ops listed) (hi : i ∈ Region.ready md ops listed) : Down md ops (listed.setIfInBounds i true) := by
 obtain ⟨hu, o, ho, hall⟩ := mem_ready.1 hi
 have up : ∀ k, listed.getD k false = true → (listed.setIfInBounds i true).getD k false = true := fun k hk => by
  by_cases e : i = k
  ·subst e
   rcases Nat.lt_or_ge i listed.size with h' | h'
   ·simp [h']
   ·simp [Array.getElem?_eq_none h'] at hk
  ·rw [getD_set_ne false e]; exact hk
 intro j hj hl o' ho' e he hb
 by_cases hji : i = j
 ·subst hji
  rw [ho] at ho'
  cases ho'
  exact up _ (hall e he hb)
 ·rw [getD_set_ne true hji] at hl
  exact up _ (hD j hj hl o' ho' e he hb)
def downB (md : Region.Mode) (ops : Array Oper) (listed : Array Bool) : Bool := (List.range ops.size).all fun j => !listed.getD j true || match ops[j]? with
 |some o => o.after.all fun e => !Region.binds md e || listed.getD e.on false
 |none => true
theorem downB_spec {listed : Array Bool} (h : downB md ops listed = true) : Down md ops listed := by
 intro j hj hl o ho e he hb
 simp only [downB, List.all_eq_true, List.mem_range, Bool.or_eq_true, Bool.not_eq_true'] at h
 rcases h j hj with h | h
 ·rw [hl] at h; cases h
 ·rw [ho] at h
  simp only [Array.all_eq_true'] at h
  have := h e he
  simpa [hb] using this
def waitsT (md : Region.Mode) (ops : Array Oper) (base : Array Bool) (K : List Nat) : Bool :=
 (List.range ops.size).all fun j => K.contains j || base.getD j true || K.all fun k => reach md ops ops.size j k
theorem any_of_anyKB {K : List Nat} {Qa : Act → Prop} {Q : Exit → Act → World → Prop} {m : Nat} {B E : Array Bool} (hn : K.Nodup) (hw : waitsT md ops B K = true) (hEs : E.size = ops.size) (hEv : ∀ k, k < ops.size → E.getD k true = (K.contains k || B.getD k true))
  (ht : ∀ a w, C w → Qa a → wpAny P md ops Q m E a w) : ∀ (fuel : Nat) (listed : Array Bool) (a : Act) (w : World), C w → listed.size = ops.size → Down md ops listed → (∀ k, k < ops.size → k ∉ K → listed.getD k true = B.getD k true) → (∀ k ∈ K, k < ops.size) → unl K listed = fuel →
   anyK P md ops C K Qa fuel listed a → wpAny P md ops Q (fuel + m) listed a w
 |0, listed, a, w, hC, hs, hD, hk, hKs, hu, h => by
  have : listed = E := by
   apply Array.ext (by omega)
   intro k h1 h2
   have hE := hEv k (by omega)
   by_cases hkK : k ∈ K
   ·have h3 : listed.getD k true = true := by
     cases hc : listed.getD k true with
     |true => rfl
     |false =>
      have : k ∈ K.filter fun k => !listed.getD k true := List.mem_filter.2 ⟨hkK, by rw [hc]; rfl⟩
      have h4 := List.length_pos_of_mem this
      unfold unl at hu
      omega
    simp [h1, h2, hkK] at h3 hE
    rw [h3, hE]
   ·have h3 := hk k (by omega) hkK
    rw [← h3] at hE
    simp [h1, h2, hkK] at hE
    exact hE.symm
  subst this
  rw [Nat.zero_add]
  exact ht a w hC h.2
 |fuel + 1, listed, a, w, hC, hs, hD, hk, hKs, hu, h => by
  have hex : ∃ k ∈ K, listed.getD k true = false := by
   have : 0 < (K.filter fun k => !listed.getD k true).length := by unfold unl at hu; omega
   obtain ⟨k, hkm⟩ := List.exists_mem_of_length_pos this
   have := List.mem_filter.1 hkm
   exact ⟨k, this.1, by simpa using this.2⟩
  obtain ⟨k0, hk0, hk0u⟩ := hex
  rw [show fuel + 1 + m = (fuel + m) + 1 by omega]
  refine ⟨fun h0 => absurd h0 h.1, fun i hi => ?_⟩
  have hiu := (mem_ready.1 hi).1
  have hiK : i ∈ K := by
   obtain ⟨_, o, ho, hall⟩ := mem_ready.1 hi
   simp only [waitsT, List.all_eq_true, List.mem_range, Bool.or_eq_true, List.contains_iff_mem] at hw
   have hlt := (Array.getElem?_eq_some_iff.1 ho).1
   rcases hw i hlt with (h1 | h1) | h1
   ·exact h1
   ·apply Classical.byContradiction
    intro hnK
    rw [hk i hlt hnK, h1] at hiu
    cases hiu
   ·have h2 := reach_spec hD hs _ _ _ (h1 k0 hk0) (fun o' ho' e he hb => by rw [ho] at ho'; cases ho'; exact hall e he hb)
    have h3 := hKs k0 hk0
    have h4 : k0 < listed.size := by omega
    simp [h4] at h2 hk0u
    rw [h2] at hk0u; cases hk0u
  refine wpOp_of_qOp hC (fun a' w' hC' h' => any_of_anyKB hn hw hEs hEv ht fuel _ a' w' hC' (by simpa using hs) (hD.step hi) (fun k hk1 hk2 => ?_) hKs ?_ h') (h.2 i hi hiK)
  ·by_cases e : i = k
   ·subst e; exact absurd hiK hk2
   ·rw [getD_set_ne true e]; exact hk k hk1 hk2
  ·have := (unl_set hiu K hn).1 hiK
   omega
theorem heldT_of_any {Q : Exit → Act → World → Prop} : ∀ (fuel : Nat) (listed : Array Bool) (a : Act) (w : World), wpAny P md ops Q fuel listed a w → wpAnyH P md ops Q (fun w' => ∃ x : World, w' = id x) fuel listed a w
 |0, _, _, _, h => h
 |fuel + 1, _, _, _, h => ⟨h.1, fun i hi => wpOp_mono (fun a' w' h' => ⟨⟨w', rfl⟩, heldT_of_any fuel _ a' w' h'⟩) (h.2 i hi)⟩
def okLate (md : Region.Mode) (l : List Oper) (ks0 ks1 ks2 : List Nat) : Bool :=
 Region.noSelect l.toArray && decide ks1.Nodup && ks0.length + (ks1.length + ks2.length) == l.length &&
 (match okTakes l ks0 (Array.replicate l.length false) with
  |some B => B.size == l.length && downB md l.toArray B && waitsT md l.toArray B ks1 && ks1.all (fun k => !B.getD k true) &&
   (match ixQ md l.toArray ks1 B with
   |some E => E.size == l.length && (List.range l.length).all (fun k => E.getD k true == (ks1.contains k || B.getD k true)) && (Region.ready md l.toArray E).all (fun j => !ks1.contains j) && ixF md l.toArray ks2 E
   |none => false)
  |none => false) && (ks0 ++ (ks1 ++ ks2)).all (fun k => decide (k < l.length))
theorem any_late {l : List Oper} {Q : Exit → Act → World → Prop} {a : Act} {w w0 : World} (ks0 ks1 ks2 : List Nat) (hB : okLate .any l ks0 ks1 ks2 = true) (hQ : ∀ (c : List PanicEntry) (a : Act) (d : Option Tmp) (v : Value) (w : World), Q (.panic c) (a.put d v) w → Q (.panic c) a w) (hC : C w)
  (h : wpQuiet P l.toArray (fun w' => ∃ x : World, w' = id x) (fun a' => wpQuiet P l.toArray C (fun a'' => ∀ w', C w' → wpList P l.toArray Q (pick l ks2) a'' w') (pick l ks1) a') (pick l ks0) a) : wpAny P .any l.toArray Q l.length (Array.replicate l.length false) a w := by
 simp only [okLate, Bool.and_eq_true, decide_eq_true_eq, beq_iff_eq, List.all_append] at hB
 obtain ⟨⟨⟨⟨hs, hn⟩, hl⟩, hm⟩, h0, h1, h2⟩ := hB
 cases hT : okTakes l ks0 (Array.replicate l.length false) with
 |none => rw [hT] at hm; cases hm
 |some B =>
  rw [hT] at hm
  simp only [Bool.and_eq_true, beq_iff_eq] at hm
  obtain ⟨⟨⟨⟨hBs, hD⟩, hw⟩, hBK⟩, hm⟩ := hm
  cases hE : ixQ .any l.toArray ks1 B with
  |none => rw [hE] at hm; cases hm
  |some E =>
   rw [hE] at hm
   simp only [Bool.and_eq_true, beq_iff_eq, List.all_eq_true, List.mem_range, Bool.not_eq_true', List.contains_eq_mem, decide_eq_false_iff_not] at hm
   obtain ⟨⟨⟨hEs, hEv⟩, hEr⟩, hF⟩ := hm
   have hlt' : ∀ k ∈ ks1, k < l.toArray.size := by simpa using h1
   have hun : unl ks1 B = ks1.length := by
    unfold unl
    rw [List.filter_eq_self.2]
    exact List.all_eq_true.1 hBK
   have := takes_soundP (P := P) (S := fun w' => ∃ x : World, w' = id x) (m := ks1.length + ks2.length) (w := w) hs hQ ⟨w, rfl⟩ ks0 _ B a hT (fun a' ha => heldT_of_any _ _ _ _ (any_of_anyKB (Q := Q) (C := C) (m := ks2.length) (B := B) hn hw (by simpa using hEs) (fun k hk => by simpa using hEv k (by simpa using hk)) (fun a w hC hq => any_of_list ks2 (pick l ks2) E a w (pick_map _ h2) hF (hq w hC)) ks1.length B a' w hC (by simpa using hBs) (downB_spec hD) (fun k _ _ => rfl) hlt' hun (anyK_lex (P := P) (C := C) (K := ks1) hs ks1 (pick l ks1) B E a' (pick_map _ h1) hE hEr ha))) h
   rw [hl] at this
   exact wpAny_of_held _ _ _ _ this
theorem region_late {id : Nat} {l : List Oper} {Q : Exit → Act → World → Prop} {a : Act} {w : World} (ks0 ks1 ks2 : List Nat) (hm : P.follows .mixedOrders = true) (hB : okLate .any l ks0 ks1 ks2 = true) (hQ : ∀ (c : List PanicEntry) (a : Act) (d : Option Tmp) (v : Value) (w : World), Q (.panic c) (a.put d v) w → Q (.panic c) a w)
  (h : wpQuiet P l.toArray (fun w' => ∃ x : World, w' = _root_.id x) (fun a' => wpQuiet P l.toArray (fun w' => ∃ x : Ext w, w' = x.val) (fun a'' => ∀ w', (∃ x : Ext w, w' = x.val) → wpList P l.toArray Q (pick l ks2) a'' w') (pick l ks1) a') (pick l ks0) a) : (Code.region id l.toArray true).wp P Q a w := by
 refine wp_region_any hm ?_
 have := any_late (P := P) (C := extC w) (w := w.drew) (w0 := w) ks0 ks1 ks2 hB hQ (extC_drew w) h
 simpa using this
end
end Go.Rg
