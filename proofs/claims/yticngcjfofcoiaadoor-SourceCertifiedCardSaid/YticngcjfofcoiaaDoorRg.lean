/- General words on a frame of blocks and on a range over a function, at the wide fence: the statement's rule, and how a walk outside a round serves inside one. -/
import Derived.RangeFuncNested
import Derived.RangeFuncBound
import Derived.RangeFuncCalls
import Derived.RangeFuncLeaves
import Derived.OrdersHeld
import Derived.Deep.Draws
import Derived.OrdersIn
import Derived.WalkKit
import Derived.Shelf.Abstract
import Derived.OwnWalkIn
import Derived.TacticsInMore
set_option linter.unusedVariables false
set_option linter.unusedSimpArgs false
namespace Go.Rg
open Go.RowKit

/-- The world B is A, but for blocks of S and blocks that were not there. -/
structure Fr (S : Nat → Prop) (A B : World) : Prop where
  os : B.os = A.os
  tape : B.tape = A.tape
  output : B.output = A.output
  size : A.heap.size ≤ B.heap.size
  block : ∀ k, k < A.heap.size → ¬ S k → B.heap[k]? = A.heap[k]?

theorem Fr.refl (S : Nat → Prop) (A : World) : Fr S A A := ⟨rfl, rfl, rfl, Nat.le_refl _, fun _ _ _ => rfl⟩
theorem Fr.trans {S : Nat → Prop} {A B C : World} (h : Fr S A B) (k : Fr S B C) : Fr S A C :=
  ⟨k.os.trans h.os, k.tape.trans h.tape, k.output.trans h.output, Nat.le_trans h.size k.size, fun i hi hs => (k.block i (Nat.lt_of_lt_of_le hi h.size) hs).trans (h.block i hi hs)⟩
theorem Fr.trans' {S T : Nat → Prop} {A B C : World} (h : Fr S A B) (k : Fr T B C) (hT : ∀ i, i < A.heap.size → T i → S i) : Fr S A C :=
  ⟨k.os.trans h.os, k.tape.trans h.tape, k.output.trans h.output, Nat.le_trans h.size k.size, fun i hi hs => (k.block i (Nat.lt_of_lt_of_le hi h.size) (fun ht => hs (hT i hi ht))).trans (h.block i hi hs)⟩
theorem Fr.mono {S T : Nat → Prop} {A B : World} (h : Fr S A B) (hs : ∀ k, k < A.heap.size → S k → T k) : Fr T A B :=
  ⟨h.os, h.tape, h.output, h.size, fun i hi ht => h.block i hi (fun hk => ht (hs i hi hk))⟩
theorem Fr.drew {S : Nat → Prop} {A B : World} (h : Fr S A B) : Fr S A B.drew := ⟨h.os, h.tape, h.output, h.size, h.block⟩
theorem Fr.drewN {S : Nat → Prop} {A B : World} (h : Fr S A B) (n : Nat) : Fr S A (B.drewN n) := ⟨h.os, h.tape, h.output, h.size, h.block⟩
theorem Fr.alloc {S : Nat → Prop} {A B : World} (h : Fr S A B) (o : Obj) : Fr S A (B.alloc o) :=
  h.trans ⟨rfl, rfl, rfl, by simp, fun k hk _ => Below.heap_alloc _ _ _ hk⟩
theorem Fr.setCell {S : Nat → Prop} {A B : World} (h : Fr S A B) (p : Addr) (u : Value) (hp : p.block < A.heap.size → S p.block) : Fr S A (B.setCell p u) :=
  ⟨h.os, h.tape, h.output, by simpa [World.setCell] using h.size, fun k hk hs =>
    (Below.heap_setCell B p u k (fun e => by subst e; exact hs (hp hk))).trans (h.block k hk hs)⟩
theorem Fr.putObj {S : Nat → Prop} {A B : World} (h : Fr S A B) (r : Nat) (o : Obj) (hp : r < A.heap.size → S r) : Fr S A (B.putObj r o) :=
  ⟨h.os, h.tape, h.output, by simpa using h.size, fun k hk hs => (World.putObj_heap_other (fun e => by subst e; exact hs (hp hk))).trans (h.block k hk hs)⟩
theorem Fr.of_below {n : Nat} {A B : World} (h : Below n A B) : Fr (fun k => n ≤ k) A B := ⟨h.os, h.tape, h.output, h.size, fun k _ hs => h.block k (by omega)⟩
theorem Fr.below {S : Nat → Prop} {n : Nat} {A B : World} (h : Fr S A B) (hs : ∀ k, k < n → ¬ S k) (hn : n ≤ A.heap.size) : Below n A B := ⟨h.os, h.tape, h.output, h.size, fun k hk => h.block k (by omega) (hs k hk)⟩
theorem Fr.grown {S : Nat → Prop} {A B C : World} {row : Option Nat} (h : Fr S A B) (hg : B.grownBy C row) (hr : ∀ k, row = some k → k < A.heap.size → S k) : Fr S A C :=
  ⟨hg.os.trans h.os, hg.tape.trans h.tape, hg.output.trans h.output, Nat.le_trans h.size hg.size, fun k hk hs =>
    (hg.block k (Nat.lt_of_lt_of_le hk h.size) (fun e => hs (hr k e.symm hk))).trans (h.block k hk hs)⟩
/-- A call that makes memory alone. -/
theorem Fr.call {S : Nat → Prop} {A B C : World} (h : Fr S A B) (k : Below B.heap.size B C) : Fr S A C :=
  h.trans ⟨k.os, k.tape, k.output, k.size, fun i hi _ => k.block i hi⟩
theorem Fr.cell {S : Nat → Prop} {A B : World} (h : Fr S A B) {p : Addr} {v : Value} (hc : A.cell? p = some v) (hs : ¬ S p.block) : B.cell? p = some v := by
  rw [← hc]; exact World.cell?_of_block (w := A) (h.block p.block (World.block_lt_of_cell? A p hc) hs)
theorem Fr.frozen {S : Nat → Prop} {A B : World} (h : Fr S A B) {p : Addr} (hl : p.block < A.heap.size) (hs : ¬ S p.block) : B.frozen? p = A.frozen? p := World.frozen?_of_block (w := A) (h.block p.block hl hs)

theorem cell_new {W : World} {vs : Array Value} {t : TypeId} {fz : Nat × Nat} {o : Nat} {v : Value} (h : vs[o]? = some v) : (W.alloc (.cells vs t fz)).cell? ⟨W.heap.size, o, none⟩ = some v := by
  unfold World.cell?
  rw [World.alloc_heap_new]
  exact h

theorem heap_new {W : World} {o : Obj} {k : Nat} (h : W.heap.size = k) : (W.alloc o).heap[k]? = some o := by subst h; exact World.alloc_heap_new W o
theorem heap_old {W : World} {o r : Obj} {k : Nat} (h : W.heap[k]? = some r) : (W.alloc o).heap[k]? = some r := (Below.heap_alloc W o k (Array.getElem?_eq_some_iff.1 h).1).trans h
theorem cell_of {W : World} {k o : Nat} {vs : Array Value} {t : TypeId} {fz : Nat × Nat} {v : Value} (h : W.heap[k]? = some (.cells vs t fz)) (hv : vs[o]? = some v) : W.cell? ⟨k, o, none⟩ = some v := by
  unfold World.cell?
  rw [h]
  exact hv
theorem frozen_of {W : World} {k o : Nat} {vs : Array Value} {t : TypeId} (h : W.heap[k]? = some (.cells vs t (0, 0))) : W.frozen? ⟨k, o, none⟩ = false := by
  simp [World.frozen?, h]
/-- A store into a block that is known whole. -/
theorem heap_set {W : World} {k o : Nat} {vs : Array Value} {t : TypeId} {fz : Nat × Nat} (v : Value) (h : W.heap[k]? = some (.cells vs t fz)) : (W.setCell ⟨k, o, none⟩ v).heap[k]? = some (.cells (vs.setIfInBounds o v) t fz) := by
  obtain ⟨hlt, e⟩ := Array.getElem?_eq_some_iff.1 h
  show (W.heap.modify k _)[k]? = _
  rw [Array.getElem?_eq_getElem (by rw [Array.size_modify]; exact hlt), Array.getElem_modify_self, e]
  simp
theorem heap_set_ne {W : World} {p : Addr} {k : Nat} {r : Obj} (v : Value) (hne : k ≠ p.block) (h : W.heap[k]? = some r) : (W.setCell p v).heap[k]? = some r := (Below.heap_setCell W p v k hne).trans h

/-! ### What is walked outside a round serves inside one -/
section
variable {P : Program} {ops : Array Oper} {Q : Exit → Act → World → Prop}

def noDefer (o : Oper) : Bool := match o.op with | .defer _ => false | _ => true
theorem noDefer_spec {o : Oper} (h : noDefer o = true) : ∀ c, o.op ≠ .defer c := by
  intro c hc
  simp [noDefer, hc] at h

theorem calls_round {f : FuncId} {args : Array Value} {w : World} {R : Ending → World → Prop} (l n : Nat) (h : Calls P f args w R) : CallsIn (Fence.wide.inRound l) n P f args w R :=
  CallsIn.inRound l (callsIn_wide.2 h)

theorem rows_round {row : String} {args : Array Value} {w : World} {R : Value → World → Prop} (l n : Nat) (h : Rows P row args w R) : RowsIn (Fence.wide.inRound l) n P row args w R :=
  fun c cs _ => let ⟨v, w', r, s⟩ := h c cs; ⟨v, w', r, stepsIn_wide.2 s⟩

theorem oper_round {o : Oper} {a : Act} {w : World} {K : Act → World → Prop} (l n : Nat) (hd : noDefer o = true) (hQ : ¬ LetsOut Q)
    (h : o.wp P a w K Q ∨ (o.asks P a w ∧ LetsOut Q)) : o.wpIn (Fence.wide.inRound l) n P a w K Q := by
  have h := h.resolve_right (fun x => hQ x.2)
  refine ⟨fun _ _ => trivial, ?_⟩
  rw [Oper.semAt_eq _ _ _ (noDefer_spec hd)]
  unfold Oper.wp at h
  generalize (execOp a.eval o).run P w = r at *
  cases r with
  | ok x w' =>
    cases x <;> simp only [Oper.upon, Oper.uponIn] at h ⊢ <;> first | exact h | skip
    · exact ⟨fun hx => by simp [Fence.wide] at hx, calls_round l _ h⟩
    · exact ⟨fun hx => by simp [Fence.wide] at hx, rows_round l _ h⟩
  | halt x w' => cases x <;> simp only [Oper.upon, Oper.uponIn] at h ⊢ <;> exact h

theorem list_round (l n : Nat) (hQ : ¬ LetsOut Q) : ∀ (os : List Oper) (a : Act) (w : World), os.all noDefer = true → wpList P ops Q os a w → wpListIn (Fence.wide.inRound l) n P ops Q os a w
  | [], _, _, _, h => h
  | o :: os, a, w, hd, h => by
    simp only [List.all_cons, Bool.and_eq_true] at hd
    simp only [wpList, wpListIn] at h ⊢
    split
    · rename_i hw
      rw [if_pos hw] at h
      refine Oper.wpIn_mono (fun a w h => list_round l n hQ os a w hd.2 h) (oper_round l n hd.1 hQ ?_)
      exact h
    · rename_i hw
      rw [if_neg hw] at h
      exact ⟨fun _ _ => trivial, list_round l n hQ os _ w hd.2 h⟩

theorem op_round {i : Nat} {a : Act} {w : World} {K : Act → World → Prop} (l n : Nat) (hd : ops.all noDefer = true) (hQ : ¬ LetsOut Q) (h : wpOp P ops Q i K a w) :
    wpOpIn (Fence.wide.inRound l) n P ops Q i K a w := by
  unfold wpOp at h
  unfold wpOpIn
  cases ho : ops[i]? with
  | none => simp only [ho] at h ⊢; exact h
  | some o =>
    simp only [ho] at h ⊢
    have hdo : noDefer o = true := by
      obtain ⟨hlt, e⟩ := Array.getElem?_eq_some_iff.1 ho
      rw [Array.all_eq_true] at hd
      rw [← e]; exact hd i hlt
    split
    · rename_i hw
      rw [if_pos hw] at h
      exact oper_round l n hdo hQ h
    · rename_i hw
      rw [if_neg hw] at h
      exact ⟨fun _ _ => trivial, h⟩

theorem any_round {md : Region.Mode} (l n : Nat) (hd : ops.all noDefer = true) (hQ : ¬ LetsOut Q) : ∀ (fuel : Nat) (listed : Array Bool) (a : Act) (w : World),
    wpAny P md ops Q fuel listed a w → wpAnyIn (Fence.wide.inRound l) n P md ops Q fuel listed a w
  | 0, _, _, _, h => h
  | fuel + 1, listed, a, w, h => ⟨h.1, fun i hi => wpOpIn_mono (fun a w h => any_round l n hd hQ fuel _ a w h) (op_round l n hd hQ (h.2 i hi))⟩

/-- A region, walked as outside a round. -/
theorem region_round {id : Nat} {os : List Oper} {a : Act} {w : World} (l n : Nat) (hd : os.all noDefer = true) (hQ : ¬ LetsOut Q)
    (h : wpList P os.toArray Q os a w) : (Code.region id os.toArray false).wpIn (Fence.wide.inRound l) n P Q a w :=
  wpIn_region_lit (list_round l n hQ os a w hd h)

/-- A region that draws its order, walked as outside a round. -/
theorem region_round_any {id : Nat} {a : Act} {w : World} (l n : Nat) (hd : ops.all noDefer = true) (hm : P.follows .mixedOrders = true) (hQ : ¬ LetsOut Q)
    (h : wpAny P .any ops Q ops.size (Array.replicate ops.size false) a { w with drawn := w.drawn + 1 }) : (Code.region id ops true).wpIn (Fence.wide.inRound l) n P Q a w :=
  wpIn_region_any hm (any_round l n hd hQ _ _ _ _ h)
theorem region_round_held {id : Nat} {a : Act} {w : World} {S : World → Prop} (l n : Nat) (hd : ops.all noDefer = true) (hm : P.follows .mixedOrders = true) (hQ : ¬ LetsOut Q)
    (h : wpAnyH P .any ops Q S ops.size (Array.replicate ops.size false) a { w with drawn := w.drawn + 1 }) : (Code.region id ops true).wpIn (Fence.wide.inRound l) n P Q a w :=
  region_round_any l n hd hm hQ (wpAny_of_held _ _ _ _ h)
end

/-! ### The iterator's contract and the statement -/
section
variable {P : Program}

/-- What a function value (gf, lb) does as an iterator: it hands over xs 0, xs 1, .. until xs ends or a round says no. It turns blocks of 'priv' and new ones alone; it leans on blocks of 'rel' and 'priv', and on new ones of its own. J i s: i rounds are over; s: the heap's size when the last one was. -/
def IterOk {α : Type} (P : Program) (gf : FuncId) (lb : Array Value) (encs : α → Array Value) (xs : Nat → Option α) (N : Nat) (priv rel : Nat → Prop) (Pre : World → Prop) : Prop :=
  ∀ (l : Nat) (J : Nat → Nat → World → Prop) (Jx : Nat → World → Prop) (W : World), Pre W → (∀ i s A, J i s A → i ≤ N) → (∀ i s A B, J i s A → Fr priv A B → J i s B) → (∀ i A B, Jx i A → Fr priv A B → Jx i B) →
    (∀ i s x W1, xs i = some x → J i s W1 → s ≤ W1.heap.size → YieldAt Fence.wide 0 P l (encs x) W1 fun e W' =>
      (e = .returned (.bool true) ∧ J (i + 1) W'.heap.size W' ∧ Fr (fun k => k < s ∧ ¬ rel k ∧ ¬ priv k) W1 W') ∨ (e = .returned (.bool false) ∧ Jx i W')) →
    J 0 W.heap.size W →
    CallsIn Fence.wide 0 P gf (#[.func (.yield l) #[] #[]] ++ lb) W fun e W' => (∃ v, e = .returned v) ∧ ((∃ n s, xs n = none ∧ J n s W') ∨ (∃ i x, xs i = some x ∧ Jx i W'))

/-- How the body of a round may be left; B0: the heap's size where the statement began. -/
def rPost (B0 s z : Nat) (own : Nat → Prop) (I : Nat → Nat → World → Prop) (Ix : Code → Nat → World → Prop) (i : Nat) (W : World) : Exit → Act → World → Prop
  | .normal, _, W' => Fr (fun k => own k ∨ (B0 + 2 ≤ k ∧ k < s) ∨ z ≤ k) W W' ∧ I (i + 1) W'.heap.size W'
  | .ret, _, W' => Fr (fun k => own k ∨ (B0 + 2 ≤ k ∧ k < s) ∨ z ≤ k) W W' ∧ Ix .ret i W'
  | .exit id, _, W' => Fr (fun k => own k ∨ (B0 + 2 ≤ k ∧ k < s) ∨ z ≤ k) W W' ∧ Ix (.exit id) i W'
  | .goto _, _, _ => False
  | .panic _, _, _ => False
  | .outgrown, _, _ => False

theorem rPost_out {B0 s z : Nat} {own : Nat → Prop} {I : Nat → Nat → World → Prop} {Ix : Code → Nat → World → Prop} {i : Nat} {W : World} : ¬ LetsOut (rPost B0 s z own I Ix i W) := fun ⟨_, _, h⟩ => h

/-- 'for .. := range g { body }', outside a round; B0: the heap's size where it begins. -/
theorem wp_range {α : Type} {g : Operand} {ps : Array Tmp} {assign body : Code} {Q : Exit → Act → World → Prop} {a : Act} {w : World} (B0 : Nat) (hB0 : w.heap.size = B0)
    {gf : Nat} {lb : Array Value} (hg : a.eval g = .func (.func gf) #[] lb) (eg : ∀ args w, (callFunc gf args).run P w = .ok (.enter gf args) w)
    {encs : α → Array Value} {xs : Nat → Option α} {N : Nat} {priv rel : Nat → Prop} {Pre : World → Prop} (hseq : IterOk P gf lb encs xs N priv rel Pre)
    (hps : ∀ x, (encs x).size = ps.size) (own : Nat → Prop) (hpre : ∀ W, Fr (fun _ => False) w W → Pre W)
    (hlt : ∀ k, priv k ∨ rel k ∨ own k → k < B0) (hown : ∀ k, own k → ¬ priv k ∧ ¬ rel k)
    (I : Nat → Nat → World → Prop) (Ix : Code → Nat → World → Prop)
    (hI : ∀ i s A B, I i s A → B0 + 2 ≤ A.heap.size → Fr (fun k => priv k ∨ k = B0 ∨ k = B0 + 1) A B → I i s B)
    (hIx : ∀ c i A B, Ix c i A → B0 + 2 ≤ A.heap.size → Fr (fun k => priv k ∨ k = B0 ∨ k = B0 + 1) A B → Ix c i B)
    (hN : ∀ i s W, I i s W → i ≤ N)
    (h0 : ∀ W, Fr (fun _ => False) w W → W.heap.size = B0 + 2 → I 0 W.heap.size W)
    (A : Nat → Nat → Nat → α → Act → World → Prop) (hA : ∀ i s z x a' X Y, A i s z x a' X → B0 + 2 ≤ X.heap.size → Fr (fun k => k = B0 + 1) X Y → Y.heap.size = X.heap.size → A i s z x a' Y)
    (hassign : ∀ (l i s : Nat) (x : α) (W : World), xs i = some x → I i s W → B0 + 2 ≤ s → s ≤ W.heap.size →
      assign.wpIn (Fence.wide.inRound l) 0 P (Exit.then (fun a' W' => Fr (fun k => own k ∨ (B0 + 2 ≤ k ∧ k < s)) W W' ∧ A i s W.heap.size x a' W') (fun _ _ _ => False)) { tmps := (ps.zip (encs x)).foldl (fun t (p, v) => t.setIfInBounds p v) a.tmps, defers := [] } W)
    (hbody : ∀ (l i s z : Nat) (x : α) (a' : Act) (W : World), xs i = some x → A i s z x a' W → B0 + 2 ≤ s → s ≤ z → z ≤ W.heap.size → body.wpIn (Fence.wide.inRound l) 0 P (rPost B0 s z own I Ix i W) a' W)
    (hdone : ∀ (n s : Nat) (W : World), xs n = none → I n s W → B0 + 2 ≤ W.heap.size → W.heap[B0]? = some (.deferred (some [])) → Q .normal { a with defers := { target := .collected B0, args := #[] } :: a.defers } W)
    (hstop : ∀ (c : Code) (i : Nat) (x : α) (W : World), xs i = some x → Ix c i W → B0 + 2 ≤ W.heap.size → W.heap[B0]? = some (.deferred (some [])) → c.wp P Q { a with defers := { target := .collected B0, args := #[] } :: a.defers } W) :
    (Code.rangeFunc g ps assign body).wp P Q a w := by
  subst hB0
  refine (wpIn_wide (n := 0)).1 (wpIn_rangeFunc ?_)
  intro fn _
  obtain ⟨rec, hrec⟩ : ∃ rec : LoopState → Option Code → Loop, rec = fun st pe => { state := st, pending := pe, fn, tmps := a.tmps, params := ps, assign, body, defers := w.heap.size } := ⟨_, rfl⟩
  obtain ⟨W1, hW1⟩ : ∃ W1, (w.alloc (.deferred (some []))).alloc (.loop (rec .ready none)) = W1 := ⟨_, rfl⟩
  have hL1 : W1.heap[w.heap.size + 1]? = some (.loop (rec .ready none)) := by
    rw [← hW1]; have := World.alloc_heap_new (w.alloc (.deferred (some []))) (.loop (rec .ready none)); rwa [World.size_alloc] at this
  have hK1 : W1.heap[w.heap.size]? = some (.deferred (some [])) := by
    rw [← hW1]; exact (Below.heap_alloc _ _ _ (by simp)).trans (World.alloc_heap_new w _)
  have hF1 : Fr (fun _ => False) w W1 := by rw [← hW1]; exact ((Fr.refl _ w).alloc _).alloc _
  have hs1 : W1.heap.size = w.heap.size + 2 := by rw [← hW1]; simp
  refine ⟨w.heap.size + 1, [{ target := .collected w.heap.size, args := #[] }], W1, { target := .fn (.func gf) lb, args := #[.func (.yield (w.heap.size + 1)) #[] #[]] }, W1, gf,
    #[.func (.yield (w.heap.size + 1)) #[] #[]] ++ lb, W1, ?_, ?_, ?_, ?_, fun h => by simp [Fence.wide] at h, ?_⟩
  · rw [← hW1, hrec]; exact run_enterLoop_outer _ _ _ _ _
  · simp only [resolve, hg]
    simp [go_sem]
  · intro f' hf'; trivial
  · simp [invoke, go_sem, eg]
  · refine (hseq (w.heap.size + 1)
      (fun i s W => I i s W ∧ (w.heap.size + 2 ≤ s ∧ w.heap.size + 2 ≤ W.heap.size) ∧ W.heap[w.heap.size + 1]? = some (.loop (rec .ready none)) ∧ W.heap[w.heap.size]? = some (.deferred (some [])))
      (fun i W => ∃ c, Ix c i W ∧ w.heap.size + 2 ≤ W.heap.size ∧ W.heap[w.heap.size + 1]? = some (.loop (rec .done (some c))) ∧ W.heap[w.heap.size]? = some (.deferred (some [])))
      W1 (hpre W1 hF1) (fun i s A h => hN i s A h.1) ?_ ?_ ?_ ⟨h0 W1 hF1 hs1, ⟨by omega, by omega⟩, hL1, hK1⟩).mono ?_
    · rintro i s X Y ⟨hi, hs, hl, hk⟩ hf
      refine ⟨hI i s X Y hi hs.2 (hf.mono fun k _ h => .inl h), ⟨hs.1, Nat.le_trans hs.2 hf.size⟩, (hf.block _ (by omega) ?_).trans hl, (hf.block _ (by omega) ?_).trans hk⟩
      · intro hp; have := hlt _ (.inl hp); omega
      · intro hp; have := hlt _ (.inl hp); omega
    · rintro i X Y ⟨c, hi, hs, hl, hk⟩ hf
      refine ⟨c, hIx c i X Y hi hs (hf.mono fun k _ h => .inl h), Nat.le_trans hs hf.size, (hf.block _ (by omega) ?_).trans hl, (hf.block _ (by omega) ?_).trans hk⟩
      · intro hp; have := hlt _ (.inl hp); omega
      · intro hp; have := hlt _ (.inl hp); omega
    · rintro i s x W hx ⟨hi, ⟨hss, hs⟩, hl, hk⟩ hsW
      have hy := run_yield (P := P) (args := encs x) hl (by rw [hrec]; exact hps x)
      rw [hrec] at hy
      have noL : ¬ (own (w.heap.size + 1) ∨ (w.heap.size + 2 ≤ w.heap.size + 1 ∧ w.heap.size + 1 < s)) := by
        rintro (h | h)
        · have := hlt _ (.inr (.inr h)); omega
        · omega
      have noD : ¬ (own w.heap.size ∨ (w.heap.size + 2 ≤ w.heap.size ∧ w.heap.size < s)) := by
        rintro (h | h)
        · have := hlt _ (.inr (.inr h)); omega
        · omega
      have noL2 : ¬ (own (w.heap.size + 1) ∨ (w.heap.size + 2 ≤ w.heap.size + 1 ∧ w.heap.size + 1 < s) ∨ W.heap.size ≤ w.heap.size + 1) := by
        rintro (h | h | h)
        · exact noL (.inl h)
        · exact noL (.inr h)
        · omega
      have noD2 : ¬ (own w.heap.size ∨ (w.heap.size + 2 ≤ w.heap.size ∧ w.heap.size < s) ∨ W.heap.size ≤ w.heap.size) := by
        rintro (h | h | h)
        · exact noD (.inl h)
        · exact noD (.inr h)
        · omega
      refine ⟨fn, _, assign, body, hy, roundIn_of_wpIn trivial (wpIn_mono (hassign _ i s x W hx hi hss hsW) ?_)⟩
      rintro e a' Wa hq
      cases e with
      | normal =>
        obtain ⟨hfa, hax⟩ := hq
        have hla := (hfa.block _ (by omega) noL).trans hl
        have hka := (hfa.block _ (by omega) noD).trans hk
        have hsa : w.heap.size + 2 ≤ Wa.heap.size := Nat.le_trans hs hfa.size
        refine ⟨_, run_beginRound hla (by rw [hrec]), ?_⟩
        obtain ⟨W2, hW2⟩ : ∃ W2, Wa.putObj (w.heap.size + 1) (.loop { rec .ready none with state := .busy }) = W2 := ⟨_, rfl⟩
        rw [hW2]
        have hf2 : Fr (fun k => k = w.heap.size + 1) Wa W2 := by rw [← hW2]; exact (Fr.refl _ _).putObj _ _ (fun _ => rfl)
        have hs2 : W2.heap.size = Wa.heap.size := by rw [← hW2]; simp
        have hl2 : W2.heap[w.heap.size + 1]? = some (.loop { rec .ready none with state := .busy }) := by rw [← hW2]; exact World.putObj_heap_same (by omega)
        have hk2 : W2.heap[w.heap.size]? = some (.deferred (some [])) := (hf2.block _ (by omega) (by omega)).trans hka
        have hza := hfa.size
        refine wpIn_mono (hbody _ i s W.heap.size x a' W2 hx (hA _ _ _ _ _ _ _ hax hsa hf2 hs2) hss hsW (by omega)) ?_
        have fin : ∀ (jump : Option Code) (W3 : World), Fr (fun k => own k ∨ (w.heap.size + 2 ≤ k ∧ k < s) ∨ W.heap.size ≤ k) W2 W3 →
            (Instr.endRound (w.heap.size + 1) jump).run P W3 = .ok (.bool jump.isNone) (W3.putObj (w.heap.size + 1) (.loop (rec (if jump.isNone then .ready else .done) jump))) ∧
            (W3.putObj (w.heap.size + 1) (.loop (rec (if jump.isNone then .ready else .done) jump))).heap[w.heap.size + 1]? = some (.loop (rec (if jump.isNone then .ready else .done) jump)) ∧
            (W3.putObj (w.heap.size + 1) (.loop (rec (if jump.isNone then .ready else .done) jump))).heap[w.heap.size]? = some (.deferred (some [])) ∧ w.heap.size + 2 ≤ W3.heap.size := fun jump W3 hf3 => by
          have hl3 := (hf3.block _ (by omega) noL2).trans hl2
          have := run_endRound (P := P) jump hl3
          rw [hrec] at this ⊢
          have hz := hf3.size
          exact ⟨this, World.putObj_heap_same (by omega), (World.putObj_heap_other (by omega)).trans ((hf3.block _ (by omega) noD2).trans hk2), by omega⟩
        have hfL : ∀ (W3 : World) (o : Obj), Fr (fun k => priv k ∨ k = w.heap.size ∨ k = w.heap.size + 1) W3 (W3.putObj (w.heap.size + 1) o) := fun W3 o => (Fr.refl _ _).putObj _ _ (fun _ => .inr (.inr rfl))
        have tot : ∀ (W3 : World) (o : Obj), Fr (fun k => own k ∨ (w.heap.size + 2 ≤ k ∧ k < s) ∨ W.heap.size ≤ k) W2 W3 → Fr (fun k => k < s ∧ ¬ rel k ∧ ¬ priv k) W (W3.putObj (w.heap.size + 1) o) := fun W3 o hf3 => by
          have hnn : ∀ k, own k ∨ (w.heap.size + 2 ≤ k ∧ k < s) → k < s ∧ ¬ rel k ∧ ¬ priv k := fun k hk => by
            rcases hk with hk | hk
            · exact ⟨by have := hlt _ (.inr (.inr hk)); omega, (hown k hk).2, (hown k hk).1⟩
            · exact ⟨hk.2, fun hr => by have := hlt _ (.inr (.inl hr)); omega, fun hr => by have := hlt _ (.inl hr); omega⟩
          have hLL : ∀ k, k = w.heap.size + 1 → k < s ∧ ¬ rel k ∧ ¬ priv k := fun k e => by
            subst e
            exact ⟨by omega, fun hr => by have := hlt _ (.inr (.inl hr)); omega, fun hr => by have := hlt _ (.inl hr); omega⟩
          exact (((hfa.mono fun k _ h => hnn k h).trans (hf2.mono fun k _ h => hLL k h)).trans' hf3 (fun k hk h => by
            rcases h with h | h | h
            · exact hnn k (.inl h)
            · exact hnn k (.inr h)
            · omega)).putObj _ _ (fun _ => hLL _ rfl)
        rintro e a3 W3 hp
        cases e with
        | normal =>
          obtain ⟨hf3, hi3⟩ := hp
          obtain ⟨hr, hl4, hk4, hz⟩ := fin none W3 hf3
          have hz2 := hf3.size
          have hi4 := hI _ _ _ _ hi3 hz (hfL _ (.loop (rec (if (none : Option Code).isNone then .ready else .done) none)))
          exact ⟨_, _, hr, .inl ⟨rfl, ⟨by rw [World.putObj_size]; exact hi4, ⟨by simpa using hz, by simpa using hz⟩, hl4, hk4⟩, tot _ _ hf3⟩⟩
        | ret =>
          obtain ⟨hf3, hi3⟩ := hp
          obtain ⟨hr, hl4, hk4, hz⟩ := fin (some .ret) W3 hf3
          exact ⟨_, _, hr, .inr ⟨rfl, .ret, hIx _ _ _ _ hi3 hz (hfL _ _), by simpa using hz, hl4, hk4⟩⟩
        | exit id =>
          obtain ⟨hf3, hi3⟩ := hp
          obtain ⟨hr, hl4, hk4, hz⟩ := fin (some (.exit id)) W3 hf3
          exact ⟨_, _, hr, .inr ⟨rfl, .exit id, hIx _ _ _ _ hi3 hz (hfL _ _), by simpa using hz, hl4, hk4⟩⟩
        | goto t => exact hp.elim
        | panic ch => exact hp.elim
        | outgrown => exact hp.elim
      | exit id => exact hq.elim
      | goto t => exact hq.elim
      | ret => exact hq.elim
      | panic ch => exact hq.elim
      | outgrown => exact hq.elim
    · have hfL : ∀ (W3 : World) (o : Obj), Fr (fun k => priv k ∨ k = w.heap.size ∨ k = w.heap.size + 1) W3 (W3.putObj (w.heap.size + 1) o) := fun W3 o => (Fr.refl _ _).putObj _ _ (fun _ => .inr (.inr rfl))
      rintro e W2 ⟨⟨v, rfl⟩, (⟨n, s, hx, hi, hs, hl, hk⟩ | ⟨i, x, hx, c, hi, hs, hl, hk⟩)⟩
      · refine ⟨none, _, by have := run_endLoop (P := P) hl (by rw [hrec]; simp); rw [hrec] at this; exact this, ?_⟩
        exact hdone n s _ hx (hI _ _ _ _ hi hs.2 (hfL _ _)) (by simpa using hs.2) ((World.putObj_heap_other (by omega)).trans hk)
      · refine ⟨some c, _, by have := run_endLoop (P := P) hl (by rw [hrec]; simp); rw [hrec] at this; exact this, ?_⟩
        exact (wpIn_wide (n := 0)).2 (hstop c i x _ hx (hIx _ _ _ _ hi hs (hfL _ _)) (by simpa using hs) ((World.putObj_heap_other (by omega)).trans hk))

/-- A function's contract where its body holds ranges over functions. -/
theorem calls_of_wp_marks {f : FuncId} {fn : Func} {c : Code} {args : Array Value} {w : World} {R : Ending → World → Prop}
    (hf : P.funcs[f]? = some fn) (hb : fn.body = some c)
    (h : c.wp P (bodyPostM Fence.wide 0 P fn R) { tmps := args ++ Array.replicate (fn.ntmps - args.size) undef, defers := [] } w) : Calls P f args w R :=
  (callsIn_wide (n := 0)).1 (callsIn_of_wp_marks hf hb trivial ((wpIn_wide (n := 0)).2 h) rfl)
/-- The function's end behind one such statement. -/
theorem leave_mark {fn : Func} {tmps : Array Value} {R : Ending → World → Prop} {D : Nat} {W : World} {v : Value} (hD : W.heap[D]? = some (.deferred (some [])))
    (h : ∀ W', Fr (fun k => k = D) W W' → W'.heap.size = W.heap.size → (results fn tmps).run P W' = .ok v W' ∧ R (.returned v) W') :
    bodyPostM Fence.wide 0 P fn R .ret { tmps := tmps, defers := [{ target := .collected D, args := #[] }] } W := by
  obtain ⟨h1, h2⟩ := h (W.putObj D (.deferred none)) ((Fr.refl _ _).putObj _ _ (fun _ => rfl)) (by simp)
  exact ⟨by simp, .inl ⟨_, _, rfl, run_takeDeferred hD, ⟨v, h1, h2⟩⟩⟩
end
end Go.Rg
