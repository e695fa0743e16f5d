/- A region that draws its order: operations that only read, and calls that only make memory, walked once in an order of our own; behind them the operations whose order is forced, walked as a list. Outside a round and inside one. -/
import Derived.Test.YticngcjfofcoiaaDoorRg
import Derived.Deep.Quiet
import Derived.Deep.QuietTactic
import Derived.BigQuiet
set_option linter.unusedVariables false
set_option linter.unusedSimpArgs false
namespace Go.Rg
open Go.RowKit
section
variable {P : Program} {ops : Array Oper} {md : Region.Mode} {C : World → Prop}

def anyK (P : Program) (md : Region.Mode) (ops : Array Oper) (C : World → Prop) (K : List Nat) (Qa : Act → Prop) : Nat → Array Bool → Act → Prop
  | 0, listed, a => (∀ j ∈ Region.ready md ops listed, j ∉ K) ∧ Qa a
  | fuel + 1, listed, a => Region.ready md ops listed ≠ [] ∧ ∀ i ∈ Region.ready md ops listed, i ∈ K → qOp P ops C i (anyK P md ops C K Qa fuel (listed.setIfInBounds i true)) a

theorem anyK_first {K : List Nat} {Qa : Act → Prop} {i : Nat} {oi : Oper} {v : Value} (hi : ops[i]? = some oi) (hsel : ∀ (j : Nat) (o : Oper) cs b, ops[j]? = some o → o.op ≠ .select cs b) :
    ∀ (fuel : Nat) (listed : Array Bool) (a : Act),
      (∀ j oj, ops[j]? = some oj → j ≠ i → listed.getD j true = false → (∀ e ∈ oj.after, Region.binds md e = true → e.on ≠ i) → oi.apart ops oj = true) →
      i ∈ Region.ready md ops listed → YieldsIn P ops C oi v a →
      anyK P md ops C K Qa fuel (listed.setIfInBounds i true) (a.put oi.dst v) → anyK P md ops C K Qa (fuel + 1) listed a := by
  intro fuel
  induction fuel with
  | zero =>
    intro listed a _ hr hy H
    refine ⟨fun h => (by rw [h] at hr; cases hr), fun j hj hjK => ?_⟩
    by_cases hji : j = i
    · subst hji; exact hy.qOp hi H
    · exact (H.1 j (ready_mono hj hji) hjK).elim
  | succ fuel ih =>
    intro listed a hfree hr hy H
    refine ⟨fun h => (by rw [h] at hr; cases hr), fun j hj hjK => ?_⟩
    by_cases hji : j = i
    · subst hji; exact hy.qOp hi H
    · have h1 := H.2 j (ready_mono hj hji) hjK
      obtain ⟨hjun, oj, hoj, hall⟩ := mem_ready.1 hj
      have hnot : ∀ e ∈ oj.after, Region.binds md e = true → e.on ≠ i := fun e he hb heq => by
        have h1 := hall e he hb
        have h0 := (mem_ready.1 hr).1
        rw [heq] at h1
        rcases Nat.lt_or_ge i listed.size with h' | h'
        · simp [h'] at h0 h1; rw [h0] at h1; cases h1
        · simp [Array.getElem?_eq_none h'] at h1
      have h2 := qOp_put hoj (hfree j oj hoj hji hjun hnot) (fun cs b => hsel i oi cs b hi) (fun cs b => hsel j oj cs b hoj) hy h1
      have hfree' : ∀ k ok, ops[k]? = some ok → k ≠ i → (listed.setIfInBounds j true).getD k true = false →
          (∀ e ∈ ok.after, Region.binds md e = true → e.on ≠ i) → oi.apart ops ok = true := fun k ok hk hki hun hno => by
        refine hfree k ok hk hki ?_ hno
        by_cases hjk : j = k
        · subst hjk; exact hjun
        · rw [getD_set_ne true hjk] at hun; exact hun
      refine qOp_mono (fun a' h3 => ih (listed.setIfInBounds j true) a' hfree' (ready_mono hr (Ne.symm hji)) h3.1 ?_) h2
      rw [Array.setIfInBounds_comm _ _ hji]
      exact h3.2

/-- The walk's order is one that the region allows, each operation apart from what may come up beside it. -/
def ixQ (md : Region.Mode) (ops : Array Oper) : List Nat → Array Bool → Option (Array Bool)
  | [], listed => some listed
  | k :: ks, listed => if (Region.ready md ops listed).contains k && Region.free md ops listed k then ixQ md ops ks (listed.setIfInBounds k true) else none

theorem anyK_lex {K : List Nat} {Qa : Act → Prop} (hs : Region.noSelect ops = true) : ∀ (ks : List Nat) (l : List Oper) (listed E : Array Bool) (a : Act), ks.map (fun k => ops[k]?) = l.map some →
    ixQ md ops ks listed = some E → (∀ j ∈ Region.ready md ops E, j ∉ K) → wpQuiet P ops C Qa l a → anyK P md ops C K Qa ks.length listed a
  | [], [], _, _, _, _, hB, hE, h => by
    simp only [ixQ, Option.some.injEq] at hB
    subst hB
    exact ⟨hE, h⟩
  | [], _ :: _, _, _, _, hm, _, _, _ => by simp at hm
  | _ :: _, [], _, _, _, hm, _, _, _ => by simp at hm
  | k :: ks, o :: l, listed, E, a, hm, hB, hE, h => by
    simp only [List.map_cons, List.cons.injEq] at hm
    obtain ⟨h0, hm⟩ := hm
    simp only [ixQ] at hB
    split at hB
    · rename_i hc
      simp only [Bool.and_eq_true] at hc
      have hst : qOp P ops C k (wpQuiet P ops C Qa l) a := by unfold qOp; simp only [h0]; exact h
      obtain ⟨v, hy, hK⟩ := yieldsIn_of_qOp h0 hst
      exact anyK_first h0 (Region.noSelect_spec hs) ks.length listed a (Region.free_spec h0 hc.2) (by simpa using hc.1) hy (anyK_lex hs ks l _ E _ hm hB hE hK)
    · cases hB

def unl (K : List Nat) (listed : Array Bool) : Nat := (K.filter fun k => !listed.getD k true).length

theorem unl_set {listed : Array Bool} {i : Nat} (hi : listed.getD i true = false) : ∀ (K : List Nat), K.Nodup → (i ∈ K → unl K (listed.setIfInBounds i true) + 1 = unl K listed) ∧ (i ∉ K → unl K (listed.setIfInBounds i true) = unl K listed)
  | [], _ => by simp [unl]
  | x :: xs, hn => by
    have hn' := List.nodup_cons.1 hn
    have ih := unl_set hi xs hn'.2
    have hlt : i < listed.size := by
      rcases Nat.lt_or_ge i listed.size with h' | h'
      · exact h'
      · simp [Array.getElem?_eq_none h'] at hi
    have hset : (listed.setIfInBounds i true).getD i true = true := by simp [hlt]
    by_cases hx : x = i
    · subst hx
      refine ⟨fun _ => ?_, fun h => absurd (List.mem_cons_self ..) h⟩
      have h2 := ih.2 hn'.1
      unfold unl at *
      rw [List.filter_cons_of_neg (by rw [hset]; simp), List.filter_cons_of_pos (by rw [hi]; rfl), List.length_cons, h2]
    · have he : (listed.setIfInBounds i true).getD x true = listed.getD x true := getD_set_ne true (Ne.symm hx)
      refine ⟨fun h => ?_, fun h => ?_⟩
      · have h1 := ih.1 (by simpa [Ne.symm hx] using h)
        unfold unl at *
        rw [List.filter_cons, List.filter_cons, he]
        split
        · simp only [List.length_cons]; omega
        · exact h1
      · have h1 := ih.2 (fun hh => h (List.mem_cons_of_mem _ hh))
        unfold unl at *
        rw [List.filter_cons, List.filter_cons, he]
        split
        · simp only [List.length_cons]; omega
        · exact h1

/-- Every operation that is not of K waits for all of K. -/
def waits (md : Region.Mode) (ops : Array Oper) (K : List Nat) : Bool :=
  (List.range ops.size).all fun j => K.contains j || match ops[j]? with
    | some oj => K.all fun k => oj.after.any fun e => Region.binds md e && e.on == k
    | none => true

theorem waits_spec {K : List Nat} (h : waits md ops K = true) {listed : Array Bool} {j : Nat} (hj : j ∈ Region.ready md ops listed) {k : Nat} (hk : k ∈ K) (hu : listed.getD k true = false) : j ∈ K := by
  obtain ⟨_, o, ho, hall⟩ := mem_ready.1 hj
  simp only [waits, List.all_eq_true, List.mem_range, Bool.or_eq_true, List.contains_iff_mem] at h
  rcases h j (Array.getElem?_eq_some_iff.1 ho).1 with h | h
  · exact h
  · rw [ho] at h
    simp only [List.all_eq_true] at h
    obtain ⟨e, he, hb⟩ := Array.any_eq_true'.1 (h k hk)
    simp only [Bool.and_eq_true, beq_iff_eq] at hb
    have := hall e he hb.1
    rw [hb.2] at this
    rcases Nat.lt_or_ge k listed.size with h' | h'
    · simp [h'] at hu this; rw [hu] at this; cases this
    · simp [Array.getElem?_eq_none h'] at hu

theorem any_of_anyK {K : List Nat} {Qa : Act → Prop} {Q : Exit → Act → World → Prop} {m : Nat} {E : Array Bool} (hn : K.Nodup) (hw : waits md ops K = true) (hEs : E.size = ops.size) (hEv : ∀ k, k < ops.size → E.getD k true = K.contains k)
    (ht : ∀ a w, C w → Qa a → wpAny P md ops Q m E a w) : ∀ (fuel : Nat) (listed : Array Bool) (a : Act) (w : World), C w → listed.size = ops.size → (∀ k, k < ops.size → k ∉ K → listed.getD k true = false) → unl K listed = fuel →
      anyK P md ops C K Qa fuel listed a → wpAny P md ops Q (fuel + m) listed a w
  | 0, listed, a, w, hC, hs, hk, hu, h => by
    have : listed = E := by
      apply Array.ext (by omega)
      intro k h1 h2
      have hE := hEv k (by omega)
      by_cases hkK : k ∈ K
      · have h3 : listed.getD k true = true := by
          cases hc : listed.getD k true with
          | true => rfl
          | false =>
            have : k ∈ K.filter fun k => !listed.getD k true := List.mem_filter.2 ⟨hkK, by rw [hc]; rfl⟩
            have h4 := List.length_pos_of_mem this
            unfold unl at hu
            omega
        simp [h1, h2, hkK] at h3 hE
        rw [h3, hE]
      · have h3 := hk k (by omega) hkK
        simp [h1, h2, hkK] at h3 hE
        rw [h3, hE]
    subst this
    rw [Nat.zero_add]
    exact ht a w hC h.2
  | fuel + 1, listed, a, w, hC, hs, hk, hu, h => by
    have hex : ∃ k ∈ K, listed.getD k true = false := by
      have : 0 < (K.filter fun k => !listed.getD k true).length := by unfold unl at hu; omega
      obtain ⟨k, hkm⟩ := List.exists_mem_of_length_pos this
      have := List.mem_filter.1 hkm
      exact ⟨k, this.1, by simpa using this.2⟩
    obtain ⟨k0, hk0, hk0u⟩ := hex
    rw [show fuel + 1 + m = (fuel + m) + 1 by omega]
    refine ⟨fun h0 => absurd h0 h.1, fun i hi => ?_⟩
    have hiK := waits_spec hw hi hk0 hk0u
    have hiu := (mem_ready.1 hi).1
    refine wpOp_of_qOp hC (fun a' w' hC' h' => any_of_anyK hn hw hEs hEv ht fuel _ a' w' hC' (by simpa using hs) (fun k hk1 hk2 => ?_) ?_ h') (h.2 i hi hiK)
    · by_cases e : i = k
      · subst e; exact absurd hiK hk2
      · rw [getD_set_ne true e]; exact hk k hk1 hk2
    · have := (unl_set hiu K hn).1 hiK
      omega

/-- What is left comes up in one order alone. -/
def ixF (md : Region.Mode) (ops : Array Oper) : List Nat → Array Bool → Bool
  | [], listed => (Region.ready md ops listed).isEmpty
  | k :: ks, listed => Region.ready md ops listed == [k] && ixF md ops ks (listed.setIfInBounds k true)

theorem any_of_list {Q : Exit → Act → World → Prop} : ∀ (ks : List Nat) (l : List Oper) (listed : Array Bool) (a : Act) (w : World), ks.map (fun k => ops[k]?) = l.map some → ixF md ops ks listed = true →
    wpList P ops Q l a w → wpAny P md ops Q ks.length listed a w
  | [], [], _, _, _, _, hB, h => ⟨by simpa [ixF] using hB, h⟩
  | [], _ :: _, _, _, _, hm, _, _ => by simp at hm
  | _ :: _, [], _, _, _, hm, _, _ => by simp at hm
  | k :: ks, o :: l, listed, a, w, hm, hB, h => by
    simp only [List.map_cons, List.cons.injEq] at hm
    obtain ⟨h0, hm⟩ := hm
    simp only [ixF, Bool.and_eq_true, beq_iff_eq] at hB
    obtain ⟨hr, hB⟩ := hB
    show wpAny P md ops Q (ks.length + 1) listed a w
    refine ⟨fun h0 => (by rw [hr] at h0; cases h0), fun i hi => ?_⟩
    rw [hr] at hi
    obtain rfl : i = k := by simpa using hi
    have h1 : wpOp P ops Q i (wpList P ops Q l) a w := by unfold wpOp; simp only [h0]; exact h
    exact wpOp_mono (fun a' w' h' => any_of_list ks l _ a' w' hm hB h') h1

def okTail (md : Region.Mode) (ops : Array Oper) (ks1 ks2 : List Nat) : Bool :=
  Region.noSelect ops && decide ks1.Nodup && waits md ops ks1 && ks1.length + ks2.length == ops.size &&
  (match ixQ md ops ks1 (Array.replicate ops.size false) with
   | some E => E.size == ops.size && (List.range ops.size).all (fun k => E.getD k true == ks1.contains k) && (Region.ready md ops E).all (fun j => !ks1.contains j) && ixF md ops ks2 E
   | none => false) && ks1.all (fun k => decide (k < ops.size))

theorem unl_none {K : List Nat} {n : Nat} (h : ∀ k ∈ K, k < n) : unl K (Array.replicate n false) = K.length := by
  unfold unl
  rw [List.filter_eq_self.2]
  intro k hk
  simp [h k hk]

theorem any_tail {Q : Exit → Act → World → Prop} {ks1 ks2 : List Nat} {l1 l2 : List Oper} (hB : okTail md ops ks1 ks2 = true) (h1 : ks1.map (fun k => ops[k]?) = l1.map some) (h2 : ks2.map (fun k => ops[k]?) = l2.map some)
    {a : Act} {w : World} (hC : C w) (h : wpQuiet P ops C (fun a' => ∀ w', C w' → wpList P ops Q l2 a' w') l1 a) : wpAny P md ops Q ops.size (Array.replicate ops.size false) a w := by
  simp only [okTail, Bool.and_eq_true, decide_eq_true_eq, beq_iff_eq] at hB
  obtain ⟨⟨⟨⟨⟨hs, hn⟩, hw⟩, hl⟩, hm⟩, hlt⟩ := hB
  cases hE : ixQ md ops ks1 (Array.replicate ops.size false) with
  | none => rw [hE] at hm; cases hm
  | some E =>
    rw [hE] at hm
    simp only [Bool.and_eq_true, beq_iff_eq, List.all_eq_true, List.mem_range, Bool.not_eq_true', List.contains_eq_mem, decide_eq_false_iff_not] at hm
    obtain ⟨⟨⟨hEs, hEv⟩, hEr⟩, hF⟩ := hm
    have hK := anyK_lex (P := P) (C := C) (K := ks1) hs ks1 l1 _ E a h1 hE hEr h
    have hlt' : ∀ k ∈ ks1, k < ops.size := by simpa using hlt
    have := any_of_anyK (Q := Q) (m := ks2.length) hn hw hEs (fun k hk => by simpa using hEv k hk) (fun a w hC hq => any_of_list ks2 l2 E a w h2 hF (hq w hC)) ks1.length _ a w hC (by simp) (fun k hk _ => by simp [hk]) (unl_none hlt') hK
    rwa [hl] at this

/-- The worlds that are w but for new blocks. -/
def Ext (w : World) : Type := { W : World // Fr (fun _ => False) w W }
def extC (w : World) : World → Prop := fun w' => ∃ x : Ext w, w' = x.val
def Ext.here (w : World) : Ext w := ⟨w, Fr.refl _ _⟩
instance (w : World) : Nonempty (Ext w) := ⟨Ext.here w⟩

theorem cell_ext {w : World} {p : Addr} {v : Value} (h : w.cell? p = some v) : ∀ x : Ext w, x.val.cell? p = some v := fun x => x.2.cell h (fun h => h)
theorem frozen_ext {w : World} {p : Addr} {b : Bool} (hl : p.block < w.heap.size) (h : w.frozen? p = b) : ∀ x : Ext w, x.val.frozen? p = b := fun x => (x.2.frozen hl (fun h => h)).trans h
theorem block_ext {w : World} {k : Nat} {o : Obj} (h : w.heap[k]? = some o) : ∀ x : Ext w, x.val.heap[k]? = some o := fun x => (x.2.block k (Array.getElem?_eq_some_iff.1 h).1 (fun h => h)).trans h

/-- At a call: its contract, where it only makes memory. -/
theorem call_ext {f : FuncId} {args : Array Value} {w : World} {x : Ext w} {v : Value} (h : Calls P f args x.val fun e w' => e = .returned v ∧ Below x.val.heap.size x.val w') :
    Calls P f args x.val fun e w'' => e = .returned v ∧ ∃ y : Ext w, w'' = y.val :=
  h.mono fun e w' ⟨he, hb⟩ => ⟨he, ⟨w', x.2.call hb⟩, rfl⟩
theorem call_ext_same {f : FuncId} {args : Array Value} {w : World} {x : Ext w} {v : Value} (h : Calls P f args x.val fun e w' => e = .returned v ∧ x.val = w') :
    Calls P f args x.val fun e w'' => e = .returned v ∧ ∃ y : Ext w, w'' = y.val :=
  h.mono fun e w' ⟨he, hb⟩ => ⟨he, x, hb.symm⟩

theorem extC_drew (w : World) : extC w { w with drawn := w.drawn + 1 } := ⟨⟨w.drew, (Fr.refl _ _).drew⟩, rfl⟩

def nthO : List Oper → Nat → Oper
  | [], _ => { dst := none, op := .move (.const undef), type := 0, pos := "", after := #[], guard := none }
  | o :: _, 0 => o
  | _ :: l, k + 1 => nthO l k
def pick (l : List Oper) : List Nat → List Oper
  | [] => []
  | k :: ks => nthO l k :: pick l ks
theorem nthO_zero (o : Oper) (l : List Oper) : nthO (o :: l) 0 = o := rfl
theorem nthO_succ (o : Oper) (l : List Oper) (k : Nat) : nthO (o :: l) (k + 1) = nthO l k := rfl
theorem pick_nil (l : List Oper) : pick l [] = [] := rfl
theorem pick_cons (l : List Oper) (k : Nat) (ks : List Nat) : pick l (k :: ks) = nthO l k :: pick l ks := rfl
theorem nthO_get : ∀ (l : List Oper) (k : Nat), k < l.length → l[k]? = some (nthO l k)
  | [], _, h => by simp at h
  | o :: _, 0, _ => rfl
  | _ :: l, k + 1, h => by rw [List.getElem?_cons_succ, nthO_succ]; exact nthO_get l k (by simpa using h)
theorem pick_map {l : List Oper} : ∀ (ks : List Nat), ks.all (fun k => decide (k < l.length)) = true → ks.map (fun k => l.toArray[k]?) = (pick l ks).map some
  | [], _ => rfl
  | k :: ks, h => by
    simp only [List.all_cons, Bool.and_eq_true, decide_eq_true_eq] at h
    have ih := pick_map ks h.2
    rw [List.map_cons, ih, pick_cons, List.map_cons, ← nthO_get l k h.1]
    simp

/-- The region's operations 'ks1' in that order, in any world that is w but for new blocks; behind them 'ks2', in the one order that is left. -/
theorem region_tail {id : Nat} {l : List Oper} {Q : Exit → Act → World → Prop} {a : Act} {w : World} (ks1 ks2 : List Nat) (hm : P.follows .mixedOrders = true) (hB : (okTail .any l.toArray ks1 ks2 && (ks1 ++ ks2).all fun k => decide (k < l.length)) = true)
    (h : wpQuiet P l.toArray (fun w' => ∃ x : Ext w, w' = x.val) (fun a' => ∀ w', (∃ x : Ext w, w' = x.val) → wpList P l.toArray Q (pick l ks2) a' w') (pick l ks1) a) : (Code.region id l.toArray true).wp P Q a w := by
  simp only [Bool.and_eq_true, List.all_append] at hB
  exact wp_region_any hm (any_tail (C := extC w) hB.1 (pick_map _ hB.2.1) (pick_map _ hB.2.2) (extC_drew w) h)

theorem region_tail_round {id : Nat} {l : List Oper} {Q : Exit → Act → World → Prop} {a : Act} {w : World} {lp n : Nat} (ks1 ks2 : List Nat) (hm : P.follows .mixedOrders = true) (hB : (okTail .any l.toArray ks1 ks2 && (ks1 ++ ks2).all fun k => decide (k < l.length)) = true) (hd : l.toArray.all noDefer = true) (hQ : ¬ LetsOut Q)
    (h : wpQuiet P l.toArray (fun w' => ∃ x : Ext w, w' = x.val) (fun a' => ∀ w', (∃ x : Ext w, w' = x.val) → wpList P l.toArray Q (pick l ks2) a' w') (pick l ks1) a) : (Code.region id l.toArray true).wpIn (Fence.wide.inRound lp) n P Q a w := by
  simp only [Bool.and_eq_true, List.all_append] at hB
  exact region_round_any lp n hd hm hQ (any_tail (C := extC w) hB.1 (pick_map _ hB.2.1) (pick_map _ hB.2.2) (extC_drew w) h)

/-- The region in the order of the text, in any world that is w but for new blocks. -/
theorem region_ext {id : Nat} {l : List Oper} {Q : Exit → Act → World → Prop} {a : Act} {w : World} (hm : P.follows .mixedOrders = true) (hB : Region.lexB .any l.toArray = true)
    (h : wpQuiet P l.toArray (fun w' => ∃ x : Ext w, w' = x.val) (fun a' => ∀ w', (∃ x : Ext w, w' = x.val) → Q .normal a' w') l a) : (Code.region id l.toArray true).wp P Q a w :=
  wp_region_quiet (C := extC w) hm hB (extC_drew w) h

theorem region_ext_round {id : Nat} {l : List Oper} {Q : Exit → Act → World → Prop} {a : Act} {w : World} {lp n : Nat} (hm : P.follows .mixedOrders = true) (hB : Region.lexB .any l.toArray = true) (hd : l.toArray.all noDefer = true) (hQ : ¬ LetsOut Q)
    (h : wpQuiet P l.toArray (fun w' => ∃ x : Ext w, w' = x.val) (fun a' => ∀ w', (∃ x : Ext w, w' = x.val) → Q .normal a' w') l a) : (Code.region id l.toArray true).wpIn (Fence.wide.inRound lp) n P Q a w := by
  simp only [Region.lexB, Bool.and_eq_true] at hB
  refine region_round_any lp n hd hm hQ (wpAny_of_quiet (C := extC w) (Q := fun a' => ∀ w', extC w w' → Q .normal a' w') (fun _ w' hw' h => h w' hw') _ _ _ _ (extC_drew w) ?_)
  exact wpAnyQ_lex (C := extC w) (md := .any) hB.1 l 0 (Array.replicate l.toArray.size false) a (by simp) (by simpa using hB.2) h

/-! ### Operations that only read, and stores whose order among themselves is forced, with no call -/
def plainCall (c : Callee) : Bool := match c with
  | .builtin .len | .builtin .min | .builtin .max | .builtin .cap => true
  | _ => false
def plainOp (o : Oper) : Bool := match o.op with
  | .call c => plainCall c.callee
  | .move _ | .assign _ | .nilCheck _ | .pick .. | .load .. | .binOp .. | .unOp .. | .convert .. | .slice .. | .fieldAddr .. | .field .. | .indexAddr .. | .index .. | .extract .. | .build .. | .makeFunc .. => true
  | _ => false

theorem run_value {s : Sem Value} {w w' : World} {n : Next} (h : (do pure (Next.value (← s)) : Sem Next).run P w = .ok n w') : ∃ v, n = .value v := by
  simp only [Sem.run_bind] at h
  cases hs : s.run P w <;> rw [hs] at h <;> simp [Result.andThen] at h
  exact ⟨_, h.1.symm⟩

theorem plainOp_value {o : Oper} {ρ : Operand → Value} {w w' : World} {n : Next} (h : plainOp o = true) (hr : (execOp ρ o).run P w = .ok n w') : ∃ v, n = .value v := by
  unfold plainOp at h
  unfold execOp at hr
  cases ho : o.op <;> simp only [ho] at h hr <;> first | exact run_value hr | (cases h; done) | skip
  · simp at hr; exact ⟨_, hr.1.symm⟩
  · simp at hr; exact ⟨_, hr.1.symm⟩
  · rename_i c a b
    simp only [Sem.run_bind] at hr
    generalize Sem.run P (asBool (ρ c)) w = r at hr
    cases r <;> simp [Result.andThen] at hr
    exact ⟨_, hr.1.symm⟩
  · (repeat' split at hr) <;> first | (simp at hr; exact ⟨_, hr.1.symm⟩) | (simp [runtimePanic] at hr; done) | skip
    all_goals
      simp only [Sem.run_bind] at hr
      generalize Sem.run P program w = r1 at hr
      cases r1 with
      | halt x w1 => simp [Result.andThen] at hr
      | ok x w1 =>
        simp only [Result.andThen_ok] at hr
        generalize Sem.run P (nilAhead _ _ _ _) w1 = r2 at hr
        cases r2 with
        | halt y w2 => simp [Result.andThen] at hr
        | ok y w2 =>
          simp only [Result.andThen_ok] at hr
          split at hr
          · simp [Sem.run_bind, Result.andThen] at hr
          · simp at hr; exact ⟨_, hr.1.symm⟩
  · rename_i c
    unfold plainCall at h
    unfold resolve at hr
    cases hc : c.callee with
    | builtin b =>
      simp only [hc, Sem.run_bind, Sem.run_pure, Result.andThen, invoke] at h hr
      cases b <;> simp at h <;> exact run_value hr
    | _ => simp [hc] at h

theorem yieldsIf_of_in {o : Oper} {v : Value} {a : Act} (hp : plainOp o = true) (h : YieldsIn P ops C o v a) : YieldsIf P ops C o v a := by
  rcases h with ⟨hw, hv⟩ | h
  · refine .inl ⟨hw, fun w hC => ?_⟩
    have h1 := hv w hC
    unfold Oper.quietAt at h1
    have hne := fun n w' => plainOp_value (P := P) (ρ := a.eval) (w := w) (w' := w') (n := n) hp
    generalize (execOp a.eval o).run P w = r at *
    cases r with
    | ok n w' =>
      obtain ⟨u, rfl⟩ := hne n w' rfl
      simp only [Oper.quietUpon] at h1
      obtain ⟨e1, e2⟩ := h1
      rw [e1, e2]
    | halt x w' => simp only [Oper.quietUpon] at h1
  · exact .inr h

/-- Segments: operations that only read, then one that writes; S is what the reads lean on. -/
def seqQ (P : Program) (l : List Oper) (S : World → Prop) (Q : Exit → Act → World → Prop) : List (List Nat × Nat) → List Nat → Act → World → Prop
  | [], rest, a, w => wpQuiet P l.toArray S (fun a' => Q .normal a' w) (pick l rest) a
  | (qs, k) :: r, rest, a, w => wpQuiet P l.toArray S (fun a' => wpList P l.toArray (Exit.then (fun a'' w'' => S w'' ∧ seqQ P l S Q r rest a'' w'') Q) [nthO l k] a' w) (pick l qs) a

def okTakes (l : List Oper) : List Nat → Array Bool → Option (Array Bool)
  | [], listed => some listed
  | k :: ks, listed => if decide (k < l.length) && plainOp (nthO l k) && (Region.ready .any l.toArray listed).contains k && Region.free .any l.toArray listed k then okTakes l ks (listed.setIfInBounds k true) else none
def okSeq (l : List Oper) : List (List Nat × Nat) → List Nat → Array Bool → Bool
  | [], rest, listed => match okTakes l rest listed with
    | some E => (Region.ready .any l.toArray E).isEmpty
    | none => false
  | (qs, k) :: r, rest, listed => match okTakes l qs listed with
    | some E => decide (k < l.length) && Region.ready .any l.toArray E == [k] && okSeq l r rest (E.setIfInBounds k true)
    | none => false
def seqLen : List (List Nat × Nat) → List Nat → Nat
  | [], rest => rest.length
  | (qs, _) :: r, rest => qs.length + (seqLen r rest + 1)

theorem takes_sound {l : List Oper} {S : World → Prop} {Q : Exit → Act → World → Prop} (hs : Region.noSelect l.toArray = true) (hQ : ∀ c a a' w, Q (.panic c) a w → Q (.panic c) a' w) {m : Nat} {w : World} (hS : S w) {Qa : Act → Prop} : ∀ (ks : List Nat) (listed E : Array Bool) (a : Act),
    okTakes l ks listed = some E → (∀ a', Qa a' → wpAnyH P .any l.toArray Q S m E a' w) → wpQuiet P l.toArray S Qa (pick l ks) a → wpAnyH P .any l.toArray Q S (ks.length + m) listed a w
  | [], listed, E, a, hB, hk, h => by
    simp only [okTakes, Option.some.injEq] at hB
    subst hB
    simp only [List.length_nil, Nat.zero_add]
    exact hk a h
  | k :: ks, listed, E, a, hB, hk, h => by
    simp only [okTakes] at hB
    split at hB
    · rename_i hc
      simp only [Bool.and_eq_true, decide_eq_true_eq] at hc
      obtain ⟨⟨⟨hlt, hp⟩, hr⟩, hf⟩ := hc
      have h0 : l.toArray[k]? = some (nthO l k) := by rw [← nthO_get l k hlt]; simp
      have hst : qOp P l.toArray S k (wpQuiet P l.toArray S Qa (pick l ks)) a := by unfold qOp; simp only [h0]; exact h
      obtain ⟨v, hy, hK⟩ := yieldsIn_of_qOp h0 hst
      rw [List.length_cons, show ks.length + 1 + m = (ks.length + m) + 1 by omega]
      exact wpAnyH_take h0 hs hf hr (fun c a w => hQ c _ _ w) (yieldsIf_of_in hp hy) hS (takes_sound hs hQ hS ks _ E _ hB hk hK)
    · cases hB

theorem seq_sound {l : List Oper} {S : World → Prop} {Q : Exit → Act → World → Prop} (hs : Region.noSelect l.toArray = true) (hQ : ∀ c a a' w, Q (.panic c) a w → Q (.panic c) a' w) (hQo : ¬ LetsOut Q) : ∀ (segs : List (List Nat × Nat)) (rest : List Nat) (listed : Array Bool) (a : Act) (w : World), S w →
    okSeq l segs rest listed = true → seqQ P l S Q segs rest a w → wpAnyH P .any l.toArray Q S (seqLen segs rest) listed a w
  | [], rest, listed, a, w, hS, hB, h => by
    simp only [okSeq] at hB
    split at hB
    · rename_i E hE
      have := takes_sound (m := 0) hs hQ hS rest listed E a hE (fun a' hq => wpAnyH_done (by simpa using hB) hq 0) h
      simpa [seqLen] using this
    · cases hB
  | (qs, k) :: r, rest, listed, a, w, hS, hB, h => by
    simp only [okSeq] at hB
    split at hB
    · rename_i E hE
      simp only [Bool.and_eq_true, decide_eq_true_eq, beq_iff_eq] at hB
      obtain ⟨⟨hlt, hr⟩, hB⟩ := hB
      have h0 : l.toArray[k]? = some (nthO l k) := by rw [← nthO_get l k hlt]; simp
      refine takes_sound (m := seqLen r rest + 1) hs hQ hS qs listed E a hE (fun a' hq => ?_) h
      refine wpAnyH_all hr (by simp) (fun i hi => ?_)
      obtain rfl : i = k := by simpa using hi
      have h1 : wpOp P l.toArray (Exit.then (fun a'' w'' => S w'' ∧ seqQ P l S Q r rest a'' w'') Q) i (fun a'' w'' => S w'' ∧ seqQ P l S Q r rest a'' w'') a' w := by
        unfold wpOp
        simp only [h0]
        simpa [wpList, Exit.then] using hq
      have h2 : wpOp P l.toArray Q i (fun a'' w'' => S w'' ∧ seqQ P l S Q r rest a'' w'') a' w := by
        unfold wpOp at h1 ⊢
        simp only [h0] at h1 ⊢
        split
        · rename_i hw
          rw [if_pos hw] at h1
          rcases h1 with h1 | h1
          · refine .inl ?_
            unfold Oper.wp at h1 ⊢
            generalize (execOp a'.eval (nthO l i)).run P w = res at *
            cases res with
            | ok n w' => cases n <;> exact h1
            | halt x w' => cases x <;> exact h1
          · exact (hQo (by obtain ⟨_, x, y, hxy⟩ := h1; exact ⟨x, y, hxy⟩)).elim
        · rename_i hw
          rw [if_neg hw] at h1
          exact h1
      exact wpOp_mono (fun a'' w'' ⟨hS', h'⟩ => ⟨hS', seq_sound hs hQ hQo r rest _ a'' w'' hS' hB h'⟩) h2
    · cases hB

/-- The worlds that are w but for blocks of B and new ones. -/
def ExtB (B : Nat → Prop) (w : World) : Type := { W : World // Fr B w W }
instance (B : Nat → Prop) (w : World) : Nonempty (ExtB B w) := ⟨⟨w, Fr.refl _ _⟩⟩
theorem cell_extB {B : Nat → Prop} {w : World} {p : Addr} {v : Value} (h : w.cell? p = some v) (hB : ¬ B p.block) : ∀ x : ExtB B w, x.val.cell? p = some v := fun x => x.2.cell h hB

def okSegs (l : List Oper) (segs : List (List Nat × Nat)) (rest : List Nat) : Bool :=
  Region.noSelect l.toArray && seqLen segs rest == l.length && okSeq l segs rest (Array.replicate l.length false)

theorem region_seq_any {l : List Oper} {Q : Exit → Act → World → Prop} {a : Act} {w : World} (B : Nat → Prop) (segs : List (List Nat × Nat)) (rest : List Nat) (hB : okSegs l segs rest = true) (hQ : ∀ c a a' w, Q (.panic c) a w → Q (.panic c) a' w) (hQo : ¬ LetsOut Q)
    (h : seqQ P l (fun w' => ∃ x : ExtB B w, w' = x.val) Q segs rest a { w with drawn := w.drawn + 1 }) : wpAny P .any l.toArray Q l.toArray.size (Array.replicate l.toArray.size false) a { w with drawn := w.drawn + 1 } := by
  simp only [okSegs, Bool.and_eq_true, beq_iff_eq] at hB
  have := seq_sound (P := P) hB.1.1 hQ hQo segs rest _ a _ ⟨⟨w.drew, (Fr.refl _ _).drew⟩, rfl⟩ hB.2 h
  rw [hB.1.2] at this
  exact wpAny_of_held _ _ _ _ this

theorem region_seq {id : Nat} {l : List Oper} {Q : Exit → Act → World → Prop} {a : Act} {w : World} (B : Nat → Prop) (segs : List (List Nat × Nat)) (rest : List Nat) (hm : P.follows .mixedOrders = true) (hB : okSegs l segs rest = true) (hQ : ∀ c a a' w, Q (.panic c) a w → Q (.panic c) a' w) (hQo : ¬ LetsOut Q)
    (h : seqQ P l (fun w' => ∃ x : ExtB B w, w' = x.val) Q segs rest a { w with drawn := w.drawn + 1 }) : (Code.region id l.toArray true).wp P Q a w :=
  wp_region_any hm (region_seq_any B segs rest hB hQ hQo h)
theorem region_seq_round {id lp n : Nat} {l : List Oper} {Q : Exit → Act → World → Prop} {a : Act} {w : World} (B : Nat → Prop) (segs : List (List Nat × Nat)) (rest : List Nat) (hm : P.follows .mixedOrders = true) (hB : okSegs l segs rest = true) (hd : l.toArray.all noDefer = true) (hQ : ∀ c a a' w, Q (.panic c) a w → Q (.panic c) a' w) (hQo : ¬ LetsOut Q)
    (h : seqQ P l (fun w' => ∃ x : ExtB B w, w' = x.val) Q segs rest a { w with drawn := w.drawn + 1 }) : (Code.region id l.toArray true).wpIn (Fence.wide.inRound lp) n P Q a w :=
  region_round_any lp n hd hm hQo (region_seq_any B segs rest hB hQ hQo h)
end
end Go.Rg
