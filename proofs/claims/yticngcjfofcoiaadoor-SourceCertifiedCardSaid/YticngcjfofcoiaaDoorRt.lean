/- A region that draws its order, at the wide fence: operations that only read and calls that only make memory first, in any order; then the rest in the one order that is left, yield among it. -/
import Derived.Test.YticngcjfofcoiaaDoorRq
set_option linter.unusedVariables false
set_option linter.unusedSimpArgs false
namespace Go.Rg
open Go.RowKit
section
variable {P : Program} {ops : Array Oper} {md : Region.Mode} {C : World → Prop} {Q : Exit → Act → World → Prop}

theorem oper_wide {o : Oper} {a : Act} {w : World} {K : Act → World → Prop} (n : Nat) (hd : noDefer o = true) (hQ : ¬ LetsOut Q)
    (h : o.wp P a w K Q ∨ (o.asks P a w ∧ LetsOut Q)) : o.wpIn Fence.wide n P a w K Q := by
  have h := h.resolve_right (fun x => hQ x.2)
  refine ⟨fun _ _ => trivial, ?_⟩
  rw [Oper.semAt_eq _ _ _ (noDefer_spec hd)]
  unfold Oper.wp at h
  generalize (execOp a.eval o).run P w = r at *
  cases r with
  | ok x w' =>
    cases x <;> simp only [Oper.upon, Oper.uponIn] at h ⊢ <;> first | exact h | skip
    · exact ⟨fun hx => by simp [Fence.wide] at hx, callsIn_wide.2 h⟩
    · exact ⟨fun hx => by simp [Fence.wide] at hx, fun c cs _ => let ⟨v, w', r, s⟩ := h c cs; ⟨v, w', r, stepsIn_wide.2 s⟩⟩
  | halt x w' => cases x <;> simp only [Oper.upon, Oper.uponIn] at h ⊢ <;> exact h

theorem op_wide {i : Nat} {a : Act} {w : World} {K : Act → World → Prop} (n : Nat) (hd : ops.all noDefer = true) (hQ : ¬ LetsOut Q) (h : wpOp P ops Q i K a w) :
    wpOpIn Fence.wide n P ops Q i K a w := by
  unfold wpOp at h
  unfold wpOpIn
  cases ho : ops[i]? with
  | none => simp only [ho] at h ⊢; exact h
  | some o =>
    simp only [ho] at h ⊢
    have hdo : noDefer o = true := by
      obtain ⟨hlt, e⟩ := Array.getElem?_eq_some_iff.1 ho
      rw [Array.all_eq_true] at hd
      rw [← e]; exact hd i hlt
    split
    · rename_i hw
      rw [if_pos hw] at h
      exact oper_wide n hdo hQ h
    · rename_i hw
      rw [if_neg hw] at h
      exact ⟨fun _ _ => trivial, h⟩

theorem any_of_anyK_wide {K : List Nat} {Qa : Act → Prop} {m n : Nat} {E : Array Bool} (hd : ops.all noDefer = true) (hQ : ¬ LetsOut Q) (hn : K.Nodup) (hw : waits md ops K = true) (hEs : E.size = ops.size) (hEv : ∀ k, k < ops.size → E.getD k true = K.contains k)
    (ht : ∀ a w, C w → Qa a → wpAnyIn Fence.wide n P md ops Q m E a w) : ∀ (fuel : Nat) (listed : Array Bool) (a : Act) (w : World), C w → listed.size = ops.size → (∀ k, k < ops.size → k ∉ K → listed.getD k true = false) → unl K listed = fuel →
      anyK P md ops C K Qa fuel listed a → wpAnyIn Fence.wide n P md ops Q (fuel + m) listed a w
  | 0, listed, a, w, hC, hs, hk, hu, h => by
    have : listed = E := by
      apply Array.ext (by omega)
      intro k h1 h2
      have hE := hEv k (by omega)
      by_cases hkK : k ∈ K
      · have h3 : listed.getD k true = true := by
          cases hc : listed.getD k true with
          | true => rfl
          | false =>
            have : k ∈ K.filter fun k => !listed.getD k true := List.mem_filter.2 ⟨hkK, by rw [hc]; rfl⟩
            have h4 := List.length_pos_of_mem this
            unfold unl at hu
            omega
        simp [h1, h2, hkK] at h3 hE
        rw [h3, hE]
      · have h3 := hk k (by omega) hkK
        simp [h1, h2, hkK] at h3 hE
        rw [h3, hE]
    subst this
    rw [Nat.zero_add]
    exact ht a w hC h.2
  | fuel + 1, listed, a, w, hC, hs, hk, hu, h => by
    have hex : ∃ k ∈ K, listed.getD k true = false := by
      have : 0 < (K.filter fun k => !listed.getD k true).length := by unfold unl at hu; omega
      obtain ⟨k, hkm⟩ := List.exists_mem_of_length_pos this
      have := List.mem_filter.1 hkm
      exact ⟨k, this.1, by simpa using this.2⟩
    obtain ⟨k0, hk0, hk0u⟩ := hex
    rw [show fuel + 1 + m = (fuel + m) + 1 by omega]
    refine ⟨fun h0 => absurd h0 h.1, fun i hi => ?_⟩
    have hiK := waits_spec hw hi hk0 hk0u
    have hiu := (mem_ready.1 hi).1
    refine op_wide n hd hQ (wpOp_of_qOp hC (fun a' w' hC' h' => any_of_anyK_wide hd hQ hn hw hEs hEv ht fuel _ a' w' hC' (by simpa using hs) (fun k hk1 hk2 => ?_) ?_ h') (h.2 i hi hiK))
    · by_cases e : i = k
      · subst e; exact absurd hiK hk2
      · rw [getD_set_ne true e]; exact hk k hk1 hk2
    · have := (unl_set hiu K hn).1 hiK
      omega

theorem any_of_list_wide {n : Nat} : ∀ (ks : List Nat) (l : List Oper) (listed : Array Bool) (a : Act) (w : World), ks.map (fun k => ops[k]?) = l.map some → ixF md ops ks listed = true →
    wpListIn Fence.wide n P ops Q l a w → wpAnyIn Fence.wide n P md ops Q ks.length listed a w
  | [], [], _, _, _, _, hB, h => ⟨by simpa [ixF] using hB, h⟩
  | [], _ :: _, _, _, _, hm, _, _ => by simp at hm
  | _ :: _, [], _, _, _, hm, _, _ => by simp at hm
  | k :: ks, o :: l, listed, a, w, hm, hB, h => by
    simp only [List.map_cons, List.cons.injEq] at hm
    obtain ⟨h0, hm⟩ := hm
    simp only [ixF, Bool.and_eq_true, beq_iff_eq] at hB
    obtain ⟨hr, hB⟩ := hB
    show wpAnyIn Fence.wide n P md ops Q (ks.length + 1) listed a w
    refine ⟨fun h0 => (by rw [hr] at h0; cases h0), fun i hi => ?_⟩
    rw [hr] at hi
    obtain rfl : i = k := by simpa using hi
    have h1 : wpOpIn Fence.wide n P ops Q i (wpListIn Fence.wide n P ops Q l) a w := by unfold wpOpIn; simp only [h0]; exact h
    exact wpOpIn_mono (fun a' w' h' => any_of_list_wide ks l _ a' w' hm hB h') h1

/-- Whichever of those that may come up comes up: walked as a list of one. -/
theorem wide_split {l : List Oper} {n fuel : Nat} {listed : Array Bool} {a : Act} {w : World} (rs : List Nat) (hr : (Region.ready .any l.toArray listed == rs && rs.all fun k => decide (k < l.length)) = true) (hne : rs ≠ [])
    (h : ∀ i ∈ rs, wpListIn Fence.wide n P l.toArray (Exit.then (fun a' w' => wpAnyIn Fence.wide n P .any l.toArray Q fuel (listed.setIfInBounds i true) a' w') Q) [nthO l i] a w) : wpAnyIn Fence.wide n P .any l.toArray Q (fuel + 1) listed a w := by
  simp only [Bool.and_eq_true, beq_iff_eq, List.all_eq_true, decide_eq_true_eq] at hr
  refine ⟨fun h0 => absurd (hr.1.symm.trans h0) hne, fun i hi => ?_⟩
  rw [hr.1] at hi
  have h0 : l.toArray[i]? = some (nthO l i) := by rw [← nthO_get l i (hr.2 i hi)]; simp
  have h1 := h i hi
  unfold wpOpIn
  simp only [h0]
  simp only [wpListIn] at h1
  split
  · rename_i hw
    rw [if_pos hw] at h1
    refine ⟨h1.1, ?_⟩
    have h2 := h1.2
    generalize ((nthO l i).semAt Fence.wide.round a.eval).run P w = r at *
    cases r with
    | ok x w' => cases x <;> exact h2
    | halt x w' => cases x <;> exact h2
  · rename_i hw
    rw [if_neg hw] at h1
    exact h1
theorem wide_tail {l : List Oper} {n : Nat} {listed : Array Bool} {a : Act} {w : World} (ks : List Nat) (hB : (ixF .any l.toArray ks listed && ks.all fun k => decide (k < l.length)) = true) (h : wpListIn Fence.wide n P l.toArray Q (pick l ks) a w) : wpAnyIn Fence.wide n P .any l.toArray Q ks.length listed a w := by
  simp only [Bool.and_eq_true] at hB
  exact any_of_list_wide ks (pick l ks) listed a w (pick_map ks hB.2) hB.1 h
theorem wide_start {l : List Oper} {id n : Nat} {a : Act} {w : World} (hm : P.follows .mixedOrders = true) (h : wpAnyIn Fence.wide n P .any l.toArray Q l.length (Array.replicate l.length false) a w.drew) : (Code.region id l.toArray true).wpIn Fence.wide n P Q a w :=
  wpIn_region_any hm (by simpa using h)
theorem region_tail_wide {id n : Nat} {l : List Oper} {a : Act} {w : World} (ks1 ks2 : List Nat) (hm : P.follows .mixedOrders = true) (hB : (okTail .any l.toArray ks1 ks2 && (ks1 ++ ks2).all fun k => decide (k < l.length)) = true) (hd : l.toArray.all noDefer = true) (hQ : ¬ LetsOut Q)
    (h : wpQuiet P l.toArray (fun w' => ∃ x : Ext w, w' = x.val) (fun a' => ∀ w', (∃ x : Ext w, w' = x.val) → wpListIn Fence.wide n P l.toArray Q (pick l ks2) a' w') (pick l ks1) a) : (Code.region id l.toArray true).wpIn Fence.wide n P Q a w := by
  simp only [Bool.and_eq_true, List.all_append] at hB
  refine wpIn_region_any hm ?_
  have hB1 := hB.1
  have h1 := pick_map (l := l) _ hB.2.1
  have h2 := pick_map (l := l) _ hB.2.2
  simp only [okTail, Bool.and_eq_true, decide_eq_true_eq, beq_iff_eq] at hB1
  obtain ⟨⟨⟨⟨⟨hs, hn⟩, hw⟩, hl⟩, hmm⟩, hlt⟩ := hB1
  cases hE : ixQ .any l.toArray ks1 (Array.replicate l.toArray.size false) with
  | none => rw [hE] at hmm; cases hmm
  | some E =>
    rw [hE] at hmm
    simp only [Bool.and_eq_true, beq_iff_eq, List.all_eq_true, List.mem_range, Bool.not_eq_true', List.contains_eq_mem, decide_eq_false_iff_not] at hmm
    obtain ⟨⟨⟨hEs, hEv⟩, hEr⟩, hF⟩ := hmm
    have hK := anyK_lex (P := P) (C := extC w) (K := ks1) hs ks1 (pick l ks1) _ E a h1 hE hEr h
    have hlt' : ∀ k ∈ ks1, k < l.toArray.size := by simpa using hlt
    have hun : ∀ k, k < l.toArray.size → k ∉ ks1 → (Array.replicate l.toArray.size false).getD k true = false := fun k hk _ => by
      have hk' : k < l.length := by simpa using hk
      simp [hk']
    have := any_of_anyK_wide (Q := Q) (C := extC w) (m := ks2.length) (n := n) hd hQ hn hw hEs (fun k hk => by simpa using hEv k hk) (fun a w hC hq => any_of_list_wide ks2 (pick l ks2) E a w h2 hF (hq w hC)) ks1.length _ a _ (extC_drew w) (by simp) hun (unl_none hlt') hK
    rwa [hl] at this

/-! ### Segments, where the post of a panic may hang on the deferred calls -/
theorem takes_soundP {l : List Oper} {S : World → Prop} {Q : Exit → Act → World → Prop} (hs : Region.noSelect l.toArray = true) (hQ : ∀ (c : List PanicEntry) (a : Act) (d : Option Tmp) (v : Value) (w : World), Q (.panic c) (a.put d v) w → Q (.panic c) a w) {m : Nat} {w : World} (hS : S w) {Qa : Act → Prop} : ∀ (ks : List Nat) (listed E : Array Bool) (a : Act),
    okTakes l ks listed = some E → (∀ a', Qa a' → wpAnyH P .any l.toArray Q S m E a' w) → wpQuiet P l.toArray S Qa (pick l ks) a → wpAnyH P .any l.toArray Q S (ks.length + m) listed a w
  | [], listed, E, a, hB, hk, h => by
    simp only [okTakes, Option.some.injEq] at hB
    subst hB
    simp only [List.length_nil, Nat.zero_add]
    exact hk a h
  | k :: ks, listed, E, a, hB, hk, h => by
    simp only [okTakes] at hB
    split at hB
    · rename_i hc
      simp only [Bool.and_eq_true, decide_eq_true_eq] at hc
      obtain ⟨⟨⟨hlt, hp⟩, hr⟩, hf⟩ := hc
      have h0 : l.toArray[k]? = some (nthO l k) := by rw [← nthO_get l k hlt]; simp
      have hst : qOp P l.toArray S k (wpQuiet P l.toArray S Qa (pick l ks)) a := by unfold qOp; simp only [h0]; exact h
      obtain ⟨v, hy, hK⟩ := yieldsIn_of_qOp h0 hst
      rw [List.length_cons, show ks.length + 1 + m = (ks.length + m) + 1 by omega]
      exact wpAnyH_take h0 hs hf hr (fun c a w => hQ c a _ _ w) (yieldsIf_of_in hp hy) hS (takes_soundP hs hQ hS ks _ E _ hB hk hK)
    · cases hB

theorem seq_soundP {l : List Oper} {S : World → Prop} {Q : Exit → Act → World → Prop} (hs : Region.noSelect l.toArray = true) (hQ : ∀ (c : List PanicEntry) (a : Act) (d : Option Tmp) (v : Value) (w : World), Q (.panic c) (a.put d v) w → Q (.panic c) a w) (hQo : ¬ LetsOut Q) : ∀ (segs : List (List Nat × Nat)) (rest : List Nat) (listed : Array Bool) (a : Act) (w : World), S w →
    okSeq l segs rest listed = true → seqQ P l S Q segs rest a w → wpAnyH P .any l.toArray Q S (seqLen segs rest) listed a w
  | [], rest, listed, a, w, hS, hB, h => by
    simp only [okSeq] at hB
    split at hB
    · rename_i E hE
      have := takes_soundP (m := 0) hs hQ hS rest listed E a hE (fun a' hq => wpAnyH_done (by simpa using hB) hq 0) h
      simpa [seqLen] using this
    · cases hB
  | (qs, k) :: r, rest, listed, a, w, hS, hB, h => by
    simp only [okSeq] at hB
    split at hB
    · rename_i E hE
      simp only [Bool.and_eq_true, decide_eq_true_eq, beq_iff_eq] at hB
      obtain ⟨⟨hlt, hr⟩, hB⟩ := hB
      have h0 : l.toArray[k]? = some (nthO l k) := by rw [← nthO_get l k hlt]; simp
      refine takes_soundP (m := seqLen r rest + 1) hs hQ hS qs listed E a hE (fun a' hq => ?_) h
      refine wpAnyH_all hr (by simp) (fun i hi => ?_)
      obtain rfl : i = k := by simpa using hi
      have h1 : wpOp P l.toArray (Exit.then (fun a'' w'' => S w'' ∧ seqQ P l S Q r rest a'' w'') Q) i (fun a'' w'' => S w'' ∧ seqQ P l S Q r rest a'' w'') a' w := by
        unfold wpOp
        simp only [h0]
        simpa [wpList, Exit.then] using hq
      have h2 : wpOp P l.toArray Q i (fun a'' w'' => S w'' ∧ seqQ P l S Q r rest a'' w'') a' w := by
        unfold wpOp at h1 ⊢
        simp only [h0] at h1 ⊢
        split
        · rename_i hw
          rw [if_pos hw] at h1
          rcases h1 with h1 | h1
          · refine .inl ?_
            unfold Oper.wp at h1 ⊢
            generalize (execOp a'.eval (nthO l i)).run P w = res at *
            cases res with
            | ok n w' => cases n <;> exact h1
            | halt x w' => cases x <;> exact h1
          · exact (hQo (by obtain ⟨_, x, y, hxy⟩ := h1; exact ⟨x, y, hxy⟩)).elim
        · rename_i hw
          rw [if_neg hw] at h1
          exact h1
      exact wpOp_mono (fun a'' w'' ⟨hS', h'⟩ => ⟨hS', seq_soundP hs hQ hQo r rest _ a'' w'' hS' hB h'⟩) h2
    · cases hB

theorem region_seq_anyP {l : List Oper} {Q : Exit → Act → World → Prop} {a : Act} {w : World} (B : Nat → Prop) (segs : List (List Nat × Nat)) (rest : List Nat) (hB : okSegs l segs rest = true) (hQ : ∀ (c : List PanicEntry) (a : Act) (d : Option Tmp) (v : Value) (w : World), Q (.panic c) (a.put d v) w → Q (.panic c) a w) (hQo : ¬ LetsOut Q)
    (h : seqQ P l (fun w' => ∃ x : ExtB B w, w' = x.val) Q segs rest a { w with drawn := w.drawn + 1 }) : wpAny P .any l.toArray Q l.toArray.size (Array.replicate l.toArray.size false) a { w with drawn := w.drawn + 1 } := by
  simp only [okSegs, Bool.and_eq_true, beq_iff_eq] at hB
  have := seq_soundP (P := P) hB.1.1 hQ hQo segs rest _ a _ ⟨⟨w.drew, (Fr.refl _ _).drew⟩, rfl⟩ hB.2 h
  rw [hB.1.2] at this
  exact wpAny_of_held _ _ _ _ this

theorem region_seqP {id : Nat} {l : List Oper} {Q : Exit → Act → World → Prop} {a : Act} {w : World} (B : Nat → Prop) (segs : List (List Nat × Nat)) (rest : List Nat) (hm : P.follows .mixedOrders = true) (hB : okSegs l segs rest = true) (hQ : ∀ (c : List PanicEntry) (a : Act) (d : Option Tmp) (v : Value) (w : World), Q (.panic c) (a.put d v) w → Q (.panic c) a w) (hQo : ¬ LetsOut Q)
    (h : seqQ P l (fun w' => ∃ x : ExtB B w, w' = x.val) Q segs rest a { w with drawn := w.drawn + 1 }) : (Code.region id l.toArray true).wp P Q a w :=
  wp_region_any hm (region_seq_anyP B segs rest hB hQ hQo h)
theorem region_seq_roundP {id lp n : Nat} {l : List Oper} {Q : Exit → Act → World → Prop} {a : Act} {w : World} (B : Nat → Prop) (segs : List (List Nat × Nat)) (rest : List Nat) (hm : P.follows .mixedOrders = true) (hB : okSegs l segs rest = true) (hd : l.toArray.all noDefer = true) (hQ : ∀ (c : List PanicEntry) (a : Act) (d : Option Tmp) (v : Value) (w : World), Q (.panic c) (a.put d v) w → Q (.panic c) a w) (hQo : ¬ LetsOut Q)
    (h : seqQ P l (fun w' => ∃ x : ExtB B w, w' = x.val) Q segs rest a { w with drawn := w.drawn + 1 }) : (Code.region id l.toArray true).wpIn (Fence.wide.inRound lp) n P Q a w :=
  region_round_any lp n hd hm hQo (region_seq_anyP B segs rest hB hQ hQo h)
end
end Go.Rg
