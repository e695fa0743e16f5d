/- A region that draws its order: first what only moves values (it may come anywhere); then what only reads and calls that only make memory, in any order; then the rest in the one order that is left. What waits for what is looked up through the edges, not only one step. -/
import Derived.Test.YticngcjfofcoiaaDoorRv
set_option linter.unusedVariables false
set_option linter.unusedSimpArgs false
namespace Go.Rg
open Go.RowKit
section
variable {P : Program} {ops : Array Oper} {md : Region.Mode} {C : World → Prop}

/-- Does j wait for k? -/
def reach (md : Region.Mode) (ops : Array Oper) : Nat → Nat → Nat → Bool
  | 0, _, _ => false
  | f + 1, j, k => match ops[j]? with
    | some o => o.after.any fun e => Region.binds md e && (e.on == k || reach md ops f e.on k)
    | none => false
/-- What has come up waits for nothing that has not. -/
def Down (md : Region.Mode) (ops : Array Oper) (listed : Array Bool) : Prop := ∀ j, j < ops.size → listed.getD j true = true → ∀ o, ops[j]? = some o → ∀ e ∈ o.after, Region.binds md e = true → listed.getD e.on false = true
theorem reach_spec {listed : Array Bool} (hD : Down md ops listed) (hs : listed.size = ops.size) : ∀ (f j k : Nat), reach md ops f j k = true → (∀ o, ops[j]? = some o → ∀ e ∈ o.after, Region.binds md e = true → listed.getD e.on false = true) → listed.getD k false = true
  | 0, _, _, h, _ => by simp [reach] at h
  | f + 1, j, k, h, hj => by
    unfold reach at h
    cases ho : ops[j]? with
    | none => rw [ho] at h; cases h
    | some o =>
      rw [ho] at h
      obtain ⟨e, he, hb⟩ := Array.any_eq_true'.1 h
      simp only [Bool.and_eq_true, Bool.or_eq_true, beq_iff_eq] at hb
      have hl := hj o ho e he hb.1
      rcases hb.2 with rfl | hr
      · exact hl
      · have hlt : e.on < ops.size := by
          rcases Nat.lt_or_ge e.on listed.size with h' | h'
          · omega
          · simp [Array.getElem?_eq_none h'] at hl
        refine reach_spec hD hs f e.on k hr (hD e.on hlt ?_)
        simpa [hs, hlt] using hl
theorem Down.step {listed : Array Bool} {i : Nat} (hD : Down md ops listed) (hi : i ∈ Region.ready md ops listed) : Down md ops (listed.setIfInBounds i true) := by
  obtain ⟨hu, o, ho, hall⟩ := mem_ready.1 hi
  have up : ∀ k, listed.getD k false = true → (listed.setIfInBounds i true).getD k false = true := fun k hk => by
    by_cases e : i = k
    · subst e
      rcases Nat.lt_or_ge i listed.size with h' | h'
      · simp [h']
      · simp [Array.getElem?_eq_none h'] at hk
    · rw [getD_set_ne false e]; exact hk
  intro j hj hl o' ho' e he hb
  by_cases hji : i = j
  · subst hji
    rw [ho] at ho'
    cases ho'
    exact up _ (hall e he hb)
  · rw [getD_set_ne true hji] at hl
    exact up _ (hD j hj hl o' ho' e he hb)
def downB (md : Region.Mode) (ops : Array Oper) (listed : Array Bool) : Bool := (List.range ops.size).all fun j => !listed.getD j true || match ops[j]? with
  | some o => o.after.all fun e => !Region.binds md e || listed.getD e.on false
  | none => true
theorem downB_spec {listed : Array Bool} (h : downB md ops listed = true) : Down md ops listed := by
  intro j hj hl o ho e he hb
  simp only [downB, List.all_eq_true, List.mem_range, Bool.or_eq_true, Bool.not_eq_true'] at h
  rcases h j hj with h | h
  · rw [hl] at h; cases h
  · rw [ho] at h
    simp only [Array.all_eq_true'] at h
    have := h e he
    simpa [hb] using this
/-- Every operation that has not come up and is not of K waits for all of K. -/
def waitsT (md : Region.Mode) (ops : Array Oper) (base : Array Bool) (K : List Nat) : Bool :=
  (List.range ops.size).all fun j => K.contains j || base.getD j true || K.all fun k => reach md ops ops.size j k

theorem any_of_anyKB {K : List Nat} {Qa : Act → Prop} {Q : Exit → Act → World → Prop} {m : Nat} {B E : Array Bool} (hn : K.Nodup) (hw : waitsT md ops B K = true) (hEs : E.size = ops.size) (hEv : ∀ k, k < ops.size → E.getD k true = (K.contains k || B.getD k true))
    (ht : ∀ a w, C w → Qa a → wpAny P md ops Q m E a w) : ∀ (fuel : Nat) (listed : Array Bool) (a : Act) (w : World), C w → listed.size = ops.size → Down md ops listed → (∀ k, k < ops.size → k ∉ K → listed.getD k true = B.getD k true) → (∀ k ∈ K, k < ops.size) → unl K listed = fuel →
      anyK P md ops C K Qa fuel listed a → wpAny P md ops Q (fuel + m) listed a w
  | 0, listed, a, w, hC, hs, hD, hk, hKs, hu, h => by
    have : listed = E := by
      apply Array.ext (by omega)
      intro k h1 h2
      have hE := hEv k (by omega)
      by_cases hkK : k ∈ K
      · have h3 : listed.getD k true = true := by
          cases hc : listed.getD k true with
          | true => rfl
          | false =>
            have : k ∈ K.filter fun k => !listed.getD k true := List.mem_filter.2 ⟨hkK, by rw [hc]; rfl⟩
            have h4 := List.length_pos_of_mem this
            unfold unl at hu
            omega
        simp [h1, h2, hkK] at h3 hE
        rw [h3, hE]
      · have h3 := hk k (by omega) hkK
        rw [← h3] at hE
        simp [h1, h2, hkK] at hE
        exact hE.symm
    subst this
    rw [Nat.zero_add]
    exact ht a w hC h.2
  | fuel + 1, listed, a, w, hC, hs, hD, hk, hKs, hu, h => by
    have hex : ∃ k ∈ K, listed.getD k true = false := by
      have : 0 < (K.filter fun k => !listed.getD k true).length := by unfold unl at hu; omega
      obtain ⟨k, hkm⟩ := List.exists_mem_of_length_pos this
      have := List.mem_filter.1 hkm
      exact ⟨k, this.1, by simpa using this.2⟩
    obtain ⟨k0, hk0, hk0u⟩ := hex
    rw [show fuel + 1 + m = (fuel + m) + 1 by omega]
    refine ⟨fun h0 => absurd h0 h.1, fun i hi => ?_⟩
    have hiu := (mem_ready.1 hi).1
    have hiK : i ∈ K := by
      obtain ⟨_, o, ho, hall⟩ := mem_ready.1 hi
      simp only [waitsT, List.all_eq_true, List.mem_range, Bool.or_eq_true, List.contains_iff_mem] at hw
      have hlt := (Array.getElem?_eq_some_iff.1 ho).1
      rcases hw i hlt with (h1 | h1) | h1
      · exact h1
      · apply Classical.byContradiction
        intro hnK
        rw [hk i hlt hnK, h1] at hiu
        cases hiu
      · have h2 := reach_spec hD hs _ _ _ (h1 k0 hk0) (fun o' ho' e he hb => by rw [ho] at ho'; cases ho'; exact hall e he hb)
        have h3 := hKs k0 hk0
        have h4 : k0 < listed.size := by omega
        simp [h4] at h2 hk0u
        rw [h2] at hk0u; cases hk0u
    refine wpOp_of_qOp hC (fun a' w' hC' h' => any_of_anyKB hn hw hEs hEv ht fuel _ a' w' hC' (by simpa using hs) (hD.step hi) (fun k hk1 hk2 => ?_) hKs ?_ h') (h.2 i hi hiK)
    · by_cases e : i = k
      · subst e; exact absurd hiK hk2
      · rw [getD_set_ne true e]; exact hk k hk1 hk2
    · have := (unl_set hiu K hn).1 hiK
      omega

theorem heldT_of_any {Q : Exit → Act → World → Prop} : ∀ (fuel : Nat) (listed : Array Bool) (a : Act) (w : World), wpAny P md ops Q fuel listed a w → wpAnyH P md ops Q (fun w' => ∃ x : World, w' = id x) fuel listed a w
  | 0, _, _, _, h => h
  | fuel + 1, _, _, _, h => ⟨h.1, fun i hi => wpOp_mono (fun a' w' h' => ⟨⟨w', rfl⟩, heldT_of_any fuel _ a' w' h'⟩) (h.2 i hi)⟩

def okLate (md : Region.Mode) (l : List Oper) (ks0 ks1 ks2 : List Nat) : Bool :=
  Region.noSelect l.toArray && decide ks1.Nodup && ks0.length + (ks1.length + ks2.length) == l.length &&
  (match okTakes l ks0 (Array.replicate l.length false) with
   | some B => B.size == l.length && downB md l.toArray B && waitsT md l.toArray B ks1 && ks1.all (fun k => !B.getD k true) &&
     (match ixQ md l.toArray ks1 B with
      | some E => E.size == l.length && (List.range l.length).all (fun k => E.getD k true == (ks1.contains k || B.getD k true)) && (Region.ready md l.toArray E).all (fun j => !ks1.contains j) && ixF md l.toArray ks2 E
      | none => false)
   | none => false) && (ks0 ++ (ks1 ++ ks2)).all (fun k => decide (k < l.length))

theorem any_late {l : List Oper} {Q : Exit → Act → World → Prop} {a : Act} {w w0 : World} (ks0 ks1 ks2 : List Nat) (hB : okLate .any l ks0 ks1 ks2 = true) (hQ : ∀ (c : List PanicEntry) (a : Act) (d : Option Tmp) (v : Value) (w : World), Q (.panic c) (a.put d v) w → Q (.panic c) a w) (hC : C w)
    (h : wpQuiet P l.toArray (fun w' => ∃ x : World, w' = id x) (fun a' => wpQuiet P l.toArray C (fun a'' => ∀ w', C w' → wpList P l.toArray Q (pick l ks2) a'' w') (pick l ks1) a') (pick l ks0) a) : wpAny P .any l.toArray Q l.length (Array.replicate l.length false) a w := by
  simp only [okLate, Bool.and_eq_true, decide_eq_true_eq, beq_iff_eq, List.all_append] at hB
  obtain ⟨⟨⟨⟨hs, hn⟩, hl⟩, hm⟩, h0, h1, h2⟩ := hB
  cases hT : okTakes l ks0 (Array.replicate l.length false) with
  | none => rw [hT] at hm; cases hm
  | some B =>
    rw [hT] at hm
    simp only [Bool.and_eq_true, beq_iff_eq] at hm
    obtain ⟨⟨⟨⟨hBs, hD⟩, hw⟩, hBK⟩, hm⟩ := hm
    cases hE : ixQ .any l.toArray ks1 B with
    | none => rw [hE] at hm; cases hm
    | some E =>
      rw [hE] at hm
      simp only [Bool.and_eq_true, beq_iff_eq, List.all_eq_true, List.mem_range, Bool.not_eq_true', List.contains_eq_mem, decide_eq_false_iff_not] at hm
      obtain ⟨⟨⟨hEs, hEv⟩, hEr⟩, hF⟩ := hm
      have hlt' : ∀ k ∈ ks1, k < l.toArray.size := by simpa using h1
      have hun : unl ks1 B = ks1.length := by
        unfold unl
        rw [List.filter_eq_self.2]
        exact List.all_eq_true.1 hBK
      have := takes_soundP (P := P) (S := fun w' => ∃ x : World, w' = id x) (m := ks1.length + ks2.length) (w := w) hs hQ ⟨w, rfl⟩ ks0 _ B a hT (fun a' ha => heldT_of_any _ _ _ _ (any_of_anyKB (Q := Q) (C := C) (m := ks2.length) (B := B) hn hw (by simpa using hEs) (fun k hk => by simpa using hEv k (by simpa using hk)) (fun a w hC hq => any_of_list ks2 (pick l ks2) E a w (pick_map _ h2) hF (hq w hC)) ks1.length B a' w hC (by simpa using hBs) (downB_spec hD) (fun k _ _ => rfl) hlt' hun (anyK_lex (P := P) (C := C) (K := ks1) hs ks1 (pick l ks1) B E a' (pick_map _ h1) hE hEr ha))) h
      rw [hl] at this
      exact wpAny_of_held _ _ _ _ this

/-- The moves 'ks0' first, then 'ks1' in any world that is w but for new blocks, then 'ks2' in the one order that is left. -/
theorem region_late {id : Nat} {l : List Oper} {Q : Exit → Act → World → Prop} {a : Act} {w : World} (ks0 ks1 ks2 : List Nat) (hm : P.follows .mixedOrders = true) (hB : okLate .any l ks0 ks1 ks2 = true) (hQ : ∀ (c : List PanicEntry) (a : Act) (d : Option Tmp) (v : Value) (w : World), Q (.panic c) (a.put d v) w → Q (.panic c) a w)
    (h : wpQuiet P l.toArray (fun w' => ∃ x : World, w' = _root_.id x) (fun a' => wpQuiet P l.toArray (fun w' => ∃ x : Ext w, w' = x.val) (fun a'' => ∀ w', (∃ x : Ext w, w' = x.val) → wpList P l.toArray Q (pick l ks2) a'' w') (pick l ks1) a') (pick l ks0) a) : (Code.region id l.toArray true).wp P Q a w := by
  refine wp_region_any hm ?_
  have := any_late (P := P) (C := extC w) (w := w.drew) (w0 := w) ks0 ks1 ks2 hB hQ (extC_drew w) h
  simpa using this
end
end Go.Rg
