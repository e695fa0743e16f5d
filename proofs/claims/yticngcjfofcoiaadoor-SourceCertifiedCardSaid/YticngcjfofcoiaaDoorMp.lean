/- Plain facts of made sources: they are valid, and chosen ones assert; what the laws say of the contracts' answers. -/
import Derived.Test.YticngcjfofcoiaaDoorCh
import Derived.Test.YticngcjfofcoiaaDoorCk
namespace Go.Proofs.YticngcjfofcoiaaDoor
open Go.RowKit Go.Rg Go.Proofs.YticngcjfofcoiaaDoorW.PrintWords
set_option linter.unusedVariables false
set_option linter.unusedSimpArgs false

/-! ### Valid sources -/
theorem fnd_has {l : List Src} {y : Int} (h : ∃ s ∈ l, s.id = y) : (fndS l y).isSome = true := by
  obtain ⟨s, hs, e⟩ := h
  unfold fndS
  rw [List.find?_isSome]
  exact ⟨s, hs, by simpa using e⟩
theorem fnd_uniq {l : List Src} (hv : validS l = true) {s : Src} (hs : s ∈ l) : fndS l s.id = some s := by
  obtain ⟨t, ht⟩ := Option.isSome_iff_exists.1 (fnd_has ⟨s, hs, rfl⟩)
  have h1 := List.mem_of_find?_eq_some ht
  have h2 := List.find?_some ht
  rw [ht, valid_uniq hv h1 hs (by simpa using h2)]
theorem asrt_of {l : List Src} {xs : List Int} (hp : xs.Pairwise (· < ·)) (hr : ∀ y ∈ xs, ∃ s ∈ l, s.id = y) : asrt l xs = true := by
  unfold asrt
  refine List.all_eq_true.2 fun i hi => ?_
  have hi := List.mem_range.1 hi
  unfold okAt
  rw [Bool.and_eq_true, Bool.or_eq_true, rd_at hi]
  refine ⟨fnd_has (hr _ (List.getElem_mem hi)), ?_⟩
  rcases Nat.eq_zero_or_pos i with h | h
  · exact .inl (by simp [h])
  · refine .inr ?_
    rw [rd_at (show i - 1 < xs.length by omega), decide_eq_true_eq]
    exact List.pairwise_iff_getElem.1 hp (i - 1) i (by omega) hi (by omega)
theorem asrt_asc {l : List Src} {xs : List Int} (h : asrt l xs = true) : xs.Pairwise (· < ·) := by
  have step : ∀ i, i + 1 < xs.length → rd xs (i : Int) < rd xs ((i + 1 : Nat) : Int) := fun i hi => by
    have h1 := List.all_eq_true.1 h (i + 1) (List.mem_range.2 hi)
    unfold okAt at h1
    rw [Bool.and_eq_true, Bool.or_eq_true] at h1
    rcases h1.2 with h2 | h2
    · simp at h2
    · simpa using h2
  have all : ∀ j i, i < j → j < xs.length → rd xs (i : Int) < rd xs (j : Int) := fun j => by
    induction j with
    | zero => intro i hi _; omega
    | succ j ih =>
      intro i hi hj
      rcases Nat.lt_or_ge i j with h1 | h1
      · exact Int.lt_trans (ih i h1 (by omega)) (step j hj)
      · obtain rfl : i = j := by omega
        exact step i hj
  refine List.pairwise_iff_getElem.2 fun i j hi hj hij => ?_
  have := all j i hij hj
  rw [rd_at hi, rd_at hj] at this
  exact this
theorem valid_of {l : List Src} (hl : l.length ≤ 12) (ha : l.Pairwise fun s t => s.id < t.id) (hs : ∀ s ∈ l, (0 ≤ s.id ∧ s.id < 12) ∧ (s.kind = 1 ∨ s.kind = 2) ∧ s.frm.length ≤ 3 ∧ s.frm.Pairwise (· < ·) ∧ (∀ y ∈ s.frm, ∃ t ∈ l, t.id = y) ∧ s.id ∉ s.frm) : validS l = true := by
  unfold validS
  rw [Bool.and_eq_true, decide_eq_true_eq]
  refine ⟨hl, List.all_eq_true.2 fun i hi => ?_⟩
  have hi := List.mem_range.1 hi
  have hg : l.getD i s0 = l[i] := by simp [List.getD, hi]
  obtain ⟨h1, h2, h3, h4, h5, h6⟩ := hs _ (List.getElem_mem hi)
  unfold vAt vHead vTail idAt
  rw [hg]
  simp only [Bool.and_eq_true, Bool.or_eq_true, decide_eq_true_eq, Bool.not_eq_true']
  refine ⟨⟨h1.1, h1.2, ?_, h2⟩, h3, asrt_of h4 h5, ?_⟩
  · rcases Nat.eq_zero_or_pos i with h | h
    · exact .inl h
    · refine .inr ?_
      have hg2 : l.getD (i - 1) s0 = l[i - 1] := by simp [List.getD, show i - 1 < l.length by omega]
      rw [hg2]
      exact List.pairwise_iff_getElem.1 ha (i - 1) i (by omega) hi (by omega)
  · rw [← Bool.not_eq_true, List.contains_iff_mem]
    exact h6
/-- What is needed of sources to be valid. -/
structure Sound (l m : List Src) : Prop where
  asc : l.Pairwise fun s t => s.id < t.id
  each : ∀ s ∈ l, (0 ≤ s.id ∧ s.id < 12) ∧ (s.kind = 1 ∨ s.kind = 2) ∧ s.frm.length ≤ 3 ∧ s.frm.Pairwise (· < ·) ∧ (∀ y ∈ s.frm, ∃ t ∈ m, t.id = y) ∧ s.id ∉ s.frm
theorem Sound.valid {l : List Src} (h : Sound l l) (hl : l.length ≤ 12) : validS l = true := valid_of hl h.asc h.each
/-! ### Made sources -/
theorem made_id {l : List Src} {n : Nat} (hm : MadeL n l) : ∀ (i : Nat) (s : Src), l[i]? = some s → s.id = (i : Int) := fun i s h => (hm i s h).id
theorem made_mem {l : List Src} {n : Nat} (hm : MadeL n l) {s : Src} (hs : s ∈ l) : ∃ i, l[i]? = some s ∧ MadeS n i s := by
  obtain ⟨i, hi, e⟩ := List.getElem_of_mem hs
  have : l[i]? = some s := by rw [List.getElem?_eq_getElem hi, e]
  exact ⟨i, this, hm i s this⟩
theorem made_has {l : List Src} (hm : MadeL l.length l) {y : Int} (h : 0 ≤ y ∧ y < l.length) : ∃ t ∈ l, t.id = y := by
  have hlt : y.toNat < l.length := by omega
  refine ⟨l[y.toNat], List.getElem_mem hlt, ?_⟩
  have := made_id hm y.toNat _ (List.getElem?_eq_getElem hlt)
  omega
theorem made_rng {l : List Src} {n : Nat} (hm : MadeL n l) {s : Src} (hs : s ∈ l) : 0 ≤ s.id ∧ s.id < l.length := by
  obtain ⟨i, hi, h⟩ := made_mem hm hs
  have := (List.getElem?_eq_some_iff.1 hi).1
  have := h.id
  omega
theorem made_sound {l : List Src} (hm : MadeL l.length l) (hl : l.length ≤ 10) : Sound l l := by
  refine ⟨List.pairwise_iff_getElem.2 fun i j hi hj hij => ?_, fun s hs => ?_⟩
  · have h1 := made_id hm i _ (List.getElem?_eq_getElem hi)
    have h2 := made_id hm j _ (List.getElem?_eq_getElem hj)
    omega
  · obtain ⟨i, hi, h⟩ := made_mem hm hs
    have h1 := (List.getElem?_eq_some_iff.1 hi).1
    have h2 := h.id
    refine ⟨⟨by omega, by omega⟩, h.kind, h.len, h.asc, fun y hy => made_has hm ?_, fun hc => ?_⟩
    · have := h.rng y hy; exact ⟨this.1, this.2.1⟩
    · have := h.rng _ hc; omega
theorem made_valid {l : List Src} (hm : MadeL l.length l) (hl : l.length ≤ 10) : validS l = true := (made_sound hm hl).valid (by omega)
theorem made_short {l : List Src} {n : Nat} (hm : MadeL n l) : ∀ s ∈ l, s.frm.length ≤ 1000 := fun s hs => by
  obtain ⟨i, _, h⟩ := made_mem hm hs
  have := h.len
  omega
theorem chosen_asrt {l : List Src} {xs : List Int} (hm : MadeL l.length l) (hc : ChosenL l.length xs) : asrt l xs = true := asrt_of hc.1 fun y hy => made_has hm (hc.2 y hy)
theorem made_given {l : List Src} {xs : List Int} (hm : MadeL l.length l) (hl : l.length ≤ 10) (hc : ChosenL l.length xs) : givenB l xs = true := by
  unfold givenB
  rw [made_valid hm hl, chosen_asrt hm hc]; rfl
theorem given_valid {l : List Src} {xs : List Int} (h : givenB l xs = true) : validS l = true := by
  unfold givenB at h
  rw [Bool.and_eq_true] at h
  exact h.1
theorem given_asrt {l : List Src} {xs : List Int} (h : givenB l xs = true) : asrt l xs = true := by
  unfold givenB at h
  rw [Bool.and_eq_true] at h
  exact h.2
theorem given_err {l : List Src} {xs : List Int} (h : givenB l xs = true) : errS l xs = 0 := by unfold errS; rw [if_pos h]
/-! ### Webs -/
theorem sd_bit (xs : List Int) (i : Nat) : (sdL xs).testBit i = true ↔ ∃ y ∈ xs, y.toNat = i := by
  unfold sdL
  rw [orL_bit]
  simp
theorem web_fit {l : List Src} (hv : validS l = true) (xs : List Int) (wo : Nat) : Flow.Fit (webOf l xs wo) := (valid_nx hv).fit (sdL xs) (ogL l) wo
theorem sub_zero (l : List Src) (xs : List Int) (wo : Nat) : Flow.sub (webOf l xs wo) (webOf l xs wo).org (bitsOf 0) = webOf l xs wo := by
  unfold Flow.sub webOf netOf bitsOf
  congr 1
  funext i
  simp
theorem ways_ok {l : List Src} {xs : List Int} {wo : Nat} (h : givenB l xs = true) : Flow.Ways (webOf l xs wo) (waysS l xs wo) := by
  have hf := web_fit (given_valid h) xs wo
  have := (Flow.leastF_spec (w := webOf l xs wo) hf (Flow.mc (webOf l xs wo)) (bitsOf 0) (by rw [sub_zero]; exact Nat.le_refl _)).2
  rw [sub_zero] at this
  unfold waysS
  rw [if_pos h]
  exact this
theorem cnt_eq {l : List Src} {xs : List Int} {wo : Nat} (h : givenB l xs = true) : cntS l xs wo = Flow.mc (webOf l xs wo) := by unfold cntS; rw [if_pos h]
theorem cut_eq {l : List Src} {xs : List Int} {wo : Nat} (h : givenB l xs = true) : cutS l xs wo = Flow.firstL (webOf l xs wo) := by unfold cutS; rw [if_pos h]
/-- Whoever stands in a way is an origin or quotes one. -/
theorem way_kin {w : Flow.Web} : ∀ {p : List Nat}, Flow.Chn w.E p → ∀ x ∈ p, (∃ r, p = x :: r) ∨ ∃ y, w.E y x = true
  | [], _, x, hx => by cases hx
  | [y], _, x, hx => by
    rw [List.mem_singleton] at hx
    exact .inl ⟨[], by rw [hx]⟩
  | y :: z :: r, h, x, hx => by
    rcases List.mem_cons.1 hx with rfl | hx
    · exact .inl ⟨_, rfl⟩
    · rcases way_kin h.2 x hx with ⟨r', e⟩ | h3
      · cases e
        exact .inr ⟨y, h.1⟩
      · exact .inr h3
theorem way_src {l : List Src} {xs : List Int} {wo : Nat} (hv : validS l = true) {p : List Nat} (hp : Flow.Way (webOf l xs wo) p) {x : Nat} (hx : x ∈ p) : ∃ s ∈ l, s.id = x := by
  rcases way_kin hp.chn x hx with ⟨r, e⟩ | ⟨y, hy⟩
  · obtain ⟨x', r', e', ho⟩ := hp.org
    rw [e] at e'
    cases e'
    obtain ⟨s, hs, _, e2⟩ := (ogL_bit l x).1 ho
    have := (valid_src hv hs).1
    exact ⟨s, hs, by omega⟩
  · have hy : (nxL l y).contains x = true := hy
    obtain ⟨s, hs, e2, _⟩ := (nxL_mem l y x).1 (List.contains_iff_mem.1 hy)
    have := (valid_src hv hs).1
    exact ⟨s, hs, by omega⟩
/-! ### Named -/
theorem named_le {l : List Src} {xs : List Int} (h : givenB l xs = true) (wo : Nat) : cntS l xs wo ≤ cntS l xs 0 := by
  rw [cnt_eq h, cnt_eq h]
  have hv := given_valid h
  exact Flow.mc_without (web_fit hv xs 0) (web_fit hv xs wo) rfl (fun i hi => by simp [webOf, netOf] at hi) rfl rfl rfl
theorem named_kind {l : List Src} {xs : List Int} (h : givenB l xs = true) {p : List Nat} (hp : p ∈ waysS l xs (woL l)) {x : Nat} (hx : x ∈ p) : ∃ s, fndS l (x : Int) = some s ∧ s.kind = 1 := by
  have hv := given_valid h
  have hw := (ways_ok (wo := woL l) h).each p hp
  obtain ⟨s, hs, e⟩ := way_src hv hw hx
  refine ⟨s, by rw [← e]; exact fnd_uniq hv hs, ?_⟩
  have hk := valid_src hv hs
  rcases hk.2.2.2.1 with h1 | h1
  · exact h1
  · have h2 : (woL l).testBit x = false := (hw.ok x hx).2
    have h3 : (woL l).testBit x = true := (woL_bit l x).2 ⟨s, hs, ⟨h1, hk.1, hk.2.1⟩, by omega⟩
    rw [h2] at h3; cases h3
theorem wo_none : ∀ {l : List Src}, (∀ s ∈ l, s.kind ≠ 2) → woL l = 0 := fun {l} h => by
  refine Nat.eq_of_testBit_eq fun i => ?_
  rw [Nat.zero_testBit, ← Bool.not_eq_true, woL_bit]
  rintro ⟨s, hs, ⟨h1, _⟩, _⟩
  exact h s hs h1
theorem sameB_refl (n : Int) (w : List (List Int)) (c : List Int) : sameB n w c n w c = true := by simp [sameB]
end Go.Proofs.YticngcjfofcoiaaDoor
