/- What the laws of sources say of plain lists: a silenced source, one more that asserts, copies. -/
import Derived.Test.YticngcjfofcoiaaDoorMq
namespace Go.Proofs.YticngcjfofcoiaaDoor
open Go.RowKit Go.Rg Go.Proofs.YticngcjfofcoiaaDoorW.PrintWords
set_option linter.unusedVariables false
set_option linter.unusedSimpArgs false

/-! ### A source that is silenced -/
theorem silc_E {l : List Src} {xs ys : List Int} {id : Nat} {x y : Nat} (hm : MadeL l.length l) (hl : l.length ≤ 10) (hx : x < 10) (hy : y ≠ id) : (webOf (silL l id) ys 0).E x y = (webOf l xs 0).E x y := by
  rw [Bool.eq_iff_iff, E_iff, E_iff]
  constructor
  · rintro ⟨s, hs, e, z, hz, e2⟩
    rcases sil_mem.1 hs with ⟨t, ht, rfl⟩ | rfl | rfl
    · have hr := made_rng hm ht
      rw [sil_id] at e
      unfold silS at hz
      rw [if_neg (by omega)] at hz
      exact ⟨t, ht, e, z, hz, e2⟩
    · rw [List.mem_singleton] at hz; omega
    · rw [List.mem_singleton] at hz; omega
  · rintro ⟨t, ht, e, z, hz, e2⟩
    have hr := made_rng hm ht
    refine ⟨silS id t, sil_mem.2 (.inl ⟨t, ht, rfl⟩), by rw [sil_id]; exact e, z, ?_, e2⟩
    unfold silS
    rw [if_neg (by omega)]
    exact hz
theorem silc_org {l : List Src} {xs ys : List Int} {id : Nat} {x : Nat} (hm : MadeL l.length l) (hl : l.length ≤ 10) (hx : x ≠ id) : (webOf (silL l id) ys 0).org x = (webOf l xs 0).org x := by
  rw [Bool.eq_iff_iff, org_iff, org_iff]
  constructor
  · rintro ⟨s, hs, e, e2⟩
    rcases sil_mem.1 hs with ⟨t, ht, rfl⟩ | rfl | rfl
    · have hr := made_rng hm ht
      rw [sil_id] at e2
      unfold silS at e
      rw [if_neg (by omega)] at e
      exact ⟨t, ht, e, e2⟩
    · simp at e
    · simp at e
  · rintro ⟨t, ht, e, e2⟩
    have hr := made_rng hm ht
    refine ⟨silS id t, sil_mem.2 (.inl ⟨t, ht, rfl⟩), ?_, by rw [sil_id]; exact e2⟩
    unfold silS
    rw [if_neg (by omega)]
    exact e
theorem silc_org_not {l : List Src} {xs : List Int} {id : Nat} {x : Nat} (hm : MadeL l.length l) (hl : l.length ≤ 10) (h : (webOf (silL l id) xs 0).org x = true) : x ≠ id ∧ x < 10 := by
  obtain ⟨s, hs, e, e2⟩ := org_iff.1 h
  rcases sil_mem.1 hs with ⟨t, ht, rfl⟩ | rfl | rfl
  · have hr := made_rng hm ht
    rw [sil_id] at e2
    refine ⟨fun hx => ?_, by omega⟩
    unfold silS at e
    rw [if_pos (by omega)] at e
    simp at e
  · simp at e
  · simp at e
theorem silc_E_not {l : List Src} {xs : List Int} {id : Nat} {x y : Nat} (hm : MadeL l.length l) (hl : l.length ≤ 10) (hx : x < 10) (h : (webOf (silL l id) xs 0).E x y = true) : y ≠ id ∧ y < 10 := by
  obtain ⟨s, hs, e, z, hz, e2⟩ := E_iff.1 h
  rcases sil_mem.1 hs with ⟨t, ht, rfl⟩ | rfl | rfl
  · have hr := made_rng hm ht
    rw [sil_id] at e
    refine ⟨fun hy => ?_, by omega⟩
    unfold silS at hz
    rw [if_pos (by omega), List.mem_singleton] at hz
    omega
  · rw [List.mem_singleton] at hz; omega
  · rw [List.mem_singleton] at hz; omega
theorem silc {l : List Src} {xs : List Int} (hm : MadeL l.length l) (hl : l.length ≤ 10) (hc : ChosenL l.length xs) {s : Src} (hs : s ∈ l) : cntS (silL l s.id) xs 0 ≤ cntS l xs 0 ∧ cntS l xs 0 ≤ cntS (silL l s.id) xs 0 + 1 ∧ (s.id ∈ (cutS l xs 0).map Int.ofNat → cntS l xs 0 = cntS (silL l s.id) xs 0 + 1) := by
  have hg := made_given hm hl hc
  have hg' := sil_given hm hl hc s.id
  rw [cnt_eq hg, cnt_eq hg', cut_eq hg]
  have hf := web_fit (given_valid hg) xs 0
  have hf' := web_fit (given_valid hg') xs 0
  obtain ⟨id, hid⟩ : ∃ id : Nat, s.id = id := ⟨s.id.toNat, by have := made_rng hm hs; omega⟩
  have hr := made_rng hm hs
  rw [hid] at hf' ⊢
  have H := Flow.mc_silent hf hf' rfl rfl (i := id) (G := fun i => decide (i < 10 ∧ i ≠ id)) (fun x h => by
      have := silc_org_not hm hl h
      exact decide_eq_true ⟨this.2, this.1⟩) (fun x y hx h => by
      have := silc_E_not hm hl (of_decide_eq_true hx).1 h
      exact decide_eq_true ⟨this.2, this.1⟩) (decide_eq_false fun h => h.2 rfl) (fun x hx => silc_org hm hl hx) (fun x y hx hy => silc_E hm hl (of_decide_eq_true hx).1 hy)
    (fun x y hx => ⟨fun h hy => decide_eq_true ⟨made_org hm hl h, hy⟩, fun _ h hy => decide_eq_true ⟨(made_E hm hl h).2, hy⟩⟩) (fun x _ => rfl)
  refine ⟨H.1, H.2.1, fun h => ?_⟩
  obtain ⟨i, hi, e⟩ := List.mem_map.1 h
  have hi2 : i = id := by have : (i : Int) = id := e; omega
  subst hi2
  unfold Flow.firstL at hi
  obtain ⟨h1, h2⟩ := List.mem_filter.1 hi
  have h1 : i < 12 := List.mem_range.1 h1
  have := H.2.2 h2 h1
  have := H.2.1
  omega
/-! ### One more that asserts -/
theorem chosen_take {n : Nat} {xs : List Int} (hc : ChosenL n xs) (i : Nat) : ChosenL n (xs.take i) := ⟨hc.1.sublist (List.take_sublist ..), fun y hy => hc.2 y (List.mem_of_mem_take hy)⟩
theorem more_step {l : List Src} {xs : List Int} (hm : MadeL l.length l) (hl : l.length ≤ 10) (hc : ChosenL l.length xs) {i : Nat} (hi : i < xs.length) : cntS l (xs.take i) 0 ≤ cntS l (xs.take (i + 1)) 0 ∧ cntS l (xs.take (i + 1)) 0 ≤ cntS l (xs.take i) 0 + 1 := by
  have hg := made_given hm hl (chosen_take hc i)
  have hg' := made_given hm hl (chosen_take hc (i + 1))
  rw [cnt_eq hg, cnt_eq hg']
  refine Flow.mc_more (web_fit (given_valid hg) _ 0) (web_fit (given_valid hg') _ 0) rfl rfl rfl rfl (x := (xs[i]).toNat) fun x => ?_
  rw [said_iff, said_iff, List.take_succ_eq_append_getElem hi]
  simp only [List.mem_append, List.mem_singleton]
  constructor
  · rintro ⟨y, hy | rfl, e⟩
    · exact .inl ⟨y, hy, e⟩
    · exact .inr e.symm
  · rintro (⟨y, hy, e⟩ | h)
    · exact ⟨y, .inl hy, e⟩
    · exact ⟨_, .inr rfl, h.symm⟩
theorem count_mem (K : Nat) : ∀ (xs : List Nat), Flow.count K (fun i => xs.contains i) ≤ xs.length
  | [] => by
    have : Flow.count K (fun i => ([] : List Nat).contains i) = 0 := by
      unfold Flow.count
      exact Flow.sum_none fun i _ => by simp
    rw [this]; simp
  | x :: xs => by
    have h1 := count_mem K xs
    have h2 := Flow.count_or (K := K) (D := fun i => xs.contains i) (x := x)
    have e : (fun i => (x :: xs).contains i) = Flow.or2 (fun i => xs.contains i) (Flow.one x) := funext fun i => by
      unfold Flow.or2 Flow.one
      rw [Bool.eq_iff_iff]
      simp [Bool.or_comm, or_comm]
    rw [e, List.length_cons]
    omega
theorem sd_contains (xs : List Int) : (fun i => (sdL xs).testBit i) = fun i => (xs.map Int.toNat).contains i := funext fun i => by
  rw [Bool.eq_iff_iff, sd_bit, List.contains_iff_mem, List.mem_map]
theorem sd_count (xs : List Int) : Flow.count 12 (fun i => (sdL xs).testBit i) ≤ xs.length := by
  have := count_mem 12 (xs.map Int.toNat)
  rw [List.length_map] at this
  rw [sd_contains]
  exact this
theorem said_le {l : List Src} {xs : List Int} (hg : givenB l xs = true) : cntS l xs 0 ≤ xs.length := by
  rw [cnt_eq hg]
  have h1 := Flow.mc_said (web_fit (given_valid hg) xs 0)
  have h2 := sd_count xs
  have h3 : Flow.count (webOf l xs 0).K (webOf l xs 0).said = Flow.count 12 (fun i => (sdL xs).testBit i) := rfl
  omega
/-- Whom a way leads to stands behind an origin. -/
theorem from_org {nx : Nat → List Nat} {sd og : Nat} {D : Nat → Bool} {x : Nat} (h : Flow.Reach (netOf nx sd og 0) D x) : ∃ o, o < 12 ∧ og.testBit o = true ∧ Flow.Reach (netOf nx 0 (2 ^ o) 0) (fun _ => false) x ∧ (x = o ∨ D o = false) := by
  induction h with
  | @base i hi ho hw =>
    refine ⟨i, hi, ho, .base hi ?_ hw, .inl rfl⟩
    show (2 ^ i).testBit i = true
    rw [Nat.testBit_two_pow]; simp
  | @step x y hx hw hd hy he ih =>
    obtain ⟨o, h1, h2, h3, h4⟩ := ih
    refine ⟨o, h1, h2, .step h3 hw rfl hy he, .inr ?_⟩
    rcases h4 with rfl | h4
    · exact hd
    · exact h4
theorem elems_bit {s i : Nat} : i ∈ elems s ↔ i < 12 ∧ s.testBit i = true := by
  unfold elems
  rw [List.mem_filter, List.mem_range]
open Classical in
/-- The support is at most the number of the origins there are ways from. -/
theorem origins_le {l : List Src} {xs : List Int} (hg : givenB l xs = true) {D : Nat → Bool} (hD : ∀ y ∈ xs, ∀ o ∈ orgL l y, D o = true) : (cntS l xs 0 : Int) ≤ Flow.count 12 D := by
  rw [cnt_eq hg]
  have hv := given_valid hg
  refine Flow.mc_le (web_fit hv xs 0) (D := D) fun x hx _ hd hs => ?_
  obtain ⟨o, h1, h2, h3, h4⟩ := from_org hx
  obtain ⟨y, hy, e⟩ := said_iff.1 hs
  have hy2 := okAt_some (given_asrt hg) hy
  have ho : o ∈ orgL l y := by
    unfold orgL
    rw [if_pos ⟨hv, fnd_has hy2⟩]
    refine List.mem_filter.2 ⟨elems_bit.2 ⟨h1, h2⟩, ?_⟩
    unfold fromB rchB
    rw [decide_eq_true_eq]
    rw [e]
    exact ⟨h3, Nat.zero_testBit _⟩
  have h5 := hD y hy o ho
  rcases h4 with rfl | h4
  · rw [h5] at hd; cases hd
  · rw [h5] at h4; cases h4
theorem orgL_rng {l : List Src} (hm : MadeL l.length l) (hl : l.length ≤ 10) {y : Int} {o : Nat} (h : o ∈ orgL l y) : o < l.length ∧ o < 10 := by
  unfold orgL at h
  split at h
  · obtain ⟨h1, _⟩ := List.mem_filter.1 h
    have h2 := (elems_bit.1 h1).2
    obtain ⟨s, hs, _, e⟩ := (ogL_bit l o).1 h2
    have := made_rng hm hs
    omega
  · cases h
/-! ### Copies -/
/-- The sources with one more that quotes only this one. -/
def copyL (l : List Src) (y : Int) : List Src := l ++ [⟨11, 1, [y]⟩]
theorem copy_sound {l : List Src} (hm : MadeL l.length l) (hl : l.length ≤ 10) {y : Int} (hy : 0 ≤ y ∧ y < l.length) : Sound (copyL l y) (copyL l y) := by
  have hS := made_sound hm hl
  unfold copyL
  refine ⟨List.pairwise_append.2 ⟨hS.asc, by simp, fun a ha b hb => ?_⟩, fun s hs => ?_⟩
  · have := made_rng hm ha
    rw [List.mem_singleton] at hb
    subst hb
    show a.id < 11
    omega
  · rcases List.mem_append.1 hs with hs | hs
    · obtain ⟨h1, h2, h3, h4, h5, h6⟩ := hS.each s hs
      exact ⟨h1, h2, h3, h4, fun z hz => by obtain ⟨t, ht, e⟩ := h5 z hz; exact ⟨t, List.mem_append_left _ ht, e⟩, h6⟩
    · rw [List.mem_singleton] at hs
      subst hs
      refine ⟨⟨by show (0 : Int) ≤ 11; omega, by show (11 : Int) < 12; omega⟩, .inl rfl, by simp, by simp, fun z hz => ?_, ?_⟩
      · have hz : z = y := by simpa using hz
        subst hz
        obtain ⟨t, ht, e⟩ := made_has hm hy
        exact ⟨t, List.mem_append_left _ ht, e⟩
      · show (11 : Int) ∉ [y]
        rw [List.mem_singleton]
        omega
theorem copy_given {l : List Src} {xs : List Int} (hm : MadeL l.length l) (hl : l.length ≤ 10) (hc : ChosenL l.length xs) {y : Int} (hy : y ∈ xs) : givenB (copyL l y) (xs ++ [11]) = true := by
  unfold givenB
  rw [(copy_sound hm hl (hc.2 y hy)).valid (by unfold copyL; simp; omega), Bool.true_and]
  refine asrt_of (List.pairwise_append.2 ⟨hc.1, by simp, fun a ha b hb => ?_⟩) fun z hz => ?_
  · have := hc.2 a ha
    rw [List.mem_singleton] at hb
    omega
  · unfold copyL
    rcases List.mem_append.1 hz with hz | hz
    · obtain ⟨t, ht, e⟩ := made_has hm (hc.2 z hz)
      exact ⟨t, List.mem_append_left _ ht, e⟩
    · rw [List.mem_singleton] at hz
      exact ⟨_, List.mem_append_right _ (List.mem_singleton.2 rfl), hz.symm⟩
theorem copy_short {l : List Src} (hm : MadeL l.length l) (y : Int) : ∀ s ∈ copyL l y, s.frm.length ≤ 1000 := fun s hs => by
  unfold copyL at hs
  rcases List.mem_append.1 hs with hs | hs
  · exact made_short hm s hs
  · rw [List.mem_singleton] at hs
    subst hs
    show 1 ≤ 1000
    omega
theorem copy_same {l : List Src} {xs : List Int} (hm : MadeL l.length l) (hl : l.length ≤ 10) (hc : ChosenL l.length xs) {y : Int} (hy : y ∈ xs) : cntS (copyL l y) (xs ++ [11]) 0 = cntS l xs 0 := by
  have hg := made_given hm hl hc
  have hg' := copy_given hm hl hc hy
  rw [cnt_eq hg, cnt_eq hg']
  have hr := hc.2 y hy
  refine Flow.mc_copy (web_fit (given_valid hg) xs 0) (web_fit (given_valid hg') _ 0) rfl rfl (funext fun x => ?_) (a := y.toNat) (c := 11) (said_iff.2 ⟨y, hy, rfl⟩) (fun z => ?_) (fun x z => ?_) (fun i => ?_) ?_ (fun x => ?_) (by omega)
  · rw [Bool.eq_iff_iff, org_iff, org_iff]
    unfold copyL
    constructor
    · rintro ⟨s, hs, e, e2⟩
      rcases List.mem_append.1 hs with hs | hs
      · exact ⟨s, hs, e, e2⟩
      · rw [List.mem_singleton] at hs; subst hs; simp at e
    · rintro ⟨s, hs, h⟩
      exact ⟨s, List.mem_append_left _ hs, h⟩
  · rw [← Bool.not_eq_true]
    intro h
    have := (made_E hm hl h).1
    omega
  · rw [E_iff, E_iff]
    unfold copyL
    constructor
    · rintro ⟨s, hs, e, t, ht, e2⟩
      rcases List.mem_append.1 hs with hs | hs
      · exact .inl ⟨s, hs, e, t, ht, e2⟩
      · rw [List.mem_singleton] at hs
        subst hs
        have ht : t = y := by simpa using ht
        subst ht
        exact .inr ⟨e2.symm, e⟩
    · rintro (⟨s, hs, h⟩ | ⟨rfl, rfl⟩)
      · exact ⟨s, List.mem_append_left _ hs, h⟩
      · exact ⟨_, List.mem_append_right _ (List.mem_singleton.2 rfl), rfl, y, by simp, rfl⟩
  · rw [said_iff, said_iff]
    simp only [List.mem_append, List.mem_singleton]
    constructor
    · rintro ⟨t, ht | rfl, e⟩
      · exact .inl ⟨t, ht, e⟩
      · exact .inr e.symm
    · rintro (⟨t, ht, e⟩ | rfl)
      · exact ⟨t, .inl ht, e⟩
      · exact ⟨11, .inr rfl, rfl⟩
  · rw [← Bool.not_eq_true]
    intro h
    have := made_org hm hl h
    omega
  · rw [← Bool.not_eq_true]
    intro h
    have := (made_E hm hl h).2
    omega
/-- The origins among those that assert. -/
def ownL (l : List Src) (xs : List Int) : List Int := xs.filter fun y => decide ((l.getD y.toNat s0).frm.length = 0)
theorem own_chosen {n : Nat} {l : List Src} {xs : List Int} (hc : ChosenL n xs) : ChosenL n (ownL l xs) := ⟨hc.1.sublist List.filter_sublist, fun y hy => hc.2 y ((List.mem_filter.1 hy).1)⟩
theorem own_ways {l : List Src} {xs ys : List Int} (hm : MadeL l.length l) (hl : l.length ≤ 10) (hc : ChosenL l.length xs) (hs : ∀ y ∈ ownL l xs, y ∈ ys) : Flow.Ways (webOf l ys 0) ((ownL l xs).map fun y => [y.toNat]) := by
  have ho := own_chosen (l := l) hc
  refine ⟨fun p hp => ?_, List.pairwise_map.2 (ho.1.imp_of_mem fun {a b} ha hb hab x hx hxb => ?_)⟩
  · obtain ⟨y, hy, rfl⟩ := List.mem_map.1 hp
    have hr := ho.2 y hy
    have hlt : y.toNat < l.length := by omega
    have hid := made_id hm y.toNat _ (List.getElem?_eq_getElem hlt)
    have hf := (List.mem_filter.1 hy).2
    have hg : l.getD y.toNat s0 = l[y.toNat] := by simp [List.getD, hlt]
    rw [hg, decide_eq_true_eq] at hf
    exact ⟨⟨y.toNat, [], rfl, org_iff.2 ⟨_, List.getElem_mem hlt, hf, by omega⟩⟩, fun x hx => by
        rw [List.mem_singleton] at hx
        refine ⟨?_, Nat.zero_testBit _⟩
        show x < 12
        omega, trivial, ⟨y.toNat, rfl, said_iff.2 ⟨y, hs y hy, rfl⟩⟩, by simp⟩
  · rw [List.mem_singleton] at hx hxb
    have := ho.2 a ha
    have := ho.2 b hb
    omega
theorem own_cnt {l : List Src} {xs : List Int} (hm : MadeL l.length l) (hl : l.length ≤ 10) (hc : ChosenL l.length xs) : cntS l (ownL l xs) 0 = (ownL l xs).length ∧ cntS l (ownL l xs) 0 ≤ cntS l xs 0 := by
  have ho := own_chosen (l := l) hc
  have hg := made_given hm hl hc
  have hg' := made_given hm hl ho
  have h1 := (own_ways hm hl hc fun y hy => hy).le_mc (web_fit (given_valid hg') (ownL l xs) 0)
  have h2 := (own_ways hm hl hc fun y hy => (List.mem_filter.1 hy).1).le_mc (web_fit (given_valid hg) xs 0)
  have h3 := said_le hg'
  rw [List.length_map] at h1 h2
  rw [cnt_eq hg'] at h3 ⊢
  rw [cnt_eq hg]
  omega
end Go.Proofs.YticngcjfofcoiaaDoor
