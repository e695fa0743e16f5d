/- Sources: the law SourceCertified answers true at every input, as the given card states it, the table of math/bits being tied to the text; no further condition. -/
import Derived.Test.YticngcjfofcoiaaDoorMq
import Derived.Test.YticngcjfofcoiaaDoorHd
import Derived.Test.YticngcjfofcoiaaDoorOp
import Derived.Test.YticngcjfofcoiaaDoorRows
import Derived.Test.YticngcjfofcoiaaDoorTie
import Derived.Test.YticngcjfofcoiaaDoorCards
import Derived.SevenTiedAt
namespace Go.Proofs.YticngcjfofcoiaaDoor
open Go.RowKit Go.Rg Go.Proofs.YticngcjfofcoiaaDoorW.PrintWords
set_option linter.unusedVariables false
set_option linter.unusedSimpArgs false

/-! ### A source that is silenced -/
theorem silc_E {l : List Src} {xs ys : List Int} {id : Nat} {x y : Nat} (hm : MadeL l.length l) (hl : l.length ≤ 10) (hx : x < 10) (hy : y ≠ id) : (webOf (silL l id) ys 0).E x y = (webOf l xs 0).E x y := by
  rw [Bool.eq_iff_iff, E_iff, E_iff]
  constructor
  · rintro ⟨s, hs, e, z, hz, e2⟩
    rcases sil_mem.1 hs with ⟨t, ht, rfl⟩ | rfl | rfl
    · have hr := made_rng hm ht
      rw [sil_id] at e
      unfold silS at hz
      rw [if_neg (by omega)] at hz
      exact ⟨t, ht, e, z, hz, e2⟩
    · rw [List.mem_singleton] at hz; omega
    · rw [List.mem_singleton] at hz; omega
  · rintro ⟨t, ht, e, z, hz, e2⟩
    have hr := made_rng hm ht
    refine ⟨silS id t, sil_mem.2 (.inl ⟨t, ht, rfl⟩), by rw [sil_id]; exact e, z, ?_, e2⟩
    unfold silS
    rw [if_neg (by omega)]
    exact hz
theorem silc_org {l : List Src} {xs ys : List Int} {id : Nat} {x : Nat} (hm : MadeL l.length l) (hl : l.length ≤ 10) (hx : x ≠ id) : (webOf (silL l id) ys 0).org x = (webOf l xs 0).org x := by
  rw [Bool.eq_iff_iff, org_iff, org_iff]
  constructor
  · rintro ⟨s, hs, e, e2⟩
    rcases sil_mem.1 hs with ⟨t, ht, rfl⟩ | rfl | rfl
    · have hr := made_rng hm ht
      rw [sil_id] at e2
      unfold silS at e
      rw [if_neg (by omega)] at e
      exact ⟨t, ht, e, e2⟩
    · simp at e
    · simp at e
  · rintro ⟨t, ht, e, e2⟩
    have hr := made_rng hm ht
    refine ⟨silS id t, sil_mem.2 (.inl ⟨t, ht, rfl⟩), ?_, by rw [sil_id]; exact e2⟩
    unfold silS
    rw [if_neg (by omega)]
    exact e
theorem silc_org_not {l : List Src} {xs : List Int} {id : Nat} {x : Nat} (hm : MadeL l.length l) (hl : l.length ≤ 10) (h : (webOf (silL l id) xs 0).org x = true) : x ≠ id ∧ x < 10 := by
  obtain ⟨s, hs, e, e2⟩ := org_iff.1 h
  rcases sil_mem.1 hs with ⟨t, ht, rfl⟩ | rfl | rfl
  · have hr := made_rng hm ht
    rw [sil_id] at e2
    refine ⟨fun hx => ?_, by omega⟩
    unfold silS at e
    rw [if_pos (by omega)] at e
    simp at e
  · simp at e
  · simp at e
theorem silc_E_not {l : List Src} {xs : List Int} {id : Nat} {x y : Nat} (hm : MadeL l.length l) (hl : l.length ≤ 10) (hx : x < 10) (h : (webOf (silL l id) xs 0).E x y = true) : y ≠ id ∧ y < 10 := by
  obtain ⟨s, hs, e, z, hz, e2⟩ := E_iff.1 h
  rcases sil_mem.1 hs with ⟨t, ht, rfl⟩ | rfl | rfl
  · have hr := made_rng hm ht
    rw [sil_id] at e
    refine ⟨fun hy => ?_, by omega⟩
    unfold silS at hz
    rw [if_pos (by omega), List.mem_singleton] at hz
    omega
  · rw [List.mem_singleton] at hz; omega
  · rw [List.mem_singleton] at hz; omega
theorem silc {l : List Src} {xs : List Int} (hm : MadeL l.length l) (hl : l.length ≤ 10) (hc : ChosenL l.length xs) {s : Src} (hs : s ∈ l) : cntS (silL l s.id) xs 0 ≤ cntS l xs 0 ∧ cntS l xs 0 ≤ cntS (silL l s.id) xs 0 + 1 ∧ (s.id ∈ (cutS l xs 0).map Int.ofNat → cntS l xs 0 = cntS (silL l s.id) xs 0 + 1) := by
  have hg := made_given hm hl hc
  have hg' := sil_given hm hl hc s.id
  rw [cnt_eq hg, cnt_eq hg', cut_eq hg]
  have hf := web_fit (given_valid hg) xs 0
  have hf' := web_fit (given_valid hg') xs 0
  obtain ⟨id, hid⟩ : ∃ id : Nat, s.id = id := ⟨s.id.toNat, by have := made_rng hm hs; omega⟩
  have hr := made_rng hm hs
  rw [hid] at hf' ⊢
  have H := Flow.mc_silent hf hf' rfl rfl (i := id) (G := fun i => decide (i < 10 ∧ i ≠ id)) (fun x h => by
      have := silc_org_not hm hl h
      exact decide_eq_true ⟨this.2, this.1⟩) (fun x y hx h => by
      have := silc_E_not hm hl (of_decide_eq_true hx).1 h
      exact decide_eq_true ⟨this.2, this.1⟩) (decide_eq_false fun h => h.2 rfl) (fun x hx => silc_org hm hl hx) (fun x y hx hy => silc_E hm hl (of_decide_eq_true hx).1 hy)
    (fun x y hx => ⟨fun h hy => decide_eq_true ⟨made_org hm hl h, hy⟩, fun _ h hy => decide_eq_true ⟨(made_E hm hl h).2, hy⟩⟩) (fun x _ => rfl)
  refine ⟨H.1, H.2.1, fun h => ?_⟩
  obtain ⟨i, hi, e⟩ := List.mem_map.1 h
  have hi2 : i = id := by have : (i : Int) = id := e; omega
  subst hi2
  unfold Flow.firstL at hi
  obtain ⟨h1, h2⟩ := List.mem_filter.1 hi
  have h1 : i < 12 := List.mem_range.1 h1
  have := H.2.2 h2 h1
  have := H.2.1
  omega
/-! ### One more that asserts -/
theorem chosen_take {n : Nat} {xs : List Int} (hc : ChosenL n xs) (i : Nat) : ChosenL n (xs.take i) := ⟨hc.1.sublist (List.take_sublist ..), fun y hy => hc.2 y (List.mem_of_mem_take hy)⟩
theorem more_step {l : List Src} {xs : List Int} (hm : MadeL l.length l) (hl : l.length ≤ 10) (hc : ChosenL l.length xs) {i : Nat} (hi : i < xs.length) : cntS l (xs.take i) 0 ≤ cntS l (xs.take (i + 1)) 0 ∧ cntS l (xs.take (i + 1)) 0 ≤ cntS l (xs.take i) 0 + 1 := by
  have hg := made_given hm hl (chosen_take hc i)
  have hg' := made_given hm hl (chosen_take hc (i + 1))
  rw [cnt_eq hg, cnt_eq hg']
  refine Flow.mc_more (web_fit (given_valid hg) _ 0) (web_fit (given_valid hg') _ 0) rfl rfl rfl rfl (x := (xs[i]).toNat) fun x => ?_
  rw [said_iff, said_iff, List.take_succ_eq_append_getElem hi]
  simp only [List.mem_append, List.mem_singleton]
  constructor
  · rintro ⟨y, hy | rfl, e⟩
    · exact .inl ⟨y, hy, e⟩
    · exact .inr e.symm
  · rintro (⟨y, hy, e⟩ | h)
    · exact ⟨y, .inl hy, e⟩
    · exact ⟨_, .inr rfl, h.symm⟩
theorem count_mem (K : Nat) : ∀ (xs : List Nat), Flow.count K (fun i => xs.contains i) ≤ xs.length
  | [] => by
    have : Flow.count K (fun i => ([] : List Nat).contains i) = 0 := by
      unfold Flow.count
      exact Flow.sum_none fun i _ => by simp
    rw [this]; simp
  | x :: xs => by
    have h1 := count_mem K xs
    have h2 := Flow.count_or (K := K) (D := fun i => xs.contains i) (x := x)
    have e : (fun i => (x :: xs).contains i) = Flow.or2 (fun i => xs.contains i) (Flow.one x) := funext fun i => by
      unfold Flow.or2 Flow.one
      rw [Bool.eq_iff_iff]
      simp [Bool.or_comm, or_comm]
    rw [e, List.length_cons]
    omega
theorem sd_contains (xs : List Int) : (fun i => (sdL xs).testBit i) = fun i => (xs.map Int.toNat).contains i := funext fun i => by
  rw [Bool.eq_iff_iff, sd_bit, List.contains_iff_mem, List.mem_map]
theorem sd_count (xs : List Int) : Flow.count 12 (fun i => (sdL xs).testBit i) ≤ xs.length := by
  have := count_mem 12 (xs.map Int.toNat)
  rw [List.length_map] at this
  rw [sd_contains]
  exact this
theorem said_le {l : List Src} {xs : List Int} (hg : givenB l xs = true) : cntS l xs 0 ≤ xs.length := by
  rw [cnt_eq hg]
  have h1 := Flow.mc_said (web_fit (given_valid hg) xs 0)
  have h2 := sd_count xs
  have h3 : Flow.count (webOf l xs 0).K (webOf l xs 0).said = Flow.count 12 (fun i => (sdL xs).testBit i) := rfl
  omega
/-- Whom a way leads to stands behind an origin. -/
theorem from_org {nx : Nat → List Nat} {sd og : Nat} {D : Nat → Bool} {x : Nat} (h : Flow.Reach (netOf nx sd og 0) D x) : ∃ o, o < 12 ∧ og.testBit o = true ∧ Flow.Reach (netOf nx 0 (2 ^ o) 0) (fun _ => false) x ∧ (x = o ∨ D o = false) := by
  induction h with
  | @base i hi ho hw =>
    refine ⟨i, hi, ho, .base hi ?_ hw, .inl rfl⟩
    show (2 ^ i).testBit i = true
    rw [Nat.testBit_two_pow]; simp
  | @step x y hx hw hd hy he ih =>
    obtain ⟨o, h1, h2, h3, h4⟩ := ih
    refine ⟨o, h1, h2, .step h3 hw rfl hy he, .inr ?_⟩
    rcases h4 with rfl | h4
    · exact hd
    · exact h4
theorem elems_bit {s i : Nat} : i ∈ elems s ↔ i < 12 ∧ s.testBit i = true := by
  unfold elems
  rw [List.mem_filter, List.mem_range]
open Classical in
/-- The support is at most the number of the origins there are ways from. -/
theorem origins_le {l : List Src} {xs : List Int} (hg : givenB l xs = true) {D : Nat → Bool} (hD : ∀ y ∈ xs, ∀ o ∈ orgL l y, D o = true) : (cntS l xs 0 : Int) ≤ Flow.count 12 D := by
  rw [cnt_eq hg]
  have hv := given_valid hg
  refine Flow.mc_le (web_fit hv xs 0) (D := D) fun x hx _ hd hs => ?_
  obtain ⟨o, h1, h2, h3, h4⟩ := from_org hx
  obtain ⟨y, hy, e⟩ := said_iff.1 hs
  have hy2 := okAt_some (given_asrt hg) hy
  have ho : o ∈ orgL l y := by
    unfold orgL
    rw [if_pos ⟨hv, fnd_has hy2⟩]
    refine List.mem_filter.2 ⟨elems_bit.2 ⟨h1, h2⟩, ?_⟩
    unfold fromB rchB
    rw [decide_eq_true_eq]
    rw [e]
    exact ⟨h3, Nat.zero_testBit _⟩
  have h5 := hD y hy o ho
  rcases h4 with rfl | h4
  · rw [h5] at hd; cases hd
  · rw [h5] at h4; cases h4
theorem orgL_rng {l : List Src} (hm : MadeL l.length l) (hl : l.length ≤ 10) {y : Int} {o : Nat} (h : o ∈ orgL l y) : o < l.length ∧ o < 10 := by
  unfold orgL at h
  split at h
  · obtain ⟨h1, _⟩ := List.mem_filter.1 h
    have h2 := (elems_bit.1 h1).2
    obtain ⟨s, hs, _, e⟩ := (ogL_bit l o).1 h2
    have := made_rng hm hs
    omega
  · cases h
/-! ### Copies -/
/-- The sources with one more that quotes only this one. -/
def copyL (l : List Src) (y : Int) : List Src := l ++ [⟨11, 1, [y]⟩]
theorem copy_sound {l : List Src} (hm : MadeL l.length l) (hl : l.length ≤ 10) {y : Int} (hy : 0 ≤ y ∧ y < l.length) : Sound (copyL l y) (copyL l y) := by
  have hS := made_sound hm hl
  unfold copyL
  refine ⟨List.pairwise_append.2 ⟨hS.asc, by simp, fun a ha b hb => ?_⟩, fun s hs => ?_⟩
  · have := made_rng hm ha
    rw [List.mem_singleton] at hb
    subst hb
    show a.id < 11
    omega
  · rcases List.mem_append.1 hs with hs | hs
    · obtain ⟨h1, h2, h3, h4, h5, h6⟩ := hS.each s hs
      exact ⟨h1, h2, h3, h4, fun z hz => by obtain ⟨t, ht, e⟩ := h5 z hz; exact ⟨t, List.mem_append_left _ ht, e⟩, h6⟩
    · rw [List.mem_singleton] at hs
      subst hs
      refine ⟨⟨by show (0 : Int) ≤ 11; omega, by show (11 : Int) < 12; omega⟩, .inl rfl, by simp, by simp, fun z hz => ?_, ?_⟩
      · have hz : z = y := by simpa using hz
        subst hz
        obtain ⟨t, ht, e⟩ := made_has hm hy
        exact ⟨t, List.mem_append_left _ ht, e⟩
      · show (11 : Int) ∉ [y]
        rw [List.mem_singleton]
        omega
theorem copy_given {l : List Src} {xs : List Int} (hm : MadeL l.length l) (hl : l.length ≤ 10) (hc : ChosenL l.length xs) {y : Int} (hy : y ∈ xs) : givenB (copyL l y) (xs ++ [11]) = true := by
  unfold givenB
  rw [(copy_sound hm hl (hc.2 y hy)).valid (by unfold copyL; simp; omega), Bool.true_and]
  refine asrt_of (List.pairwise_append.2 ⟨hc.1, by simp, fun a ha b hb => ?_⟩) fun z hz => ?_
  · have := hc.2 a ha
    rw [List.mem_singleton] at hb
    omega
  · unfold copyL
    rcases List.mem_append.1 hz with hz | hz
    · obtain ⟨t, ht, e⟩ := made_has hm (hc.2 z hz)
      exact ⟨t, List.mem_append_left _ ht, e⟩
    · rw [List.mem_singleton] at hz
      exact ⟨_, List.mem_append_right _ (List.mem_singleton.2 rfl), hz.symm⟩
theorem copy_short {l : List Src} (hm : MadeL l.length l) (y : Int) : ∀ s ∈ copyL l y, s.frm.length ≤ 1000 := fun s hs => by
  unfold copyL at hs
  rcases List.mem_append.1 hs with hs | hs
  · exact made_short hm s hs
  · rw [List.mem_singleton] at hs
    subst hs
    show 1 ≤ 1000
    omega
theorem copy_same {l : List Src} {xs : List Int} (hm : MadeL l.length l) (hl : l.length ≤ 10) (hc : ChosenL l.length xs) {y : Int} (hy : y ∈ xs) : cntS (copyL l y) (xs ++ [11]) 0 = cntS l xs 0 := by
  have hg := made_given hm hl hc
  have hg' := copy_given hm hl hc hy
  rw [cnt_eq hg, cnt_eq hg']
  have hr := hc.2 y hy
  refine Flow.mc_copy (web_fit (given_valid hg) xs 0) (web_fit (given_valid hg') _ 0) rfl rfl (funext fun x => ?_) (a := y.toNat) (c := 11) (said_iff.2 ⟨y, hy, rfl⟩) (fun z => ?_) (fun x z => ?_) (fun i => ?_) ?_ (fun x => ?_) (by omega)
  · rw [Bool.eq_iff_iff, org_iff, org_iff]
    unfold copyL
    constructor
    · rintro ⟨s, hs, e, e2⟩
      rcases List.mem_append.1 hs with hs | hs
      · exact ⟨s, hs, e, e2⟩
      · rw [List.mem_singleton] at hs; subst hs; simp at e
    · rintro ⟨s, hs, h⟩
      exact ⟨s, List.mem_append_left _ hs, h⟩
  · rw [← Bool.not_eq_true]
    intro h
    have := (made_E hm hl h).1
    omega
  · rw [E_iff, E_iff]
    unfold copyL
    constructor
    · rintro ⟨s, hs, e, t, ht, e2⟩
      rcases List.mem_append.1 hs with hs | hs
      · exact .inl ⟨s, hs, e, t, ht, e2⟩
      · rw [List.mem_singleton] at hs
        subst hs
        have ht : t = y := by simpa using ht
        subst ht
        exact .inr ⟨e2.symm, e⟩
    · rintro (⟨s, hs, h⟩ | ⟨rfl, rfl⟩)
      · exact ⟨s, List.mem_append_left _ hs, h⟩
      · exact ⟨_, List.mem_append_right _ (List.mem_singleton.2 rfl), rfl, y, by simp, rfl⟩
  · rw [said_iff, said_iff]
    simp only [List.mem_append, List.mem_singleton]
    constructor
    · rintro ⟨t, ht | rfl, e⟩
      · exact .inl ⟨t, ht, e⟩
      · exact .inr e.symm
    · rintro (⟨t, ht, e⟩ | rfl)
      · exact ⟨t, .inl ht, e⟩
      · exact ⟨11, .inr rfl, rfl⟩
  · rw [← Bool.not_eq_true]
    intro h
    have := made_org hm hl h
    omega
  · rw [← Bool.not_eq_true]
    intro h
    have := (made_E hm hl h).2
    omega
/-- The origins among those that assert. -/
def ownL (l : List Src) (xs : List Int) : List Int := xs.filter fun y => decide ((l.getD y.toNat s0).frm.length = 0)
theorem own_chosen {n : Nat} {l : List Src} {xs : List Int} (hc : ChosenL n xs) : ChosenL n (ownL l xs) := ⟨hc.1.sublist List.filter_sublist, fun y hy => hc.2 y ((List.mem_filter.1 hy).1)⟩
theorem own_ways {l : List Src} {xs ys : List Int} (hm : MadeL l.length l) (hl : l.length ≤ 10) (hc : ChosenL l.length xs) (hs : ∀ y ∈ ownL l xs, y ∈ ys) : Flow.Ways (webOf l ys 0) ((ownL l xs).map fun y => [y.toNat]) := by
  have ho := own_chosen (l := l) hc
  refine ⟨fun p hp => ?_, List.pairwise_map.2 (ho.1.imp_of_mem fun {a b} ha hb hab x hx hxb => ?_)⟩
  · obtain ⟨y, hy, rfl⟩ := List.mem_map.1 hp
    have hr := ho.2 y hy
    have hlt : y.toNat < l.length := by omega
    have hid := made_id hm y.toNat _ (List.getElem?_eq_getElem hlt)
    have hf := (List.mem_filter.1 hy).2
    have hg : l.getD y.toNat s0 = l[y.toNat] := by simp [List.getD, hlt]
    rw [hg, decide_eq_true_eq] at hf
    exact ⟨⟨y.toNat, [], rfl, org_iff.2 ⟨_, List.getElem_mem hlt, hf, by omega⟩⟩, fun x hx => by
        rw [List.mem_singleton] at hx
        refine ⟨?_, Nat.zero_testBit _⟩
        show x < 12
        omega, trivial, ⟨y.toNat, rfl, said_iff.2 ⟨y, hs y hy, rfl⟩⟩, by simp⟩
  · rw [List.mem_singleton] at hx hxb
    have := ho.2 a ha
    have := ho.2 b hb
    omega
theorem own_cnt {l : List Src} {xs : List Int} (hm : MadeL l.length l) (hl : l.length ≤ 10) (hc : ChosenL l.length xs) : cntS l (ownL l xs) 0 = (ownL l xs).length ∧ cntS l (ownL l xs) 0 ≤ cntS l xs 0 := by
  have ho := own_chosen (l := l) hc
  have hg := made_given hm hl hc
  have hg' := made_given hm hl ho
  have h1 := (own_ways hm hl hc fun y hy => hy).le_mc (web_fit (given_valid hg') (ownL l xs) 0)
  have h2 := (own_ways hm hl hc fun y hy => (List.mem_filter.1 hy).1).le_mc (web_fit (given_valid hg) xs 0)
  have h3 := said_le hg'
  rw [List.length_map] at h1 h2
  rw [cnt_eq hg'] at h3 ⊢
  rw [cnt_eq hg]
  omega
end Go.Proofs.YticngcjfofcoiaaDoor

namespace Go.Proofs.YticngcjfofcoiaaDoor
open Go.RowKit Go.Rg Go.Proofs.YticngcjfofcoiaaDoorW.PrintWords
set_option linter.unusedVariables false
set_option linter.unusedSimpArgs false

theorem chn_iff {E : Nat → Nat → Bool} : ∀ {p : List Nat}, Flow.Chn E p ↔ ∀ i (h : i + 1 < p.length), E (p[i]'(by omega)) p[i + 1] = true
  | [] => ⟨fun _ i h => by simp at h, fun _ => trivial⟩
  | [x] => ⟨fun _ i h => by simp at h, fun _ => trivial⟩
  | x :: y :: r => by
    have ih := chn_iff (E := E) (p := y :: r)
    constructor
    · rintro ⟨h1, h2⟩ i h
      cases i with
      | zero => exact h1
      | succ i => exact (ih.1 h2) i (by simpa using h)
    · intro h
      exact ⟨h 0 (by simp), ih.2 fun i hi => h (i + 1) (by simpa using hi)⟩
theorem last_get {p : List Nat} {x : Nat} (h : p.getLast? = some x) : ∃ hp : 0 < p.length, p[p.length - 1]'(by omega) = x := by
  rw [List.getLast?_eq_getElem?] at h
  obtain ⟨h1, h2⟩ := List.getElem?_eq_some_iff.1 h
  exact ⟨by omega, h2⟩
theorem used_bit {ws : List (List Int)} {k i : Nat} : (usedW ws k).testBit i = true ↔ ∃ v ∈ ws.take k, ∃ y ∈ v, y.toNat = i := by
  unfold usedW
  rw [orL_bit]
  simp only [Nat.zero_testBit, Bool.false_or, List.contains_iff_mem, List.mem_map, List.mem_flatten]
  constructor
  · rintro ⟨y, ⟨v, hv, hy⟩, e⟩
    exact ⟨v, hv, y, hy, e⟩
  · rintro ⟨v, hv, y, hy, e⟩
    exact ⟨y, ⟨v, hv, hy⟩, e⟩
theorem take_mem_lt {α : Type} {l : List α} {k : Nat} {x : α} (h : x ∈ l.take k) : ∃ i, i < k ∧ l[i]? = some x := by
  obtain ⟨i, hi, e⟩ := List.getElem_of_mem h
  rw [List.length_take] at hi
  rw [List.getElem_take] at e
  exact ⟨i, by omega, by rw [List.getElem?_eq_getElem (by omega), e]⟩
theorem toI_get {ps : List (List Nat)} {i : Nat} {v : List Int} (h : (toI ps)[i]? = some v) : ∃ p, ps[i]? = some p ∧ v = p.map Int.ofNat := by
  unfold toI at h
  rw [List.getElem?_map, Option.map_eq_some_iff] at h
  obtain ⟨p, h1, h2⟩ := h
  exact ⟨p, h1, h2.symm⟩
/-- Ways are accepted. -/
theorem ways_accepted {l : List Src} {xs : List Int} {ps : List (List Nat)} (hv : validS l = true) (hw : Flow.Ways (webOf l xs 0) ps) : waysB l xs (toI ps) = true := by
  unfold waysB
  refine List.all_eq_true.2 fun k hk => ?_
  have hk := List.mem_range.1 hk
  obtain ⟨v, hvk⟩ : ∃ v, (toI ps)[k]? = some v := ⟨_, List.getElem?_eq_getElem hk⟩
  have hgd : (toI ps).getD k [] = v := by simp [List.getD, hvk]
  rw [hgd]
  obtain ⟨p, hp, rfl⟩ := toI_get hvk
  have hpm := List.mem_of_getElem? hp
  have hW := hw.each p hpm
  have hlen : (p.map Int.ofNat).length = p.length := List.length_map ..
  have hrd : ∀ i (h : i < p.length), rd (p.map Int.ofNat) (i : Int) = (p[i] : Int) := fun i h => by
    rw [rd_at (by rw [hlen]; exact h), List.getElem_map]; rfl
  obtain ⟨x0, r0, e0, ho⟩ := hW.org
  obtain ⟨xl, el, hsl⟩ := hW.said
  obtain ⟨hpos, hlast⟩ := last_get el
  unfold wayB
  rw [Bool.and_eq_true, Bool.and_eq_true, hlen]
  refine ⟨decide_eq_true hpos, List.all_eq_true.2 fun i hi => ?_, ?_⟩
  · have hi := List.mem_range.1 hi
    unfold stepB
    rw [hrd i hi, Bool.and_eq_true, Bool.and_eq_true, Int.toNat_natCast]
    have hmem := List.getElem_mem hi
    obtain ⟨s, hs, es⟩ := way_src hv hW hmem
    refine ⟨fnd_has ⟨s, hs, es⟩, ?_, ?_⟩
    · rw [Bool.not_eq_true', ← Bool.not_eq_true, orL_bit, Bool.or_eq_true, List.contains_iff_mem]
      rintro (h | h)
      · obtain ⟨v, hv2, y, hy, e⟩ := used_bit.1 h
        obtain ⟨j, hj, ej⟩ := take_mem_lt hv2
        obtain ⟨q, hq, rfl⟩ := toI_get ej
        obtain ⟨z, hz, rfl⟩ := List.mem_map.1 hy
        have hz2 : z = p[i] := by have : (Int.ofNat z).toNat = p[i] := e; simpa using this
        subst hz2
        obtain ⟨hj1, hj2⟩ := List.getElem?_eq_some_iff.1 hq
        obtain ⟨hk1, hk2⟩ := List.getElem?_eq_some_iff.1 hp
        have := List.pairwise_iff_getElem.1 hw.apart j k hj1 hk1 hj
        rw [hj2, hk2] at this
        exact this _ hz hmem
      · obtain ⟨y, hy, e⟩ := List.mem_map.1 h
        obtain ⟨j, hj, ej⟩ := take_mem_lt hy
        rw [List.getElem?_map, Option.map_eq_some_iff] at ej
        obtain ⟨z, hz, rfl⟩ := ej
        have hz2 : z = p[i] := by have : (Int.ofNat z).toNat = p[i] := e; simpa using this
        obtain ⟨hj1, hj2⟩ := List.getElem?_eq_some_iff.1 hz
        have := (List.getElem_inj (h₀ := hj1) (h₁ := hi) hW.nodup).1 (by rw [hj2, hz2])
        omega
    · split
      · rename_i h
        subst h
        have : p[0] = x0 := by simp [e0]
        rw [this]
        exact ho
      · rename_i h
        have hc := chn_iff.1 hW.chn (i - 1) (by omega)
        rw [hrd (i - 1) (by omega), Int.toNat_natCast]
        have e : i - 1 + 1 = i := by omega
        simp only [e] at hc
        exact hc
  · rw [hrd (p.length - 1) (by omega), Int.toNat_natCast, hlast]
    exact hsl
/-- The first cut is accepted. -/
theorem reach_x {nx : Nat → List Nat} {sd og X : Nat} {D : Nat → Bool} (hD : ∀ i, i < 12 → (X.testBit i = true ↔ D i = true)) {x : Nat} (h : Flow.Reach (netOf nx sd og X) (fun _ => false) x) : Flow.Reach (netOf nx sd og 0) D x := by
  induction h with
  | base hi ho hw => exact .base hi ho (Nat.zero_testBit _)
  | @step x y hx hw hd hy he ih =>
    refine .step ih (Nat.zero_testBit _) ?_ hy he
    have hxl : x < 12 := hx.lt
    rw [← Bool.not_eq_true]
    intro h
    have h2 := (hD x hxl).2 h
    have h3 : X.testBit x = false := hw
    rw [h2] at h3; cases h3
theorem x_reach {nx : Nat → List Nat} {sd og X : Nat} {D : Nat → Bool} (hD : ∀ i, i < 12 → (X.testBit i = true ↔ D i = true)) {x : Nat} (h : Flow.Reach (netOf nx sd og 0) D x) : D x = false → Flow.Reach (netOf nx sd og X) (fun _ => false) x := by
  have off : ∀ i, i < 12 → D i = false → X.testBit i = false := fun i hi h => by
    rw [← Bool.not_eq_true]
    intro h2
    rw [(hD i hi).1 h2] at h; cases h
  induction h with
  | base hi ho hw => exact fun hd => .base hi ho (off _ hi hd)
  | @step x y hx hw hd hy he ih => exact fun _ => .step (ih hd) (off _ hx.lt hd) rfl hy he
open Classical in
theorem dead_iff {l : List Src} {xs cs : List Int} {D : Nat → Bool} (hD : ∀ i, i < 12 → ((sdL cs).testBit i = true ↔ D i = true)) : deadB l xs cs = true ↔ Flow.Cut (webOf l xs 0) D := by
  unfold deadB
  rw [decide_eq_true_eq]
  have bits : ∀ i, (setOf (rchB (nxL l) (sdL xs) (ogL l) (sdL cs)) &&& sdL xs).testBit i = true ↔ (i < 12 ∧ Flow.Reach (netOf (nxL l) (sdL xs) (ogL l) (sdL cs)) (fun _ => false) i ∧ (sdL cs).testBit i = false) ∧ (sdL xs).testBit i = true := fun i => by
    rw [Nat.testBit_and, Bool.and_eq_true, setOf_bit, Bool.and_eq_true, decide_eq_true_eq]
    unfold rchB
    rw [decide_eq_true_eq]
  constructor
  · intro h x hx _ hd hs
    have hx12 : x < 12 := hx.lt
    have h1 : (sdL cs).testBit x = false := by
      rw [← Bool.not_eq_true]
      intro h2
      rw [(hD x hx12).1 h2] at hd; cases hd
    have := (bits x).2 ⟨⟨hx12, x_reach hD hx hd, h1⟩, hs⟩
    rw [h, Nat.zero_testBit] at this
    cases this
  · intro h
    refine Nat.eq_of_testBit_eq fun i => ?_
    rw [Nat.zero_testBit, ← Bool.not_eq_true, bits]
    rintro ⟨⟨hi, hr, hx⟩, hs⟩
    refine h i (reach_x hD hr) (Nat.zero_testBit _) ?_ hs
    rw [← Bool.not_eq_true]
    intro h2
    rw [(hD i hi).2 h2] at hx; cases hx
theorem reach_src {l : List Src} {xs : List Int} {D : Nat → Bool} (hv : validS l = true) {x : Nat} (h : Flow.Reach (webOf l xs 0) D x) : ∃ s ∈ l, s.id = x := by
  cases h with
  | base hi ho hw =>
    obtain ⟨s, hs, _, e⟩ := org_iff.1 ho
    have := (valid_src hv hs).1
    exact ⟨s, hs, by omega⟩
  | step hx hw hd hy he =>
    obtain ⟨s, hs, e, _⟩ := E_iff.1 he
    have := (valid_src hv hs).1
    exact ⟨s, hs, by omega⟩
theorem check_yes {l : List Src} {xs : List Int} (hg : givenB l xs = true) : checkB l xs (cntS l xs 0 : Nat) (toI (waysS l xs 0)) ((cutS l xs 0).map Int.ofNat) = true := by
  have hv := given_valid hg
  have ha := given_asrt hg
  have hn := given_len (wo := 0) hg
  have hf := web_fit hv xs 0
  have hcut := cut_eq (wo := 0) hg
  have hmem : ∀ i, i ∈ cutS l xs 0 ↔ i < 12 ∧ Flow.firstB (webOf l xs 0) i = true := fun i => by
    rw [hcut]
    unfold Flow.firstL
    rw [List.mem_filter, List.mem_range]
    rfl
  have h1 : asrt l ((cutS l xs 0).map Int.ofNat) = true := by
    refine asrt_of ?_ fun y hy => ?_
    · rw [hcut]
      unfold Flow.firstL
      refine List.pairwise_map.2 ((List.Pairwise.sublist List.filter_sublist List.pairwise_lt_range).imp fun h => ?_)
      exact Int.ofNat_lt.2 h
    · obtain ⟨i, hi, rfl⟩ := List.mem_map.1 hy
      obtain ⟨hi1, hi2⟩ := (hmem i).1 hi
      exact reach_src hv (Flow.firstB_lt hf hi2 hi1)
  have hD : ∀ i, i < 12 → ((sdL ((cutS l xs 0).map Int.ofNat)).testBit i = true ↔ Flow.firstB (webOf l xs 0) i = true) := fun i hi => by
    rw [sd_bit]
    constructor
    · rintro ⟨y, hy, e⟩
      obtain ⟨j, hj, rfl⟩ := List.mem_map.1 hy
      have : j = i := by have : (Int.ofNat j).toNat = i := e; simpa using this
      subst this
      exact ((hmem j).1 hj).2
    · intro h
      exact ⟨(i : Int), List.mem_map.2 ⟨i, (hmem i).2 ⟨hi, h⟩, rfl⟩, by simp⟩
  unfold checkB
  rw [hv, ha, h1, toI_len, List.length_map, hn.1, hn.2, ways_accepted hv (ways_ok hg), (dead_iff hD).2 (Flow.firstB_cut hf).1]
  simp
/-- What is accepted has the least cut's number. -/
theorem accepted_ways {l : List Src} {xs : List Int} {ws : List (List Int)} (hv : validS l = true) (h : waysB l xs ws = true) : Flow.Ways (webOf l xs 0) (ws.map fun v => v.map Int.toNat) := by
  have each : ∀ k v, ws[k]? = some v → wayB l xs (usedW ws k) v = true := fun k v hk => by
    have h1 := List.all_eq_true.1 h k (List.mem_range.2 (List.getElem?_eq_some_iff.1 hk).1)
    have : ws.getD k [] = v := by simp [List.getD, hk]
    rwa [this] at h1
  have step : ∀ (k : Nat) (v : List Int), ws[k]? = some v → ∀ (i : Nat) (hi : i < v.length), (0 ≤ v[i] ∧ v[i] < 12) ∧ (usedW ws k).testBit (v[i]).toNat = false ∧ (v[i]).toNat ∉ (v.take i).map Int.toNat ∧ (if i = 0 then (ogL l).testBit (v[i]).toNat = true else ∃ (h0 : i - 1 < v.length), (v[i]).toNat ∈ nxL l (v[i - 1]).toNat) := fun k v hk i hi => by
    have h1 := each k v hk
    unfold wayB at h1
    rw [Bool.and_eq_true, Bool.and_eq_true] at h1
    have h2 := List.all_eq_true.1 h1.2.1 i (List.mem_range.2 hi)
    unfold stepB at h2
    rw [rd_at hi, Bool.and_eq_true, Bool.and_eq_true] at h2
    obtain ⟨s, hs⟩ := Option.isSome_iff_exists.1 h2.1
    have hm := List.mem_of_find?_eq_some hs
    have hid := List.find?_some hs
    have hvs := valid_src hv hm
    have hid : s.id = v[i] := by simpa using hid
    have h3 := h2.2.1
    rw [Bool.not_eq_true', orL_bit, Bool.or_eq_false_iff] at h3
    refine ⟨by rw [← hid]; exact ⟨hvs.1, hvs.2.1⟩, h3.1, fun hc => ?_, ?_⟩
    · have := List.contains_iff_mem.2 hc
      rw [h3.2] at this; cases this
    · have h4 := h2.2.2
      split
      · rename_i h0
        rw [if_pos h0] at h4
        exact h4
      · rename_i h0
        rw [if_neg h0, rd_at (show i - 1 < v.length by omega)] at h4
        exact ⟨by omega, List.contains_iff_mem.1 h4⟩
  refine ⟨fun p hp => ?_, ?_⟩
  · obtain ⟨v, hv2, rfl⟩ := List.mem_map.1 hp
    obtain ⟨k, hk, ek⟩ := List.getElem_of_mem hv2
    have hkv : ws[k]? = some v := by rw [List.getElem?_eq_getElem hk, ek]
    have hst := step k v hkv
    have h1 := each k v hkv
    unfold wayB at h1
    rw [Bool.and_eq_true, Bool.and_eq_true, decide_eq_true_eq] at h1
    have hpos := h1.1
    have hlen : (v.map Int.toNat).length = v.length := List.length_map ..
    refine ⟨?_, fun x hx => ?_, chn_iff.2 fun i hi => ?_, ?_, ?_⟩
    · cases v with
      | nil => simp at hpos
      | cons y r =>
        have := (hst 0 (by simp)).2.2.2
        simp at this
        exact ⟨y.toNat, r.map Int.toNat, rfl, this⟩
    · obtain ⟨y, hy, rfl⟩ := List.mem_map.1 hx
      obtain ⟨i, hi, e⟩ := List.getElem_of_mem hy
      have := (hst i hi).1
      rw [e] at this
      refine ⟨?_, Nat.zero_testBit _⟩
      show y.toNat < 12
      omega
    · rw [hlen] at hi
      have := (hst (i + 1) hi).2.2.2
      rw [if_neg (by omega)] at this
      obtain ⟨h0, h2⟩ := this
      rw [List.getElem_map, List.getElem_map]
      show (nxL l _).contains _ = true
      exact List.contains_iff_mem.2 h2
    · refine ⟨(v[v.length - 1]'(by omega)).toNat, ?_, ?_⟩
      · rw [List.getLast?_eq_getElem?, hlen, List.getElem?_map, List.getElem?_eq_getElem (by omega)]
        rfl
      · have h2 := h1.2.2
        rw [rd_at (show v.length - 1 < v.length by omega)] at h2
        exact h2
    · refine List.pairwise_iff_getElem.2 fun i j hi hj hij e => ?_
      rw [List.getElem_map, List.getElem_map] at e
      rw [hlen] at hi hj
      refine (hst j hj).2.2.1 ?_
      rw [← e]
      refine List.mem_map.2 ⟨v[i], ?_, rfl⟩
      rw [List.mem_take_iff_getElem]
      exact ⟨i, by omega, rfl⟩
  · refine List.pairwise_iff_getElem.2 fun i j hi hj hij x hx hxj => ?_
    rw [List.getElem_map] at hx hxj
    rw [List.length_map] at hi hj
    obtain ⟨y, hy, rfl⟩ := List.mem_map.1 hx
    obtain ⟨z, hz, e⟩ := List.mem_map.1 hxj
    obtain ⟨m, hm, em⟩ := List.getElem_of_mem hz
    have := (step j ws[j] (List.getElem?_eq_getElem hj) m hm).2.1
    rw [em] at this
    have h2 : (usedW ws j).testBit z.toNat = true := used_bit.2 ⟨ws[i], by rw [List.mem_take_iff_getElem]; exact ⟨i, by omega, rfl⟩, y, hy, e.symm⟩
    rw [h2] at this; cases this
theorem check_count {l : List Src} {xs : List Int} {n : Int} {ws : List (List Int)} {cs : List Int} (hg : givenB l xs = true) (h : checkB l xs n ws cs = true) : n = (cntS l xs 0 : Nat) := by
  unfold checkB at h
  simp only [Bool.and_eq_true, decide_eq_true_eq] at h
  obtain ⟨hv, ha, hc, h1, h2, h3, h4⟩ := h
  have hf := web_fit hv xs 0
  have hw := accepted_ways hv h3
  have hcut := (dead_iff (l := l) (xs := xs) (cs := cs) (D := fun i => (sdL cs).testBit i) fun i _ => Iff.rfl).1 h4
  have a1 := hw.le_mc hf
  have a2 := Flow.mc_le hf hcut
  have a3 := sd_count cs
  have a4 : Flow.count (webOf l xs 0).K (fun i => (sdL cs).testBit i) = Flow.count 12 (fun i => (sdL cs).testBit i) := rfl
  rw [List.length_map] at a1
  rw [cnt_eq hg]
  omega
end Go.Proofs.YticngcjfofcoiaaDoor

namespace Go.Proofs.YticngcjfofcoiaaDoor
open Go.RowKit Go.Rg Go.Proofs.YticngcjfofcoiaaDoorW.PrintWords
set_option linter.unusedVariables false
set_option linter.unusedSimpArgs false
set_option maxRecDepth 100000

/-- Twelve truth values. -/
def BoolAt (g : Nat) (S : Nat → Bool) (W : World) : Prop := ∀ i, i < 12 → W.cell? ⟨g, i, none⟩ = some (.bool (S i)) ∧ W.frozen? ⟨g, i, none⟩ = false
theorem BoolAt.next {g : Nat} {S : Nat → Bool} {W W' : World} (h : BoolAt g S W) (hb : Below W.heap.size W W') : BoolAt g S W' := fun i hi =>
  ⟨pw_cell_below hb (h i hi).1, by rw [hb.frozen (World.block_lt_of_cell? W _ (h i hi).1)]; exact (h i hi).2⟩
theorem BoolAt.put {g : Nat} {S : Nat → Bool} {W : World} (h : BoolAt g S W) {x : Nat} (hx : x < 12) : BoolAt g (setS S x) (W.setCell ⟨g, x, none⟩ (.bool true)) := fun i hi => by
  refine ⟨?_, by rw [World.frozen?_setCell]; exact (h i hi).2⟩
  by_cases e : i = x
  · subst e
    rw [cs_same (h i hi).1]
    simp [setS]
  · rw [cs_other (ad_ne (by omega)), (h i hi).1]
    simp [setS, e]
theorem bools_new {W : World} {g : Nat} (h : W.heap.size = g) : BoolAt g (fun _ => false) (W.alloc (.cells (Array.replicate 12 (.bool false)) 4)) := fun i hi => by
  have hb := heap_new (W := W) (o := .cells (Array.replicate 12 (.bool false)) 4) h
  exact ⟨cell_of hb (by rw [Array.getElem?_replicate, if_pos hi]), frozen_of hb⟩
theorem info4 : (Tryd.prog.info? 4).map (fun i => (i.zero, i.size, i.bytes)) = some (some (.bool false), 1, 1) := by kernel_rfl
theorem make12 (W : World) : (Instr.makeSlice 55 (.int .i64 12) (.int .i64 12)).run Tryd.prog W = .ok (.slice (some ⟨W.heap.size, 0, none⟩) 12 12) (W.alloc (.cells (Array.replicate 12 (.bool false)) 4)) := by
  obtain ⟨i0, hi, hzz⟩ := Option.map_eq_some_iff.1 info4
  simp only [Prod.mk.injEq] at hzz
  obtain ⟨hz0, hz1, hz2⟩ := hzz
  have hr := run_make (P := Tryd.prog) W 55 4 i0 (.bool false) Tryd.underlying55 hi hz0 .i64 .i64 12 12 (by omega) (by omega) (by rw [hz2]; decide) (by omega)
  rw [hz1] at hr
  have e : madeCells (Value.bool false).cells (Int.toNat 12 * 1) = Array.replicate 12 (.bool false) := by first | kernel_rfl | rfl | simp [madeCells, Value.cells]
  rw [e] at hr
  exact hr
/-- The state of SourceMonotone. -/
structure MNX (w : World) (g : Nat) (A : Option Addr) (c : Nat) (l : List Src) (B : Option Addr) (d : Nat) (xs : List Int) (S : Nat → Bool) (W : World) : Prop where
  below : Below w.heap.size w W
  tab : Tab W
  src : kS.R 35 W w.heap.size (fun k => k < g) (.slice A l.length c) l
  int : (Kd.int .i64).R 3 W w.heap.size (fun k => g < k) (.slice B xs.length d) xs
  bools : BoolAt g S W
  lo : w.heap.size ≤ g
  pos : 0 < w.heap.size
theorem MNX.next {w : World} {g : Nat} {A : Option Addr} {c : Nat} {l : List Src} {B : Option Addr} {d : Nat} {xs : List Int} {S : Nat → Bool} {W W' : World} (h : MNX w g A c l B d xs S W) (hb : Below W.heap.size W W') : MNX w g A c l B d xs S W' :=
  ⟨h.below.trans (hb.mono h.below.size), h.tab.next hb h.tab.pos, Kd.R_below h.src hb, Kd.R_below h.int hb, h.bools.next hb, h.lo, h.pos⟩
theorem MNX.put {w : World} {g : Nat} {A : Option Addr} {c : Nat} {l : List Src} {B : Option Addr} {d : Nat} {xs : List Int} {S : Nat → Bool} {W : World} (h : MNX w g A c l B d xs S W) {x : Nat} (hx : x < 12) : MNX w g A c l B d xs (setS S x) (W.setCell ⟨g, x, none⟩ (.bool true)) := by
  have hlo := h.lo
  have hpos := h.pos
  refine ⟨h.below.setCell (p := ⟨g, x, none⟩) h.lo _, ?_, Kd.R_far h.src (p := ⟨g, x, none⟩) (fun k hk => by show k ≠ g; omega) _, Kd.R_far h.int (p := ⟨g, x, none⟩) (fun k hk => by show k ≠ g; omega) _, h.bools.put hx, h.lo, h.pos⟩
  obtain ⟨t, ht⟩ := h.tab
  exact ⟨t, heap_set_ne (p := ⟨g, x, none⟩) _ (by show 0 ≠ g; omega) ht⟩
theorem MNX.size {w : World} {g : Nat} {A : Option Addr} {c : Nat} {l : List Src} {B : Option Addr} {d : Nat} {xs : List Int} {S : Nat → Bool} {W : World} (h : MNX w g A c l B d xs S W) : g < W.heap.size := World.block_lt_of_cell? W _ (h.bools 0 (by omega)).1
theorem MNX.srcA {w : World} {g : Nat} {A : Option Addr} {c : Nat} {l : List Src} {B : Option Addr} {d : Nat} {xs : List Int} {S : Nat → Bool} {W : World} (h : MNX w g A c l B d xs S W) (hm : MadeL l.length l) : SrcAt A c l W := by
  obtain ⟨A', c', e, hc, hC⟩ := Kd.R_reads h.src
  cases e
  exact ⟨hC, hc, made_short hm⟩
theorem MNX.intA {w : World} {g : Nat} {A : Option Addr} {c : Nat} {l : List Src} {B : Option Addr} {d : Nat} {xs : List Int} {S : Nat → Bool} {W : World} (h : MNX w g A c l B d xs S W) : IntAt B d xs W := by
  obtain ⟨A', c', e, hc, hC⟩ := Kd.R_reads h.int
  cases e
  exact ⟨hC, hc⟩
theorem IntAt.take {B : Option Addr} {d : Nat} {xs : List Int} {W : World} (h : IntAt B d xs W) {i : Nat} (hi : i ≤ xs.length) : IntAt B d (xs.take i) W := ⟨Kd.C_take h.rx hi, by have := h.cx; rw [List.length_take]; omega⟩
theorem made_callR (XA : Option Addr) (xc : Nat) (x : List (Int × Int × Int)) (w : World) (hx : Kd.C k3 w XA x.length x) :
    Calls Tryd.prog 11 #[.slice XA x.length xc] w fun e w' => ∃ (A : Option Addr) (c : Nat) (l : List Src), e = .returned (.slice A l.length c) ∧ Hid (kS.R 35 w' w.heap.size (fun k => w.heap.size ≤ k ∧ k < w'.heap.size) (.slice A l.length c) l ∧ MadeL l.length l ∧ l.length ≤ 10 ∧ Below w.heap.size w w') := by
  refine (made_any XA xc x w hx).mono ?_
  rintro e w' ⟨v, l, rfl, hR, hm, hl, hb⟩
  obtain ⟨A, c, rfl⟩ := Kd.R_slice hR
  exact ⟨A, c, l, rfl, Lib.hid ⟨Kd.R_mono (Kd.R_bound hR) (fun k hk => ⟨hk.1, hk.2.2.1⟩), hm, hl, hb⟩⟩
theorem chosen_callR (n : Nat) (hn : n ≤ 12) (m : Int) (w : World) :
    Calls Tryd.prog 12 #[.int .i64 n, .int .i64 m] w fun e w' => ∃ (B : Option Addr) (d : Nat) (xs : List Int), e = .returned (.slice B xs.length d) ∧ Hid ((Kd.int .i64).R 3 w' w.heap.size (fun k => w.heap.size ≤ k) (.slice B xs.length d) xs ∧ ChosenL n xs ∧ xs.length ≤ n ∧ Below w.heap.size w w') := by
  refine (chosen_any n hn m w).mono ?_
  rintro e w' ⟨v, l, rfl, hR, hm, hl, hb⟩
  obtain ⟨A, c, rfl⟩ := Kd.R_slice hR
  exact ⟨A, c, l, rfl, Lib.hid ⟨hR, hm, hl, hb⟩⟩
/-- Numbers of origins, as Origins answers them. -/
theorem origins_call {A : Option Addr} {c : Nat} {l : List Src} {w : World} (y : Int) (hs : SrcAt A c l w) (hT : Tab w) (hv : validS l = true) (hy : ∃ s ∈ l, s.id = y) :
    Calls Tryd.prog 18 #[.slice A l.length c, .int .i64 y] w fun e w' => ∃ (OA : Option Addr) (n oc : Nat), e = .returned (.tuple #[.slice OA n oc, .int .i64 0]) ∧ Hid ((orgL l y).length = n ∧ (Kd.int .i64).R 3 w' w.heap.size (fun k => w.heap.size ≤ k) (.slice OA n oc) ((orgL l y).map Int.ofNat) ∧ n ≤ 9223372036854775807 ∧ Below w.heap.size w w') := by
  refine (Origins_yes A c l y w hs.rl hs.short hT hv (fnd_has hy)).mono ?_
  rintro e w' ⟨v, rfl, hR, hb⟩
  have : (elems (ogL l)).filter (fromB l y.toNat) = orgL l y := by rw [orgL, if_pos ⟨hv, fnd_has hy⟩]
  rw [this] at hR
  have hR2 := hR
  obtain ⟨OA, oc, rfl, hc, hC⟩ := Kd.R_reads hR
  rw [List.length_map] at hC hR2 ⊢
  exact ⟨OA, _, oc, rfl, Lib.hid ⟨rfl, hR2, hC.2.1, hb⟩⟩
/-- How many of the first are true. -/
def cntTo (S : Nat → Bool) (i : Nat) : Nat := ((List.range i).filter S).length
theorem cntTo_succ (S : Nat → Bool) (i : Nat) : cntTo S (i + 1) = cntTo S i + if S i = true then 1 else 0 := by
  unfold cntTo
  rw [List.range_succ, List.filter_append, List.length_append, List.filter_cons]
  split <;> simp_all
theorem cntTo_le (S : Nat → Bool) (i : Nat) : cntTo S i ≤ i := by
  unfold cntTo
  exact Nat.le_trans (List.length_filter_le ..) (by simp)
theorem cntTo_count (S : Nat → Bool) (K : Nat) : (cntTo S K : Int) = Flow.count K S := Flow.filter_count K S
/-- What the rounds of SourceMonotone keep: the numbers' origins are marked. -/
def Marked (l : List Src) (xs : List Int) (S : Nat → Bool) : Prop := ∀ y ∈ xs, ∀ o ∈ orgL l y, S o = true
theorem Marked.more {l : List Src} {xs : List Int} {S : Nat → Bool} (h : Marked l xs S) (x : Nat) : Marked l xs (setS S x) := fun y hy o ho => by
  unfold setS
  rw [h y hy o ho, Bool.or_true]
noncomputable def lastN (l : List Src) (xs : List Int) (i : Nat) : Nat := if i = 0 then 0 else cntS l (xs.take (i - 1)) 0
theorem lastN_le {l : List Src} {xs : List Int} (hm : MadeL l.length l) (hl : l.length ≤ 10) (hc : ChosenL l.length xs) {i : Nat} (hi : i ≤ xs.length) : lastN l xs i ≤ cntS l (xs.take i) 0 ∧ cntS l (xs.take i) 0 ≤ lastN l xs i + 1 ∧ cntS l (xs.take i) 0 ≤ i := by
  have h3 := said_le (made_given hm hl (chosen_take hc i))
  rw [List.length_take] at h3
  unfold lastN
  split
  · rename_i h
    subst h
    exact ⟨Nat.zero_le _, by omega, by omega⟩
  · have h1 := more_step hm hl hc (i := i - 1) (by omega)
    rw [show i - 1 + 1 = i by omega] at h1
    exact ⟨h1.1, h1.2, by omega⟩
end Go.Proofs.YticngcjfofcoiaaDoor

namespace Go.Proofs.YticngcjfofcoiaaDoor
open Go.RowKit Go.Rg Go.Proofs.YticngcjfofcoiaaDoorW.PrintWords
set_option linter.unusedVariables false
set_option linter.unusedSimpArgs false
set_option maxRecDepth 100000

/-- The sources' rows, of the call's own. -/
structure SrcRow (base : Nat) (A : Option Addr) (c : Nat) (l : List Src) (W : World) : Prop where
  r : kS.R 35 W base (fun _ => True) (.slice A l.length c) l
theorem SrcRow.next {base : Nat} {A : Option Addr} {c : Nat} {l : List Src} {W W' : World} (h : SrcRow base A c l W) (hb : Below W.heap.size W W') : SrcRow base A c l W' := ⟨Kd.R_below h.r hb⟩
theorem R_rows {α : Type} {d : Kd α} {e base : Nat} {ok : Nat → Prop} {W : World} {A : Option Addr} {n c : Nat} {xs : List α} (h : d.R e W base ok (.slice A n c) xs) : ReadsRow (d.M W base ok) d.sz W A n xs := by
  obtain ⟨A', c', e', _, hr⟩ := OwnRow.reads h.2
  cases e'
  exact hr.imp_ (Below.refl _ _) (fun _ _ hp => d.M_mono (fun k hk => hk.1) hp)
theorem SrcRow.rows {base : Nat} {A : Option Addr} {c : Nat} {l : List Src} {W : World} (h : SrcRow base A c l W) : ReadsRow (kS.M W base fun k => k < W.heap.size) kS.sz W A l.length l := by
  have h1 := Kd.R_mono (Kd.R_bound h.r) (ok' := fun k => k < W.heap.size) (fun k hk => hk.2.2.1)
  exact R_rows h1
theorem empty_rowS {W : World} {g base : Nat} (hz : W.heap.size = g) (hb : base ≤ g) : kS.R 35 (W.alloc (.cells #[] 35)) base (fun _ => True) (.slice (some ⟨g, 0, none⟩) 0 0) [] := by
  subst hz
  exact ⟨fun _ _ => trivial, OwnRow.lit (inner := []) (ps := []) W base ⟨by simp, fun j p hj => by simp at hj⟩ hb (by simp)⟩
theorem pickV_bd {a n : Int} (hn : 0 < n) : 0 ≤ pickV a n ∧ pickV a n < n := by
  unfold pickV
  split
  · exact ⟨Int.tmod_nonneg _ (by omega), Int.tmod_lt_of_pos _ hn⟩
  · exact ⟨Int.tmod_nonneg _ (by omega), Int.tmod_lt_of_pos _ hn⟩
theorem lit_bd {a : Int} (h : (Lit.int .i64 a).wf = true) : -9223372036854775808 ≤ a ∧ a ≤ 9223372036854775807 := by
  have h2 := h
  simp [Lit.wf, show IntKind.i64.min = -9223372036854775808 from rfl, show IntKind.i64.max = 9223372036854775807 from rfl] at h2
  omega
theorem pick_call (a : Int) (n : Nat) (ha : (Lit.int .i64 a).wf = true) (hn : 0 < n) (w : World) : Calls Tryd.prog 31 #[.int .i64 a, .int .i64 n] w fun e w' => ∃ q : Nat, q < n ∧ e = .returned (.int .i64 q) ∧ w' = w := by
  refine (pickL_any a n (lit_bd ha).1 (lit_bd ha).2 (by omega) w).mono ?_
  rintro e w' ⟨rfl, rfl⟩
  have := pickV_bd (a := a) (n := n) (by omega)
  obtain ⟨q, hq⟩ := Int.eq_ofNat_of_zero_le this.1
  exact ⟨q, by omega, by rw [hq], rfl⟩
theorem own_step {l : List Src} {xs : List Int} {i : Nat} {y : Int} {s : Src} (hy : xs[i]? = some y) (hs : l[y.toNat]? = some s) : ownL l (xs.take (i + 1)) = ownL l (xs.take i) ++ if s.frm.length = 0 then [y] else [] := by
  have hg : l.getD y.toNat s0 = s := by simp [List.getD, hs]
  rw [take_at hy]
  unfold ownL
  rw [List.filter_append, List.filter_cons, List.filter_nil, hg]
  by_cases h : s.frm.length = 0
  · simp [h]
  · simp [h]
theorem own_len (l : List Src) (xs : List Int) : (ownL l xs).length ≤ xs.length := List.length_filter_le ..
end Go.Proofs.YticngcjfofcoiaaDoor

namespace Go.Proofs.YticngcjfofcoiaaDoor
open Go.RowKit Go.Rg Go.Proofs.YticngcjfofcoiaaDoorW.PrintWords
set_option linter.unusedVariables false
set_option linter.unusedSimpArgs false

/-- A slice's head: where it lies, its length, its capacity. -/
abbrev Hd := Option Addr × Nat × Nat
def hdv (h : Hd) : Value := .slice h.1 h.2.1 h.2.2
/-- A row of slices' heads. -/
abbrev kh : Kd Hd := Kd.scalar hdv (fun _ => rfl)
def One (W : World) (h : Hd) (x : List Int) : Prop := h.2.1 = x.length ∧ x.length ≤ h.2.2 ∧ (Kd.int .i64).C W h.1 x.length x
def Hds (W : World) : List Hd → List (List Int) → Prop
  | [], [] => True
  | h :: hs, x :: xs => One W h x ∧ Hds W hs xs
  | [], _ :: _ => False
  | _ :: _, [] => False
theorem Hds.below {W W' : World} (hb : Below W.heap.size W W') : ∀ {hs : List Hd} {xs : List (List Int)}, Hds W hs xs → Hds W' hs xs
  | [], [], _ => trivial
  | h :: hs, x :: xs, ⟨h1, h2⟩ => ⟨⟨h1.1, h1.2.1, Kd.C_below h1.2.2 hb⟩, Hds.below hb h2⟩
theorem Hds.len {W : World} : ∀ {hs : List Hd} {xs : List (List Int)}, Hds W hs xs → hs.length = xs.length
  | [], [], _ => rfl
  | h :: hs, x :: xs, ⟨_, h2⟩ => by simp [Hds.len h2]
theorem Hds.snoc {W : World} {y : Hd} {z : List Int} (hz : One W y z) : ∀ {hs : List Hd} {xs : List (List Int)}, Hds W hs xs → Hds W (hs ++ [y]) (xs ++ [z])
  | [], [], _ => ⟨hz, trivial⟩
  | h :: hs, x :: xs, ⟨h1, h2⟩ => ⟨h1, Hds.snoc hz h2⟩
theorem Hds.get {W : World} : ∀ {hs : List Hd} {xs : List (List Int)} {i : Nat}, Hds W hs xs → (h1 : i < hs.length) → (h2 : i < xs.length) → One W hs[i] xs[i]
  | y :: hs, x :: xs, 0, h, _, _ => h.1
  | y :: hs, x :: xs, i + 1, h, h1, h2 => Hds.get (i := i) h.2 (by simpa using h1) (by simpa using h2)
theorem C_heads {W : World} {A : Option Addr} {hs : List Hd} {xs : List (List Int)} (h : kh.C W A hs.length hs) (hx : Hds W hs xs) : (Kd.slice 3 (Kd.int .i64)).C W A xs.length xs := by
  have hl := hx.len
  refine ⟨rfl, by rw [← hl]; exact h.2.1, fun h0 => ?_⟩
  obtain ⟨ad, e, hc⟩ := h.2.2 (by omega)
  refine ⟨ad, e, fun j p hj => ?_⟩
  obtain ⟨hj1, rfl⟩ := List.getElem?_eq_some_iff.1 hj
  obtain ⟨cs, hlen, hcs, hget⟩ := hc j hs[j] (List.getElem?_eq_getElem (by omega))
  have ho := hx.get (i := j) (by omega) hj1
  refine ⟨cs, hlen, ⟨hs[j].1, hs[j].2.2, ?_, ho.2.1, ho.2.2⟩, hget⟩
  rw [show cs = [hdv hs[j]] from hcs]
  show [Value.slice _ _ _] = _
  rw [ho.1]
theorem onehead {W : World} {g : Nat} {e : TypeId} {y : Hd} (h : W.heap[g]? = some (.cells #[hdv y] e (0, 0))) : kh.C W (some ⟨g, 0, none⟩) 1 [y] := by
  refine ⟨rfl, by decide, fun _ => ⟨_, rfl, fun j p hj => ⟨[hdv p], rfl, rfl, fun i u hi => ?_⟩⟩⟩
  obtain ⟨hjl, hp⟩ := List.getElem?_eq_some_iff.1 hj
  have hj0 : j = 0 := by simpa using hjl
  subst hj0
  cases i with
  | zero =>
    obtain rfl : hdv p = u := by simpa using hi
    rw [add_plain]
    refine cell_of h ?_
    simp at hp
    simp [hp]
  | succ i => simp at hi
theorem One.take {W : World} {A : Option Addr} {n c : Nat} {x : List Int} (h : One W (A, n, c) x) (m : Nat) : One W (A, min x.length m, c) (x.take m) := by
  refine ⟨by simp [Nat.min_comm], ?_, ?_⟩
  · rw [List.length_take]; have := h.2.1; show _ ≤ c; have : x.length ≤ c := this; omega
  · have h1 := Kd.C_take h.2.2 (m := min x.length m) (by omega)
    have e2 : (x.take m).length = min x.length m := by rw [List.length_take, Nat.min_comm]
    have e : x.take (min x.length m) = x.take m := by
      rcases Nat.le_total x.length m with hh | hh
      · rw [Nat.min_eq_left hh, List.take_length, List.take_of_length_le hh]
      · rw [Nat.min_eq_right hh]
    rw [e] at h1
    show (Kd.int .i64).C W A (x.take m).length (x.take m)
    exact h1
theorem heads_of {W : World} {A : Option Addr} {xs : List (List Int)} (h : kW.C W A xs.length xs) : ∃ hs : List Hd, Hds W hs xs ∧ kh.C W A xs.length hs := by
  have each : ∀ i (hi : i < xs.length), ∃ y : Hd, One W y xs[i] ∧ ∃ ad, A = some ad ∧ W.cell? (ad.add i) = some (hdv y) := fun i hi => by
    obtain ⟨ad, VA, vc, e, xv, hvc, hCv⟩ := at_W h (List.getElem?_eq_getElem hi)
    exact ⟨(VA, xs[i].length, vc), ⟨rfl, hvc, hCv⟩, ad, e, xv⟩
  have build : ∀ k, k ≤ xs.length → ∃ hs : List Hd, hs.length = k ∧ Hds W hs (xs.take k) ∧ ∀ i (hi : i < hs.length), ∃ ad, A = some ad ∧ W.cell? (ad.add i) = some (hdv hs[i]) := fun k => by
    induction k with
    | zero => exact fun _ => ⟨[], rfl, trivial, fun i hi => by simp at hi⟩
    | succ k ih =>
      intro hk
      obtain ⟨hs, h1, h2, h3⟩ := ih (by omega)
      obtain ⟨y, hy, ad, e, hc⟩ := each k (by omega)
      refine ⟨hs ++ [y], by simp [h1], by rw [List.take_succ_eq_append_getElem (by omega)]; exact h2.snoc hy, fun i hi => ?_⟩
      rcases Nat.lt_or_ge i hs.length with h4 | h4
      · rw [List.getElem_append_left h4]; exact h3 i h4
      · have : i = k := by simp [h1] at hi; omega
        subst this
        rw [List.getElem_append_right h4]
        simp [h1]
        exact ⟨ad, e, hc⟩
  obtain ⟨hs, h1, h2, h3⟩ := build xs.length (Nat.le_refl _)
  rw [List.take_length] at h2
  refine ⟨hs, h2, h1, h.2.1, fun h0 => ?_⟩
  obtain ⟨ad, e, _⟩ := h3 0 (by omega)
  refine ⟨ad, e, fun j p hj => ?_⟩
  obtain ⟨hj1, rfl⟩ := List.getElem?_eq_some_iff.1 hj
  obtain ⟨ad', e', hc⟩ := h3 j hj1
  rw [e] at e'
  cases e'
  refine ⟨[hdv hs[j]], rfl, rfl, fun i u hi => ?_⟩
  cases i with
  | zero =>
    have hu : hdv hs[j] = u := by simpa using hi
    have e1 : j * kh.sz + 0 = j := by show j * 1 + 0 = j; omega
    rw [← hu, e1]
    exact hc
  | succ i => simp at hi
theorem Hds.take {W : World} : ∀ {hs : List Hd} {xs : List (List Int)} (k : Nat), Hds W hs xs → Hds W (hs.take k) (xs.take k)
  | [], [], _, _ => by simp; trivial
  | h :: hs, x :: xs, 0, _ => trivial
  | h :: hs, x :: xs, k + 1, ⟨h1, h2⟩ => ⟨h1, Hds.take k h2⟩
theorem Hds.drop {W : World} : ∀ {hs : List Hd} {xs : List (List Int)} (k : Nat), Hds W hs xs → Hds W (hs.drop k) (xs.drop k)
  | [], [], _, _ => by simp; trivial
  | h :: hs, x :: xs, 0, h0 => h0
  | h :: hs, x :: xs, k + 1, ⟨h1, h2⟩ => Hds.drop k h2
theorem Hds.append {W : World} {ks : List Hd} {ys : List (List Int)} (hk : Hds W ks ys) : ∀ {hs : List Hd} {xs : List (List Int)}, Hds W hs xs → Hds W (hs ++ ks) (xs ++ ys)
  | [], [], _ => hk
  | h :: hs, x :: xs, ⟨h1, h2⟩ => ⟨h1, Hds.append hk h2⟩
end Go.Proofs.YticngcjfofcoiaaDoor

namespace Go.Proofs.YticngcjfofcoiaaDoor
open Go.RowKit Go.Rg Go.Proofs.YticngcjfofcoiaaDoorW.PrintWords
set_option linter.unusedVariables false
set_option linter.unusedSimpArgs false
set_option maxRecDepth 100000

theorem no_out {P : Program} {fn : Func} {R : Ending → World → Prop} {K : Act → World → Prop} {a : Act} {w : World} (hR : ∀ w, ¬ R .outgrown w) (h : Exit.then K (bodyPost P fn R) .outgrown a w) : False := hR _ h
theorem info26' : (Tryd.prog.info? 26).map (fun i => (i.zero, i.size, i.bytes)) = some (some (.slice none 0 0), 1, 24) := info26
def shortW (ws : List (List Int)) : List (List Int) := (ws.take 3).map (List.take 5)
theorem shortW_succ {ws : List (List Int)} {k : Nat} {v : List Int} (h : ws[k]? = some v) : (ws.take (k + 1)).map (List.take 5) = (ws.take k).map (List.take 5) ++ [v.take 5] := by
  rw [take_at h, List.map_append]; rfl
theorem fr_heap_at {S : Nat → Prop} {A B : World} (h : Fr S A B) {k : Nat} {o : Obj} (hk : A.heap[k]? = some o) (hS : ¬ S k) : B.heap[k]? = some o := (h.block k (Array.getElem?_eq_some_iff.1 hk).1 hS).trans hk
/-- A support that an argument brings. -/
structure OddAt (WA : Option Addr) (wc : Nat) (ws : List (List Int)) (CA : Option Addr) (cc : Nat) (cs : List Int) (W : World) : Prop where
  rows : kW.C W WA ws.length ws
  cut : (Kd.int .i64).C W CA cs.length cs
  lw : ws.length ≤ wc
  lc : cs.length ≤ cc
theorem OddAt.next {WA : Option Addr} {wc : Nat} {ws : List (List Int)} {CA : Option Addr} {cc : Nat} {cs : List Int} {W W' : World} (h : OddAt WA wc ws CA cc cs W) (hb : Below W.heap.size W W') : OddAt WA wc ws CA cc cs W' := ⟨Kd.C_below h.rows hb, Kd.C_below h.cut hb, h.lw, h.lc⟩
/-- The rounds of short. -/
structure ShX (w : World) (b : Nat) (n : Int) (WA : Option Addr) (wc : Nat) (ws : List (List Int)) (CA : Option Addr) (cc : Nat) (cs : List Int) (qn : Nat) (k : Nat) (ov : Value) (hs : List Hd) (W : World) : Prop where
  below : Below w.heap.size w W
  b0 : W.heap[b]? = some (.cells #[.int .i64 n, .slice WA ws.length wc, .slice CA cs.length cc] 30)
  b1 : W.heap[b + 1]? = some (.cells #[.int .i64 0, .slice none 0 0, .slice none 0 0] 30)
  b2 : W.heap[b + 2]? = some (.cells #[.int .i64 n, ov, .slice CA qn cc] 30)
  row : kh.R 26 W w.heap.size (fun k => b + 3 ≤ k) ov hs
  hds : Hds w hs ((ws.take k).map (List.take 5))
  size : b + 3 ≤ W.heap.size
theorem ShX.next {w : World} {b : Nat} {n : Int} {WA : Option Addr} {wc : Nat} {ws : List (List Int)} {CA : Option Addr} {cc : Nat} {cs : List Int} {qn k : Nat} {ov : Value} {hs : List Hd} {W W' : World} (h : ShX w b n WA wc ws CA cc cs qn k ov hs W) (hb : Below W.heap.size W W') : ShX w b n WA wc ws CA cc cs qn k ov hs W' := by
  have hz := h.size
  exact ⟨h.below.trans (hb.mono h.below.size), (hb.block _ (by omega)).trans h.b0, (hb.block _ (by omega)).trans h.b1, (hb.block _ (by omega)).trans h.b2, Kd.R_below h.row hb, h.hds, Nat.le_trans hz hb.size⟩
theorem ShX.drew {w : World} {b : Nat} {n : Int} {WA : Option Addr} {wc : Nat} {ws : List (List Int)} {CA : Option Addr} {cc : Nat} {cs : List Int} {qn k : Nat} {ov : Value} {hs : List Hd} {W : World} (h : ShX w b n WA wc ws CA cc cs qn k ov hs W) : ShX w b n WA wc ws CA cc cs qn k ov hs W.drew := h.next (Below.refl _ _).drew
theorem ShX.app {w : World} {b : Nat} {n : Int} {WA : Option Addr} {wc : Nat} {ws : List (List Int)} {CA : Option Addr} {cc : Nat} {cs : List Int} {qn k : Nat} {OA : Option Addr} {oc : Nat} {hs : List Hd} {W W' : World} {y : Hd} {v : List Int} {NA : Option Addr} {nc : Nat} (h : ShX w b n WA wc ws CA cc cs qn k (.slice OA hs.length oc) hs W) (hy : One w y v) (hsu : (ws.take (k + 1)).map (List.take 5) = (ws.take k).map (List.take 5) ++ [v])
    (q1 : kh.R 26 W' w.heap.size (fun k => b + 3 ≤ k) (.slice NA (hs ++ [y]).length nc) (hs ++ [y])) (q2 : Below w.heap.size w W') (q3 : W.grownBy W' (Value.slice OA hs.length oc).ownBlock) (hb : w.heap.size = b) :
    ShX w b n WA wc ws CA cc cs qn (k + 1) (.slice NA (hs ++ [y]).length nc) (hs ++ [y]) (W'.setCell ⟨b + 2, 1, none⟩ (.slice NA (hs ++ [y]).length nc)) ∧ W'.heap[b + 2]? = some (.cells #[.int .i64 n, .slice OA hs.length oc, .slice CA qn cc] 30) := by
  have hz := h.size
  have own : ∀ j, j < b + 3 → some j ≠ (Value.slice OA hs.length oc).ownBlock := fun j hj e => by have := h.row.1 j e.symm; omega
  have e0 := (q3.block b (by omega) (own b (by omega))).trans h.b0
  have e1 := (q3.block (b + 1) (by omega) (own (b + 1) (by omega))).trans h.b1
  have e2 := (q3.block (b + 2) (by omega) (own (b + 2) (by omega))).trans h.b2
  have hz2 : b + 3 ≤ W'.heap.size := Nat.le_trans hz q3.size
  refine ⟨⟨q2.setCell (p := ⟨b + 2, 1, none⟩) (by show w.heap.size ≤ b + 2; omega) _, heap_set_ne (p := ⟨b + 2, 1, none⟩) _ (by show b ≠ b + 2; omega) e0, heap_set_ne (p := ⟨b + 2, 1, none⟩) _ (by show b + 1 ≠ b + 2; omega) e1, heap_set (o := 1) _ e2, Kd.R_far q1 (p := ⟨b + 2, 1, none⟩) (fun k hk => by show k ≠ b + 2; omega) _, by rw [hsu]; exact h.hds.snoc hy, by simpa using hz2⟩, e2⟩
theorem sh_end {w : World} {b : Nat} {n : Int} {WA : Option Addr} {wc : Nat} {ws : List (List Int)} {CA : Option Addr} {cc : Nat} {cs : List Int} {qn k : Nat} {OA : Option Addr} {oc : Nat} {hs : List Hd} {W : World} (h : ShX w b n WA wc ws CA cc cs qn k (.slice OA hs.length oc) hs W) (hf : Hds w hs (shortW ws)) (ho : OddAt WA wc ws CA cc cs w) (hq : (cs.take 4).length = qn) (hb : w.heap.size = b) (y0 y1 y2 : Value) :
    ∃ (OA' : Option Addr) (oc' : Nat), Ending.returned (.agg #[.int .i64 n, .slice OA hs.length oc, .slice CA qn cc]) = .returned (.agg #[.int .i64 n, .slice OA' (shortW ws).length oc', .slice CA (cs.take 4).length cc]) ∧ Hid (OddAt OA' oc' (shortW ws) CA cc (cs.take 4) (((W.setCell ⟨b + 1, 0, none⟩ y0).setCell ⟨b + 1, 1, none⟩ y1).setCell ⟨b + 1, 2, none⟩ y2) ∧ Below w.heap.size w (((W.setCell ⟨b + 1, 0, none⟩ y0).setCell ⟨b + 1, 1, none⟩ y1).setCell ⟨b + 1, 2, none⟩ y2)) := by
  have f : ∀ {V : World} (o : Nat) (x : Value), kh.R 26 V w.heap.size (fun k => b + 3 ≤ k) (.slice OA hs.length oc) hs → kh.R 26 (V.setCell ⟨b + 1, o, none⟩ x) w.heap.size (fun k => b + 3 ≤ k) (.slice OA hs.length oc) hs := fun o x h => Kd.R_far h (p := ⟨b + 1, o, none⟩) (fun k hk => by show k ≠ b + 1; omega) x
  have hR := f 2 y2 (f 1 y1 (f 0 y0 h.row))
  have hB := (((h.below.setCell (p := ⟨b + 1, 0, none⟩) (by show w.heap.size ≤ b + 1; omega) y0).setCell (p := ⟨b + 1, 1, none⟩) (by show w.heap.size ≤ b + 1; omega) y1).setCell (p := ⟨b + 1, 2, none⟩) (by show w.heap.size ≤ b + 1; omega) y2)
  have hl := hf.len
  obtain ⟨A', c', e, hc, hC⟩ := Kd.R_reads hR
  injection e with e1 e2 e3
  subst e1
  subst e3
  have hC2 := C_heads hC (hf.below hB)
  have hcut : (Kd.int .i64).C w CA (cs.take 4).length (cs.take 4) := by
    have h1 := Kd.C_take ho.cut (m := min cs.length 4) (by omega)
    have e : cs.take (min cs.length 4) = cs.take 4 := by
      rcases Nat.le_total cs.length 4 with hh | hh
      · rw [Nat.min_eq_left hh, List.take_length, List.take_of_length_le hh]
      · rw [Nat.min_eq_right hh]
    rw [e] at h1
    exact h1
  have hlc := ho.lc
  exact ⟨OA, oc, by rw [hl, hq], Lib.hid ⟨⟨hC2, Kd.C_below hcut hB, by omega, by rw [List.length_take]; omega⟩, hB⟩⟩
set_option maxHeartbeats 4000000 in
theorem short_any (n : Int) (WA : Option Addr) (wc : Nat) (ws : List (List Int)) (CA : Option Addr) (cc : Nat) (cs : List Int) (w : World) (h : OddAt WA wc ws CA cc cs w) :
    Calls Tryd.prog 28 #[.agg #[.int .i64 n, .slice WA ws.length wc, .slice CA cs.length cc]] w fun e w' => ∃ (OA : Option Addr) (oc : Nat), e = .returned (.agg #[.int .i64 n, .slice OA (shortW ws).length oc, .slice CA (cs.take 4).length cc]) ∧ Hid (OddAt OA oc (shortW ws) CA cc (cs.take 4) w' ∧ Below w.heap.size w w') := by
  have hmw := max_len h.rows
  have hmc := max_len h.cut
  have HO := Lib.hid h; clear h
  obtain ⟨b, hb⟩ : ∃ b, w.heap.size = b := ⟨_, rfl⟩
  have hA := (Below.refl w.heap.size w).alloc (Nat.le_refl _) (.cells #[.int .i64 n, .slice WA ws.length wc, .slice CA cs.length cc] 30)
  have hB := hA.alloc hA.size (.cells #[.int .i64 0, .slice none 0 0, .slice none 0 0] 30)
  have k0 := heap_new (W := w) (o := .cells #[.int .i64 n, .slice WA ws.length wc, .slice CA cs.length cc] 30) hb
  have hz1 : (w.alloc (.cells #[.int .i64 n, .slice WA ws.length wc, .slice CA cs.length cc] 30)).heap.size = b + 1 := by simp [hb]
  have k0' : ((w.alloc (.cells #[.int .i64 n, .slice WA ws.length wc, .slice CA cs.length cc] 30)).alloc (.cells #[.int .i64 0, .slice none 0 0, .slice none 0 0] 30)).heap[b]? = some (.cells #[.int .i64 n, .slice WA ws.length wc, .slice CA cs.length cc] 30) := (Below.heap_alloc _ _ b (by omega)).trans k0
  have k1 := heap_new (W := w.alloc (.cells #[.int .i64 n, .slice WA ws.length wc, .slice CA cs.length cc] 30)) (o := .cells #[.int .i64 0, .slice none 0 0, .slice none 0 0] 30) hz1
  obtain ⟨w1, hw1⟩ : ∃ W, (w.alloc (.cells #[.int .i64 n, .slice WA ws.length wc, .slice CA cs.length cc] 30)).alloc (.cells #[.int .i64 0, .slice none 0 0, .slice none 0 0] 30) = W := ⟨_, rfl⟩
  have hz2 : w1.heap.size = b + 2 := by rw [← hw1]; simp [hb]
  rw [hw1] at hB k0' k1
  have H1 := Lib.hid (And.intro hB (And.intro k0' (And.intro k1 hz2))); clear hA hB k0 k0' k1 hz1 hz2
  have HB := Lib.hid hb
  go_enter Tryd.func28, Tryd.ntmps28
  go_wp2_with fail
  clear hw1
  refine region_seqP (fun k => b + 2 ≤ k) [([0, 1, 2, 3, 4, 5, 6, 7, 8, 9], 10), ([], 11)] [] (by kernel_rfl) (by kernel_rfl) (fun _ _ d _ _ h => by cases d <;> exact h) (fun ⟨_, _, h⟩ => by rcases h with ⟨_, _, h, _⟩; cases h) ?_
  obtain ⟨wd, hwd⟩ : ∃ wd, wd = { w1 with drawn := w1.drawn + 1 } := ⟨_, rfl⟩
  rw [← hwd]
  have HF := Lib.hid (show Fr (fun k => b + 2 ≤ k) w1 wd by rw [hwd]; exact (Fr.refl _ _).drew)
  have hbd : Below w1.heap.size w1 wd := by rw [hwd]; exact (Below.refl _ _).drew
  have hzd : wd.heap.size = b + 2 := by rw [hwd]; exact H1.out.2.2.2
  have HD := Lib.hid (And.intro hbd hzd); clear hwd hbd
  simp only [seqQ, pick_cons, pick_nil, nthO_succ, nthO_zero]
  have d0 := cell_extB (B := fun k => b + 2 ≤ k) (cell_of (o := 0) H1.out.2.1 rfl) (by show ¬ b + 2 ≤ b; omega)
  have d2 := cell_extB (B := fun k => b + 2 ≤ k) (cell_of (o := 2) H1.out.2.1 rfl) (by show ¬ b + 2 ≤ b; omega)
  have hlc : cs.length ≤ cc := HO.out.lc
  repeat (go_big_quiet_step (fail))
  have hq : (if (4 : Int) < (cs.length : Int) then (4 : Int) else (cs.length : Int)).toNat = (cs.take 4).length := by rw [List.length_take]; split <;> omega
  generalize (if (4 : Int) < (cs.length : Int) then (4 : Int) else (cs.length : Int)) = qi at *
  rw [hq]
  clear hq
  generalize hqn : (cs.take 4).length = qn at *
  have HQN := Lib.hid hqn; clear hqn
  refine wpQuiet_nil ?_
  have hn2 := heap_new (W := wd) (o := .cells #[.int .i64 0, .slice none 0 0, .slice none 0 0] 30) HD.out.2
  have hF2 := HF.out.alloc (.cells #[.int .i64 0, .slice none 0 0, .slice none 0 0] 30)
  have hB2 := (Below.refl wd.heap.size wd).alloc (Nat.le_refl _) (.cells #[.int .i64 0, .slice none 0 0, .slice none 0 0] 30)
  obtain ⟨w2, hw2⟩ : ∃ W, wd.alloc (.cells #[.int .i64 0, .slice none 0 0, .slice none 0 0] 30) = W := ⟨_, rfl⟩
  have hz2 : w2.heap.size = b + 3 := by rw [← hw2]; simp [hzd]
  rw [hw2] at hn2 hF2 hB2
  have H2 := Lib.hid (And.intro hn2 (And.intro hF2 (And.intro hB2 hz2))); clear hn2 hF2 hB2 hz2
  go_wp2_with fail
  refine ⟨⟨⟨_, H2.out.2.1⟩, rfl⟩, ?_⟩
  clear hzd
  refine wpQuiet_nil ?_
  have s0 := cell_of (o := 0) H2.out.1 rfl
  have s1 := cell_of (o := 1) H2.out.1 rfl
  have s2 := cell_of (o := 2) H2.out.1 rfl
  have g0 := frozen_of (o := 0) H2.out.1
  have g1 := frozen_of (o := 1) H2.out.1
  have g2 := frozen_of (o := 2) H2.out.1
  go_wp2_with fail
  have hb3 := set3 (y0 := .int .i64 n) (y1 := .slice none 0 0) (y2 := .slice CA qn cc) H2.out.1
  obtain ⟨w3, hw3⟩ : ∃ W, ((w2.setCell ⟨b + 2, 0, none⟩ (.int .i64 n)).setCell ⟨b + 2, 1, none⟩ (.slice none 0 0)).setCell ⟨b + 2, 2, none⟩ (.slice CA qn cc) = W := ⟨_, rfl⟩
  have hF3 := ((H2.out.2.1.setCell ⟨b + 2, 0, none⟩ (.int .i64 n) (fun _ => by show b + 2 ≤ b + 2; omega)).setCell ⟨b + 2, 1, none⟩ (.slice none 0 0) (fun _ => by show b + 2 ≤ b + 2; omega)).setCell ⟨b + 2, 2, none⟩ (.slice CA qn cc) (fun _ => by show b + 2 ≤ b + 2; omega)
  have hz3 : b + 3 ≤ w3.heap.size := by have := H2.out.2.2.2; rw [← hw3]; simp; omega
  rw [hw3] at hb3 hF3 ⊢
  have HX := Lib.hid (show ShX w b n WA wc ws CA cc cs qn 0 (.slice none 0 0) [] w3 from ⟨H1.out.1.trans (hF3.below (n := w.heap.size) (fun k hk => by omega) (by have := H1.out.2.2.2; omega)), fr_heap_at hF3 H1.out.2.1 (by omega), fr_heap_at hF3 H1.out.2.2.1 (by omega), hb3, Kd.R_nil _ _ _ _ _, trivial, hz3⟩)
  refine ⟨⟨⟨_, hF3⟩, rfl⟩, ?_⟩
  clear hb3 hF3 hz3 s0 s1 s2 g0 g1 g2 hw3 hw2 HF HD H2 d0 d2 hlc hb
  refine wpQuiet_nil ?_
  go_wp2_with fail
  go_loopw [4] (fun iv wr => ∃ (k : Nat) (ov : Value) (hs : List Hd), k ≤ ws.length ∧ k ≤ 3 ∧ iv = .int .i64 k ∧ Hid (ShX w b n WA wc ws CA cc cs qn k ov hs wr)) (fun iv wr => 3 - (intOf iv).toNat)
  case atStart => exact ⟨0, .slice none 0 0, [], Nat.zero_le _, Nat.zero_le _, rfl, HX⟩
  case round =>
    clear HX
    obtain ⟨k, ov, hs, hk, hk3, rfl, HI⟩ := hrel
    obtain ⟨OA, oc, rfl⟩ := Kd.R_slice HI.out.row
    have e1 := cell_of (o := 1) HI.out.b0 rfl
    by_cases hlt : k < ws.length ∧ k < 3
    · obtain ⟨h1, h2⟩ := hlt
      have hkI : (k : Int) < (ws.length : Int) := by omega
      have hkJ : (k : Int) < 3 := by omega
      obtain ⟨v, hv⟩ : ∃ v, ws[k]? = some v := ⟨_, List.getElem?_eq_getElem h1⟩
      obtain ⟨ad, A0, c0, e, xv0, hvc, hCv⟩ := at_W HO.out.rows hv
      cases e
      have hsz := HB.out
      have hbl := World.block_lt_of_cell? w _ xv0
      have xv := pw_cell_below HI.out.below xv0
      have HSU := Lib.hid (shortW_succ hv)
      have hmv := max_len hCv
      have hOne : One w (A0, min v.length 5, c0) (v.take 5) := One.take (n := v.length) ⟨rfl, hvc, hCv⟩ 5
      have HON := Lib.hid hOne
      have E1 := cell_extB (B := fun k => b + 2 ≤ k) e1 (by show ¬ b + 2 ≤ b; omega)
      have EX := cell_extB (B := fun k => b + 2 ≤ k) xv (by show ¬ b + 2 ≤ (ad.add k).block; omega)
      clear xv0 hOne hv hCv hbl hsz
      go_wp2_with fail
      refine region_freeS (fun k => b + 2 ≤ k) [0, 2, 3, 4, 5, 6, 7, 8, 9, 10, 11, 12, 13, 14] #[true, false, true, true, true, true, true, true, true, true, true, true, true, true, true, false, false, false, false] 5 (by kernel_rfl) (by kernel_rfl) (fun _ _ d _ _ h => by cases d <;> exact h) ?_
      simp only [pick_cons, pick_nil, nthO_succ, nthO_zero]
      repeat (go_big_quiet_step (fail))
      have hq : (if (5 : Int) < (v.length : Int) then (5 : Int) else (v.length : Int)).toNat = min v.length 5 := by split <;> omega
      generalize (if (5 : Int) < (v.length : Int) then (5 : Int) else (v.length : Int)) = qi at *
      rw [hq]
      clear hq
      generalize hvn : min v.length 5 = vn at *
      refine wpQuiet_nil ?_
      clear E1 EX e1 xv hvn
      have HS0 := Lib.hid (show Fr (fun k => b + 2 ≤ k) wr wr.drew from (Fr.refl _ _).drew)
      have HIx := Lib.hid (show ShX w b n (some ad) wc ws CA cc cs qn k (.slice OA hs.length oc) hs wr.drew from HI.out.drew)
      obtain ⟨u0, hu0⟩ : ∃ u0, wr.drew = u0 := ⟨_, rfl⟩
      rw [hu0] at HS0 HIx ⊢
      clear hu0
      obtain ⟨gn, hgn⟩ : ∃ g, u0.heap.size = g := ⟨_, rfl⟩
      have hA := (Below.refl u0.heap.size u0).alloc (Nat.le_refl _) (.cells #[.slice A0 vn c0] 26)
      have hRow := onehead (y := (A0, vn, c0)) (heap_new (o := .cells #[hdv (A0, vn, c0)] 26) (W := u0) hgn)
      have HAL := Lib.hid (And.intro hA (And.intro (show kh.C (u0.alloc (.cells #[.slice A0 vn c0] 26)) (some ⟨gn, 0, none⟩) 1 [(A0, vn, c0)] from hRow) (And.intro (HIx.out.next hA) (HS0.out.alloc (.cells #[.slice A0 vn c0] 26))))); clear hA hRow
      have f1 := cell_of (o := 1) HIx.out.b2 rfl
      have hhl : hs.length ≤ 3 := by have := HIx.out.hds.len; rw [List.length_map, List.length_take] at this; omega
      obtain ⟨u1, hu1⟩ : ∃ W, u0.alloc (.cells #[.slice A0 vn c0] 26) = W := ⟨_, rfl⟩
      rw [hu1] at HAL
      have f1u := cell_of (o := 1) HAL.out.2.2.1.b2 rfl
      refine any_stepS [1, 15] (by kernel_rfl) ?_
      simp only [List.forall_mem_cons, List.forall_mem_nil, nthO_succ, nthO_zero]
      refine ⟨?_, ?_, fun _ h => by cases h⟩
      · go_wp2_with fail
        refine ⟨⟨⟨_, HS0.out⟩, rfl⟩, ?_⟩
        refine any_stepS [15] (by kernel_rfl) ?_
        simp only [List.forall_mem_cons, List.forall_mem_nil, nthO_succ, nthO_zero]
        refine ⟨?_, fun _ h => by cases h⟩
        go_wp2_with fail
        refine ⟨⟨⟨_, HAL.out.2.2.2⟩, rfl⟩, ?_⟩
        refine any_stepS [16] (by kernel_rfl) ?_
        simp only [List.forall_mem_cons, List.forall_mem_nil, nthO_succ, nthO_zero]
        refine ⟨?_, fun _ h => by cases h⟩
        have hz1 := HAL.out.2.2.1.size
        refine Kd.R_append_rows kh (w0 := w) (Rr := fun x cs => cs = [hdv x]) w.heap.size rfl (.tmp 27) (.tmp 41) 28 26 (.slice none 0 0) 24 rfl Tryd.underlying28 info26 rfl (by decide) (by decide) (.slice OA hs.length oc) hs [(A0, vn, c0)] (some ⟨gn, 0, none⟩) 1 1 (fun k => b + 3 ≤ k) (fun _ => False) rfl rfl HAL.out.2.2.1.row HAL.out.2.1 (fun _ _ h => h) (fun _ h => h.elim) (fun k hk => by omega) HAL.out.2.2.1.below HAL.out.2.2.1.below.size (by omega) ?_
        intro v1 u2 q1 q2 q3 q4
        obtain ⟨NA, nc, rfl⟩ := Kd.R_slice q1
        have HJ := Lib.hid (HAL.out.2.2.1.app HON.out HSU.out q1 q2 q3 HB.out)
        obtain ⟨hs', hh'⟩ : ∃ h', hs ++ [(A0, vn, c0)] = h' := ⟨_, rfl⟩
        rw [hh'] at HJ ⊢
        have hS2 := HAL.out.2.2.2.grown q3 (fun k hk _ => by have := HAL.out.2.2.1.row.1 k hk; omega)
        have HS2 := Lib.hid hS2; clear q1 q2 q3 q4 hS2 hz1 hh'
        refine ⟨⟨⟨_, HS2.out⟩, rfl⟩, ?_⟩
        refine any_stepS [17] (by kernel_rfl) ?_
        simp only [List.forall_mem_cons, List.forall_mem_nil, nthO_succ, nthO_zero]
        refine ⟨?_, fun _ h => by cases h⟩
        go_wp2_with fail
        refine ⟨⟨⟨_, HS2.out⟩, rfl⟩, ?_⟩
        refine any_stepS [18] (by kernel_rfl) ?_
        simp only [List.forall_mem_cons, List.forall_mem_nil, nthO_succ, nthO_zero]
        refine ⟨?_, fun _ h => by cases h⟩
        have t1 := cell_of (o := 1) HJ.out.2 rfl
        have z1 := frozen_of (o := 1) HJ.out.2
        go_wp2_with fail
        refine ⟨⟨⟨_, HS2.out.setCell _ _ (fun _ => by show b + 2 ≤ b + 2; omega)⟩, rfl⟩, wpAnyH_done (by kernel_rfl) ?_ _⟩
        go_wp2_with fail
        go_roundw
        case rel => exact ⟨k + 1, _, _, by omega, by omega, by go_num, Lib.hid HJ.out.1⟩
        case measure => simp [intOf]; omega
      · go_wp2_with fail
        refine ⟨⟨⟨_, HAL.out.2.2.2⟩, rfl⟩, ?_⟩
        refine any_stepS [1] (by kernel_rfl) ?_
        simp only [List.forall_mem_cons, List.forall_mem_nil, nthO_succ, nthO_zero]
        refine ⟨?_, fun _ h => by cases h⟩
        go_wp2_with fail
        refine ⟨⟨⟨_, HAL.out.2.2.2⟩, rfl⟩, ?_⟩
        refine any_stepS [16] (by kernel_rfl) ?_
        simp only [List.forall_mem_cons, List.forall_mem_nil, nthO_succ, nthO_zero]
        refine ⟨?_, fun _ h => by cases h⟩
        have hz1 := HAL.out.2.2.1.size
        refine Kd.R_append_rows kh (w0 := w) (Rr := fun x cs => cs = [hdv x]) w.heap.size rfl (.tmp 27) (.tmp 41) 28 26 (.slice none 0 0) 24 rfl Tryd.underlying28 info26 rfl (by decide) (by decide) (.slice OA hs.length oc) hs [(A0, vn, c0)] (some ⟨gn, 0, none⟩) 1 1 (fun k => b + 3 ≤ k) (fun _ => False) rfl rfl HAL.out.2.2.1.row HAL.out.2.1 (fun _ _ h => h) (fun _ h => h.elim) (fun k hk => by omega) HAL.out.2.2.1.below HAL.out.2.2.1.below.size (by omega) ?_
        intro v1 u2 q1 q2 q3 q4
        obtain ⟨NA, nc, rfl⟩ := Kd.R_slice q1
        have HJ := Lib.hid (HAL.out.2.2.1.app HON.out HSU.out q1 q2 q3 HB.out)
        obtain ⟨hs', hh'⟩ : ∃ h', hs ++ [(A0, vn, c0)] = h' := ⟨_, rfl⟩
        rw [hh'] at HJ ⊢
        have hS2 := HAL.out.2.2.2.grown q3 (fun k hk _ => by have := HAL.out.2.2.1.row.1 k hk; omega)
        have HS2 := Lib.hid hS2; clear q1 q2 q3 q4 hS2 hz1 hh'
        refine ⟨⟨⟨_, HS2.out⟩, rfl⟩, ?_⟩
        refine any_stepS [17] (by kernel_rfl) ?_
        simp only [List.forall_mem_cons, List.forall_mem_nil, nthO_succ, nthO_zero]
        refine ⟨?_, fun _ h => by cases h⟩
        go_wp2_with fail
        refine ⟨⟨⟨_, HS2.out⟩, rfl⟩, ?_⟩
        refine any_stepS [18] (by kernel_rfl) ?_
        simp only [List.forall_mem_cons, List.forall_mem_nil, nthO_succ, nthO_zero]
        refine ⟨?_, fun _ h => by cases h⟩
        have t1 := cell_of (o := 1) HJ.out.2 rfl
        have z1 := frozen_of (o := 1) HJ.out.2
        go_wp2_with fail
        refine ⟨⟨⟨_, HS2.out.setCell _ _ (fun _ => by show b + 2 ≤ b + 2; omega)⟩, rfl⟩, wpAnyH_done (by kernel_rfl) ?_ _⟩
        go_wp2_with fail
        go_roundw
        case rel => exact ⟨k + 1, _, _, by omega, by omega, by go_num, Lib.hid HJ.out.1⟩
        case measure => simp [intOf]; omega
    · have hq : ((k : Int) < (ws.length : Int) ∧ ¬ (k : Int) < 3) ∨ ¬ (k : Int) < (ws.length : Int) := by omega
      have hfn : (ws.take k).map (List.take 5) = shortW ws := by
        unfold shortW
        rcases hq with h | h
        · obtain rfl : k = 3 := by omega
          rfl
        · obtain rfl : k = ws.length := by omega
          rw [List.take_length, List.take_of_length_le (by omega)]
      have HF := Lib.hid (show Hds w hs (shortW ws) by rw [← hfn]; exact HI.out.hds); clear hfn
      have d0 := cell_of (o := 0) HI.out.b2 rfl
      have d1 := cell_of (o := 1) HI.out.b2 rfl
      have d2 := cell_of (o := 2) HI.out.b2 rfl
      have r0 := cell_of (o := 0) HI.out.b1 rfl
      have r1 := cell_of (o := 1) HI.out.b1 rfl
      have r2 := cell_of (o := 2) HI.out.b1 rfl
      have f0 := frozen_of (o := 0) HI.out.b1
      have f1 := frozen_of (o := 1) HI.out.b1
      have f2 := frozen_of (o := 2) HI.out.b1
      rcases hq with ⟨h1, h2⟩ | h1
      all_goals
        go_wp2_with fail
        refine bodyPost_ret (v := .agg #[.int .i64 n, .slice OA hs.length oc, .slice CA qn cc]) ?_ rfl (by have h := sh_end HI.out HF.out HO.out HQN.out HB.out (.int .i64 n) (.slice OA hs.length oc) (.slice CA qn cc); rw [List.length_take] at h; exact h)
        have hh := set3 (y0 := .int .i64 n) (y1 := .slice OA hs.length oc) (y2 := .slice CA qn cc) HI.out.b1
        have e0 := cell_of (o := 0) hh rfl
        have e1 := cell_of (o := 1) hh rfl
        have e2 := cell_of (o := 2) hh rfl
        simp [results, Tryd.results28, go_sem, e0, e1, e2]
end Go.Proofs.YticngcjfofcoiaaDoor

namespace Go.Proofs.YticngcjfofcoiaaDoor
open Go.ChangeShapes Go.WideShapes Go.ChangeAt Go.RowKit Go.Proofs.YticngcjfofcoiaaDoorW.PrintWords
set_option linter.unusedVariables false
set_option linter.unusedSimpArgs false
set_option maxRecDepth 100000

theorem list_of {α : Type} {P : Nat → α → Prop} : ∀ (n : Nat), (∀ i, i < n → ∃ x, P i x) → ∃ xs : List α, xs.length = n ∧ ∀ i x, xs[i]? = some x → P i x
  | 0, _ => ⟨[], rfl, fun i x h => by simp at h⟩
  | n + 1, h => by
    obtain ⟨xs, hl, hx⟩ := list_of n (fun i hi => h i (by omega))
    obtain ⟨y, hy⟩ := h n (by omega)
    refine ⟨xs ++ [y], by simp [hl], fun i x hi => ?_⟩
    by_cases hin : i < xs.length
    · rw [List.getElem?_append_left hin] at hi
      exact hx i x hi
    · have : i < (xs ++ [y]).length := (List.getElem?_eq_some_iff.1 hi).1
      have e : i = n := by simp at this; omega
      subst e
      rw [List.getElem?_append_right (by omega), show i - xs.length = 0 by omega] at hi
      simp at hi
      subst hi
      exact hy
theorem cells26 : Tryd.prog.cellsOf 26 = 1 := by kernel_rfl
theorem cells28 : Tryd.prog.cellsOf 28 = 1 := by kernel_rfl
theorem cells30 : Tryd.prog.cellsOf 30 = 3 := by kernel_rfl
theorem cells35 : Tryd.prog.cellsOf 35 = 3 := by kernel_rfl
/-- A row, from a reading of its head. -/
theorem row_of_trod {H : Type} {enc : TypeId × Value → H} {W : World} {base : Nat} {sp : Nat → Bool} {held : Bool} {n : Nat} {cs : List Value} {x : DataW H × List MemPlace} (h : DataW.trod enc Tryd.prog W base sp held n 26 cs = some x) :
    ∃ A c xs, cs = [.slice A (xs : List Int).length c] ∧ xs.length ≤ c ∧ (Kd.int .i64).C W A xs.length xs := by
  rcases DataW.trod_slice Tryd.underlying26 h with ⟨hcs, _⟩ | ⟨a, l, c, elems, rest, n, _, hcs, _, _, hl, hm, hlen, hel, _, _⟩
  · exact ⟨none, 0, [], hcs, Nat.le_refl _, ⟨rfl, by decide, fun h => absurd h (Nat.lt_irrefl _)⟩⟩
  · obtain ⟨xs, hxl, hx⟩ := list_of (P := fun i (y : Int) => W.cell? (a.add i) = some (.int .i64 y)) l (fun i hi => by
      have h1 := hel i hi
      rw [cells3, List.getElem?_eq_getElem (by omega), Option.bind_eq_some_iff, Nat.mul_one] at h1
      obtain ⟨ds, hds, ht⟩ := h1
      obtain ⟨y, rfl, _, _⟩ := DataW.trod_int Tryd.underlying3 ht
      obtain ⟨_, _, hcc⟩ := World.cells?_some hds
      have := hcc 0 (by decide)
      exact ⟨y, by simpa [Addr.add] using this⟩)
    subst hxl
    refine ⟨some a, c, xs, hcs, hl, rfl, by unfold maxLen at hm; omega, fun _ => ⟨a, rfl, fun j q hj => ⟨[.int .i64 q], rfl, rfl, fun i u hi => ?_⟩⟩⟩
    cases i with
    | zero =>
      simp only [List.getElem?_cons_zero, Option.some.injEq] at hi
      subst hi
      have hsz : (Kd.int .i64).sz = 1 := rfl
      rw [hsz, Nat.mul_one, Nat.add_zero]
      exact hx j q hj
    | succ i => simp at hi
theorem addr_add_add (a : Addr) (m n : Nat) : (a.add m).add n = a.add (m + n) := by
  obtain ⟨b, o, sp⟩ := a
  unfold Addr.add
  by_cases hm : m = 0
  · subst hm; simp
  · by_cases hn : n = 0
    · subst hn; simp
    · simp [hm, hn, Nat.add_assoc]
/-- Rows of rows, from a reading of the head. -/
theorem rows_of_trod {H : Type} {enc : TypeId × Value → H} {W : World} {base : Nat} {sp : Nat → Bool} {held : Bool} {n : Nat} {cs : List Value} {x : DataW H × List MemPlace} (h : DataW.trod enc Tryd.prog W base sp held n 28 cs = some x) :
    ∃ A c xs, cs = [.slice A (xs : List (List Int)).length c] ∧ xs.length ≤ c ∧ (Kd.slice 3 (Kd.int .i64)).C W A xs.length xs := by
  rcases DataW.trod_slice Tryd.underlying28 h with ⟨hcs, _⟩ | ⟨a, l, c, elems, rest, n, _, hcs, _, _, hl, hm, hlen, hel, _, _⟩
  · exact ⟨none, 0, [], hcs, Nat.le_refl _, ⟨rfl, by decide, fun h => absurd h (Nat.lt_irrefl _)⟩⟩
  · obtain ⟨xs, hxl, hx⟩ := list_of (P := fun i (y : List Int) => ∃ A c, W.cell? (a.add i) = some (.slice A y.length c) ∧ y.length ≤ c ∧ (Kd.int .i64).C W A y.length y) l (fun i hi => by
      have h1 := hel i hi
      rw [cells26, List.getElem?_eq_getElem (by omega), Option.bind_eq_some_iff, Nat.mul_one] at h1
      obtain ⟨ds, hds, ht⟩ := h1
      obtain ⟨A, c, y, rfl, h2, h3⟩ := row_of_trod ht
      obtain ⟨_, _, hcc⟩ := World.cells?_some hds
      have := hcc 0 (by decide)
      exact ⟨y, A, c, by simpa [Addr.add] using this, h2, h3⟩)
    subst hxl
    refine ⟨some a, c, xs, hcs, hl, rfl, by unfold maxLen at hm; omega, fun _ => ⟨a, rfl, fun j q hj => ?_⟩⟩
    obtain ⟨B, e, h1, h2, h3⟩ := hx j q hj
    refine ⟨[.slice B q.length e], rfl, ⟨B, e, rfl, h2, h3⟩, fun i u hi => ?_⟩
    cases i with
    | zero =>
      simp only [List.getElem?_cons_zero, Option.some.injEq] at hi
      subst hi
      have hsz : (Kd.slice 3 (Kd.int .i64)).sz = 1 := rfl
      rw [hsz, Nat.mul_one, Nat.add_zero]
      exact h1
    | succ i => simp at hi
/-- A row of numbers. -/
theorem open_row26 {H : Type} {enc : TypeId × Value → H} {W : World} {base : Nat} {sp : Nat → Bool} {held : Bool} {r : Reach} {b0 : Nat} {v : Value} {d : DataW H} {p : List MemPlace} (hv : Value.okWide Tryd.prog W r b0 26 v) (h : DataW.Trod enc Tryd.prog W base sp held 26 v d p) :
    ∃ A c xs, v = .slice A (xs : List Int).length c ∧ xs.length ≤ c ∧ (Kd.int .i64).C W A xs.length xs := by
  obtain ⟨A, len, cap, rfl⟩ := okWide_slice Tryd.underlying26 hv
  obtain ⟨fuel, hf⟩ := h
  obtain ⟨A', c, xs, e, h2, h3⟩ := row_of_trod hf
  simp [Value.cells] at e
  obtain ⟨rfl, rfl, rfl⟩ := e
  exact ⟨_, _, xs, rfl, h2, h3⟩
/-- A slice of sources. -/
theorem open_row24 {H : Type} {enc : TypeId × Value → H} {W : World} {base : Nat} {sp : Nat → Bool} {held : Bool} {r : Reach} {b0 : Nat} {v : Value} {d : DataW H} {p : List MemPlace} (hv : Value.okWide Tryd.prog W r b0 24 v) (h : DataW.Trod enc Tryd.prog W base sp held 24 v d p) :
    ∃ A c l, v = .slice A (l : List Src).length c ∧ l.length ≤ c ∧ Kd.C kS W A l.length l := by
  obtain ⟨A, len, cap, rfl⟩ := okWide_slice Tryd.underlying24 hv
  obtain ⟨fuel, hf⟩ := h
  rcases DataW.trod_slice Tryd.underlying24 hf with ⟨hcs, _⟩ | ⟨a, l, c, elems, rest, n, _, hcs, _, _, hl, hm, hlen, hel, _, _⟩
  · simp [Value.cells] at hcs
    obtain ⟨rfl, rfl, rfl⟩ := hcs
    exact ⟨none, 0, [], rfl, Nat.le_refl _, rfl, by decide, fun h => absurd h (Nat.lt_irrefl _)⟩
  · simp [Value.cells] at hcs
    obtain ⟨rfl, rfl, rfl⟩ := hcs
    obtain ⟨xs, hxl, hx⟩ := list_of (P := fun i (y : Src) => ∃ FA fc, (∀ j u, [Value.int .i64 y.id, .int .i64 y.kind, .slice FA y.frm.length fc][j]? = some u → W.cell? (a.add (i * 3 + j)) = some u) ∧ y.frm.length ≤ fc ∧ (Kd.int .i64).C W FA y.frm.length y.frm) len (fun i hi => by
      have h1 := hel i hi
      rw [cells35, List.getElem?_eq_getElem (by omega), Option.bind_eq_some_iff] at h1
      obtain ⟨ds, hds, ht⟩ := h1
      obtain ⟨_, hdl, hcc⟩ := World.cells?_some hds
      obtain ⟨ys, m, _, _, _, hyl, hye⟩ := DataW.trod_struct Tryd.underlying35 ht
      match ds, hdl, hcc, hye with
      | [c0, c1, c2], _, hcc, hye =>
        have one : ∀ (u : Value) (o : Option (DataW H × List MemPlace)), DataW.trod enc Tryd.prog W base sp held m 3 [u] = o → (∃ z, o = some z) → ∃ x, u = .int .i64 x := by
          rintro u _ ht ⟨z, rfl⟩
          obtain ⟨x, e, _, hw⟩ := DataW.trod_int Tryd.underlying3 ht
          simp at e
          exact ⟨x, e⟩
        have get : ∀ j, j < 3 → ∃ z, ys[j]? = some z := fun j hj => ⟨_, List.getElem?_eq_getElem (by rw [hyl]; exact hj)⟩
        obtain ⟨x0, rfl⟩ := one c0 _ (by have g := hye 0 _ rfl; erw [cells3] at g; exact g) (get 0 (by decide))
        obtain ⟨x1, rfl⟩ := one c1 _ (by have g := hye 1 _ rfl; erw [cells3] at g; exact g) (get 1 (by decide))
        obtain ⟨z2, hz2⟩ := get 2 (by decide)
        have g2 : DataW.trod enc Tryd.prog W base sp held m 26 [c2] = some z2 := by
          have g := hye 2 _ rfl
          erw [cells26] at g
          rw [hz2] at g
          exact g
        obtain ⟨FA, fc, fr, e, hfc, hfr⟩ := row_of_trod g2
        simp at e
        subst e
        refine ⟨⟨x0, x1, fr⟩, FA, fc, fun j u hj => ?_, hfc, hfr⟩
        have hj3 : j < 3 := (List.getElem?_eq_some_iff.1 hj).1
        have := hcc j hj3
        rw [hj] at this
        rw [← this]
        congr 1
        exact (addr_add_add a (i * 3) j).symm)
    subst hxl
    refine ⟨some a, cap, xs, rfl, hl, rfl, by unfold maxLen at hm; omega, fun _ => ⟨a, rfl, fun j q hj => ?_⟩⟩
    obtain ⟨FA, fc, h1, h2, h3⟩ := hx j q hj
    exact ⟨[.int .i64 q.id, .int .i64 q.kind, .slice FA q.frm.length fc], rfl, kS_mk (x := q) h2 h3, fun i u hi => h1 i u hi⟩
/-- A support. -/
theorem open_sup {H : Type} {enc : TypeId × Value → H} {W : World} {base : Nat} {sp : Nat → Bool} {held : Bool} {r : Reach} {b0 : Nat} {v : Value} {d : DataW H} {p : List MemPlace} (hv : Value.okWide Tryd.prog W r b0 30 v) (h : DataW.Trod enc Tryd.prog W base sp held 30 v d p) :
    ∃ n WA wc ws CA cc cs, v = .agg #[.int .i64 n, .slice WA (ws : List (List Int)).length wc, .slice CA (cs : List Int).length cc] ∧ OddAt WA wc ws CA cc cs W := by
  have hc : ∃ cs, v = .agg cs ∧ cs.size = Tryd.prog.cellsOf 30 := by
    unfold Value.okWide at hv
    rw [Tryd.underlying30] at hv
    obtain ⟨cs, h1, h2, _⟩ := hv
    exact ⟨cs, h1, h2⟩
  obtain ⟨cs, rfl, hsz⟩ := hc
  rw [cells30] at hsz
  obtain ⟨l⟩ := cs
  obtain ⟨fuel, hf⟩ := h
  obtain ⟨ys, m, _, _, _, hyl, hye⟩ := DataW.trod_struct Tryd.underlying30 hf
  match l, hsz, hye with
  | [c0, c1, c2], _, hye =>
    have get : ∀ j, j < 3 → ∃ z, ys[j]? = some z := fun j hj => ⟨_, List.getElem?_eq_getElem (by rw [hyl]; exact hj)⟩
    obtain ⟨z0, hz0⟩ := get 0 (by decide)
    have g0 : DataW.trod enc Tryd.prog W base sp held m 3 [c0] = some z0 := by
      have g := hye 0 _ rfl
      erw [cells3] at g
      rw [hz0] at g
      exact g
    obtain ⟨x0, e0, _, _⟩ := DataW.trod_int Tryd.underlying3 g0
    obtain ⟨z1, hz1⟩ := get 1 (by decide)
    have g1 : DataW.trod enc Tryd.prog W base sp held m 28 [c1] = some z1 := by
      have g := hye 1 _ rfl
      erw [cells28] at g
      rw [hz1] at g
      exact g
    obtain ⟨WA, wc, ws, e1, hw1, hw2⟩ := rows_of_trod g1
    obtain ⟨z2, hz2⟩ := get 2 (by decide)
    have g2 : DataW.trod enc Tryd.prog W base sp held m 26 [c2] = some z2 := by
      have g := hye 2 _ rfl
      erw [cells26] at g
      rw [hz2] at g
      exact g
    obtain ⟨CA, cc, cs, e2, hc1, hc2⟩ := row_of_trod g2
    simp at e0 e1 e2
    subst e0
    subst e1
    subst e2
    exact ⟨x0, WA, wc, ws, CA, cc, cs, rfl, hw2, hc2, hw1, hc1⟩
end Go.Proofs.YticngcjfofcoiaaDoor

namespace Go.Proofs.YticngcjfofcoiaaDoor
open Go.RowKit Go.Rg Go.Proofs.YticngcjfofcoiaaDoorW.PrintWords
set_option linter.unusedVariables false
set_option linter.unusedSimpArgs false
set_option maxRecDepth 100000
theorem check_call {A : Option Addr} {c : Nat} {l : List Src} {B : Option Addr} {d : Nat} {xs : List Int} {n : Int} {WA : Option Addr} {wc : Nat} {ws : List (List Int)} {CA : Option Addr} {cc : Nat} {cs : List Int} {w : World} (hs : SrcAt A c l w) (hi : IntAt B d xs w) (hT : Tab w) (ho : OddAt WA wc ws CA cc cs w) :
    Calls Tryd.prog 29 #[.slice A l.length c, .slice B xs.length d, .agg #[.int .i64 n, .slice WA ws.length wc, .slice CA cs.length cc]] w fun e w' => e = .returned (.bool (checkB l xs n ws cs)) ∧ Below w.heap.size w w' :=
  check_any A c l B d xs n WA wc ws CA cc cs w hs.rl hs.short hi.rx ho.rows ho.cut hT
theorem SupIs.odd {l : List Src} {xs : List Int} {n : Nat} {WA : Option Addr} {wc : Nat} {CA : Option Addr} {cc : Nat} {w : World} (hw : n ≤ wc) (h : SupIs l xs 0 n WA wc CA cc w) : OddAt WA wc (toI (waysS l xs 0)) CA cc ((cutS l xs 0).map Int.ofNat) w := by
  have e1 := h.len1
  have e2 := h.len2
  exact ⟨by rw [e1]; exact h.rows, by rw [e2]; exact h.cut, by omega, by rw [e2]; exact h.le⟩
theorem check_sup {A : Option Addr} {c : Nat} {l : List Src} {B : Option Addr} {d : Nat} {xs : List Int} {n : Nat} {WA : Option Addr} {wc : Nat} {CA : Option Addr} {cc : Nat} {w : World} (hs : SrcAt A c l w) (hi : IntAt B d xs w) (hT : Tab w) (h : SupIs l xs 0 n WA wc CA cc w) (hg : givenB l xs = true) :
    Calls Tryd.prog 29 #[.slice A l.length c, .slice B xs.length d, .agg #[.int .i64 n, .slice WA n wc, .slice CA n cc]] w fun e w' => e = .returned (.bool true) ∧ Below w.heap.size w w' := by
  have e1 := h.len1
  have e2 := h.len2
  have := check_any A c l B d xs (n : Int) WA wc (toI (waysS l xs 0)) CA cc ((cutS l xs 0).map Int.ofNat) w hs.rl hs.short hi.rx (by rw [e1]; exact h.rows) (by rw [e2]; exact h.cut) hT
  rw [e1, e2, h.num, check_yes hg, ← h.num] at this
  exact this
theorem sup_callW {A : Option Addr} {c : Nat} {l : List Src} {B : Option Addr} {d : Nat} {xs : List Int} {w : World} (hs : SrcAt A c l w) (hi : IntAt B d xs w) (hT : Tab w) (hg : givenB l xs = true) :
    Calls Tryd.prog 13 #[.slice A l.length c, .slice B xs.length d] w fun e w' => ∃ (n : Nat) (WA : Option Addr) (wc : Nat) (CA : Option Addr) (cc : Nat), e = .returned (.tuple #[.agg #[.int .i64 n, .slice WA n wc, .slice CA n cc], .int .i64 0]) ∧ Hid ((SupIs l xs 0 n WA wc CA cc w' ∧ n ≤ wc) ∧ Below w.heap.size w w') := by
  refine (Support_any A c l B d xs w hs.rl hs.short hi.rx hT).mono ?_
  rintro e w' ⟨wv, cv, rfl, h1, h2, hb⟩
  obtain ⟨WA, wc, rfl, hlw, hw⟩ := Kd.R_reads h1
  obtain ⟨CA, cc, rfl, hl, hc⟩ := Kd.R_reads h2
  have hn := given_len (wo := 0) hg
  have e1 : (toI (waysS l xs 0)).length = cntS l xs 0 := by rw [toI_len]; exact hn.1
  have e2 : ((cutS l xs 0).map Int.ofNat).length = cntS l xs 0 := by rw [List.length_map]; exact hn.2
  rw [e1] at hw hlw
  rw [e2] at hc hl
  rw [e1, e2, given_err hg]
  exact ⟨_, WA, wc, CA, cc, rfl, Lib.hid ⟨⟨⟨rfl, hw, hc, hl⟩, hlw⟩, hb⟩⟩
theorem C_dropV {α : Type} {d : Kd α} {w : World} {A : Option Addr} {c : Nat} {xs : List α} (h : d.C w A xs.length xs) (hs : d.sz = 1) {k : Nat} (hk : k + 1 ≤ xs.length) (hc : xs.length ≤ c) : d.C w (if c = k + 1 then A else Option.map (fun x => (⟨x.block, x.off + (k + 1), none⟩ : Addr)) A) (xs.length - (k + 1)) (xs.drop (k + 1)) := by
  have h1 := Kd.C_drop h hk hc
  rw [hs, Nat.mul_one, List.length_drop] at h1
  have e : A.map (fun x : Addr => x.add (k + 1)) = Option.map (fun x => (⟨x.block, x.off + (k + 1), none⟩ : Addr)) A := by
    cases A with
    | none => rfl
    | some a => simp [Addr.add]
  rw [e] at h1
  exact h1
theorem C_takeV {α : Type} {d : Kd α} {w : World} {A : Option Addr} {xs : List α} (h : d.C w A xs.length xs) {k : Nat} (hk : k ≤ xs.length) : d.C w A k (xs.take k) := by
  have h1 := Kd.C_take h hk
  have e : (xs.take k).length = k := by rw [List.length_take]; omega
  rw [e] at h1
  exact h1
theorem cut_small {l : List Src} {xs : List Int} (hg : givenB l xs = true) : (cutS l xs 0).length ≤ 12 := by
  rw [cut_eq hg]
  unfold Flow.firstL
  refine Nat.le_trans (List.length_filter_le ..) ?_
  rw [List.length_range]
  exact Nat.le_refl 12
theorem ilit0 (W : World) : Below W.heap.size W (W.alloc (.cells #[] 3)) := (Below.refl _ _).alloc (Nat.le_refl _) _
theorem empty_rowI {W : World} {g base : Nat} (hz : W.heap.size = g) (hb : base ≤ g) : (Kd.int .i64).R 3 (W.alloc (.cells #[] 3)) base (fun k => g ≤ k) (.slice (some ⟨g, 0, none⟩) 0 0) [] := empty_row hz hb (Nat.le_refl _)
theorem wlit (W : World) : Below W.heap.size W (W.alloc (.cells #[] 26)) := (Below.refl _ _).alloc (Nat.le_refl _) _
theorem empty_rowH {W : World} {g base : Nat} (hz : W.heap.size = g) (hb : base ≤ g) : kh.R 26 (W.alloc (.cells #[] 26)) base (fun k => g ≤ k) (.slice (some ⟨g, 0, none⟩) 0 0) [] := by
  subst hz
  exact ⟨fun k hk => by simp [Value.ownBlock] at hk; omega, OwnRow.lit (inner := []) (ps := []) W base ⟨by simp, fun j p hj => by simp at hj⟩ hb (by simp)⟩
set_option maxHeartbeats 8000000 in
theorem Certified_walk (XA : Option Addr) (xc : Nat) (x : List (Int × Int × Int)) (set n0 : Int) (WO : Option Addr) (wo : Nat) (ws : List (List Int)) (CO : Option Addr) (co : Nat) (cs : List Int) (which : Int) (w : World) (hx : Kd.C k3 w XA x.length x) (hT : Tab w) (ho : OddAt WO wo ws CO co cs w) (hwh : (Lit.int .i64 which).wf = true) :
    Calls Tryd.prog 6 #[.slice XA x.length xc, .int .i64 set, .agg #[.int .i64 n0, .slice WO ws.length wo, .slice CO cs.length co], .int .i64 which] w fun e w' => e = .returned (.bool true) ∧ Below w.heap.size w w' := by
  have HWH := Lib.hid hwh; clear hwh
  obtain ⟨gb, hgb⟩ : ∃ b, w.heap.size = b := ⟨_, rfl⟩
  have hb0 := (Below.refl w.heap.size w).alloc (Nat.le_refl _) (.cells #[.int .i64 n0, .slice WO ws.length wo, .slice CO cs.length co] 30)
  have hk0 := heap_new (W := w) (o := .cells #[.int .i64 n0, .slice WO ws.length wo, .slice CO cs.length co] 30) hgb
  obtain ⟨w0, hw0⟩ : ∃ W, w.alloc (.cells #[.int .i64 n0, .slice WO ws.length wo, .slice CO cs.length co] 30) = W := ⟨_, rfl⟩
  rw [hw0] at hb0 hk0
  have HIN := Lib.hid (And.intro (Kd.C_below hx hb0) (hT.next hb0 hT.pos))
  have HOD := Lib.hid (ho.next hb0)
  have HBX := Lib.hid (BlkAt.mk hk0)
  have HB0 := Lib.hid hb0; clear hx hT ho hb0 hk0
  go_enter Tryd.func6, Tryd.ntmps6
  go_wp2_with fail
  clear hw0 hgb
  refine (sane_any w0 HIN.out.2).mono ?_
  rintro e w1 ⟨rfl, hb⟩
  have HB := Lib.hid hb; clear hb
  go_wp2_with fail
  refine (made_call XA xc x w1 (Kd.C_below HIN.out.1 HB.out)).mono ?_
  rintro e w2 ⟨A, c, l, rfl, HM⟩
  have HB2 := Lib.hid (HB.out.trans (HM.out.2.2.2.mono HB.out.size)); clear HB
  have HL := Lib.hid (And.intro HM.out.2.1 HM.out.2.2.1)
  have HS := Lib.hid HM.out.1; clear HM
  go_wp2_with fail
  refine (chosen_call l.length (by have := HL.out.2; omega) set w2).mono ?_
  rintro e w3 ⟨B, d, xs, rfl, HC⟩
  have HC2 := Lib.hid HC.out.2.1
  have HB3 := Lib.hid (HB2.out.trans (HC.out.2.2.2.mono HB2.out.size))
  have HX := Lib.hid (HX.mk (HB0.out.trans (HB3.out.mono HB0.out.size)) (HIN.out.2.next HB3.out HIN.out.2.pos) (HS.out.next HC.out.2.2.2) HC.out.1)
  have H_ := Lib.hid (HOD.out.next HB3.out); clear HOD; have HOD := H_; clear H_
  have H_ := Lib.hid (HBX.out.next HB3.out); clear HBX; have HBX := H_; clear H_
  clear HB2 HB3 HS HC HIN HB0
  have HG := Lib.hid (made_given HL.out.1 HL.out.2 HC2.out)
  go_wp2_with fail
  refine (sup_callW HX.out.src HX.out.int HX.out.tab HG.out).mono ?_
  rintro e w4 ⟨n1, Wn1, wcn1, Cn1, ccn1, rfl, HQ⟩
  have HB := Lib.hid HQ.out.2
  have HWC := Lib.hid HQ.out.1.2
  have H1 := Lib.hid HQ.out.1.1; clear HQ
  have H_ := Lib.hid (HX.out.next HB.out); clear HX; have HX := H_; clear H_
  have H_ := Lib.hid (HOD.out.next HB.out); clear HOD; have HOD := H_; clear H_
  have H_ := Lib.hid (HBX.out.next HB.out); clear HBX; have HBX := H_; clear H_
  clear HB
  obtain ⟨b11, hb11⟩ : ∃ b, w4.heap.size = b := ⟨_, rfl⟩
  have hbx := box_new (W := w4) n1 Wn1 wcn1 Cn1 ccn1 hb11
  obtain ⟨w5, hw5⟩ : ∃ W2, w4.alloc (.cells #[.int .i64 n1, .slice Wn1 n1 wcn1, .slice Cn1 n1 ccn1] 30) = W2 := ⟨_, rfl⟩
  rw [hw5] at hbx
  have HB := Lib.hid hbx.1
  have Hb11 := Lib.hid (BlkAt.mk hbx.2); clear hbx
  have H_ := Lib.hid (HX.out.next HB.out); clear HX; have HX := H_; clear H_
  have H_ := Lib.hid (HOD.out.next HB.out); clear HOD; have HOD := H_; clear H_
  have H_ := Lib.hid (HBX.out.next HB.out); clear HBX; have HBX := H_; clear H_
  have H_ := Lib.hid (H1.out.next HB.out); clear H1; have H1 := H_; clear H_
  clear HB
  have k0 := cell_of (o := 0) Hb11.out.at_ rfl
  have k1 := cell_of (o := 1) Hb11.out.at_ rfl
  have k2 := cell_of (o := 2) Hb11.out.at_ rfl
  have HCK := Lib.hid (check_sup HX.out.src HX.out.int HX.out.tab H1.out HG.out)
  go_wp2_with fail
  refine HCK.out.mono ?_
  rintro e w6 ⟨rfl, hb⟩
  have HB := Lib.hid hb; clear hb k0 k1 k2 HCK
  have H_ := Lib.hid (HX.out.next HB.out); clear HX; have HX := H_; clear H_
  have H_ := Lib.hid (HOD.out.next HB.out); clear HOD; have HOD := H_; clear H_
  have H_ := Lib.hid (HBX.out.next HB.out); clear HBX; have HBX := H_; clear H_
  have H_ := Lib.hid (H1.out.next HB.out); clear H1; have H1 := H_; clear H_
  have H_ := Lib.hid (Hb11.out.next HB.out); clear Hb11; have Hb11 := H_; clear H_
  clear HB
  have k0 := cell_of (o := 0) Hb11.out.at_ rfl
  have k1 := cell_of (o := 1) Hb11.out.at_ rfl
  have k2 := cell_of (o := 2) Hb11.out.at_ rfl
  obtain ⟨b13, hb13⟩ : ∃ b, w6.heap.size = b := ⟨_, rfl⟩
  have hbx := box_new (W := w6) n1 Wn1 wcn1 Cn1 ccn1 hb13
  obtain ⟨w7, hw7⟩ : ∃ W2, w6.alloc (.cells #[.int .i64 n1, .slice Wn1 n1 wcn1, .slice Cn1 n1 ccn1] 30) = W2 := ⟨_, rfl⟩
  rw [hw7] at hbx
  have HB6 := Lib.hid hbx.1
  have HT13 := Lib.hid hbx.2; clear hbx
  have HWF := Lib.hid (show (w6.heap.size = b13) from hb13)
  have q0 := cell_of (o := 0) (Hb11.out.next HB6.out).at_ rfl
  by_cases hn0 : n1 = 0
  · have hd : decide (0 < n1) = false := decide_eq_false (by omega)
    clear hn0
    go_wp2_with fail

    have HB9 := Lib.hid HB6.out
    have hOL : ∃ (wz : List (List Int)) (cz : List Int), n1 = wz.length ∧ n1 = cz.length ∧ OddAt Wn1 wcn1 wz Cn1 ccn1 cz w7 := ⟨_, _, H1.out.len1.symm, H1.out.len2.symm, (SupIs.odd HWC.out H1.out).next HB6.out⟩
    obtain ⟨wz, cz, hwz1, hcz1, hOL⟩ := hOL
    have HOL := Lib.hid hOL; clear hOL
    obtain ⟨nl, hnl⟩ : ∃ n : Int, (n1 : Int) = n := ⟨_, rfl⟩
    have HT1 := Lib.hid (show w7.heap[b13]? = some (.cells #[.int .i64 nl, .slice Wn1 wz.length wcn1, .slice Cn1 cz.length ccn1] 30) by rw [← hwz1, ← hcz1, ← hnl]; exact HT13.out)
    clear hwz1 hcz1 hnl q0 k0 k1 k2 hd hb13 hw7
    have HOD9 := Lib.hid (HOD.out.next HB9.out)
    have c0 := cell_extB (B := fun _ => False) (cell_of (o := 0) (HBX.out.next HB9.out).at_ rfl) (fun h => h)
    have c1 := cell_extB (B := fun _ => False) (cell_of (o := 1) (HBX.out.next HB9.out).at_ rfl) (fun h => h)
    have c2 := cell_extB (B := fun _ => False) (cell_of (o := 2) (HBX.out.next HB9.out).at_ rfl) (fun h => h)
    have d0 := cell_extB (B := fun _ => False) (cell_of (o := 0) HT1.out rfl) (fun h => h)
    have d1 := cell_extB (B := fun _ => False) (cell_of (o := 1) HT1.out rfl) (fun h => h)
    have d2 := cell_extB (B := fun _ => False) (cell_of (o := 2) HT1.out rfl) (fun h => h)
    refine region_seqP (fun _ => False) [([0, 2, 5], 1), ([], 3)] [4] (by kernel_rfl) (by kernel_rfl) (fun _ _ d _ _ h => by cases d <;> exact h) (fun ⟨_, _, h⟩ => by rcases h with ⟨h, _⟩; cases h) ?_
    simp only [seqQ, pick_cons, pick_nil, nthO_succ, nthO_zero]
    have HS0 := Lib.hid (show Fr (fun _ => False) w7 { w7 with drawn := w7.drawn + 1 } from (Fr.refl _ _).drew)
    have HBD := Lib.hid (show Below w7.heap.size w7 { w7 with drawn := w7.drawn + 1 } from (Below.refl _ _).drew)
    obtain ⟨wp, hwd⟩ : ∃ wd, { w7 with drawn := w7.drawn + 1 } = wd := ⟨_, rfl⟩
    rw [hwd] at HS0 HBD ⊢
    clear hwd
    repeat (go_big_quiet_step (fail))
    refine wpQuiet_nil ?_
    clear c0 c1 c2 d0 d1 d2
    go_wp2_with fail
    refine (short_any n0 WO wo ws CO co cs wp (HOD9.out.next HBD.out)).mono ?_
    rintro e wq ⟨OA, oc, rfl, HSH⟩
    have HS1 := Lib.hid (HS0.out.call HSH.out.2)
    have HB1 := Lib.hid (HBD.out.trans (HSH.out.2.mono HBD.out.size))
    have HO1 := Lib.hid HSH.out.1; clear HSH HS0 HBD
    obtain ⟨sw, hsw⟩ : ∃ s, shortW ws = s := ⟨_, rfl⟩
    obtain ⟨sc, hsc⟩ : ∃ s, cs.take 4 = s := ⟨_, rfl⟩
    rw [hsw, hsc] at HO1 ⊢
    clear hsw hsc
    go_wp2_with fail
    refine ⟨⟨⟨_, HS1.out⟩, rfl⟩, ?_⟩
    refine wpQuiet_nil ?_
    obtain ⟨gy, hgy⟩ : ∃ g, wq.heap.size = g := ⟨_, rfl⟩
    have hAl := (Below.refl wq.heap.size wq).alloc (Nat.le_refl _) (.cells #[.int .i64 n0, .slice OA sw.length oc, .slice CO sc.length co, .int .i64 nl, .slice Wn1 wz.length wcn1, .slice Cn1 cz.length ccn1] 30)
    have hNew := heap_new (W := wq) (o := .cells #[.int .i64 n0, .slice OA sw.length oc, .slice CO sc.length co, .int .i64 nl, .slice Wn1 wz.length wcn1, .slice Cn1 cz.length ccn1] 30) hgy
    have hS2 := HS1.out.alloc (.cells #[.int .i64 n0, .slice OA sw.length oc, .slice CO sc.length co, .int .i64 nl, .slice Wn1 wz.length wcn1, .slice Cn1 cz.length ccn1] 30)
    obtain ⟨wr0, hwr0⟩ : ∃ W, wq.alloc (.cells #[.int .i64 n0, .slice OA sw.length oc, .slice CO sc.length co, .int .i64 nl, .slice Wn1 wz.length wcn1, .slice Cn1 cz.length ccn1] 30) = W := ⟨_, rfl⟩
    rw [hwr0] at hAl hNew hS2
    have HNW := Lib.hid (BlkAt.mk hNew)
    have HOA := Lib.hid (HO1.out.next hAl)
    have HBA := Lib.hid (HB1.out.trans (hAl.mono HB1.out.size))
    have HOB := Lib.hid (HOL.out.next HBA.out)
    have HS2 := Lib.hid hS2; clear hAl hNew hS2 HO1 HB1 HS1
    go_wp2_with fail
    refine ⟨⟨⟨_, HS2.out⟩, rfl⟩, ?_⟩
    repeat (go_big_quiet_step (fail))
    refine wpQuiet_nil ?_
    clear hgy hwr0
    have HXR := Lib.hid (HX.out.next (HB9.out.trans (HBA.out.mono HB9.out.size)))
    have HBR := Lib.hid (Hb11.out.next (HB9.out.trans (HBA.out.mono HB9.out.size)))
    have H0 := Lib.hid (Below.refl wr0.heap.size wr0)
    go_wp2_with fail
    go_loopw [105] (fun iv wr => ∃ i : Nat, i ≤ 2 ∧ iv = .int .i64 i ∧ Hid (Below wr0.heap.size wr0 wr)) (fun iv wr => 2 - (intOf iv).toNat)
    case atStart => exact ⟨0, by omega, rfl, H0⟩
    case round =>
      clear H0
      obtain ⟨i, hi, rfl, HI⟩ := hrel
      by_cases hlt : i < 2
      · obtain rfl | rfl : i = 0 ∨ i = 1 := by omega
        · have c0 := cell_of (o := 0) (HNW.out.next HI.out).at_ rfl
          have c1 := cell_of (o := 1) (HNW.out.next HI.out).at_ rfl
          have c2 := cell_of (o := 2) (HNW.out.next HI.out).at_ rfl
          obtain ⟨b16, hb16⟩ : ∃ b, wr.heap.size = b := ⟨_, rfl⟩
          have hA := (Below.refl wr.heap.size wr).alloc (Nat.le_refl _) (.cells #[.int .i64 n0, .slice OA sw.length oc, .slice CO sc.length co] 30)
          have hN := heap_new (W := wr) (o := .cells #[.int .i64 n0, .slice OA sw.length oc, .slice CO sc.length co] 30) hb16
          obtain ⟨ws1, hws1⟩ : ∃ W, wr.alloc (.cells #[.int .i64 n0, .slice OA sw.length oc, .slice CO sc.length co] 30) = W := ⟨_, rfl⟩
          rw [hws1] at hA hN
          have HBS := Lib.hid (HI.out.trans (hA.mono HI.out.size))
          have HB16 := Lib.hid (BlkAt.mk hN); clear hA hN
          have m0 := cell_of (o := 0) HB16.out.at_ rfl
          have m1 := cell_of (o := 1) HB16.out.at_ rfl
          have m2 := cell_of (o := 2) HB16.out.at_ rfl
          have HCK := Lib.hid (check_call (n := n0) (HXR.out.next HBS.out).src (HXR.out.next HBS.out).int (HXR.out.next HBS.out).tab (HOA.out.next HBS.out))
          go_wp2_with fail
          refine HCK.out.mono ?_
          rintro e wt ⟨rfl, hb⟩
          have HBT := Lib.hid (HBS.out.trans (hb.mono HBS.out.size))
          have HB17 := Lib.hid (HB16.out.next hb); clear hb m0 m1 m2 c0 c1 c2 HCK hws1 hb16
          obtain ⟨cb, hcb⟩ : ∃ b, checkB l xs n0 sw sc = b := ⟨_, rfl⟩
          rw [hcb]
          cases cb with
          | false =>
            clear hcb
            go_wp2_with fail
            go_roundw
            case rel => exact ⟨1, by omega, by go_num, HBT⟩
            case measure => simp [intOf]
          | true =>
            have hcn : n0 = (n1 : Int) := by rw [H1.out.num]; exact check_count HG.out hcb
            have hne : (n0 != (n1 : Int)) = false := by rw [hcn]; simp
            have m0 := cell_of (o := 0) HB17.out.at_ rfl
            have q0 := cell_of (o := 0) (HBR.out.next HBT.out).at_ rfl
            clear hcb hcn
            go_wp2_with fail
            go_roundw
            case rel => exact ⟨1, by omega, by go_num, HBT⟩
            case measure => simp [intOf]
        · have c0 := cell_of (o := 3) (HNW.out.next HI.out).at_ rfl
          have c1 := cell_of (o := 4) (HNW.out.next HI.out).at_ rfl
          have c2 := cell_of (o := 5) (HNW.out.next HI.out).at_ rfl
          obtain ⟨b16, hb16⟩ : ∃ b, wr.heap.size = b := ⟨_, rfl⟩
          have hA := (Below.refl wr.heap.size wr).alloc (Nat.le_refl _) (.cells #[.int .i64 nl, .slice Wn1 wz.length wcn1, .slice Cn1 cz.length ccn1] 30)
          have hN := heap_new (W := wr) (o := .cells #[.int .i64 nl, .slice Wn1 wz.length wcn1, .slice Cn1 cz.length ccn1] 30) hb16
          obtain ⟨ws1, hws1⟩ : ∃ W, wr.alloc (.cells #[.int .i64 nl, .slice Wn1 wz.length wcn1, .slice Cn1 cz.length ccn1] 30) = W := ⟨_, rfl⟩
          rw [hws1] at hA hN
          have HBS := Lib.hid (HI.out.trans (hA.mono HI.out.size))
          have HB16 := Lib.hid (BlkAt.mk hN); clear hA hN
          have m0 := cell_of (o := 0) HB16.out.at_ rfl
          have m1 := cell_of (o := 1) HB16.out.at_ rfl
          have m2 := cell_of (o := 2) HB16.out.at_ rfl
          have HCK := Lib.hid (check_call (n := nl) (HXR.out.next HBS.out).src (HXR.out.next HBS.out).int (HXR.out.next HBS.out).tab (HOB.out.next HBS.out))
          go_wp2_with fail
          refine HCK.out.mono ?_
          rintro e wt ⟨rfl, hb⟩
          have HBT := Lib.hid (HBS.out.trans (hb.mono HBS.out.size))
          have HB17 := Lib.hid (HB16.out.next hb); clear hb m0 m1 m2 c0 c1 c2 HCK hws1 hb16
          obtain ⟨cb, hcb⟩ : ∃ b, checkB l xs nl wz cz = b := ⟨_, rfl⟩
          rw [hcb]
          cases cb with
          | false =>
            clear hcb
            go_wp2_with fail
            go_roundw
            case rel => exact ⟨2, by omega, by go_num, HBT⟩
            case measure => simp [intOf]
          | true =>
            have hcn : nl = (n1 : Int) := by rw [H1.out.num]; exact check_count HG.out hcb
            have hne : (nl != (n1 : Int)) = false := by rw [hcn]; simp
            have m0 := cell_of (o := 0) HB17.out.at_ rfl
            have q0 := cell_of (o := 0) (HBR.out.next HBT.out).at_ rfl
            clear hcb hcn
            go_wp2_with fail
            go_roundw
            case rel => exact ⟨2, by omega, by go_num, HBT⟩
            case measure => simp [intOf]
      · obtain rfl : i = 2 := by omega
        go_wp2_with fail
        go_ret
        exact ⟨rfl, (HXR.out.next HI.out).below⟩
  · have hd : decide (0 < n1) = true := decide_eq_true (by omega)
    have HN0 := Lib.hid (show 0 < n1 by omega); clear hn0
    go_wp2_with fail
    refine (pick_call which n1 HWH.out HN0.out w7).mono ?_
    rintro e w8 ⟨k, hk, rfl, rfl⟩
    have HK := Lib.hid hk
    have p0 := cell_of (o := 0) HT13.out rfl
    have p1 := frozen_of (o := 0) HT13.out
    have hwi : wrap64 ((n1 : Int) - 1) = ((n1 - 1 : Nat) : Int) := by have := HN0.out; have h2 : n1 ≤ 9223372036854775807 := H1.out.rows.2.1; unfold wrap64; omega
    have hT1 := heap_set (o := 0) (.int .i64 ((n1 - 1 : Nat) : Int)) HT13.out
    have hB8 := HB6.out.setCell (p := ⟨b13, 0, none⟩) (by have := HWF.out; show w6.heap.size ≤ b13; omega) (.int .i64 ((n1 - 1 : Nat) : Int))
    obtain ⟨w9, hw9⟩ : ∃ W, w8.setCell ⟨b13, 0, none⟩ (.int .i64 ((n1 - 1 : Nat) : Int)) = W := ⟨_, rfl⟩
    rw [hw9] at hT1 hB8
    have HT1 := Lib.hid (show w9.heap[b13]? = some (.cells #[.int .i64 ((n1 - 1 : Nat) : Int), .slice Wn1 n1 wcn1, .slice Cn1 n1 ccn1] 30) from hT1)
    have HB9 := Lib.hid hB8; clear hT1 hB8
    go_wp2_with fail
    clear p0 p1 hwi hw9 hd q0 hb13 hw7
    obtain ⟨hs, hHds, hCh⟩ := heads_of (xs := toI (waysS l xs 0)) (by rw [H1.out.len1]; exact H1.out.rows)
    rw [H1.out.len1] at hCh
    have HL12 := Lib.hid (show n1 ≤ 12 by have h := (given_len (wo := 0) HG.out).2; have h2 := cut_small HG.out; rw [H1.out.num]; omega)
    have HHD := Lib.hid (And.intro hHds (And.intro hCh (show hs.length = n1 from hCh.1))); clear hHds hCh

    have HBL := Lib.hid (show b11 < b13 by have h := (Array.getElem?_eq_some_iff.1 Hb11.out.at_).1; have := HWF.out; omega)
    have HCC := Lib.hid (And.intro H1.out.cut H1.out.cut.1)
    have k1' := cell_of (o := 1) (Hb11.out.next HB9.out).at_ rfl
    have e1 := cell_extB (B := fun k => b13 ≤ k) k1' (by show ¬ b13 ≤ b11; have := HBL.out; omega)
    have hk1 : k ≤ wcn1 := by have := HK.out; have := HWC.out; have := H1.out.le; omega
    have hk2 : k + 1 ≤ n1 := HK.out
    have hk3 : n1 ≤ wcn1 := by have := HWC.out; have := H1.out.le; omega
    have hk4 : n1 ≤ 9223372036854775807 := H1.out.rows.2.1
    refine region_seqP (fun k => b13 ≤ k) [([1, 2, 3, 4, 6, 7, 8, 9, 10], 0), ([], 5), ([], 11), ([], 12), ([], 13)] [] (by kernel_rfl) (by kernel_rfl) (fun _ _ d _ _ h => by cases d <;> exact h) (fun ⟨_, _, h⟩ => by rcases h with ⟨h, _⟩; cases h) ?_
    simp only [seqQ, pick_cons, pick_nil, nthO_succ, nthO_zero]
    have HS0 := Lib.hid (show Fr (fun k => b13 ≤ k) w9 { w9 with drawn := w9.drawn + 1 } from (Fr.refl _ _).drew)
    have HBD := Lib.hid (show Below w9.heap.size w9 { w9 with drawn := w9.drawn + 1 } from (Below.refl _ _).drew)
    obtain ⟨wd, hwd⟩ : ∃ wd, { w9 with drawn := w9.drawn + 1 } = wd := ⟨_, rfl⟩
    rw [hwd] at HS0 HBD ⊢
    clear hwd
    repeat (go_big_quiet_step (fail))
    refine wpQuiet_nil ?_
    have hHC := Kd.C_below (Kd.C_below HHD.out.2.1 HB9.out) HBD.out
    have hDr := C_dropV (c := wcn1) (by rw [HHD.out.2.2]; exact hHC) rfl (k := k) (by have := HHD.out.2.2; omega) (by have := HHD.out.2.2; omega)
    have hTk := C_takeV (by rw [HHD.out.2.2]; exact hHC) (k := k) (by have := HHD.out.2.2; omega)
    rw [HHD.out.2.2] at hDr
    have HTD := Lib.hid (And.intro hTk hDr); clear hHC hDr hTk
    generalize (if wcn1 = k + 1 then Wn1 else Option.map (fun x => (⟨x.block, x.off + (k + 1), none⟩ : Addr)) Wn1) = WD at HTD ⊢
    obtain ⟨g0, hg0⟩ : ∃ g, wd.heap.size = g := ⟨_, rfl⟩
    have HG0 := Lib.hid hg0
    have hAl := wlit wd
    have hE0 := empty_rowH (base := b13) hg0 (by have := (Array.getElem?_eq_some_iff.1 HT1.out).1; have := HBD.out.size; omega)
    have hS1 := HS0.out.alloc (.cells #[] 26)
    have hT2 := (HBD.out.block _ (Array.getElem?_eq_some_iff.1 HT1.out).1).trans HT1.out
    have hT3 := (hAl.block _ (Array.getElem?_eq_some_iff.1 hT2).1).trans hT2
    have hz1 : (wd.alloc (.cells #[] 26)).heap.size = g0 + 1 := by simp [hg0]
    obtain ⟨wa, hwa⟩ : ∃ W, wd.alloc (.cells #[] 26) = W := ⟨_, rfl⟩
    rw [hwa] at hAl hE0 hS1 hT3 hz1
    have hb0g : b13 < g0 := by have := (Array.getElem?_eq_some_iff.1 hT2).1; omega
    have HA := Lib.hid (And.intro hE0 (And.intro hS1 (And.intro hT3 (And.intro hz1 (And.intro (HB9.out.trans ((HBD.out.trans (hAl.mono HBD.out.size)).mono HB9.out.size)) (And.intro hb0g hAl))))))
    have HTD1 := Lib.hid (Kd.C_below HTD.out.1 hAl)
    clear hAl hE0 hS1 hT2 hT3 hz1 e1 k1' hk1 hk2 hk3 hk4 hb0g
    have HGF := Lib.hid (show w6.heap.size = b13 from HWF.out)
    go_wp2_with fail
    refine ⟨⟨⟨_, HA.out.2.1⟩, rfl⟩, ?_⟩
    clear hwa hg0
    refine wpQuiet_nil ?_
    refine Kd.R_append_rows kh (w0 := w6) (Rr := fun x cs => cs = [hdv x]) b13 rfl (.tmp 74) (.tmp 78) 28 26 (.slice none 0 0) 24 rfl Tryd.underlying28 info26 rfl (by decide) (by decide) (.slice (some ⟨g0, 0, none⟩) 0 0) [] (hs.take k) Wn1 k wcn1 (fun j => g0 ≤ j) (fun _ => False) rfl rfl HA.out.1 HTD1.out (fun _ _ h => h) (fun _ h => h.elim) (fun j hj => by have := HA.out.2.2.2.1; omega) (by rw [← HGF.out]; exact HA.out.2.2.2.2.1) (by have := HA.out.2.2.2.1; have := HA.out.2.2.2.2.2.1; omega) (by have h := HL12.out; have := HK.out; simp only [List.length_nil]; omega) ?_
    intro v1 wb q1 q2 q3 q4
    obtain ⟨T1, hT1⟩ : ∃ T, hs.take k = T := ⟨_, rfl⟩
    have hT1l : T1.length = k := by rw [← hT1, List.length_take]; have := HHD.out.2.2; have := HK.out; omega
    have HT1E := Lib.hid hT1
    rw [List.nil_append, hT1] at q1
    obtain ⟨VA, va, rfl⟩ := Kd.R_slice q1
    have hF2 := HA.out.2.1.grown q3 (fun j hj _ => by simp [Value.ownBlock] at hj; have := HA.out.2.2.2.2.2.1; omega)
    have hBw := HA.out.2.2.2.2.2.2.grown q3 (by have := HA.out.2.2.2.1; have := HG0.out; omega) (fun j hj => by simp [Value.ownBlock] at hj; have := HG0.out; omega)
    have hT4 := (q3.block b13 (by have := HA.out.2.2.2.1; have := HA.out.2.2.2.2.2.1; omega) (by simp [Value.ownBlock]; have := HA.out.2.2.2.2.2.1; omega)).trans HA.out.2.2.1
    have HQ := Lib.hid (And.intro q1 (And.intro q2 (And.intro hF2 (And.intro hBw (And.intro hT4 (And.intro (Kd.C_below HTD.out.2 hBw) (And.intro hT1l (show g0 + 1 ≤ wb.heap.size by have := q3.size; have := HA.out.2.2.2.1; omega)))))))); clear q1 q2 q3 q4 hF2 hBw hT4 hT1 hT1l
    refine ⟨⟨⟨_, HQ.out.2.2.1⟩, rfl⟩, ?_⟩
    refine wpQuiet_nil ?_
    refine Kd.R_append_rows kh (w0 := w6) (Rr := fun x cs => cs = [hdv x]) b13 rfl (.tmp 79) (.tmp 84) 28 26 (.slice none 0 0) 24 rfl Tryd.underlying28 info26 rfl (by decide) (by decide) (.slice VA T1.length va) T1 (hs.drop (k + 1)) WD (n1 - (k + 1)) (wcn1 - (k + 1)) (fun j => g0 ≤ j) (fun _ => False) rfl rfl HQ.out.1 HQ.out.2.2.2.2.2.1 (fun _ _ h => h) (fun _ h => h.elim) (fun j hj => by have := HQ.out.2.2.2.2.2.2.2; omega) HQ.out.2.1 (by have := HQ.out.2.2.2.2.2.2.2; have := HA.out.2.2.2.2.2.1; omega) (by have h := HL12.out; have := HK.out; have := HQ.out.2.2.2.2.2.2.1; omega) ?_
    intro v2 wc q1 q2 q3 q4
    obtain ⟨L1, hL2⟩ : ∃ T, T1 ++ hs.drop (k + 1) = T := ⟨_, rfl⟩
    have HL1E := Lib.hid (show L1 = hs.take k ++ hs.drop (k + 1) by rw [← hL2, HT1E.out])
    rw [hL2] at q1
    obtain ⟨V1, vv1, rfl⟩ := Kd.R_slice q1
    have hown : ∀ j, (Value.slice VA T1.length va).ownBlock = some j → g0 ≤ j := HQ.out.1.1
    have hF3 := HQ.out.2.2.1.grown q3 (fun j hj _ => by have := hown j hj; have := HA.out.2.2.2.2.2.1; omega)
    have hBw := HQ.out.2.2.2.1.grown q3 HQ.out.2.2.2.1.size (fun j hj => by have := hown j hj; have := HG0.out; omega)
    have hT5 := (q3.block b13 (by have := HQ.out.2.2.2.2.2.2.2; have := HA.out.2.2.2.2.2.1; omega) (fun e => by have := hown b13 e.symm; have := HA.out.2.2.2.2.2.1; omega)).trans HQ.out.2.2.2.2.1
    have HQ2 := Lib.hid (And.intro q1 (And.intro q2 (And.intro hF3 (And.intro hBw hT5)))); clear q1 q2 q3 q4 hF3 hBw hT5 hown hL2
    refine ⟨⟨⟨_, HQ2.out.2.2.1⟩, rfl⟩, ?_⟩
    refine wpQuiet_nil ?_
    go_wp2_with fail
    refine ⟨⟨⟨_, HQ2.out.2.2.1⟩, rfl⟩, ?_⟩
    refine wpQuiet_nil ?_
    have p0 := cell_of (o := 1) HQ2.out.2.2.2.2 rfl
    have p1 := frozen_of (o := 1) HQ2.out.2.2.2.2
    go_wp2_with fail
    have hF4 := HQ2.out.2.2.1.setCell ⟨b13, 1, none⟩ (.slice V1 L1.length vv1) (fun _ => Nat.le_refl _)
    have hB4 := HQ2.out.2.1.setCell (p := ⟨b13, 1, none⟩) (Nat.le_refl _) (.slice V1 L1.length vv1)
    have hR4 := Kd.R_far (Kd.R_mono HQ2.out.1 (ok' := fun j => b13 < j) (fun j hj => by have := HA.out.2.2.2.2.2.1; omega)) (p := ⟨b13, 1, none⟩) (fun j hj => by show j ≠ b13; omega) (.slice V1 L1.length vv1)
    have hT6 := heap_set (o := 1) (.slice V1 L1.length vv1) HQ2.out.2.2.2.2
    obtain ⟨w10, hwz⟩ : ∃ W, wc.setCell ⟨b13, 1, none⟩ (.slice V1 L1.length vv1) = W := ⟨_, rfl⟩
    rw [hwz] at hF4 hB4 hR4 hT6 ⊢
    have HB9 := Lib.hid (show Below w6.heap.size w6 w10 by rw [HWF.out]; exact hB4)
    have HT1 := Lib.hid (show w10.heap[b13]? = some (.cells #[.int .i64 ((n1 - 1 : Nat) : Int), .slice V1 L1.length vv1, .slice Cn1 n1 ccn1] 30) from hT6)
    have HR1 := Lib.hid hR4
    refine ⟨⟨⟨_, hF4⟩, rfl⟩, ?_⟩
    clear hF4 hB4 hR4 hT6 hwz p0 p1 HQ HQ2 HA HTD HTD1 HS0 HBD HGF HG0
    refine wpQuiet_nil ?_
    go_wp2_with fail
    have k1' := cell_of (o := 2) (Hb11.out.next HB9.out).at_ rfl
    have e1 := cell_extB (B := fun k => b13 ≤ k) k1' (by show ¬ b13 ≤ b11; have := HBL.out; omega)
    have hk1 : k ≤ ccn1 := by have := HK.out; have := HWC.out; have := H1.out.le; omega
    have hk2 : k + 1 ≤ n1 := HK.out
    have hk3 : n1 ≤ ccn1 := by have := HWC.out; have := H1.out.le; omega
    have hk4 : n1 ≤ 9223372036854775807 := H1.out.rows.2.1
    refine region_seqP (fun k => b13 ≤ k) [([1, 2, 3, 4, 6, 7, 8, 9, 10], 0), ([], 5), ([], 11), ([], 12), ([], 13)] [] (by kernel_rfl) (by kernel_rfl) (fun _ _ d _ _ h => by cases d <;> exact h) (fun ⟨_, _, h⟩ => by rcases h with ⟨h, _⟩; cases h) ?_
    simp only [seqQ, pick_cons, pick_nil, nthO_succ, nthO_zero]
    have HS0 := Lib.hid (show Fr (fun k => b13 ≤ k) w10 { w10 with drawn := w10.drawn + 1 } from (Fr.refl _ _).drew)
    have HBD := Lib.hid (show Below w10.heap.size w10 { w10 with drawn := w10.drawn + 1 } from (Below.refl _ _).drew)
    obtain ⟨we, hwd⟩ : ∃ wd, { w10 with drawn := w10.drawn + 1 } = wd := ⟨_, rfl⟩
    rw [hwd] at HS0 HBD ⊢
    clear hwd
    repeat (go_big_quiet_step (fail))
    refine wpQuiet_nil ?_
    have hHC := Kd.C_below (Kd.C_below HCC.out.1 HB9.out) HBD.out
    have hDr := C_dropV (c := ccn1) (by rw [HCC.out.2]; exact hHC) rfl (k := k) (by have := HCC.out.2; omega) (by have := HCC.out.2; omega)
    have hTk := C_takeV (by rw [HCC.out.2]; exact hHC) (k := k) (by have := HCC.out.2; omega)
    rw [HCC.out.2] at hDr
    have HTD := Lib.hid (And.intro hTk hDr); clear hHC hDr hTk
    generalize (if ccn1 = k + 1 then Cn1 else Option.map (fun x => (⟨x.block, x.off + (k + 1), none⟩ : Addr)) Cn1) = WD at HTD ⊢
    obtain ⟨g0, hg0⟩ : ∃ g, we.heap.size = g := ⟨_, rfl⟩
    have HG0 := Lib.hid hg0
    have hAl := ilit0 we
    have hE0 := empty_rowI (base := b13) hg0 (by have := (Array.getElem?_eq_some_iff.1 HT1.out).1; have := HBD.out.size; omega)
    have hS1 := HS0.out.alloc (.cells #[] 3)
    have hT2 := (HBD.out.block _ (Array.getElem?_eq_some_iff.1 HT1.out).1).trans HT1.out
    have hT3 := (hAl.block _ (Array.getElem?_eq_some_iff.1 hT2).1).trans hT2
    have hz1 : (we.alloc (.cells #[] 3)).heap.size = g0 + 1 := by simp [hg0]
    obtain ⟨wf, hwa⟩ : ∃ W, we.alloc (.cells #[] 3) = W := ⟨_, rfl⟩
    rw [hwa] at hAl hE0 hS1 hT3 hz1
    have hb0g : b13 < g0 := by have := (Array.getElem?_eq_some_iff.1 hT2).1; omega
    have HA := Lib.hid (And.intro hE0 (And.intro hS1 (And.intro hT3 (And.intro hz1 (And.intro (HB9.out.trans ((HBD.out.trans (hAl.mono HBD.out.size)).mono HB9.out.size)) (And.intro hb0g hAl))))))
    have HTD1 := Lib.hid (Kd.C_below HTD.out.1 hAl)
    clear hAl hE0 hS1 hT2 hT3 hz1 e1 k1' hk1 hk2 hk3 hk4 hb0g
    have HGF := Lib.hid (show w6.heap.size = b13 from HWF.out)
    go_wp2_with fail
    refine ⟨⟨⟨_, HA.out.2.1⟩, rfl⟩, ?_⟩
    clear hwa hg0
    refine wpQuiet_nil ?_
    refine Kd.R_append_rows (Kd.int .i64) (w0 := w6) (Rr := fun x cs => cs = [.int .i64 x]) b13 rfl (.tmp 87) (.tmp 91) 26 3 (.int .i64 0) 8 rfl Tryd.underlying26 info3 rfl (by decide) (by decide) (.slice (some ⟨g0, 0, none⟩) 0 0) [] (((cutS l xs 0).map Int.ofNat).take k) Cn1 k ccn1 (fun j => g0 ≤ j) (fun _ => False) rfl rfl HA.out.1 HTD1.out (fun _ _ h => h) (fun _ h => h.elim) (fun j hj => by have := HA.out.2.2.2.1; omega) (by rw [← HGF.out]; exact HA.out.2.2.2.2.1) (by have := HA.out.2.2.2.1; have := HA.out.2.2.2.2.2.1; omega) (by have h := HL12.out; have := HK.out; simp only [List.length_nil]; omega) ?_
    intro v1 wg q1 q2 q3 q4
    obtain ⟨T1, hT1⟩ : ∃ T, ((cutS l xs 0).map Int.ofNat).take k = T := ⟨_, rfl⟩
    have hT1l : T1.length = k := by rw [← hT1, List.length_take]; have := HCC.out.2; have := HK.out; omega
    have HT1E := Lib.hid hT1
    rw [List.nil_append, hT1] at q1
    obtain ⟨VA, va, rfl⟩ := Kd.R_slice q1
    have hF2 := HA.out.2.1.grown q3 (fun j hj _ => by simp [Value.ownBlock] at hj; have := HA.out.2.2.2.2.2.1; omega)
    have hBw := HA.out.2.2.2.2.2.2.grown q3 (by have := HA.out.2.2.2.1; have := HG0.out; omega) (fun j hj => by simp [Value.ownBlock] at hj; have := HG0.out; omega)
    have hT4 := (q3.block b13 (by have := HA.out.2.2.2.1; have := HA.out.2.2.2.2.2.1; omega) (by simp [Value.ownBlock]; have := HA.out.2.2.2.2.2.1; omega)).trans HA.out.2.2.1
    have HQ := Lib.hid (And.intro q1 (And.intro q2 (And.intro hF2 (And.intro hBw (And.intro hT4 (And.intro (Kd.C_below HTD.out.2 hBw) (And.intro hT1l (show g0 + 1 ≤ wg.heap.size by have := q3.size; have := HA.out.2.2.2.1; omega)))))))); clear q1 q2 q3 q4 hF2 hBw hT4 hT1 hT1l
    refine ⟨⟨⟨_, HQ.out.2.2.1⟩, rfl⟩, ?_⟩
    refine wpQuiet_nil ?_
    refine Kd.R_append_rows (Kd.int .i64) (w0 := w6) (Rr := fun x cs => cs = [.int .i64 x]) b13 rfl (.tmp 92) (.tmp 97) 26 3 (.int .i64 0) 8 rfl Tryd.underlying26 info3 rfl (by decide) (by decide) (.slice VA T1.length va) T1 (((cutS l xs 0).map Int.ofNat).drop (k + 1)) WD (n1 - (k + 1)) (ccn1 - (k + 1)) (fun j => g0 ≤ j) (fun _ => False) rfl rfl HQ.out.1 HQ.out.2.2.2.2.2.1 (fun _ _ h => h) (fun _ h => h.elim) (fun j hj => by have := HQ.out.2.2.2.2.2.2.2; omega) HQ.out.2.1 (by have := HQ.out.2.2.2.2.2.2.2; have := HA.out.2.2.2.2.2.1; omega) (by have h := HL12.out; have := HK.out; have := HQ.out.2.2.2.2.2.2.1; omega) ?_
    intro v2 wh q1 q2 q3 q4
    obtain ⟨L2, hL2⟩ : ∃ T, T1 ++ ((cutS l xs 0).map Int.ofNat).drop (k + 1) = T := ⟨_, rfl⟩
    have HL2E := Lib.hid (show L2 = ((cutS l xs 0).map Int.ofNat).take k ++ ((cutS l xs 0).map Int.ofNat).drop (k + 1) by rw [← hL2, HT1E.out])
    rw [hL2] at q1
    obtain ⟨V2, vv2, rfl⟩ := Kd.R_slice q1
    have hown : ∀ j, (Value.slice VA T1.length va).ownBlock = some j → g0 ≤ j := HQ.out.1.1
    have hF3 := HQ.out.2.2.1.grown q3 (fun j hj _ => by have := hown j hj; have := HA.out.2.2.2.2.2.1; omega)
    have hBw := HQ.out.2.2.2.1.grown q3 HQ.out.2.2.2.1.size (fun j hj => by have := hown j hj; have := HG0.out; omega)
    have hT5 := (q3.block b13 (by have := HQ.out.2.2.2.2.2.2.2; have := HA.out.2.2.2.2.2.1; omega) (fun e => by have := hown b13 e.symm; have := HA.out.2.2.2.2.2.1; omega)).trans HQ.out.2.2.2.2.1
    have HQ2 := Lib.hid (And.intro q1 (And.intro q2 (And.intro hF3 (And.intro hBw hT5)))); clear q1 q2 q3 q4 hF3 hBw hT5 hown hL2
    refine ⟨⟨⟨_, HQ2.out.2.2.1⟩, rfl⟩, ?_⟩
    refine wpQuiet_nil ?_
    go_wp2_with fail
    refine ⟨⟨⟨_, HQ2.out.2.2.1⟩, rfl⟩, ?_⟩
    refine wpQuiet_nil ?_
    have p0 := cell_of (o := 2) HQ2.out.2.2.2.2 rfl
    have p1 := frozen_of (o := 2) HQ2.out.2.2.2.2
    go_wp2_with fail
    have hF4 := HQ2.out.2.2.1.setCell ⟨b13, 2, none⟩ (.slice V2 L2.length vv2) (fun _ => Nat.le_refl _)
    have hB4 := HQ2.out.2.1.setCell (p := ⟨b13, 2, none⟩) (Nat.le_refl _) (.slice V2 L2.length vv2)
    have hR4 := Kd.R_far (Kd.R_mono HQ2.out.1 (ok' := fun j => b13 < j) (fun j hj => by have := HA.out.2.2.2.2.2.1; omega)) (p := ⟨b13, 2, none⟩) (fun j hj => by show j ≠ b13; omega) (.slice V2 L2.length vv2)
    have hT6 := heap_set (o := 2) (.slice V2 L2.length vv2) HQ2.out.2.2.2.2
    have hHR1 := Kd.R_far (Kd.R_below HR1.out (HBD.out.trans (HQ2.out.2.2.2.1.mono HBD.out.size))) (p := ⟨b13, 2, none⟩) (fun j hj => by show j ≠ b13; omega) (.slice V2 L2.length vv2)
    obtain ⟨w11, hwz⟩ : ∃ W, wh.setCell ⟨b13, 2, none⟩ (.slice V2 L2.length vv2) = W := ⟨_, rfl⟩
    rw [hwz] at hF4 hB4 hR4 hT6 ⊢
    rw [hwz] at hHR1
    have HB9 := Lib.hid (show Below w6.heap.size w6 w11 by rw [HWF.out]; exact hB4)
    have HT1 := Lib.hid (show w11.heap[b13]? = some (.cells #[.int .i64 ((n1 - 1 : Nat) : Int), .slice V1 L1.length vv1, .slice V2 L2.length vv2] 30) from hT6)
    have HR2 := Lib.hid hR4
    have HR1 := Lib.hid hHR1; clear hHR1
    refine ⟨⟨⟨_, hF4⟩, rfl⟩, ?_⟩
    clear hF4 hB4 hR4 hT6 hwz p0 p1 HQ HQ2 HA HTD HTD1 HS0 HBD HGF HG0
    refine wpQuiet_nil ?_
    go_wp2_with fail
    have hOL : ∃ (wz : List (List Int)) (cz : List Int), L1.length = wz.length ∧ L2.length = cz.length ∧ OddAt V1 vv1 wz V2 vv2 cz w11 := by
      have hh : Hds w6 L1 ((toI (waysS l xs 0)).take k ++ (toI (waysS l xs 0)).drop (k + 1)) := by rw [HL1E.out]; exact Hds.append (Hds.drop (k + 1) HHD.out.1) (Hds.take k HHD.out.1)
      obtain ⟨A', c', e, hc, hC⟩ := Kd.R_reads HR1.out
      injection e with e1 e2 e3
      subst e1
      subst e3
      obtain ⟨A', c', e, hc2, hC2⟩ := Kd.R_reads HR2.out
      injection e with e1 e2 e3
      subst e1
      subst e3
      exact ⟨_, L2, hh.len, rfl, C_heads hC (hh.below HB9.out), hC2, by have := hh.len; omega, hc2⟩
    obtain ⟨wz, cz, hwz1, hcz1, hOL⟩ := hOL
    have HOL := Lib.hid hOL; clear hOL
    obtain ⟨nl, hnl⟩ : ∃ n : Int, ((n1 - 1 : Nat) : Int) = n := ⟨_, rfl⟩
    rw [hwz1, hcz1, hnl] at HT1
    clear hwz1 hcz1 hnl HR1 HR2 HHD HCC
    have HOD9 := Lib.hid (HOD.out.next HB9.out)
    have c0 := cell_extB (B := fun _ => False) (cell_of (o := 0) (HBX.out.next HB9.out).at_ rfl) (fun h => h)
    have c1 := cell_extB (B := fun _ => False) (cell_of (o := 1) (HBX.out.next HB9.out).at_ rfl) (fun h => h)
    have c2 := cell_extB (B := fun _ => False) (cell_of (o := 2) (HBX.out.next HB9.out).at_ rfl) (fun h => h)
    have d0 := cell_extB (B := fun _ => False) (cell_of (o := 0) HT1.out rfl) (fun h => h)
    have d1 := cell_extB (B := fun _ => False) (cell_of (o := 1) HT1.out rfl) (fun h => h)
    have d2 := cell_extB (B := fun _ => False) (cell_of (o := 2) HT1.out rfl) (fun h => h)
    refine region_seqP (fun _ => False) [([0, 2, 5], 1), ([], 3)] [4] (by kernel_rfl) (by kernel_rfl) (fun _ _ d _ _ h => by cases d <;> exact h) (fun ⟨_, _, h⟩ => by rcases h with ⟨h, _⟩; cases h) ?_
    simp only [seqQ, pick_cons, pick_nil, nthO_succ, nthO_zero]
    have HS0 := Lib.hid (show Fr (fun _ => False) w11 { w11 with drawn := w11.drawn + 1 } from (Fr.refl _ _).drew)
    have HBD := Lib.hid (show Below w11.heap.size w11 { w11 with drawn := w11.drawn + 1 } from (Below.refl _ _).drew)
    obtain ⟨wp, hwd⟩ : ∃ wd, { w11 with drawn := w11.drawn + 1 } = wd := ⟨_, rfl⟩
    rw [hwd] at HS0 HBD ⊢
    clear hwd
    repeat (go_big_quiet_step (fail))
    refine wpQuiet_nil ?_
    clear c0 c1 c2 d0 d1 d2
    go_wp2_with fail
    refine (short_any n0 WO wo ws CO co cs wp (HOD9.out.next HBD.out)).mono ?_
    rintro e wq ⟨OA, oc, rfl, HSH⟩
    have HS1 := Lib.hid (HS0.out.call HSH.out.2)
    have HB1 := Lib.hid (HBD.out.trans (HSH.out.2.mono HBD.out.size))
    have HO1 := Lib.hid HSH.out.1; clear HSH HS0 HBD
    obtain ⟨sw, hsw⟩ : ∃ s, shortW ws = s := ⟨_, rfl⟩
    obtain ⟨sc, hsc⟩ : ∃ s, cs.take 4 = s := ⟨_, rfl⟩
    rw [hsw, hsc] at HO1 ⊢
    clear hsw hsc
    go_wp2_with fail
    refine ⟨⟨⟨_, HS1.out⟩, rfl⟩, ?_⟩
    refine wpQuiet_nil ?_
    obtain ⟨gy, hgy⟩ : ∃ g, wq.heap.size = g := ⟨_, rfl⟩
    have hAl := (Below.refl wq.heap.size wq).alloc (Nat.le_refl _) (.cells #[.int .i64 n0, .slice OA sw.length oc, .slice CO sc.length co, .int .i64 nl, .slice V1 wz.length vv1, .slice V2 cz.length vv2] 30)
    have hNew := heap_new (W := wq) (o := .cells #[.int .i64 n0, .slice OA sw.length oc, .slice CO sc.length co, .int .i64 nl, .slice V1 wz.length vv1, .slice V2 cz.length vv2] 30) hgy
    have hS2 := HS1.out.alloc (.cells #[.int .i64 n0, .slice OA sw.length oc, .slice CO sc.length co, .int .i64 nl, .slice V1 wz.length vv1, .slice V2 cz.length vv2] 30)
    obtain ⟨wr0, hwr0⟩ : ∃ W, wq.alloc (.cells #[.int .i64 n0, .slice OA sw.length oc, .slice CO sc.length co, .int .i64 nl, .slice V1 wz.length vv1, .slice V2 cz.length vv2] 30) = W := ⟨_, rfl⟩
    rw [hwr0] at hAl hNew hS2
    have HNW := Lib.hid (BlkAt.mk hNew)
    have HOA := Lib.hid (HO1.out.next hAl)
    have HBA := Lib.hid (HB1.out.trans (hAl.mono HB1.out.size))
    have HOB := Lib.hid (HOL.out.next HBA.out)
    have HS2 := Lib.hid hS2; clear hAl hNew hS2 HO1 HB1 HS1
    go_wp2_with fail
    refine ⟨⟨⟨_, HS2.out⟩, rfl⟩, ?_⟩
    repeat (go_big_quiet_step (fail))
    refine wpQuiet_nil ?_
    clear hgy hwr0
    have HXR := Lib.hid (HX.out.next (HB9.out.trans (HBA.out.mono HB9.out.size)))
    have HBR := Lib.hid (Hb11.out.next (HB9.out.trans (HBA.out.mono HB9.out.size)))
    have H0 := Lib.hid (Below.refl wr0.heap.size wr0)
    go_wp2_with fail
    go_loopw [105] (fun iv wr => ∃ i : Nat, i ≤ 2 ∧ iv = .int .i64 i ∧ Hid (Below wr0.heap.size wr0 wr)) (fun iv wr => 2 - (intOf iv).toNat)
    case atStart => exact ⟨0, by omega, rfl, H0⟩
    case round =>
      clear H0
      obtain ⟨i, hi, rfl, HI⟩ := hrel
      by_cases hlt : i < 2
      · obtain rfl | rfl : i = 0 ∨ i = 1 := by omega
        · have c0 := cell_of (o := 0) (HNW.out.next HI.out).at_ rfl
          have c1 := cell_of (o := 1) (HNW.out.next HI.out).at_ rfl
          have c2 := cell_of (o := 2) (HNW.out.next HI.out).at_ rfl
          obtain ⟨b16, hb16⟩ : ∃ b, wr.heap.size = b := ⟨_, rfl⟩
          have hA := (Below.refl wr.heap.size wr).alloc (Nat.le_refl _) (.cells #[.int .i64 n0, .slice OA sw.length oc, .slice CO sc.length co] 30)
          have hN := heap_new (W := wr) (o := .cells #[.int .i64 n0, .slice OA sw.length oc, .slice CO sc.length co] 30) hb16
          obtain ⟨ws1, hws1⟩ : ∃ W, wr.alloc (.cells #[.int .i64 n0, .slice OA sw.length oc, .slice CO sc.length co] 30) = W := ⟨_, rfl⟩
          rw [hws1] at hA hN
          have HBS := Lib.hid (HI.out.trans (hA.mono HI.out.size))
          have HB16 := Lib.hid (BlkAt.mk hN); clear hA hN
          have m0 := cell_of (o := 0) HB16.out.at_ rfl
          have m1 := cell_of (o := 1) HB16.out.at_ rfl
          have m2 := cell_of (o := 2) HB16.out.at_ rfl
          have HCK := Lib.hid (check_call (n := n0) (HXR.out.next HBS.out).src (HXR.out.next HBS.out).int (HXR.out.next HBS.out).tab (HOA.out.next HBS.out))
          go_wp2_with fail
          refine HCK.out.mono ?_
          rintro e wt ⟨rfl, hb⟩
          have HBT := Lib.hid (HBS.out.trans (hb.mono HBS.out.size))
          have HB17 := Lib.hid (HB16.out.next hb); clear hb m0 m1 m2 c0 c1 c2 HCK hws1 hb16
          obtain ⟨cb, hcb⟩ : ∃ b, checkB l xs n0 sw sc = b := ⟨_, rfl⟩
          rw [hcb]
          cases cb with
          | false =>
            clear hcb
            go_wp2_with fail
            go_roundw
            case rel => exact ⟨1, by omega, by go_num, HBT⟩
            case measure => simp [intOf]
          | true =>
            have hcn : n0 = (n1 : Int) := by rw [H1.out.num]; exact check_count HG.out hcb
            have hne : (n0 != (n1 : Int)) = false := by rw [hcn]; simp
            have m0 := cell_of (o := 0) HB17.out.at_ rfl
            have q0 := cell_of (o := 0) (HBR.out.next HBT.out).at_ rfl
            clear hcb hcn
            go_wp2_with fail
            go_roundw
            case rel => exact ⟨1, by omega, by go_num, HBT⟩
            case measure => simp [intOf]
        · have c0 := cell_of (o := 3) (HNW.out.next HI.out).at_ rfl
          have c1 := cell_of (o := 4) (HNW.out.next HI.out).at_ rfl
          have c2 := cell_of (o := 5) (HNW.out.next HI.out).at_ rfl
          obtain ⟨b16, hb16⟩ : ∃ b, wr.heap.size = b := ⟨_, rfl⟩
          have hA := (Below.refl wr.heap.size wr).alloc (Nat.le_refl _) (.cells #[.int .i64 nl, .slice V1 wz.length vv1, .slice V2 cz.length vv2] 30)
          have hN := heap_new (W := wr) (o := .cells #[.int .i64 nl, .slice V1 wz.length vv1, .slice V2 cz.length vv2] 30) hb16
          obtain ⟨ws1, hws1⟩ : ∃ W, wr.alloc (.cells #[.int .i64 nl, .slice V1 wz.length vv1, .slice V2 cz.length vv2] 30) = W := ⟨_, rfl⟩
          rw [hws1] at hA hN
          have HBS := Lib.hid (HI.out.trans (hA.mono HI.out.size))
          have HB16 := Lib.hid (BlkAt.mk hN); clear hA hN
          have m0 := cell_of (o := 0) HB16.out.at_ rfl
          have m1 := cell_of (o := 1) HB16.out.at_ rfl
          have m2 := cell_of (o := 2) HB16.out.at_ rfl
          have HCK := Lib.hid (check_call (n := nl) (HXR.out.next HBS.out).src (HXR.out.next HBS.out).int (HXR.out.next HBS.out).tab (HOB.out.next HBS.out))
          go_wp2_with fail
          refine HCK.out.mono ?_
          rintro e wt ⟨rfl, hb⟩
          have HBT := Lib.hid (HBS.out.trans (hb.mono HBS.out.size))
          have HB17 := Lib.hid (HB16.out.next hb); clear hb m0 m1 m2 c0 c1 c2 HCK hws1 hb16
          obtain ⟨cb, hcb⟩ : ∃ b, checkB l xs nl wz cz = b := ⟨_, rfl⟩
          rw [hcb]
          cases cb with
          | false =>
            clear hcb
            go_wp2_with fail
            go_roundw
            case rel => exact ⟨2, by omega, by go_num, HBT⟩
            case measure => simp [intOf]
          | true =>
            have hcn : nl = (n1 : Int) := by rw [H1.out.num]; exact check_count HG.out hcb
            have hne : (nl != (n1 : Int)) = false := by rw [hcn]; simp
            have m0 := cell_of (o := 0) HB17.out.at_ rfl
            have q0 := cell_of (o := 0) (HBR.out.next HBT.out).at_ rfl
            clear hcb hcn
            go_wp2_with fail
            go_roundw
            case rel => exact ⟨2, by omega, by go_num, HBT⟩
            case measure => simp [intOf]
      · obtain rfl : i = 2 := by omega
        go_wp2_with fail
        go_ret
        exact ⟨rfl, (HXR.out.next HI.out).below⟩
end Go.Proofs.YticngcjfofcoiaaDoor

namespace Go.Proofs.YticngcjfofcoiaaDoor.sourceCertified
open Go.ChangeShapes Go.WideShapes Go.ChangeAt Go.RowKit
set_option linter.unusedVariables false
set_option linter.unusedSimpArgs false
set_option maxRecDepth 100000 in
theorem lifted (os : Os) (started : os.Started) (H : Type) (enc : TypeId × Value → H) :
    ReturnsInHanded {} Tryd.checked os 6 .any (fun w args => (Rows.sourceCertifiedSpec.pre enc Tryd.prog Tryd.f6 [] false w args ∧ laidMetH Tryd.prog laid1 w) ∧ sizedMet enc Tryd.prog Tryd.f6 (OpenSpec.ofChange Rows.sourceCertifiedSpec) false w args)
      (Rows.sourceCertifiedSpec.post enc Tryd.prog Tryd.f6 false true false false) := by
  refine returnsInHanded_of_change_and (C := Tryd.checked) (X := fun w _ => laidMetH Tryd.prog laid1 w) (fun _ _ _ hh h => h.of_heap hh) own started (by kernel_rfl) Tryd.func6
    (ChangeSpec.witness_shaped (enc := enc) (C := Tryd.checked) (os := os) (X := fun w _ => laidMetH Tryd.prog laid1 w) false (World.doorLaid Tryd.prog 600 os) #[.slice none 0 0, .int .i64 0, .agg #[.int .i64 0, .slice none 0 0, .slice none 0 0], .int .i64 0] 8 rfl (World.shaped_of_RefB (by kernel_rfl) (by kernel_rfl)) (by kernel_rfl) (by kernel_rfl) (by kernel_rfl) (door_met os _)) ?_
  intro W base args ds gs before hval0 hW _ _ hL _
  have hval : ∀ (j : Nat) t v, Tryd.f6.params[j]? = some t → args[j]? = some v → Value.okWide Tryd.prog W .any base t v := hval0
  have hW' := hW
  obtain ⟨p, q, hA0, hV, rfl, hfz, hnd⟩ := hW
  have hA : DataW.TrodAll enc Tryd.prog W 0 (fun _ => true) true Tryd.f6.params.toList args.toList ds p := hA0
  rw [Tryd.params6] at hA hval
  obtain ⟨v0, vs0, d0, ds0, p0, q0, hargs, rfl, rfl, h0, r0⟩ := trodAll_cons hA
  obtain ⟨v1, vs1, d1, ds1, p1, q1, rfl, rfl, rfl, h1, r1⟩ := trodAll_cons r0
  obtain ⟨v2, vs2, d2, ds2, p2, q2, rfl, rfl, rfl, h2, r2⟩ := trodAll_cons r1
  obtain ⟨v3, vs3, d3, ds3, p3, q3, rfl, rfl, rfl, h3, r3⟩ := trodAll_cons r2
  obtain ⟨rfl, rfl, rfl⟩ := trodAll_nil r3
  obtain rfl : args = #[v0, v1, v2, v3] := by cases args; simp_all
  obtain ⟨rfl, rfl⟩ := trodVars_none hV
  have k0 := h0
  have lt0 : ∀ x ∈ p0, x.block < W.heap.size := by obtain ⟨m, hm⟩ := k0; exact DataW.trod_lt m _ _ _ hm
  obtain ⟨A0, c0, x0, rfl, hc0, hX0⟩ := open_row22 (hval 0 22 v0 rfl rfl) h0
  obtain ⟨a1, rfl, rfl, rfl, w1⟩ := open_int Tryd.underlying3 (hval 1 3 v1 rfl rfl) h1
  have k2 := h2
  have lt2 : ∀ x ∈ p2, x.block < W.heap.size := by obtain ⟨m, hm⟩ := k2; exact DataW.trod_lt m _ _ _ hm
  obtain ⟨n2, WA2, wc2, ws2, CA2, cc2, cs2, rfl, hS2⟩ := open_sup (hval 2 30 v2 rfl rfl) h2
  obtain ⟨a3, rfl, rfl, rfl, w3⟩ := open_int Tryd.underlying3 (hval 3 3 v3 rfl rfl) h3
  clear hA0 hval0
  refine (Certified_walk A0 c0 x0 a1 n2 WA2 wc2 ws2 CA2 cc2 cs2 a3 W hX0 (of_laid hL) hS2 w3).mono fun e W' ⟨he, hg⟩ => ?_
  subst he
  exact ⟨_, rfl, _, _, _, [], _, [], hW', trodAll_mk1 (shut_bool Tryd.underlying4 _), (trodAll_cons_mk (Below.trod laidOut (by kernel_rfl) (of_decide_eq_true (by kernel_rfl)) k0 hg lt0) (trodAll_cons_mk (shut_int Tryd.underlying3 w1) (trodAll_cons_mk (Below.trod laidOut (by kernel_rfl) (of_decide_eq_true (by kernel_rfl)) k2 hg lt2) (trodAll_cons_mk (shut_int Tryd.underlying3 w3) trodAll_mk0)))), rfl, hg.frame _, fun h => by cases h⟩

theorem over : Rows.sourceCertifiedRow.holds Tryd.pinned (OpenSpec.ofChange Rows.sourceCertifiedSpec) :=
  OpenClaim.holds_of_wide 6 Tryd.f6 rfl rfl rfl rfl rfl rfl rfl ⟨rfl, rfl, rfl, rfl, rfl⟩ rfl rfl rfl rfl rfl (by kernel_rfl) Tryd.func6 (by kernel_rfl)
    (of_decide_eq_true (by kernel_rfl)) (by unfold Func.isWrapper; first | (rw [if_pos (by decide +kernel)]; kernel_rfl) | (rw [if_neg (by decide +kernel)]; exact ⟨rfl, rfl⟩))
    (fun os started H enc _ => lifted os started H enc)
theorem said : Rows.SourceCertifiedSaid := over

/-- ████ THE STATEMENT ████ -/
theorem proved : Rows.SourceCertifiedCardSaid :=
  Claim7.holds_tied_plain_at .later [] [.data] true (true, "7838f62e2ed57ecadac96af0966ffd77ea4ac844051a92e71076f4b4feea820e") false
    said (fun _ h => by cases h) (by kernel_rfl) (fun _ h => by cases h) sourceCertified_row_tie rfl ⟨rfl, rfl⟩ (by kernel_rfl) rfl
    (fun f fn hf hfn => by
      obtain rfl : f = 6 := Option.some.inj ((show Tryd.prog.funcNamed "newswire/newswirelaw07.SourceCertified" = some 6 by kernel_rfl).symm.trans hf) |>.symm
      obtain rfl : fn = Tryd.f6 := (Option.some.inj (Tryd.func6.symm.trans hfn)).symm
      exact ⟨by kernel_rfl, fun j t ht => by
        rw [Tryd.params6] at ht
        have hm : t ∈ [22, 3, 30, 3] := by simpa using Array.mem_of_getElem? ht
        have hall : ([22, 3, 30, 3].all fun u => !Tryd.prog.wantsStandIn u) = true := by kernel_rfl
        exact (show Tryd.prog.wantsStandIn t = false by simpa using List.all_eq_true.1 hall t hm)⟩)
    (by kernel_rfl)
#print axioms proved
end Go.Proofs.YticngcjfofcoiaaDoor.sourceCertified
