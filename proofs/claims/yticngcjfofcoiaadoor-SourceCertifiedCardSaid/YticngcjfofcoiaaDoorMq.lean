/- What the laws of sources say of plain lists: circles, certificates, copies. -/
import Derived.Test.YticngcjfofcoiaaDoorMp
namespace Go.Proofs.YticngcjfofcoiaaDoor
open Go.RowKit Go.Rg Go.Proofs.YticngcjfofcoiaaDoorW.PrintWords
set_option linter.unusedVariables false
set_option linter.unusedSimpArgs false

/-! ### Silenced sources -/
theorem sil_id (id : Int) (s : Src) : (silS id s).id = s.id := by unfold silS; split <;> rfl
theorem sil_kind (id : Int) (s : Src) : (silS id s).kind = s.kind := by unfold silS; split <;> rfl
theorem sil_len (l : List Src) (id : Int) : (silL l id).length = l.length + 2 := by simp [silL, two]
theorem sil_mem {l : List Src} {id : Int} {s : Src} : s ∈ silL l id ↔ (∃ t ∈ l, silS id t = s) ∨ s = ⟨10, 1, [11]⟩ ∨ s = ⟨11, 1, [10]⟩ := by simp [silL, two]
theorem sil_has {l : List Src} {id : Int} {y : Int} (h : (∃ t ∈ l, t.id = y) ∨ y = 10 ∨ y = 11) : ∃ t ∈ silL l id, t.id = y := by
  rcases h with ⟨t, ht, e⟩ | h | h
  · exact ⟨silS id t, sil_mem.2 (.inl ⟨t, ht, rfl⟩), by rw [sil_id]; exact e⟩
  · exact ⟨_, sil_mem.2 (.inr (.inl rfl)), h.symm⟩
  · exact ⟨_, sil_mem.2 (.inr (.inr rfl)), h.symm⟩
theorem sil_sound {l : List Src} (hm : MadeL l.length l) (hl : l.length ≤ 10) (id : Int) : Sound (silL l id) (silL l id) := by
  have hS := made_sound hm hl
  refine ⟨?_, fun s hs => ?_⟩
  · unfold silL
    refine List.pairwise_append.2 ⟨List.pairwise_map.2 (hS.asc.imp fun h => by rw [sil_id, sil_id]; exact h), by simp [two], fun a ha b hb => ?_⟩
    obtain ⟨t, ht, rfl⟩ := List.mem_map.1 ha
    have := made_rng hm ht
    rw [sil_id]
    simp only [two, List.mem_cons, List.not_mem_nil, or_false] at hb
    rcases hb with rfl | rfl
    · show t.id < 10; omega
    · show t.id < 11; omega
  · rcases sil_mem.1 hs with ⟨t, ht, rfl⟩ | rfl | rfl
    · obtain ⟨h1, h2, h3, h4, h5, h6⟩ := hS.each t ht
      have hr := made_rng hm ht
      rw [sil_id, sil_kind]
      refine ⟨h1, h2, ?_⟩
      unfold silS
      split
      · refine ⟨by simp, by simp, fun y hy => ?_, ?_⟩
        · rw [List.mem_singleton] at hy
          exact sil_has (.inr (.inl hy))
        · rw [List.mem_singleton]; omega
      · exact ⟨h3, h4, fun y hy => sil_has (.inl (h5 y hy)), h6⟩
    · exact ⟨by decide, .inl rfl, by decide, by simp, fun y hy => by
        rw [List.mem_singleton] at hy
        exact sil_has (.inr (.inr hy)), by decide⟩
    · exact ⟨by decide, .inl rfl, by decide, by simp, fun y hy => by
        rw [List.mem_singleton] at hy
        exact sil_has (.inr (.inl hy)), by decide⟩
theorem sil_valid {l : List Src} (hm : MadeL l.length l) (hl : l.length ≤ 10) (id : Int) : validS (silL l id) = true := (sil_sound hm hl id).valid (by rw [sil_len]; omega)
theorem sil_short {l : List Src} (hm : MadeL l.length l) (hl : l.length ≤ 10) (id : Int) : ∀ s ∈ silL l id, s.frm.length ≤ 1000 := fun s hs => by
  have := ((sil_sound hm hl id).each s hs).2.2.1
  omega
theorem sil_asrt {l : List Src} {xs : List Int} (hm : MadeL l.length l) (hc : ChosenL l.length xs) (id : Int) : asrt (silL l id) xs = true := asrt_of hc.1 fun y hy => sil_has (.inl (made_has hm (hc.2 y hy)))
theorem sil_given {l : List Src} {xs : List Int} (hm : MadeL l.length l) (hl : l.length ≤ 10) (hc : ChosenL l.length xs) (id : Int) : givenB (silL l id) xs = true := by
  unfold givenB
  rw [sil_valid hm hl, sil_asrt hm hc]; rfl
/-- Whom a source's number stands behind. -/
theorem E_iff {l : List Src} {xs : List Int} {wo x y : Nat} : (webOf l xs wo).E x y = true ↔ ∃ s ∈ l, y = s.id.toNat ∧ ∃ z ∈ s.frm, z.toNat = x := by
  show (nxL l x).contains y = true ↔ _
  rw [List.contains_iff_mem, nxL_mem]
theorem org_iff {l : List Src} {xs : List Int} {wo x : Nat} : (webOf l xs wo).org x = true ↔ ∃ s ∈ l, s.frm.length = 0 ∧ s.id.toNat = x := ogL_bit l x
theorem said_iff {l : List Src} {xs : List Int} {wo x : Nat} : (webOf l xs wo).said x = true ↔ ∃ y ∈ xs, y.toNat = x := sd_bit xs x
theorem frm_rng {l : List Src} (hm : MadeL l.length l) {s : Src} (hs : s ∈ l) {y : Int} (hy : y ∈ s.frm) : 0 ≤ y ∧ y < l.length := by
  obtain ⟨i, _, h⟩ := made_mem hm hs
  have := h.rng y hy
  exact ⟨this.1, this.2.1⟩
/-! ### Circles -/
theorem sil_none {l : List Src} (hm : MadeL l.length l) : silL l (-1) = l ++ two := by
  unfold silL
  congr 1
  refine (List.map_congr_left fun s hs => ?_).trans (List.map_id l)
  have := made_rng hm hs
  unfold silS
  rw [if_neg (by omega)]
  rfl
theorem more_E {l : List Src} {xs ys : List Int} {wo : Nat} {x y : Nat} (hx : x < 10) : (webOf (l ++ two) ys wo).E x y = true ↔ (webOf l xs wo).E x y = true := by
  rw [E_iff, E_iff]
  constructor
  · rintro ⟨s, hs, e, z, hz, e2⟩
    rcases List.mem_append.1 hs with hs | hs
    · exact ⟨s, hs, e, z, hz, e2⟩
    · simp only [two, List.mem_cons, List.not_mem_nil, or_false] at hs
      rcases hs with rfl | rfl
      · rw [List.mem_singleton] at hz; omega
      · rw [List.mem_singleton] at hz; omega
  · rintro ⟨s, hs, h⟩
    exact ⟨s, List.mem_append_left _ hs, h⟩
theorem more_org {l : List Src} {xs ys : List Int} {wo : Nat} {x : Nat} : (webOf (l ++ two) ys wo).org x = true ↔ (webOf l xs wo).org x = true := by
  rw [org_iff, org_iff]
  constructor
  · rintro ⟨s, hs, e, e2⟩
    rcases List.mem_append.1 hs with hs | hs
    · exact ⟨s, hs, e, e2⟩
    · simp only [two, List.mem_cons, List.not_mem_nil, or_false] at hs
      rcases hs with rfl | rfl <;> simp at e
  · rintro ⟨s, hs, h⟩
    exact ⟨s, List.mem_append_left _ hs, h⟩
theorem made_org {l : List Src} (hm : MadeL l.length l) (hl : l.length ≤ 10) {xs : List Int} {wo x : Nat} (h : (webOf l xs wo).org x = true) : x < 10 := by
  obtain ⟨s, hs, _, e⟩ := org_iff.1 h
  have := made_rng hm hs
  omega
theorem made_E {l : List Src} (hm : MadeL l.length l) (hl : l.length ≤ 10) {xs : List Int} {wo x y : Nat} (h : (webOf l xs wo).E x y = true) : x < 10 ∧ y < 10 := by
  obtain ⟨s, hs, e, z, hz, e2⟩ := E_iff.1 h
  have := made_rng hm hs
  have := frm_rng hm hs hz
  omega
theorem circ_ring {l : List Src} {xs : List Int} (hm : MadeL l.length l) (hl : l.length ≤ 10) : Flow.Ring (webOf l xs 0) (webOf (l ++ two) (xs ++ [10, 11]) 0) (fun i => decide (i < 10)) where
  K := rfl
  wo := rfl
  org := funext fun i => by rw [Bool.eq_iff_iff]; exact more_org
  og := fun i h => decide_eq_true (made_org hm hl h)
  E := fun x y h => by rw [Bool.eq_iff_iff]; exact more_E (of_decide_eq_true h)
  cl := fun x y _ h => decide_eq_true (made_E hm hl h).2
  said := fun x h => by
    have h := of_decide_eq_true h
    rw [Bool.eq_iff_iff, said_iff, said_iff]
    constructor
    · rintro ⟨y, hy, e⟩
      rcases List.mem_append.1 hy with hy | hy
      · exact ⟨y, hy, e⟩
      · simp only [List.mem_cons, List.not_mem_nil, or_false] at hy
        rcases hy with rfl | rfl <;> omega
    · rintro ⟨y, hy, e⟩
      exact ⟨y, List.mem_append_left _ hy, e⟩
theorem circ_given {l : List Src} {xs : List Int} (hm : MadeL l.length l) (hl : l.length ≤ 10) (hc : ChosenL l.length xs) : givenB (silL l (-1)) (xs ++ [10, 11]) = true ∧ givenB (silL l (-1)) [10, 11] = true := by
  unfold givenB
  rw [sil_valid hm hl]
  refine ⟨?_, ?_⟩
  · show (true && asrt _ _) = true
    rw [Bool.true_and]
    refine asrt_of (List.pairwise_append.2 ⟨hc.1, by simp, fun a ha b hb => ?_⟩) fun y hy => ?_
    · have := hc.2 a ha
      simp only [List.mem_cons, List.not_mem_nil, or_false] at hb
      omega
    · rcases List.mem_append.1 hy with hy | hy
      · exact sil_has (.inl (made_has hm (hc.2 y hy)))
      · simp only [List.mem_cons, List.not_mem_nil, or_false] at hy
        exact sil_has (.inr hy)
  · show (true && asrt _ _) = true
    rw [Bool.true_and]
    refine asrt_of (by simp) fun y hy => ?_
    simp only [List.mem_cons, List.not_mem_nil, or_false] at hy
    exact sil_has (.inr hy)
theorem circ_same {l : List Src} {xs : List Int} (hm : MadeL l.length l) (hl : l.length ≤ 10) (hc : ChosenL l.length xs) : cntS (silL l (-1)) (xs ++ [10, 11]) 0 = cntS l xs 0 ∧ waysS (silL l (-1)) (xs ++ [10, 11]) 0 = waysS l xs 0 ∧ cutS (silL l (-1)) (xs ++ [10, 11]) 0 = cutS l xs 0 := by
  have h1 := (circ_given hm hl hc).1
  have h2 := made_given hm hl hc
  have hf := web_fit (given_valid h2) xs 0
  have hf' := web_fit (given_valid h1) (xs ++ [10, 11]) 0
  have e := sil_none hm
  rw [e] at hf'
  have hR := circ_ring (xs := xs) hm hl
  have hn := hR.num hf hf'
  unfold cntS waysS cutS
  rw [if_pos h1, if_pos h1, if_pos h1, if_pos h2, if_pos h2, if_pos h2, e, hn]
  exact ⟨rfl, hR.ways hf hf' _ _, hR.cuts hf hf'⟩
theorem below_ten {l : List Src} {xs : List Int} {o X : Nat} (hm : MadeL l.length l) (hl : l.length ≤ 10) (ho : ∀ i, o.testBit i = true → i < 10) {x : Nat} {D : Nat → Bool} (h : Flow.Reach (netOf (nxL (l ++ two)) (sdL xs) o X) D x) : x < 10 := by
  induction h with
  | base hi hb _ => exact ho _ hb
  | @step x y hx hw hd hy he ih =>
    have he : (webOf (l ++ two) xs X).E x y = true := he
    exact (made_E hm hl ((more_E (xs := xs) (wo := X) ih).1 he)).2
theorem more_og {l : List Src} (hm : MadeL l.length l) (hl : l.length ≤ 10) (i : Nat) (h : (ogL (l ++ two)).testBit i = true) : i < 10 := made_org hm hl (xs := []) (wo := 0) ((more_org (xs := []) (ys := []) (wo := 0)).1 h)
theorem circ_none {l : List Src} (hm : MadeL l.length l) (hl : l.length ≤ 10) (hg : givenB (silL l (-1)) [10, 11] = true) : cntS (silL l (-1)) [10, 11] 0 = 0 ∧ (waysS (silL l (-1)) [10, 11] 0).length = 0 ∧ (cutS (silL l (-1)) [10, 11] 0).length = 0 := by
  have h0 : cntS (silL l (-1)) [10, 11] 0 = 0 := by
    rw [cnt_eq hg]
    refine Flow.mc_none (web_fit (given_valid hg) _ _) fun x hx => ?_
    rw [sil_none hm] at hx ⊢
    have h1 : x < 10 := below_ten hm hl (more_og hm hl) hx
    rw [← Bool.not_eq_true, said_iff]
    rintro ⟨y, hy, e⟩
    simp only [List.mem_cons, List.not_mem_nil, or_false] at hy
    rcases hy with rfl | rfl <;> omega
  have := given_len (wo := 0) hg
  exact ⟨h0, by omega, by omega⟩
open Classical in
theorem circ_orig {l : List Src} (hm : MadeL l.length l) (hl : l.length ≤ 10) : orgL (silL l (-1)) 10 = [] ∧ orgE (silL l (-1)) 10 = 0 := by
  have hv := sil_valid hm hl (-1)
  have hf : (fndS (silL l (-1)) 10).isSome = true := fnd_has (sil_has (.inr (.inl rfl)))
  refine ⟨?_, by unfold orgE; rw [if_pos ⟨hv, hf⟩]⟩
  unfold orgL
  rw [if_pos ⟨hv, hf⟩, List.filter_eq_nil_iff]
  intro o ho
  rw [sil_none hm] at ho ⊢
  have ho1 : (ogL (l ++ two)).testBit o = true := by
    unfold elems at ho
    exact (List.mem_filter.1 ho).2
  have ho2 := more_og hm hl o ho1
  unfold fromB rchB
  rw [decide_eq_true_eq]
  rintro ⟨h, _⟩
  have h1 : (10 : Int).toNat < 10 := below_ten (xs := []) (D := fun _ => false) (o := 2 ^ o) (X := 0) hm hl (fun i hi => by
    rw [Nat.testBit_two_pow, decide_eq_true_eq] at hi
    omega) h
  omega
end Go.Proofs.YticngcjfofcoiaaDoor
