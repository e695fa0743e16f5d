/- Plain facts of the reference's least: it is the program's grow. -/
import Derived.Test.YticngcjfofcoiaaDoorRc
namespace Go.Proofs.YticngcjfofcoiaaDoor
open Go.RowKit Go.Rg Go.Proofs.YticngcjfofcoiaaDoorW.PrintWords
set_option linter.unusedVariables false
set_option linter.unusedSimpArgs false
theorem un_eq (wo u : Nat) (v : List Nat) : (wo ||| u) ||| orL 0 v = orL u v ||| wo := by
 refine Nat.eq_of_testBit_eq fun i => ?_
 rw [Nat.testBit_or, Nat.testBit_or, Nat.testBit_or, orL_bit, orL_bit, Nat.zero_testBit]
 cases wo.testBit i <;> cases u.testBit i <;> simp
theorem mc_own (l : List Src) (xs : List Int) (wo u : Nat) (v : List Nat) : Flow.mc (Flow.sub (webOf l xs wo) (webOf l xs wo).org (Flow.or2 (bitsOf u) (Flow.inL v))) = Flow.mc (webOf l xs ((wo ||| u) ||| orL 0 v)) := by
 rw [un_eq]
 exact congrArg Flow.mc (sub_net (nxL l) (sdL xs) (ogL l) wo (ogL l) u v)
theorem done_iff {l : List Src} {xs : List Int} {wo u n : Nat} {v : List Nat} : Flow.isDone (webOf l xs wo) (bitsOf u) v n = true ↔ ∃ x, v.getLast? = some x ∧ (sdL xs).testBit x = true ∧ n ≤ Flow.mc (webOf l xs ((wo ||| u) ||| orL 0 v)) := by
 unfold Flow.isDone
 rw [mc_own, Bool.and_eq_true, decide_eq_true_eq]
 cases h : v.getLast? with
 |none => simp
 |some x =>
  constructor
  ·rintro ⟨h1, h2⟩
   exact ⟨x, rfl, h1, h2⟩
  ·rintro ⟨y, e, h1, h2⟩
   cases e
   exact ⟨h1, h2⟩
noncomputable def growR (l : List Src) (xs : List Int) (wo u n : Nat) (v : List Nat) : List Nat := (Flow.grow (webOf l xs wo) (bitsOf u) n (13 - v.length) v).getD []
def Beg (l : List Src) (xs : List Int) (wo u : Nat) (v : List Nat) : Prop := v = [] ∨ Flow.Begun (webOf l xs wo) (bitsOf u) v
theorem Beg.len {l : List Src} {xs : List Int} {wo u : Nat} {v : List Nat} (h : Beg l xs wo u v) : v.length ≤ 12 := by
 rcases h with rfl | h
 ·simp
 ·exact Flow.nodup_len h.nodup fun x hx => (h.ok x hx).1
theorem Beg.lt {l : List Src} {xs : List Int} {wo u : Nat} {v : List Nat} (h : Beg l xs wo u v) : ∀ x ∈ v, x < 12 := by
 rcases h with rfl | h
 ·intro x hx; cases hx
 ·exact fun x hx => (h.ok x hx).1
noncomputable def fitsR (l : List Src) (xs : List Int) (wo u n : Nat) (v : List Nat) (i : Nat) : Bool := Flow.fits (webOf l xs wo) (bitsOf u) v (n + 1) i
def cand (l : List Src) (xs : List Int) (wo u : Nat) (v : List Nat) (i : Nat) : Prop := Flow.after (webOf l xs wo) v i = true ∧ u.testBit i = false ∧ i ∉ v ∧ wo.testBit i = false
open Classical in
theorem fits_cand {l : List Src} {xs : List Int} {wo u n : Nat} {v : List Nat} {i : Nat} (h : fitsR l xs wo u n v i = true) : cand l xs wo u v i ∧ Flow.CanP (webOf l xs wo) (bitsOf u) v i (n + 1) := by
 unfold fitsR Flow.fits at h
 simp only [Bool.and_eq_true, Bool.not_eq_true', decide_eq_true_eq] at h
 obtain ⟨h1, h2, h3, h4, h5⟩ := h
 refine ⟨⟨h1, h2, fun hm => ?_, h4⟩, h5⟩
 rw [Flow.inL_iff.2 hm] at h3; cases h3
open Classical in
theorem cand_fits {l : List Src} {xs : List Int} {wo u n : Nat} {v : List Nat} {i : Nat} (h : cand l xs wo u v i) (hc : Flow.CanP (webOf l xs wo) (bitsOf u) v i (n + 1)) : fitsR l xs wo u n v i = true := by
 unfold fitsR Flow.fits
 simp only [Bool.and_eq_true, Bool.not_eq_true', decide_eq_true_eq]
 refine ⟨h.1, h.2.1, ?_, h.2.2.2, hc⟩
 rw [← Bool.not_eq_true, Flow.inL_iff]
 exact h.2.2.1
theorem cand_beg {l : List Src} {xs : List Int} {wo u : Nat} {v : List Nat} {i : Nat} (hb : Beg l xs wo u v) (h : cand l xs wo u v i) (hi : i < 12) : Beg l xs wo u (v ++ [i]) :=
 .inr (Flow.begun_snoc hb hi h.1 h.2.1 h.2.2.1 h.2.2.2)
theorem beg_snoc {l : List Src} {xs : List Int} {wo u : Nat} {v : List Nat} {i : Nat} (h : Beg l xs wo u (v ++ [i])) : Flow.Begun (webOf l xs wo) (bitsOf u) (v ++ [i]) := by
 rcases h with h | h
 ·simp at h
 ·exact h
theorem after_src {l : List Src} {xs : List Int} {wo : Nat} {v : List Nat} {i : Nat} (hv : validS l = true) (h : Flow.after (webOf l xs wo) v i = true) : ∃ s ∈ l, s.id = i := by
 unfold Flow.after at h
 split at h
 ·obtain ⟨s, hs, _, e⟩ := org_iff.1 h
  have := (valid_src hv hs).1
  exact ⟨s, hs, by omega⟩
 ·obtain ⟨s, hs, e, _⟩ := E_iff.1 h
  have := (valid_src hv hs).1
  exact ⟨s, hs, by omega⟩
theorem grow_none {l : List Src} {xs : List Int} {wo u n : Nat} (hv : validS l = true) : ∀ (k : Nat) (v : List Nat), Beg l xs wo u v → ¬ Flow.Ext (webOf l xs wo) (bitsOf u) n v → Flow.grow (webOf l xs wo) (bitsOf u) n k v = none
 |0, _, _, _ => rfl
 |k + 1, v, hb, hne => by
  unfold Flow.grow
  have hnd : ¬ Flow.isDone (webOf l xs wo) (bitsOf u) v n = true := fun hd => by
   obtain ⟨x, e1, e2, e3⟩ := done_iff.1 hd
   rcases hb with rfl | hb
   ·cases e1
   ·refine hne ⟨[], ⟨?_, fun y hy => ?_, ?_, ?_, ?_⟩, ?_⟩
    ·obtain ⟨y, r, e, ho⟩ := hb.org
     exact ⟨y, r ++ [], by rw [e]; rfl, ho⟩
    ·rw [List.append_nil] at hy
     have := hb.ok y hy
     refine ⟨this.1, ?_⟩
     show ((webOf l xs wo).wo y || bitsOf u y) = false
     rw [this.2.1, this.2.2]; rfl
    ·rw [List.append_nil]; exact hb.chn
    ·exact ⟨x, by rw [List.append_nil]; exact e1, e2⟩
    ·rw [List.append_nil]; exact hb.nodup
    ·rw [List.append_nil, mc_own]; exact e3
  rw [if_neg hnd]
  have hnf : (List.range (webOf l xs wo).K).find? (Flow.fits (webOf l xs wo) (bitsOf u) v (n + 1)) = none := by
   rw [List.find?_eq_none]
   intro i hi hf
   have hi : i < 12 := List.mem_range.1 hi
   obtain ⟨hc, hcan⟩ := fits_cand hf
   have hb2 := beg_snoc (cand_beg hb hc hi)
   obtain ⟨t, ht1, ht2⟩ := (Flow.can_iff (web_fit hv xs wo) hb2).1 hcan
   rw [List.append_assoc] at ht1 ht2
   exact hne ⟨_, ht1, ht2⟩
  rw [hnf]
theorem growR_done {l : List Src} {xs : List Int} {wo u n : Nat} {v : List Nat} (hb : Beg l xs wo u v) (hd : Flow.isDone (webOf l xs wo) (bitsOf u) v n = true) : growR l xs wo u n v = v := by
 unfold growR
 have := hb.len
 rw [show 13 - v.length = (12 - v.length) + 1 by omega]
 unfold Flow.grow
 rw [if_pos hd]
 rfl
theorem find_range {p : Nat → Bool} {n k : Nat} (hk : k < n) (hp : p k = true) (hno : ∀ j, j < k → p j = false) : (List.range n).find? p = some k := by
 rw [List.find?_eq_some_iff_append]
 refine ⟨hp, List.range k, (List.range n).drop (k + 1), ?_, fun a ha => by rw [hno a (List.mem_range.1 ha)]; rfl⟩
 have h1 : (List.range n).take (k + 1) = List.range (k + 1) := by
  rw [List.take_range, Nat.min_eq_left (by omega)]
 have h2 := List.take_append_drop (k + 1) (List.range n)
 rw [h1, List.range_succ, List.append_assoc] at h2
 exact h2.symm
theorem growR_take {l : List Src} {xs : List Int} {wo u n : Nat} {v : List Nat} {i : Nat} {s : Src} (hv : validS l = true) (hb : Beg l xs wo u v) (hnd : Flow.isDone (webOf l xs wo) (bitsOf u) v n = false) (hs : l[i]? = some s) (hpre : ∀ t ∈ l.take i, fitsR l xs wo u n v t.id.toNat = false) (hf : fitsR l xs wo u n v s.id.toNat = true) : growR l xs wo u n v = growR l xs wo u n (v ++ [s.id.toNat]) := by
 have hr := valid_src hv (List.mem_of_getElem? hs)
 have hlen := hb.len
 have hlen2 := (cand_beg hb (fits_cand hf).1 (by omega)).len
 rw [List.length_append, List.length_singleton] at hlen2
 unfold growR
 rw [List.length_append, List.length_singleton, show 13 - v.length = (13 - (v.length + 1)) + 1 by omega]
 conv => lhs; unfold Flow.grow
 rw [if_neg (by rw [hnd]; simp)]
 have hfd : (List.range (webOf l xs wo).K).find? (Flow.fits (webOf l xs wo) (bitsOf u) v (n + 1)) = some s.id.toNat := by
  refine find_range (by show s.id.toNat < 12; omega) hf fun j hj => ?_
  rw [← Bool.not_eq_true]
  intro hjf
  obtain ⟨t, ht, e⟩ := after_src hv (fits_cand (n := n) hjf).1.1
  obtain ⟨m, hm, em⟩ := List.getElem_of_mem ht
  obtain ⟨hil, his⟩ := List.getElem?_eq_some_iff.1 hs
  have hmi : m < i := by
   rcases Nat.lt_trichotomy m i with h | h | h
   ·exact h
   ·subst h; rw [em] at his; subst his; omega
   ·have := valid_ids hv h hm
    unfold idAt at this
    simp [List.getD, hil, hm, his, em] at this
    omega
  have := hpre t (by rw [List.mem_take_iff_getElem]; exact ⟨m, by omega, em⟩)
  rw [e, Int.toNat_natCast] at this
  rw [show fitsR l xs wo u n v j = true from hjf] at this; cases this
 rw [hfd]
theorem growR_end {l : List Src} {xs : List Int} {wo u n : Nat} {v : List Nat} (hv : validS l = true) (hb : Beg l xs wo u v) (hnd : Flow.isDone (webOf l xs wo) (bitsOf u) v n = false) (hno : ∀ t ∈ l, fitsR l xs wo u n v t.id.toNat = false) : growR l xs wo u n v = [] := by
 have hlen := hb.len
 unfold growR
 rw [show 13 - v.length = (12 - v.length) + 1 by omega]
 unfold Flow.grow
 rw [if_neg (by rw [hnd]; simp)]
 have hfd : (List.range (webOf l xs wo).K).find? (Flow.fits (webOf l xs wo) (bitsOf u) v (n + 1)) = none := by
  rw [List.find?_eq_none]
  intro i hi hf
  obtain ⟨t, ht, e⟩ := after_src hv (fits_cand (n := n) hf).1.1
  have := hno t ht
  rw [e, Int.toNat_natCast] at this
  rw [show fitsR l xs wo u n v i = true from hf] at this; cases this
 rw [hfd]
 rfl
theorem growR_try {l : List Src} {xs : List Int} {wo u n : Nat} {v : List Nat} {i : Nat} (hv : validS l = true) (hb : Beg l xs wo u v) (hi : i < 12) (hc : cand l xs wo u v i) : (0 < (growR l xs wo u n (v ++ [i])).length) ↔ fitsR l xs wo u n v i = true := by
 have hb1 := cand_beg hb hc hi
 have hb2 := beg_snoc hb1
 have hcan := Flow.can_iff (web_fit hv xs wo) (rest := n) hb2
 constructor
 ·intro h
  refine cand_fits hc (hcan.2 ?_)
  refine Classical.byContradiction fun hne => ?_
  unfold growR at h
  rw [grow_none hv _ _ hb1 hne] at h
  simp at h
 ·intro h
  have he := hcan.1 (fits_cand h).2
  have hl := hb1.len
  obtain ⟨p, h1, h2, _⟩ := Flow.grow_spec (web_fit hv xs wo) (13 - (v ++ [i]).length) (v ++ [i]) (by show 12 < 13 - (v ++ [i]).length + (v ++ [i]).length; omega) hb1 he
  unfold growR
  rw [h1]
  obtain ⟨x, r, e, _⟩ := h2.org
  show 0 < p.length
  rw [e]; simp
end Go.Proofs.YticngcjfofcoiaaDoor
/- Plain facts of the reference's first: the first cut has the least sum of places. -/
namespace Go.Proofs.YticngcjfofcoiaaDoor
open Go.RowKit Go.Rg Go.Proofs.YticngcjfofcoiaaDoorW.PrintWords
set_option linter.unusedVariables false
set_option linter.unusedSimpArgs false
def pTo (p : List Nat) (s : Nat) : Nat → Nat
 |0 => 0
 |k + 1 => pTo p s k + if s.testBit (p.getD k 0) = true then k else 0
def wTo (ps : List (List Nat)) (s : Nat) : Nat → Nat
 |0 => 0
 |i + 1 => wTo ps s i + pTo (ps.getD i []) s (ps.getD i []).length
theorem pTo_none {p : List Nat} {s : Nat} : ∀ {k : Nat}, (∀ j, j < k → s.testBit (p.getD j 0) = false) → pTo p s k = 0
 |0, _ => rfl
 |k + 1, h => by
  unfold pTo
  rw [pTo_none (k := k) (fun j hj => h j (by omega)), h k (by omega)]
  simp
theorem pTo_one {p : List Nat} {s c : Nat} : ∀ {k : Nat}, c < k → s.testBit (p.getD c 0) = true → (∀ j, j < k → j ≠ c → s.testBit (p.getD j 0) = false) → pTo p s k = c
 |k + 1, hc, h1, h2 => by
  unfold pTo
  by_cases e : c = k
  ·subst e
   rw [pTo_none (k := c) (fun j hj => h2 j (by omega) (by omega)), if_pos h1]; omega
  ·rw [pTo_one (k := k) (by omega) h1 (fun j hj hne => h2 j (by omega) hne), h2 k (by omega) (fun h => e h.symm)]
   simp
theorem hits_count {w : Flow.Web} : ∀ {ps : List (List Nat)} {D : Nat → Bool}, Flow.Ways w ps → (∀ p ∈ ps, ∃ x ∈ p, D x = true) → (ps.length : Int) ≤ Flow.count w.K D
 |[], D, _, _ => by have := Flow.count_nonneg w.K D; simpa using this
 |p :: ps, D, hw, hh => by
  obtain ⟨x, hx, hD⟩ := hh p (by simp)
  have hxk := ((hw.each p (by simp)).ok x hx).1
  have ha := List.pairwise_cons.1 hw.apart
  have h1 := hits_count (ps := ps) (D := Flow.less D x) ⟨fun q hq => hw.each q (by simp [hq]), ha.2⟩ (fun q hq => by
   obtain ⟨y, hy, hDy⟩ := hh q (by simp [hq])
   refine ⟨y, hy, ?_⟩
   unfold Flow.less
   rw [hDy]
   have hne : y ≠ x := fun e => ha.1 q hq x hx (e ▸ hy)
   simp [hne])
  have h2 := Flow.count_less hxk hD
  rw [List.length_cons]
  omega
theorem one_hit {w : Flow.Web} {ps : List (List Nat)} {D : Nat → Bool} (hw : Flow.Ways w ps) (hD : Flow.Cut w D) (hn : Flow.count w.K D = ps.length) {p : List Nat} (hp : p ∈ ps) {x y : Nat} (hx : x ∈ p) (hy : y ∈ p) (h1 : D x = true) (h2 : D y = true) : x = y := by
 refine Classical.byContradiction fun hne => ?_
 obtain ⟨qs, hl, hq, hsub, hap⟩ := Flow.pick_out hp hw
 have hyk := ((hw.each p hp).ok y hy).1
 have hxk := ((hw.each p hp).ok x hx).1
 have hl2 : Flow.less D x y = true := by
  unfold Flow.less
  rw [h2]
  have : y ≠ x := fun e => hne e.symm
  simp [this]
 have c1 := Flow.count_less hxk h1
 have c2 := Flow.count_less (D := Flow.less D x) hyk hl2
 have c3 := hits_count (D := Flow.less (Flow.less D x) y) hq (fun q hqm => by
  obtain ⟨z, hz, hDz⟩ := (hw.each q (hsub q hqm)).hits hD
  have hzp := hap q hqm z hz
  refine ⟨z, hz, ?_⟩
  unfold Flow.less
  rw [hDz]
  have a1 : z ≠ x := fun e => hzp (e ▸ hx)
  have a2 : z ≠ y := fun e => hzp (e ▸ hy)
  simp [a1, a2])
 omega
theorem in_way {w : Flow.Web} {ps : List (List Nat)} {D : Nat → Bool} (hw : Flow.Ways w ps) (hD : Flow.Cut w D) (hn : Flow.count w.K D = ps.length) {i : Nat} (hi : i < w.K) (h : D i = true) : ∃ p ∈ ps, i ∈ p := by
 refine Classical.byContradiction fun hno => ?_
 have c1 := Flow.count_less hi h
 have c2 := hits_count (D := Flow.less D i) hw (fun q hq => by
  obtain ⟨z, hz, hDz⟩ := (hw.each q hq).hits hD
  refine ⟨z, hz, ?_⟩
  unfold Flow.less
  rw [hDz]
  have : z ≠ i := fun e => hno ⟨q, hq, e ▸ hz⟩
  simp [this])
 omega
theorem walk_on {w : Flow.Web} {D : Nat → Bool} {p : List Nat} (hp : Flow.Way w p) (hD : Flow.Cut w D) : ∀ (m i : Nat) (hi : i < p.length), p.length - i ≤ m → Flow.Reach w D p[i] → (∀ j (hj : j < p.length), i ≤ j → D p[j] = false) → False
 |0, i, hi, hm, _, _ => by omega
 |m + 1, i, hi, hm, hr, hno => by
  have hok := hp.ok p[i] (List.getElem_mem hi)
  rcases Nat.lt_or_ge (i + 1) p.length with h | h
  ·have he := chn_iff.1 hp.chn i h
   exact walk_on hp hD m (i + 1) h (by omega) (.step hr hok.2 (hno i hi (Nat.le_refl _)) (hp.ok _ (List.getElem_mem h)).1 he) (fun j hj hij => hno j hj (by omega))
  ·obtain ⟨x, e, hs⟩ := hp.said
   obtain ⟨h0, e2⟩ := last_get e
   have : i = p.length - 1 := by omega
   subst this
   rw [e2] at hr hok
   have h3 := hno (p.length - 1) hi (Nat.le_refl _)
   rw [e2] at h3
   exact hD x hr hok.2 h3 hs
theorem first_early {w : Flow.Web} (hf : Flow.Fit w) {ps : List (List Nat)} {D : Nat → Bool} (hw : Flow.Ways w ps) (hlen : ps.length = Flow.mc w) (hD : Flow.IsMin w D) {p : List Nat} (hp : p ∈ ps) {a c : Nat} (ha : a < p.length) (hc : c < p.length) (h1 : Flow.firstB w p[a] = true) (h2 : D p[c] = true) : a ≤ c := by
 refine Classical.byContradiction fun hlt => ?_
 have hway := hw.each p hp
 have hk := (hway.ok p[a] (List.getElem_mem ha)).1
 have hr := ((Flow.firstB_iff hf hk).1 h1).1 D hD
 have hcount : Flow.count w.K D = ps.length := by rw [hD.2, hlen]
 refine walk_on hway hD.1 p.length a ha (by omega) hr fun j hj haj => ?_
 rw [← Bool.not_eq_true]
 intro hDj
 have e := one_hit hw hD.1 hcount hp (List.getElem_mem hj) (List.getElem_mem hc) hDj h2
 have := (List.getElem_inj (h₀ := hj) (h₁ := hc) hway.nodup).1 e
 omega
theorem place {w : Flow.Web} {ps : List (List Nat)} {s : Nat} (hw : Flow.Ways w ps) (hD : Flow.Cut w (bitsN s)) (hn : Flow.count w.K (bitsN s) = ps.length) {p : List Nat} (hp : p ∈ ps) : ∃ c, ∃ hc : c < p.length, s.testBit p[c] = true ∧ pTo p s p.length = c := by
 obtain ⟨x, hx, hDx⟩ := (hw.each p hp).hits hD
 obtain ⟨c, hc, e⟩ := List.getElem_of_mem hx
 subst e
 refine ⟨c, hc, hDx, pTo_one hc (by have h : s.testBit p[c] = true := hDx; simpa [List.getD, hc] using h) fun j hj hne => ?_⟩
 rw [← Bool.not_eq_true]
 intro h
 have h : bitsN s p[j] = true := by simpa [List.getD, hj, bitsN] using h
 have e := one_hit hw hD hn hp (List.getElem_mem hj) (List.getElem_mem hc) h hDx
 exact hne ((List.getElem_inj (h₀ := hj) (h₁ := hc) (hw.each p hp).nodup).1 e)
def Looked (l : List Src) (xs : List Int) (X n s : Nat) : Prop := s < 4096 ∧ (elems s).length = n ∧ cutX l xs (s ||| X) = true
theorem looked_min {l : List Src} {xs : List Int} {X s : Nat} (h : Looked l xs X (Flow.mc (webOf l xs X)) s) : Flow.IsMin (webOf l xs X) (bitsN s) := by
 refine ⟨cutX_iff.1 h.2.2, ?_⟩
 have := size_count s
 show Flow.count 12 (bitsN s) = _
 rw [← this, h.2.1]
noncomputable def firstN (l : List Src) (xs : List Int) (X : Nat) : Nat := setOf (Flow.firstB (webOf l xs X))
theorem firstN_bit {l : List Src} {xs : List Int} {X i : Nat} (hi : i < 12) : (firstN l xs X).testBit i = Flow.firstB (webOf l xs X) i := by unfold firstN; rw [setOf_bit]; simp [hi]
theorem firstN_elems (l : List Src) (xs : List Int) (X : Nat) : elems (firstN l xs X) = Flow.firstL (webOf l xs X) := by
 unfold elems Flow.firstL
 exact List.filter_congr fun i hi => firstN_bit (List.mem_range.1 hi)
theorem firstN_looked {l : List Src} {xs : List Int} {X : Nat} (hv : validS l = true) : Looked l xs X (Flow.mc (webOf l xs X)) (firstN l xs X) := by
 have hf := web_fit hv xs X
 refine ⟨setOf_lt _, by rw [firstN_elems]; exact Flow.firstL_len hf, cutX_iff.2 ?_⟩
 exact cut_ext (w := webOf l xs X) (D := Flow.firstB (webOf l xs X)) (fun i hi => (firstN_bit hi).symm) (Flow.firstB_cut hf).1
theorem wTo_le {ps : List (List Nat)} {s t : Nat} : ∀ {k : Nat}, (∀ i, i < k → pTo (ps.getD i []) s (ps.getD i []).length ≤ pTo (ps.getD i []) t (ps.getD i []).length) → wTo ps s k ≤ wTo ps t k ∧ (wTo ps t k ≤ wTo ps s k → ∀ i, i < k → pTo (ps.getD i []) s (ps.getD i []).length = pTo (ps.getD i []) t (ps.getD i []).length)
 |0, _ => ⟨Nat.le_refl _, fun _ i hi => by omega⟩
 |k + 1, h => by
  have ih := wTo_le (ps := ps) (s := s) (t := t) (k := k) (fun i hi => h i (by omega))
  have hk := h k (by omega)
  unfold wTo
  refine ⟨by omega, fun hle i hi => ?_⟩
  by_cases e : i = k
  ·subst e; omega
  ·exact ih.2 (by omega) i (by omega)
theorem first_best {l : List Src} {xs : List Int} {X s : Nat} {ps : List (List Nat)} (hv : validS l = true) (hw : Flow.Ways (webOf l xs X) ps) (hlen : ps.length = Flow.mc (webOf l xs X)) (hs : Looked l xs X ps.length s) : wTo ps (firstN l xs X) ps.length ≤ wTo ps s ps.length ∧ (wTo ps s ps.length ≤ wTo ps (firstN l xs X) ps.length → s = firstN l xs X) := by
 have hf := web_fit hv xs X
 rw [hlen] at hs
 have hm := looked_min hs
 have hl1 := firstN_looked (xs := xs) (X := X) hv
 have hm1 := looked_min hl1
 have hc : Flow.count (webOf l xs X).K (bitsN s) = ps.length := by rw [hm.2, hlen]
 have hc1 : Flow.count (webOf l xs X).K (bitsN (firstN l xs X)) = ps.length := by rw [hm1.2, hlen]
 have pl : ∀ p ∈ ps, ∃ a c, ∃ (ha : a < p.length) (hc : c < p.length), (firstN l xs X).testBit p[a] = true ∧ s.testBit p[c] = true ∧ pTo p (firstN l xs X) p.length = a ∧ pTo p s p.length = c ∧ a ≤ c := fun p hp => by
  obtain ⟨a, ha, b1, e1⟩ := place hw hm1.1 hc1 hp
  obtain ⟨c, hcl, b2, e2⟩ := place hw hm.1 hc hp
  have hk : p[a] < 12 := ((hw.each p hp).ok _ (List.getElem_mem ha)).1
  exact ⟨a, c, ha, hcl, b1, b2, e1, e2, first_early hf hw hlen hm hp ha hcl (by rw [← firstN_bit hk]; exact b1) b2⟩
 have hat : ∀ i, i < ps.length → ps.getD i [] ∈ ps := fun i hi => by simp [List.getD, hi]
 have h := wTo_le (ps := ps) (s := firstN l xs X) (t := s) (k := ps.length) (fun i hi => by
  obtain ⟨a, c, _, _, _, _, e1, e2, hle⟩ := pl _ (hat i hi)
  rw [e1, e2]; exact hle)
 refine ⟨h.1, fun hle => ?_⟩
 have heq := h.2 hle
 have same : ∀ p ∈ ps, ∀ i ∈ p, s.testBit i = (firstN l xs X).testBit i := fun p hp i hi => by
  obtain ⟨a, c, ha, hcl, b1, b2, e1, e2, _⟩ := pl p hp
  obtain ⟨m, hm', em⟩ := List.getElem_of_mem hp
  have := heq m hm'
  have hgd : ps.getD m [] = p := by simp [List.getD, hm', em]
  rw [hgd, e1, e2] at this
  subst this
  rw [Bool.eq_iff_iff]
  constructor
  ·intro hb
   have := one_hit hw hm.1 hc hp hi (List.getElem_mem hcl) hb b2
   rw [this]; exact b1
  ·intro hb
   have := one_hit hw hm1.1 hc1 hp hi (List.getElem_mem ha) hb b1
   rw [this]; exact b2
 refine Nat.eq_of_testBit_eq fun i => ?_
 rcases Nat.lt_or_ge i 12 with hi | hi
 ·rw [Bool.eq_iff_iff]
  constructor
  ·intro hb
   obtain ⟨p, hp, hip⟩ := in_way hw hm.1 hc (show i < (webOf l xs X).K from hi) hb
   rw [← same p hp i hip]; exact hb
  ·intro hb
   obtain ⟨p, hp, hip⟩ := in_way hw hm1.1 hc1 (show i < (webOf l xs X).K from hi) hb
   rw [same p hp i hip]; exact hb
 ·have big : ∀ t, t < 4096 → t.testBit i = false := fun t ht => Nat.testBit_lt_two_pow (Nat.lt_of_lt_of_le ht (by have := Nat.pow_le_pow_right (show 0 < 2 by omega) hi; omega))
  rw [big s hs.1, big _ hl1.1]
end Go.Proofs.YticngcjfofcoiaaDoor
