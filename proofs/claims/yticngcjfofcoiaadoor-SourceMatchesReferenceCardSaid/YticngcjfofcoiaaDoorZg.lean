/- Plain: what the reference's way and Check ask is what the program's Check asks. -/
import Derived.Test.YticngcjfofcoiaaDoorTf
namespace Go.Proofs.YticngcjfofcoiaaDoor
open Go.RowKit Go.Rg Go.Proofs.YticngcjfofcoiaaDoorW.PrintWords
set_option linter.unusedVariables false
set_option linter.unusedSimpArgs false
theorem fnd_src {l : List Src} {y : Int} (h : (fndS l y).isSome = true) : ∃ s, fndS l y = some s ∧ s ∈ l ∧ s.id = y := by
 obtain ⟨s, hs⟩ := Option.isSome_iff_exists.1 h
 have h2 := List.find?_some hs
 exact ⟨s, hs, List.mem_of_find?_eq_some hs, by simpa using h2⟩
theorem fnd_pos {l : List Src} {y : Int} (hv : validS l = true) (h : (fndS l y).isSome = true) : 0 ≤ y ∧ y < 12 := by
 obtain ⟨s, _, hm, rfl⟩ := fnd_src h
 have := valid_src hv hm
 exact ⟨this.1, this.2.1⟩
theorem step_iff {l : List Src} {u i : Nat} {v : List Int} (hv : validS l = true) (hi : i < v.length) (hf : ∀ j : Nat, j ≤ i → (fndS l (rd v j)).isSome = true) : stepB l u v i = (stR l v i && !u.testBit (rd v i).toNat) := by
 obtain ⟨s, hs, hm, hid⟩ := fnd_src (hf i (Nat.le_refl _))
 have hy := fnd_pos hv (hf i (Nat.le_refl _))
 have hsv := valid_src hv hm
 have ha : (orL u ((v.take i).map Int.toNat)).testBit (rd v i).toNat = (u.testBit (rd v i).toNat || (v.take i).contains (rd v i)) := by
  rw [orL_bit]
  congr 1
  rw [Bool.eq_iff_iff, List.contains_iff_mem, List.contains_iff_mem, List.mem_map]
  constructor
  ·rintro ⟨z, hz, e⟩
   obtain ⟨m, hm1, hm2⟩ := List.mem_take_iff_getElem.1 hz
   have hmi : m < i := by omega
   have h3 := fnd_pos hv (hf m (by omega))
   rw [rd_at (by omega), hm2] at h3
   have : z = rd v i := by omega
   rw [← this]; exact hz
  ·intro h
   exact ⟨_, h, rfl⟩
 have hb : (if i = 0 then (ogL l).testBit (rd v i).toNat else (nxL l (rd v (i - 1 : Nat)).toNat).contains (rd v i).toNat) = fromR l v i := by
  have hsr : srcAt l v i = s := by unfold srcAt; rw [hs]; rfl
  unfold fromR
  rw [hsr]
  by_cases h0 : i = 0
  ·rw [if_pos h0, if_pos h0, Bool.eq_iff_iff, ogL_bit, decide_eq_true_eq]
   constructor
   ·rintro ⟨t, ht, h1, h2⟩
    have htv := valid_src hv ht
    have : t = s := valid_uniq hv ht hm (by omega)
    rw [← this]; exact h1
   ·intro h
    exact ⟨s, hm, h, by rw [hid]⟩
  ·rw [if_neg h0, if_neg h0]
   have hp := fnd_pos hv (hf (i - 1) (by omega))
   show (webOf l [] 0).E (rd v (i - 1 : Nat)).toNat (rd v i).toNat = _
   rw [Bool.eq_iff_iff, E_iff, List.contains_iff_mem]
   constructor
   ·rintro ⟨t, ht, h1, z, hz, h2⟩
    have htv := valid_src hv ht
    have e : t = s := valid_uniq hv ht hm (by omega)
    rw [e] at hz
    have hzv := valid_rng hv hsv.2.2.2.2.1 hz
    rw [show rd v (i - 1 : Nat) = z by omega]; exact hz
   ·intro h
    exact ⟨s, hm, by rw [hid], _, h, rfl⟩
 unfold stepB stR
 rw [ha, hb, hf i (Nat.le_refl _)]
 cases u.testBit (rd v i).toNat <;> cases (v.take i).contains (rd v i) <;> cases fromR l v i <;> rfl
theorem rd_all {v : List Int} {p : Int → Bool} : v.all p = true ↔ ∀ i : Nat, i < v.length → p (rd v i) = true := by
 rw [List.all_eq_true]
 constructor
 ·intro h i hi
  rw [rd_at hi]; exact h _ (List.getElem_mem hi)
 ·intro h x hx
  obtain ⟨i, hi, e⟩ := List.getElem_of_mem hx
  have := h i hi
  rw [rd_at hi, e] at this; exact this
theorem way_eq {l : List Src} {xs v : List Int} {u : Nat} (hv : validS l = true) (ha : asrt l xs = true) : wayB l xs u v = (wayR l xs v && v.all fun y => !u.testBit y.toNat) := by
 rw [Bool.eq_iff_iff]
 have hstr : ∀ {i : Nat}, stR l v i = true → (fndS l (rd v i)).isSome = true := fun h => by unfold stR at h; rw [Bool.and_eq_true] at h; exact h.1
 have hstb : ∀ {i : Nat}, stepB l u v i = true → (fndS l (rd v i)).isSome = true := fun h => by unfold stepB at h; rw [Bool.and_eq_true] at h; exact h.1
 have last : ∀ (h0 : 0 < v.length), (fndS l (rd v (v.length - 1 : Nat))).isSome = true → ((sdL xs).testBit (rd v (v.length - 1 : Nat)).toNat = true ↔ xs.contains (rd v (v.length - 1 : Nat)) = true) := fun h0 hf => by
  have h1 := fnd_pos hv hf
  rw [sd_bit, List.contains_iff_mem]
  constructor
  ·rintro ⟨y, hy, e⟩
   have h2 := valid_rng hv ha hy
   rw [show rd v (v.length - 1 : Nat) = y by omega]; exact hy
  ·intro h
   exact ⟨_, h, rfl⟩
 unfold wayB wayR
 rw [Bool.and_eq_true, Bool.and_eq_true, decide_eq_true_eq, Bool.and_eq_true, Bool.and_eq_true, Bool.and_eq_true, decide_eq_true_eq, rd_all, List.all_eq_true, List.all_eq_true]
 constructor
 ·rintro ⟨h0, h1, h2⟩
  have h1 : ∀ i : Nat, i < v.length → stepB l u v i = true := fun i hi => h1 i (List.mem_range.2 hi)
  have hs : ∀ i : Nat, i < v.length → (stR l v i && !u.testBit (rd v i).toNat) = true := fun i hi => by
   rw [← step_iff hv hi fun j hj => hstb (h1 j (by omega))]; exact h1 i hi
  exact ⟨⟨h0, fun i hi => by have := hs i (List.mem_range.1 hi); rw [Bool.and_eq_true] at this; exact this.1, (last h0 (hstb (h1 _ (by omega)))).1 h2⟩, fun i hi => by have := hs i hi; rw [Bool.and_eq_true] at this; exact this.2⟩
 ·rintro ⟨⟨h0, h1, h2⟩, h3⟩
  have h1 : ∀ i : Nat, i < v.length → stR l v i = true := fun i hi => h1 i (List.mem_range.2 hi)
  exact ⟨h0, fun i hi => by
   have hi := List.mem_range.1 hi
   rw [step_iff hv hi fun j hj => hstr (h1 j (by omega)), h1 i hi, h3 i hi]; rfl, (last h0 (hstr (h1 _ (by omega)))).2 h2⟩
theorem dead_eq {l : List Src} {xs cs : List Int} : deadB l xs cs = cutX l xs (sdL cs) := by
 unfold deadB cutX
 have h : rchB (nxL l) (sdL xs) (ogL l) (sdL cs) = rchB (nxL l) 0 (ogL l) (sdL cs) := funext fun i => rch_sd _ _ _ _ _ _
 rw [h]
theorem way_fnd {l : List Src} {xs v : List Int} (h : wayR l xs v = true) {j : Nat} (hj : j < v.length) : (fndS l (rd v j)).isSome = true := by
 unfold wayR at h
 rw [Bool.and_eq_true, Bool.and_eq_true, List.all_eq_true] at h
 have := h.2.1 j (List.mem_range.2 hj)
 unfold stR at this
 rw [Bool.and_eq_true] at this
 exact this.1
theorem way_once {l : List Src} {xs v : List Int} (h : wayR l xs v = true) {j : Nat} (hj : j < v.length) : (v.take j).contains (rd v j) = false := by
 unfold wayR at h
 rw [Bool.and_eq_true, Bool.and_eq_true, List.all_eq_true] at h
 have := h.2.1 j (List.mem_range.2 hj)
 unfold stR at this
 rw [Bool.and_eq_true, Bool.and_eq_true, Bool.not_eq_true'] at this
 exact this.2.2
theorem used_add {l : List Src} {xs v : List Int} {u j : Nat} (hv : validS l = true) (hw : wayR l xs v = true) (hj : j < v.length) (hu : u < 4096) (hn : u.testBit (rd v j).toNat = false) (hlo : orL u ((v.take j).map Int.toNat) < 4096) :
  orL u ((v.take (j + 1)).map Int.toNat) = orL u ((v.take j).map Int.toNat) + 2 ^ (rd v j).toNat := by
 have hy := fnd_pos hv (way_fnd hw hj)
 rw [orI_step (Y := (rd v j).toNat) hj (by omega)]
 refine (or_add hlo (by omega) ?_).symm
 rw [orL_bit, hn, Bool.false_or, ← Bool.not_eq_true, List.contains_iff_mem, List.mem_map]
 rintro ⟨z, hz, e⟩
 obtain ⟨m, hm1, hm2⟩ := List.mem_take_iff_getElem.1 hz
 have h3 := fnd_pos hv (way_fnd hw (show m < v.length by omega))
 rw [rd_at (by omega), hm2] at h3
 have e2 : z = rd v j := by omega
 have h4 := way_once hw hj
 rw [← Bool.not_eq_true, List.contains_iff_mem, ← e2] at h4
 exact h4 hz
theorem used_lt {l : List Src} {xs v : List Int} {u : Nat} (hv : validS l = true) (hw : wayR l xs v = true) (hu : u < 4096) (j : Nat) : orL u ((v.take j).map Int.toNat) < 4096 := by
 refine orL_lt hu fun x hx => ?_
 obtain ⟨z, hz, rfl⟩ := List.mem_map.1 hx
 obtain ⟨m, hm1, hm2⟩ := List.mem_take_iff_getElem.1 hz
 have h3 := fnd_pos hv (way_fnd hw (show m < v.length by omega))
 rw [rd_at (by omega), hm2] at h3
 omega
theorem cut_add {l : List Src} {cs : List Int} {j : Nat} (hv : validS l = true) (ha : asrt l cs = true) (hj : j < cs.length) : sdL (cs.take (j + 1)) = sdL (cs.take j) + 2 ^ (rd cs j).toNat := by
 have hmem : rd cs j ∈ cs := by rw [rd_at hj]; exact List.getElem_mem hj
 have hy := valid_rng hv ha hmem
 unfold sdL
 rw [orI_step (Y := (rd cs j).toNat) hj (by omega)]
 refine (or_add (orL_lt (by decide) fun x hx => ?_) (by omega) ?_).symm
 ·obtain ⟨z, hz, rfl⟩ := List.mem_map.1 hx
  have := valid_rng hv ha (List.mem_of_mem_take hz)
  omega
 ·rw [orL_bit, Nat.zero_testBit, Bool.false_or, ← Bool.not_eq_true, List.contains_iff_mem, List.mem_map]
  rintro ⟨z, hz, e⟩
  obtain ⟨m, hm1, hm2⟩ := List.mem_take_iff_getElem.1 hz
  have hz3 := valid_rng hv ha (List.mem_of_mem_take hz)
  have hlt := List.pairwise_iff_getElem.1 (asrt_asc ha) m j (by omega) hj (by omega)
  rw [rd_at hj] at e hy
  rw [hm2] at hlt
  omega
theorem sdL_lt {l : List Src} {cs : List Int} (hv : validS l = true) (ha : asrt l cs = true) (j : Nat) : sdL (cs.take j) < 4096 := by
 unfold sdL
 refine orL_lt (by decide) fun x hx => ?_
 obtain ⟨z, hz, rfl⟩ := List.mem_map.1 hx
 have := valid_rng hv ha (List.mem_of_mem_take hz)
 omega
end Go.Proofs.YticngcjfofcoiaaDoor
/- Plain: the reference's origins are the program's. -/
namespace Go.Proofs.YticngcjfofcoiaaDoor
open Go.RowKit Go.Rg Go.Proofs.YticngcjfofcoiaaDoorW.PrintWords
set_option linter.unusedVariables false
set_option linter.unusedSimpArgs false
theorem asc_ext : ∀ {a b : List Nat}, a.Pairwise (· < ·) → b.Pairwise (· < ·) → (∀ x, x ∈ a ↔ x ∈ b) → a = b
 |[], [], _, _, _ => rfl
 |[], y :: b, _, _, h => by have := (h y).2 (List.mem_cons_self ..); cases this
 |x :: a, [], _, _, h => by have := (h x).1 (List.mem_cons_self ..); cases this
 |x :: a, y :: b, ha, hb, h => by
  have h1 := List.pairwise_cons.1 ha
  have h2 := List.pairwise_cons.1 hb
  have hxy : x = y := by
   rcases List.mem_cons.1 ((h x).1 (List.mem_cons_self ..)) with e | e
   ·exact e
   ·rcases List.mem_cons.1 ((h y).2 (List.mem_cons_self ..)) with e2 | e2
    ·exact e2.symm
    ·have := h1.1 y e2
     have := h2.1 x e
     omega
  subst hxy
  rw [asc_ext h1.2 h2.2 fun z => ?_]
  constructor
  ·intro hz
   rcases List.mem_cons.1 ((h z).1 (List.mem_cons_of_mem _ hz)) with e | e
   ·have := h1.1 z hz; omega
   ·exact e
  ·intro hz
   rcases List.mem_cons.1 ((h z).2 (List.mem_cons_of_mem _ hz)) with e | e
   ·have := h2.1 z hz; omega
   ·exact e
theorem from_eq {l : List Src} (hv : validS l = true) {s : Src} (hs : s ∈ l) (hf : s.frm.length = 0) {X : Nat} (hX : ∀ z, X.testBit z = true ↔ (ogL l).testBit z = true ∧ z ≠ s.id.toNat) (x : Nat) : rchB (nxL l) 0 (ogL l) X x = fromB l x s.id.toNat := by
 have hsv := valid_src hv hs
 unfold fromB
 rw [Bool.eq_iff_iff, rch_iff, rch_iff]
 constructor
 ·rintro ⟨h, h0⟩
  clear h0
  refine ⟨?_, Nat.zero_testBit _⟩
  induction h with
  |@base i hi ho hw =>
   have ho : (ogL l).testBit i = true := ho
   have hw : X.testBit i = false := hw
   have : i = s.id.toNat := by
    by_cases e : i = s.id.toNat
    ·exact e
    ·rw [(hX i).2 ⟨ho, e⟩] at hw; cases hw
   refine .base hi ?_ (Nat.zero_testBit _)
   show (2 ^ s.id.toNat).testBit i = true
   rw [this, Nat.testBit_two_pow_self]
  |step hx hw hd hy he ih => exact .step ih (Nat.zero_testBit _) rfl hy he
 ·rintro ⟨h, h0⟩
  clear h0
  induction h with
  |@base i hi ho hw =>
   have ho : (2 ^ s.id.toNat).testBit i = true := ho
   rw [Nat.testBit_two_pow, decide_eq_true_eq] at ho
   have hno : X.testBit i = false := by
    rw [← Bool.not_eq_true, hX]
    exact fun h => h.2 ho.symm
   exact ⟨.base hi ((ogL_bit l i).2 ⟨s, hs, hf, ho⟩) hno, hno⟩
  |@step a y hx hw hd hy he ih =>
   have he' : (nxL l a).contains y = true := he
   rw [List.contains_iff_mem, nxL_mem] at he'
   obtain ⟨t, ht, e1, z, hz, e2⟩ := he'
   refine ⟨.step ih.1 ih.2 rfl hy he, ?_⟩
   rw [← Bool.not_eq_true, hX, ogL_bit]
   rintro ⟨⟨r, hr, h1, h2⟩, _⟩
   have a1 := valid_src hv ht
   have a2 := valid_src hv hr
   have : r = t := valid_uniq hv hr ht (by omega)
   rw [this] at h1
   have : t.frm = [] := List.eq_nil_of_length_eq_zero h1
   rw [this] at hz; cases hz
def oth (l : List Src) (i : Nat) : Nat → Nat
 |0 => 0
 |m + 1 => if m ≠ i ∧ (l.getD m s0).frm.length = 0 then oth l i m ||| 2 ^ (idAt l m).toNat else oth l i m
theorem oth_bit {l : List Src} {i z : Nat} : ∀ {m : Nat}, (oth l i m).testBit z = true ↔ ∃ j, j < m ∧ j ≠ i ∧ (l.getD j s0).frm.length = 0 ∧ (idAt l j).toNat = z
 |0 => by
  constructor
  ·intro h
   have h : (0 : Nat).testBit z = true := h
   rw [Nat.zero_testBit] at h; cases h
  ·rintro ⟨j, h, _⟩; omega
 |m + 1 => by
  unfold oth
  by_cases h : m ≠ i ∧ (l.getD m s0).frm.length = 0
  ·rw [if_pos h, or_bit, Bool.or_eq_true, oth_bit, decide_eq_true_eq]
   constructor
   ·rintro (⟨j, h1, h2⟩ | h1)
    ·exact ⟨j, by omega, h2⟩
    ·exact ⟨m, by omega, h.1, h.2, h1⟩
   ·rintro ⟨j, h1, h2, h3, h4⟩
    rcases Nat.lt_or_ge j m with h5 | h5
    ·exact .inl ⟨j, h5, h2, h3, h4⟩
    ·obtain rfl : j = m := by omega
     exact .inr h4
  ·rw [if_neg h, oth_bit]
   constructor
   ·rintro ⟨j, h1, h2⟩
    exact ⟨j, by omega, h2⟩
   ·rintro ⟨j, h1, h2, h3, h4⟩
    rcases Nat.lt_or_ge j m with h5 | h5
    ·exact ⟨j, h5, h2, h3, h4⟩
    ·obtain rfl : j = m := by omega
     exact absurd ⟨h2, h3⟩ h
theorem id_at {l : List Src} {k : Nat} {s : Src} (h : l[k]? = some s) : idAt l k = s.id ∧ l.getD k s0 = s := by
 have : l.getD k s0 = s := by simp [List.getD, h]
 exact ⟨by unfold idAt; rw [this], this⟩
theorem oth_lt {l : List Src} (hv : validS l = true) {i : Nat} : ∀ {m : Nat}, m ≤ l.length → oth l i m < 4096
 |0, _ => by show (0 : Nat) < 4096; decide
 |m + 1, h => by
  unfold oth
  have ih := oth_lt hv (i := i) (m := m) (by omega)
  have hs : l[m]? = some l[m] := List.getElem?_eq_getElem (by omega)
  have := valid_src hv (List.mem_of_getElem? hs)
  split
  ·rw [(id_at hs).1]
   exact Nat.or_lt_two_pow (n := 12) ih (pow_lt12 (by omega))
  ·exact ih
theorem oth_add {l : List Src} (hv : validS l = true) {i m : Nat} {s : Src} (hs : l[m]? = some s) : oth l i (m + 1) = if m ≠ i ∧ s.frm.length = 0 then oth l i m + 2 ^ s.id.toNat else oth l i m := by
 have hm := (List.getElem?_eq_some_iff.1 hs).1
 have hr := valid_src hv (List.mem_of_getElem? hs)
 conv => lhs; unfold oth
 rw [(id_at hs).1, (id_at hs).2]
 split
 ·refine (or_add (oth_lt hv (by omega)) (by omega) ?_).symm
  rw [← Bool.not_eq_true, oth_bit]
  rintro ⟨j, h1, _, _, h2⟩
  have hj : l[j]? = some l[j] := List.getElem?_eq_getElem (by omega)
  have := valid_src hv (List.mem_of_getElem? hj)
  have hlt := valid_ids hv h1 hm
  rw [(id_at hj).1] at h2 hlt
  rw [(id_at hs).1] at hlt
  omega
 ·rfl
theorem oth_all {l : List Src} (hv : validS l = true) {i : Nat} {s : Src} (hs : l[i]? = some s) (z : Nat) : (oth l i l.length).testBit z = true ↔ (ogL l).testBit z = true ∧ z ≠ s.id.toNat := by
 have hr := valid_src hv (List.mem_of_getElem? hs)
 rw [oth_bit, ogL_bit]
 constructor
 ·rintro ⟨j, h1, h2, h3, h4⟩
  have hj : l[j]? = some l[j] := List.getElem?_eq_getElem h1
  have hjr := valid_src hv (List.mem_of_getElem? hj)
  rw [(id_at hj).2] at h3
  rw [(id_at hj).1] at h4
  refine ⟨⟨l[j], List.mem_of_getElem? hj, h3, h4⟩, fun e => h2 ?_⟩
  have hi := (List.getElem?_eq_some_iff.1 hs).1
  rcases Nat.lt_trichotomy j i with h | h | h
  ·have := valid_ids hv h hi
   rw [(id_at hj).1, (id_at hs).1] at this
   omega
  ·exact h
  ·have := valid_ids hv h h1
   rw [(id_at hj).1, (id_at hs).1] at this
   omega
 ·rintro ⟨⟨t, ht, h1, h2⟩, h3⟩
  obtain ⟨j, hj, e⟩ := List.getElem_of_mem ht
  have hjs : l[j]? = some t := by rw [List.getElem?_eq_getElem hj, e]
  refine ⟨j, hj, fun e2 => ?_, by rw [(id_at hjs).2]; exact h1, by rw [(id_at hjs).1]; exact h2⟩
  subst e2
  rw [hs] at hjs
  cases hjs
  exact h3 h2.symm
noncomputable def pickO (l : List Src) (x : Nat) (s : Src) : Bool := decide (s.frm.length = 0) && fromB l x s.id.toNat
noncomputable def outO (l : List Src) (x k : Nat) : List Int := ((l.take k).filter (pickO l x)).map fun s => s.id
theorem outO_succ {l : List Src} {x k : Nat} {s : Src} (hs : l[k]? = some s) : outO l x (k + 1) = if pickO l x s = true then outO l x k ++ [s.id] else outO l x k := by
 unfold outO
 rw [take_at hs, List.filter_append, List.map_append, List.filter_cons]
 split <;> simp
theorem outO_len (l : List Src) (x k : Nat) : (outO l x k).length ≤ l.length := by
 unfold outO
 rw [List.length_map]
 exact Nat.le_trans (List.length_filter_le ..) (by rw [List.length_take]; omega)
theorem og_elems {l : List Src} (hv : validS l = true) : elems (ogL l) = (l.filter fun s => decide (s.frm.length = 0)).map fun s => s.id.toNat := by
 refine asc_ext (elems_sorted _) ?_ fun x => ?_
 ·rw [List.pairwise_map]
  refine List.Pairwise.filter _ ?_
  rw [List.pairwise_iff_getElem]
  intro i j hi hj hij
  have h := valid_ids hv hij hj
  rw [(id_at (List.getElem?_eq_getElem hi)).1, (id_at (List.getElem?_eq_getElem hj)).1] at h
  have := valid_src hv (List.getElem_mem hi)
  omega
 ·constructor
  ·intro h
   obtain ⟨s, hs, h1, h2⟩ := (ogL_bit l x).1 (elems_mem h).2
   exact List.mem_map.2 ⟨s, List.mem_filter.2 ⟨hs, decide_eq_true h1⟩, h2⟩
  ·intro h
   obtain ⟨s, hs, e⟩ := List.mem_map.1 h
   obtain ⟨h1, h2⟩ := List.mem_filter.1 hs
   have := valid_src hv h1
   have hb := (ogL_bit l x).2 ⟨s, h1, of_decide_eq_true h2, e⟩
   unfold elems
   exact List.mem_filter.2 ⟨List.mem_range.2 (by omega), hb⟩
theorem outO_all {l : List Src} (hv : validS l = true) (x : Nat) : outO l x l.length = ((elems (ogL l)).filter (fromB l x)).map Int.ofNat := by
 unfold outO
 rw [List.take_length, og_elems hv, List.filter_map, List.map_map, List.filter_filter]
 have e1 : l.filter (pickO l x) = l.filter (fun s => (fromB l x ∘ fun s => s.id.toNat) s && decide (s.frm.length = 0)) := by
  refine List.filter_congr fun s _ => ?_
  unfold pickO
  exact Bool.and_comm ..
 rw [e1]
 refine List.map_congr_left fun s hs => ?_
 have := valid_src hv (List.mem_filter.1 hs).1
 show s.id = ((s.id.toNat : Nat) : Int)
 omega
end Go.Proofs.YticngcjfofcoiaaDoor
