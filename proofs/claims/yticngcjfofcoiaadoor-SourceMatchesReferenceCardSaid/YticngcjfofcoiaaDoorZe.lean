/- The values of small webs, by computation: each with its proof. -/
import Derived.Test.YticngcjfofcoiaaDoorCk
import Derived.Test.YticngcjfofcoiaaDoorCh
namespace Go.Proofs.YticngcjfofcoiaaDoor
open Go.RowKit Go.Rg Go.Proofs.YticngcjfofcoiaaDoorW.PrintWords
set_option linter.unusedVariables false
set_option linter.unusedSimpArgs false
def rqF (nx : Nat → List Nat) (X : Nat) : Nat → Nat → Nat → Option Nat
 |0, _, _ => none
 |f + 1, out, todo => if todo = 0 then some out else rqF nx X f (out ||| newT nx X out todo) (newT nx X out todo)
theorem rqF_spec {nx : Nat → List Nat} (hn : NxOk nx) {sd og X : Nat} (hX : X < 4096) : ∀ (f out todo : Nat) {r : Nat}, RI nx sd og X out todo → rqF nx X f out todo = some r → ∀ i, r.testBit i = true ↔ Flow.Reach (netOf nx sd og X) (fun _ => false) i ∧ X.testBit i = false := by
 intro f
 induction f with
 |zero => intro out todo r _ h; cases h
 |succ f ih =>
  intro out todo r hR h
  unfold rqF at h
  split at h
  ·next h0 =>
   subst h0
   cases h
   exact hR.done hn
  ·exact ih _ _ (hR.next hn hX) h
def rq (nx : Nat → List Nat) (og X : Nat) : Option Nat := rqF nx X 14 (dif og X) (dif og X)
theorem rq_spec {nx : Nat → List Nat} (hn : NxOk nx) {og X : Nat} (sd : Nat) (ho : og < 4096) (hX : X < 4096) {r : Nat} (h : rq nx og X = some r) : ∀ i, r.testBit i = true ↔ Flow.Reach (netOf nx sd og X) (fun _ => false) i ∧ X.testBit i = false :=
 rqF_spec hn hX 14 _ _ (RI.start ho hX) h
theorem or_no {a b i : Nat} : (a ||| b).testBit i = false ↔ a.testBit i = false ∧ b.testBit i = false := by
 rw [Nat.testBit_or]
 cases a.testBit i <;> cases b.testBit i <;> simp
theorem reach_to {nx : Nat → List Nat} {sd og wo d x : Nat} (h : Flow.Reach (netOf nx sd og wo) (bitsOf d) x) : wo.testBit x = false → d.testBit x = false → Flow.Reach (netOf nx sd og (wo ||| d)) (fun _ => false) x := by
 induction h with
 |base hi ho hw => exact fun h1 h2 => .base (w := netOf nx sd og (wo ||| d)) hi ho (or_no.2 ⟨h1, h2⟩)
 |step hx hw hd hy he ih => exact fun h1 h2 => .step (w := netOf nx sd og (wo ||| d)) (ih hw hd) (or_no.2 ⟨hw, hd⟩) rfl hy he
theorem reach_of {nx : Nat → List Nat} {sd og wo d x : Nat} (h : Flow.Reach (netOf nx sd og (wo ||| d)) (fun _ => false) x) : Flow.Reach (netOf nx sd og wo) (bitsOf d) x := by
 induction h with
 |base hi ho hw => exact .base (w := netOf nx sd og wo) hi ho (or_no.1 hw).1
 |step hx hw hd hy he ih => exact .step (w := netOf nx sd og wo) ih (or_no.1 hw).1 (or_no.1 hw).2 hy he
def cutQ (nx : Nat → List Nat) (sd og wo d : Nat) : Option Bool := (rq nx og (wo ||| d)).map fun r => r &&& sd == 0
theorem cutQ_spec {nx : Nat → List Nat} (hn : NxOk nx) {sd og wo d : Nat} (ho : og < 4096) (hw : wo < 4096) (hd : d < 4096) {b : Bool} (h : cutQ nx sd og wo d = some b) : Flow.Cut (netOf nx sd og wo) (bitsOf d) ↔ b = true := by
 unfold cutQ at h
 obtain ⟨r, hr, hb⟩ := Option.map_eq_some_iff.1 h
 have hs := rq_spec hn sd ho (Nat.or_lt_two_pow (n := 12) hw hd) hr
 subst hb
 rw [beq_iff_eq]
 constructor
 ·intro hc
  refine Nat.eq_of_testBit_eq fun i => ?_
  rw [Nat.testBit_and, Nat.zero_testBit]
  cases h1 : r.testBit i with
  |false => rfl
  |true =>
   have h2 := (hs i).1 h1
   have h3 := or_no.1 h2.2
   cases h4 : sd.testBit i with
   |false => rfl
   |true => exact (hc i (reach_of h2.1) h3.1 h3.2 h4).elim
 ·intro h0 x hx h1 h2 h3
  have h4 := (hs x).2 ⟨reach_to hx h1 h2, or_no.2 ⟨h1, h2⟩⟩
  have h5 : (r &&& sd).testBit x = true := by rw [Nat.testBit_and, h4]; exact h3
  rw [h0, Nat.zero_testBit] at h5
  cases h5
theorem cut_ext {w : Flow.Web} {D D' : Nat → Bool} (h : ∀ i, i < w.K → D i = D' i) (hc : Flow.Cut w D) : Flow.Cut w D' := by
 have key : ∀ x, Flow.Reach w D' x → Flow.Reach w D x := by
  intro x hx
  induction hx with
  |base hi ho hw => exact .base hi ho hw
  |step hx hw hd hy he ih => exact .step ih hw (by rw [h _ hx.lt]; exact hd) hy he
 exact fun x hx h1 h2 h3 => hc x (key x hx) h1 (by rw [h _ hx.lt]; exact h2) h3
theorem count_zero {K : Nat} {D : Nat → Bool} (h : Flow.count K D ≤ 0) : ∀ i, i < K → D i = false := by
 intro i hi
 cases hD : D i with
 |false => rfl
 |true =>
  have := Flow.len_le_count (xs := [i]) (by simp) (fun x hx => by rw [List.mem_singleton.1 hx]; exact ⟨hi, hD⟩)
  simp at this
  omega
theorem count_one' {K : Nat} {D : Nat → Bool} (h : Flow.count K D ≤ 1) : (∀ i, i < K → D i = false) ∨ ∃ k, k < K ∧ ∀ i, i < K → D i = (2 ^ k).testBit i := by
 by_cases h0 : ∀ i, i < K → D i = false
 ·exact .inl h0
 ·refine .inr ?_
  obtain ⟨k, hk⟩ := Classical.not_forall.1 h0
  have hkK : k < K := Classical.byContradiction fun hc => hk fun h => absurd h hc
  have hkD : D k = true := by cases hD : D k with
   |false => exact absurd (fun _ => hD) hk
   |true => rfl
  refine ⟨k, hkK, fun i hi => ?_⟩
  rw [Nat.testBit_two_pow]
  by_cases e : k = i
  ·subst e; simp [hkD]
  ·have hne : i ≠ k := fun e' => e e'.symm
   cases hD : D i with
   |false => simp [e]
   |true =>
    have := Flow.len_le_count (K := K) (xs := [k, i]) (D := D) (by simp [e]) (fun x hx => by
     rcases List.mem_cons.1 hx with rfl | hx
     ·exact ⟨hkK, hkD⟩
     ·rw [List.mem_singleton.1 hx]; exact ⟨hi, hD⟩)
    simp at this
    omega
theorem count_bits (d : Nat) : Flow.count 12 (bitsOf d) = (elems d).length := (Flow.filter_count 12 (bitsOf d)).symm
def pairs : List Nat := (List.range 12).flatMap fun i => (List.range i).map fun j => 2 ^ i ||| 2 ^ j
theorem pairs_ok : pairs.all (fun d => decide (d < 4096) && (elems d).length == 2) = true := by decide +kernel
def mcQ (nx : Nat → List Nat) (sd og wo : Nat) : Option Nat :=
 match cutQ nx sd og wo 0 with
 |none => none
 |some true => some 0
 |some false => if (List.range 12).any (fun i => cutQ nx sd og wo (2 ^ i) == some true) then some 1 else
  if (List.range 12).all (fun i => cutQ nx sd og wo (2 ^ i) == some false) && pairs.any (fun d => cutQ nx sd og wo d == some true) then some 2 else none
theorem no_zero {nx : Nat → List Nat} {sd og wo : Nat} (h : ¬ Flow.Cut (netOf nx sd og wo) (bitsOf 0)) {D : Nat → Bool} (hD : Flow.Cut (netOf nx sd og wo) D) : 1 ≤ Flow.count 12 D := by
 refine Classical.byContradiction fun hc => h (cut_ext (D := D) (fun i hi => ?_) hD)
 rw [count_zero (K := 12) (D := D) (by omega) i hi]
 simp [bitsOf]
theorem pow12 {i : Nat} (hi : i < 12) : 2 ^ i < 4096 := Nat.pow_lt_pow_right (m := i) (n := 12) (by decide) hi
theorem one_count {i : Nat} (hi : i < 12) : Flow.count 12 (bitsOf (2 ^ i)) = 1 := by
 have := Flow.count_one (K := 12) hi
 rw [one_bits] at this
 exact this
theorem mcQ_spec {nx : Nat → List Nat} (hn : NxOk nx) {sd og wo n : Nat} (ho : og < 4096) (hw : wo < 4096) (h : mcQ nx sd og wo = some n) : Flow.mc (netOf nx sd og wo) = n := by
 have hf := hn.fit sd og wo
 refine Flow.mc_eq hf ?_
 unfold mcQ at h
 split at h
 ·cases h
 ·next h0 =>
  cases h
  have hc := (cutQ_spec hn ho hw (by decide) h0).2 rfl
  exact ⟨⟨_, hc, by have := count_bits 0; exact this⟩, fun D _ => Flow.count_nonneg _ D⟩
 ·next h0 =>
  have hz : ¬ Flow.Cut (netOf nx sd og wo) (bitsOf 0) := fun hc => by have := (cutQ_spec hn ho hw (by decide) h0).1 hc; cases this
  split at h
  ·next h1 =>
   cases h
   obtain ⟨i, hi, hq⟩ := List.any_eq_true.1 h1
   have hi12 := List.mem_range.1 hi
   have hc := (cutQ_spec hn ho hw (pow12 hi12) (by simpa using hq)).2 rfl
   exact ⟨⟨_, hc, one_count hi12⟩, fun D hD => no_zero hz hD⟩
  ·split at h
   ·next h1 =>
    cases h
    rw [Bool.and_eq_true] at h1
    obtain ⟨d, hd, hq⟩ := List.any_eq_true.1 h1.2
    have hp := List.all_eq_true.1 pairs_ok d hd
    rw [Bool.and_eq_true, decide_eq_true_eq, beq_iff_eq] at hp
    have hc := (cutQ_spec hn ho hw hp.1 (by simpa using hq)).2 rfl
    refine ⟨⟨_, hc, by have := count_bits d; rw [hp.2] at this; exact this⟩, fun D hD => ?_⟩
    refine Classical.byContradiction fun hlt => ?_
    rcases count_one' (K := 12) (D := D) (by have : Flow.count (netOf nx sd og wo).K D = Flow.count 12 D := rfl; omega) with h2 | ⟨k, hk, h2⟩
    ·exact hz (cut_ext (D := D) (fun i hi => by rw [h2 i hi]; simp [bitsOf]) hD)
    ·have h3 := List.all_eq_true.1 h1.1 k (List.mem_range.2 hk)
     have h4 := (cutQ_spec hn ho hw (pow12 hk) (by simpa using h3)).1 (cut_ext (D := D) (fun i hi => h2 i hi) hD)
     cases h4
   ·cases h
def canQ (nx : Nat → List Nat) (sd og wo u : Nat) (v : List Nat) (all x : Nat) : Option Bool :=
 match mcQ nx sd (2 ^ x) (orL u v ||| wo), mcQ nx sd (og ||| 2 ^ x) (orL u v ||| wo) with
 |some a, some b => some (a == 1 && decide (all ≤ b))
 |_, _ => none
theorem canQ_spec {nx : Nat → List Nat} (hn : NxOk nx) {sd og wo u all x : Nat} {v : List Nat} (ho : og < 4096) (hw : wo < 4096) (hu : u < 4096) (hv : ∀ y ∈ v, y < 12) (hx : x < 12) {b : Bool} (h : canQ nx sd og wo u v all x = some b) : canB nx sd og wo u v all x = b := by
 have hX : orL u v ||| wo < 4096 := Nat.or_lt_two_pow (n := 12) (orL_lt hu hv) hw
 unfold canQ at h
 split at h
 ·next a c h1 h2 =>
  cases h
  unfold canB
  rw [mcQ_spec hn (pow12 hx) hX h1, mcQ_spec hn (Nat.or_lt_two_pow (n := 12) ho (pow12 hx)) hX h2]
  by_cases e : a = 1 <;> simp [e]
 ·cases h
def goodQ (nx : Nat → List Nat) (sd og wo u : Nat) (v : List Nat) (all i : Nat) : Option Bool :=
 if u.testBit i || v.contains i || wo.testBit i then some false else canQ nx sd og wo u v all i
theorem goodQ_spec {nx : Nat → List Nat} (hn : NxOk nx) {sd og wo u all x : Nat} {v : List Nat} (ho : og < 4096) (hw : wo < 4096) (hu : u < 4096) (hv : ∀ y ∈ v, y < 12) (hx : x < 12) {b : Bool} (h : goodQ nx sd og wo u v all x = some b) : goodB nx sd og wo u v all x = b := by
 unfold goodQ at h
 unfold goodB
 split at h
 ·next h1 =>
  cases h
  cases h2 : u.testBit x <;> cases h3 : v.contains x <;> cases h4 : wo.testBit x <;> simp_all
 ·next h1 =>
  rw [canQ_spec hn ho hw hu hv hx h]
  cases h2 : u.testBit x <;> cases h3 : v.contains x <;> cases h4 : wo.testBit x <;> simp_all
def findQ (g : Nat → Option Bool) : List Nat → Option (Option Nat)
 |[] => some none
 |x :: r => match g x with
  |none => none
  |some true => some (some x)
  |some false => findQ g r
theorem findQ_spec {g : Nat → Option Bool} {p : Nat → Bool} : ∀ {l : List Nat} {o : Option Nat}, (∀ x ∈ l, ∀ b, g x = some b → p x = b) → findQ g l = some o → l.find? p = o
 |[], o, _, h => by cases h; rfl
 |x :: r, o, hp, h => by
  unfold findQ at h
  split at h
  ·cases h
  ·next hg =>
   cases h
   rw [List.find?_cons, hp x (by simp) _ hg]
  ·next hg =>
   rw [List.find?_cons, hp x (by simp) _ hg]
   exact findQ_spec (fun y hy => hp y (by simp [hy])) h
def doneQ (nx : Nat → List Nat) (sd og wo u rest : Nat) (v : List Nat) : Option Bool :=
 match v.getLast? with
 |none => some false
 |some x => if sd.testBit x then (mcQ nx sd og (orL u v ||| wo)).map fun n => decide (rest ≤ n) else some false
theorem doneQ_spec {nx : Nat → List Nat} (hn : NxOk nx) {sd og wo u rest : Nat} {v : List Nat} (ho : og < 4096) (hw : wo < 4096) (hu : u < 4096) (hv : ∀ y ∈ v, y < 12) {b : Bool} (h : doneQ nx sd og wo u rest v = some b) : Flow.isDone (netOf nx sd og wo) (bitsOf u) v rest = b := by
 have hX : orL u v ||| wo < 4096 := Nat.or_lt_two_pow (n := 12) (orL_lt hu hv) hw
 unfold doneQ at h
 split at h
 ·next h0 =>
  cases h
  unfold Flow.isDone
  rw [h0]
  rfl
 ·next x h0 =>
  rw [isDone_eq nx sd og wo u rest x v h0]
  split at h
  ·next h1 =>
   obtain ⟨n, h2, h3⟩ := Option.map_eq_some_iff.1 h
   rw [mcQ_spec hn ho hX h2, h1]
   exact h3
  ·next h1 =>
   cases h
   have : sd.testBit x = false := by simpa using h1
   rw [this]
   rfl
def growQ (nx : Nat → List Nat) (sd og wo u rest : Nat) : Nat → List Nat → Option (List Nat)
 |0, _ => none
 |k + 1, v => match doneQ nx sd og wo u rest v with
  |none => none
  |some true => some v
  |some false => match findQ (goodQ nx sd og wo u v (rest + 1)) (elems (aft nx og v)) with
   |some (some i) => growQ nx sd og wo u rest k (v ++ [i])
   |_ => none
theorem mem_elems {s i : Nat} (h : i ∈ elems s) : i < 12 := List.mem_range.1 (List.mem_filter.1 h).1
theorem growQ_spec {nx : Nat → List Nat} (hn : NxOk nx) {sd og wo u rest : Nat} (ho : og < 4096) (hw : wo < 4096) (hu : u < 4096) : ∀ (k : Nat) (v : List Nat) {p : List Nat}, (∀ y ∈ v, y < 12) → growQ nx sd og wo u rest k v = some p → Flow.grow (netOf nx sd og wo) (bitsOf u) rest k v = some p ∧ ∀ y ∈ p, y < 12 := by
 intro k
 induction k with
 |zero => intro v p _ h; cases h
 |succ k ih =>
  intro v p hv h
  unfold growQ at h
  unfold Flow.grow
  split at h
  ·cases h
  ·next hd =>
   cases h
   rw [if_pos (doneQ_spec hn ho hw hu hv hd)]
   exact ⟨rfl, hv⟩
  ·next hd =>
   rw [if_neg (by rw [doneQ_spec hn ho hw hu hv hd]; simp)]
   split at h
   ·next i hi =>
    have hfi := findQ_spec (p := goodB nx sd og wo u v (rest + 1)) (fun x hx b hb => goodQ_spec hn ho hw hu hv (mem_elems hx) hb) hi
    have he := find_eq nx sd og wo u v (rest + 1)
    rw [hfi] at he
    have hK : (netOf nx sd og wo).K = 12 := rfl
    rw [hK, he]
    have hi12 := mem_elems (List.mem_of_find?_eq_some hfi)
    exact ih _ (fun y hy => by
     rcases List.mem_append.1 hy with hy | hy
     ·exact hv y hy
     ·rw [List.mem_singleton.1 hy]; exact hi12) h
   ·cases h
def leastQ (nx : Nat → List Nat) (sd og wo : Nat) : Nat → Nat → Option (List (List Nat))
 |0, _ => some []
 |r + 1, u => match growQ nx sd og wo u r 13 [] with
  |none => none
  |some p => (leastQ nx sd og wo r (orL u p)).map fun ps => p :: ps
theorem leastQ_spec {nx : Nat → List Nat} (hn : NxOk nx) {sd og wo : Nat} (ho : og < 4096) (hw : wo < 4096) : ∀ (r u : Nat) {ps : List (List Nat)}, u < 4096 → leastQ nx sd og wo r u = some ps → Flow.leastF (netOf nx sd og wo) r (bitsOf u) = ps := by
 intro r
 induction r with
 |zero => intro u ps _ h; cases h; rfl
 |succ r ih =>
  intro u ps hu h
  unfold leastQ at h
  unfold Flow.leastF
  split at h
  ·cases h
  ·next p hp =>
   obtain ⟨hg, hlt⟩ := growQ_spec hn ho hw hu 13 [] (by simp) hp
   have hK : (netOf nx sd og wo).K + 1 = 13 := rfl
   rw [hK, hg]
   obtain ⟨qs, hq, e⟩ := Option.map_eq_some_iff.1 h
   subst e
   show p :: Flow.leastF (netOf nx sd og wo) r (Flow.or2 (bitsOf u) (Flow.inL p)) = p :: qs
   rw [or_used, ih _ (orL_lt hu hlt) hq]
def firstQ (nx : Nat → List Nat) (sd og wo d n : Nat) : Bool :=
 cutQ nx sd og wo d == some true && ((elems d).length == n && (List.range 12).all fun i => if d.testBit i then og.testBit i && !wo.testBit i else (match rq nx og (wo ||| d) with | some r => !og.testBit i && !(nbr nx (elems r)).testBit i | none => false) || (n == 1 && cutQ nx sd og wo (2 ^ i) == some false))
theorem reach_in {nx : Nat → List Nat} (hn : NxOk nx) {sd og wo d r i : Nat} (ho : og < 4096) (hw : wo < 4096) (hd : d < 4096) (hr : rq nx og (wo ||| d) = some r) (h : Flow.Reach (netOf nx sd og wo) (bitsOf d) i) : og.testBit i = true ∨ (nbr nx (elems r)).testBit i = true := by
 have hs := rq_spec hn sd ho (Nat.or_lt_two_pow (n := 12) hw hd) hr
 cases h with
 |base hi h1 _ => exact .inl h1
 |step hx h1 h2 hy he =>
  refine .inr ((nbr_bit nx _ i).2 ⟨_, ?_, by simpa [netOf] using he⟩)
  have h3 := (hs _).2 ⟨reach_to hx h1 h2, or_no.2 ⟨h1, h2⟩⟩
  unfold elems
  rw [List.mem_filter, List.mem_range]
  exact ⟨hx.lt, h3⟩
theorem firstQ_spec {nx : Nat → List Nat} (hn : NxOk nx) {sd og wo d n : Nat} (ho : og < 4096) (hw : wo < 4096) (hd : d < 4096) (hm : Flow.mc (netOf nx sd og wo) = n) (h : firstQ nx sd og wo d n = true) : Flow.firstL (netOf nx sd og wo) = elems d := by
 have hf := hn.fit sd og wo
 unfold firstQ at h
 rw [Bool.and_eq_true, Bool.and_eq_true, beq_iff_eq, beq_iff_eq] at h
 obtain ⟨h1, h2, h3⟩ := h
 have hc := (cutQ_spec hn ho hw hd h1).2 rfl
 have hmin : Flow.IsMin (netOf nx sd og wo) (bitsOf d) := ⟨hc, by
  have := count_bits d
  rw [h2] at this
  rw [hm]
  exact this⟩
 unfold Flow.firstL elems
 refine List.filter_congr fun i hi => ?_
 have hi12 : i < 12 := List.mem_range.1 hi
 have h4 := List.all_eq_true.1 h3 i (List.mem_range.2 hi12)
 rw [Bool.eq_iff_iff, Flow.firstB_iff hf hi12]
 split at h4
 ·next h5 =>
  rw [Bool.and_eq_true, Bool.not_eq_true'] at h4
  exact ⟨fun _ => h5, fun _ => ⟨fun D _ => .base hi12 h4.1 h4.2, h4.2, _, hmin, h5⟩⟩
 ·next h5 =>
  refine ⟨fun ⟨g1, g2, D, g3, g4⟩ => ?_, fun g => absurd g h5⟩
  exfalso
  rw [Bool.or_eq_true] at h4
  rcases h4 with h4 | h4
  ·split at h4
   ·next r hr =>
    rw [Bool.and_eq_true, Bool.not_eq_true', Bool.not_eq_true'] at h4
    rcases reach_in hn ho hw hd hr (g1 _ hmin) with g | g
    ·rw [h4.1] at g; cases g
    ·rw [h4.2] at g; cases g
   ·cases h4
  ·rw [Bool.and_eq_true, beq_iff_eq, beq_iff_eq] at h4
   have g5 := g3.2
   rw [hm, h4.1] at g5
   rcases count_one' (K := 12) (D := D) (by have : Flow.count (netOf nx sd og wo).K D = Flow.count 12 D := rfl; omega) with e | ⟨k, hk, e⟩
   ·rw [e i hi12] at g4; cases g4
   ·have hik : k = i := by
     have := e i hi12
     rw [g4, Nat.testBit_two_pow] at this
     simpa using this.symm
    subst hik
    have := (cutQ_spec hn ho hw (pow12 hk) h4.2).1 (cut_ext (D := D) (fun j hj => e j hj) g3.1)
    cases this
open Classical in
theorem rch_spec {nx : Nat → List Nat} (hn : NxOk nx) {og X : Nat} (sd : Nat) (ho : og < 4096) (hX : X < 4096) {r : Nat} (h : rq nx og X = some r) (i : Nat) : rchB nx sd og X i = r.testBit i := by
 have := rq_spec hn sd ho hX h i
 unfold rchB
 rw [Bool.eq_iff_iff, decide_eq_true_eq]
 exact this.symm
theorem set_rch {nx : Nat → List Nat} (hn : NxOk nx) {og X : Nat} (sd : Nat) (ho : og < 4096) (hX : X < 4096) {r : Nat} (h : rq nx og X = some r) : setOf (rchB nx sd og X) = r := by
 refine Nat.eq_of_testBit_eq fun i => ?_
 rw [setOf_bit, rch_spec hn sd ho hX h]
 cases hb : r.testBit i with
 |false => simp
 |true =>
  have := ((rq_spec hn sd ho hX h i).1 hb).1.lt
  have h12 : i < 12 := this
  simpa using h12
end Go.Proofs.YticngcjfofcoiaaDoor
/- The values of the example. -/
namespace Go.Proofs.YticngcjfofcoiaaDoor
open Go.RowKit Go.Rg Go.Proofs.YticngcjfofcoiaaDoorW.PrintWords
set_option linter.unusedVariables false
set_option linter.unusedSimpArgs false
def ex : List Src := [⟨0, 1, []⟩, ⟨1, 2, []⟩, ⟨2, 1, [0]⟩, ⟨3, 1, [0, 1]⟩, ⟨4, 1, [5]⟩, ⟨5, 1, [4]⟩]
def nxT (i : Nat) : List Nat := [[2, 3], [3], [], [], [5], [4]].getD i []
theorem ex_nx : nxL ex = nxT := by
 funext i
 match i with
 |0 => decide
 |1 => decide
 |2 => decide
 |3 => decide
 |4 => decide
 |5 => decide
 |(n + 6) => simp [nxL, ex, addF, upd, nxT]
theorem ex_og : ogL ex = 3 := by decide +kernel
theorem ex_valid : validS ex = true := by decide +kernel
theorem nxT_ok : NxOk nxT := by rw [← ex_nx]; exact valid_nx ex_valid
theorem ex_web (xs : List Int) (wo : Nat) : webOf ex xs wo = netOf nxT (sdL xs) 3 wo := by unfold webOf; rw [ex_nx, ex_og]
theorem ex_cnt {xs : List Int} {wo n : Nat} (hg : givenB ex xs = true) (hw : wo < 4096) (h : mcQ nxT (sdL xs) 3 wo = some n) : cntS ex xs wo = n := by
 unfold cntS
 rw [if_pos hg, ex_web]
 exact mcQ_spec nxT_ok (by decide) hw h
theorem ex_ways {xs : List Int} {wo n : Nat} {ps : List (List Nat)} (hg : givenB ex xs = true) (hw : wo < 4096) (h : mcQ nxT (sdL xs) 3 wo = some n) (h1 : leastQ nxT (sdL xs) 3 wo n 0 = some ps) : waysS ex xs wo = ps := by
 unfold waysS
 rw [if_pos hg, ex_web, mcQ_spec nxT_ok (by decide) hw h]
 exact leastQ_spec nxT_ok (by decide) hw n 0 (by decide) h1
theorem ex_cut {xs : List Int} {wo n d : Nat} (hg : givenB ex xs = true) (hw : wo < 4096) (hd : d < 4096) (h : mcQ nxT (sdL xs) 3 wo = some n) (h1 : firstQ nxT (sdL xs) 3 wo d n = true) : cutS ex xs wo = elems d := by
 unfold cutS
 rw [if_pos hg, ex_web]
 exact firstQ_spec nxT_ok (by decide) hw hd (mcQ_spec nxT_ok (by decide) hw h) h1
theorem ex_a : cntS ex [2, 3] 0 = 2 ∧ waysS ex [2, 3] 0 = [[0, 2], [1, 3]] ∧ cutS ex [2, 3] 0 = [0, 1] ∧ errS ex [2, 3] = 0 :=
 have hg : givenB ex [2, 3] = true := by decide +kernel
 have hm : mcQ nxT (sdL [2, 3]) 3 0 = some 2 := by decide +kernel
 ⟨ex_cnt hg (by decide) hm, ex_ways hg (by decide) hm (by decide +kernel), (ex_cut hg (by decide) (d := 3) (by decide) hm (by decide +kernel)).trans (by decide), by decide +kernel⟩
theorem ex_b : cntS ex [0, 2] 0 = 1 ∧ waysS ex [0, 2] 0 = [[0]] ∧ cutS ex [0, 2] 0 = [0] ∧ errS ex [0, 2] = 0 :=
 have hg : givenB ex [0, 2] = true := by decide +kernel
 have hm : mcQ nxT (sdL [0, 2]) 3 0 = some 1 := by decide +kernel
 ⟨ex_cnt hg (by decide) hm, ex_ways hg (by decide) hm (by decide +kernel), (ex_cut hg (by decide) (d := 1) (by decide) hm (by decide +kernel)).trans (by decide), by decide +kernel⟩
theorem ex_c : cntS ex [4, 5] 0 = 0 ∧ errS ex [4, 5] = 0 :=
 have hg : givenB ex [4, 5] = true := by decide +kernel
 ⟨ex_cnt hg (by decide) (by decide +kernel), by decide +kernel⟩
theorem ex_wo : woL ex = 2 := by decide +kernel
theorem ex_d : cntS ex [2, 3] 2 = 1 :=
 have hg : givenB ex [2, 3] = true := by decide +kernel
 ex_cnt hg (by decide) (by decide +kernel)
theorem ex_e : errS ex [6] = 70 := by decide +kernel
theorem ex_from {x o r : Nat} (ho : 2 ^ o < 4096) (h : rq nxT (2 ^ o) 0 = some r) : fromB ex x o = r.testBit x := by
 unfold fromB
 rw [ex_nx]
 exact rch_spec nxT_ok 0 ho (by decide) h x
theorem ex_org3 : orgL ex 3 = [0, 1] := by
 unfold orgL
 rw [if_pos (by decide +kernel), ex_og, show elems 3 = [0, 1] by decide, show (3 : Int).toNat = 3 from rfl]
 rw [List.filter_cons, ex_from (r := 13) (by decide) (by decide +kernel), List.filter_cons, ex_from (r := 10) (by decide) (by decide +kernel)]
 rfl
theorem ex_org4 : orgL ex 4 = [] := by
 unfold orgL
 rw [if_pos (by decide +kernel), ex_og, show elems 3 = [0, 1] by decide, show (4 : Int).toNat = 4 from rfl]
 rw [List.filter_cons, ex_from (r := 13) (by decide) (by decide +kernel), List.filter_cons, ex_from (r := 10) (by decide) (by decide +kernel)]
 rfl
theorem ex_find : fndS ex 3 = some ⟨3, 1, [0, 1]⟩ ∧ fndS ex 7 = none := by decide +kernel
theorem ex_dead : deadB ex [2, 3] [0, 1] = true := by
 unfold deadB
 rw [ex_nx, ex_og, decide_eq_true_eq, set_rch nxT_ok (sdL [2, 3]) (by decide) (by decide) (r := 0) (by decide +kernel)]
 rfl
theorem ex_check : checkB ex [2, 3] 2 [[0, 2], [1, 3]] [0, 1] = true := by
 unfold checkB
 rw [ex_dead]
 decide +kernel
theorem ex_check2 : checkB ex [2, 3] 1 [[0]] [0] = false := by
 unfold checkB
 rw [show waysB ex [2, 3] [[0]] = false by decide +kernel]
 simp
theorem ex_same : decide (ex = ex) = true ∧ decide (ex = ex.take 3) = false := by decide +kernel
end Go.Proofs.YticngcjfofcoiaaDoor
