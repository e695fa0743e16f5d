/- Plain facts of the web that spin makes; how a web lies while it is made. -/
import Derived.Test.YticngcjfofcoiaaDoorVd
import Derived.LoopIn
import Derived.LoopNIn
import Derived.BigFrameIn
import Derived.Laws.BitsAllLaws
namespace Go.Proofs.YticngcjfofcoiaaDoor
open Go.RowKit Go.Rg Go.Proofs.YticngcjfofcoiaaDoorW.PrintWords
set_option linter.unusedVariables false
set_option linter.unusedSimpArgs false
def upd (nx : Nat → List Nat) (v id : Nat) (i : Nat) : List Nat := if i = v then nx i ++ [id] else nx i
def addF (nx : Nat → List Nat) (id : Nat) (frm : List Int) : Nat → List Nat := frm.foldl (fun nx v => upd nx v.toNat id) nx
def nxL (l : List Src) : Nat → List Nat := l.foldl (fun nx s => addF nx s.id.toNat s.frm) (fun _ => [])
def ogL (l : List Src) : Nat := l.foldl (fun og s => if s.frm.length = 0 then og ||| 2 ^ s.id.toNat else og) 0
def sdL (xs : List Int) : Nat := orL 0 (xs.map Int.toNat)
theorem addF_snoc (nx : Nat → List Nat) (id : Nat) (frm : List Int) (v : Int) : addF nx id (frm ++ [v]) = upd (addF nx id frm) v.toNat id := by simp [addF]
theorem nxL_snoc (l : List Src) (s : Src) : nxL (l ++ [s]) = addF (nxL l) s.id.toNat s.frm := by simp [nxL]
theorem ogL_snoc (l : List Src) (s : Src) : ogL (l ++ [s]) = if s.frm.length = 0 then ogL l ||| 2 ^ s.id.toNat else ogL l := by simp [ogL]
theorem take_at {α : Type} {l : List α} {k : Nat} {s : α} (h : l[k]? = some s) : l.take (k + 1) = l.take k ++ [s] := by
 obtain ⟨hk, e⟩ := List.getElem?_eq_some_iff.1 h
 rw [List.take_succ_eq_append_getElem hk, e]
theorem ogL_lt : ∀ (l : List Src), (∀ s ∈ l, 0 ≤ s.id ∧ s.id < 12) → ogL l < 4096 := by
 have key : ∀ (l : List Src) (a : Nat), a < 4096 → (∀ s ∈ l, 0 ≤ s.id ∧ s.id < 12) → l.foldl (fun og s => if s.frm.length = 0 then og ||| 2 ^ s.id.toNat else og) a < 4096 := by
  intro l
  induction l with
  |nil => intro a ha _; exact ha
  |cons s l ih =>
   intro a ha hl
   refine ih _ ?_ fun y hy => hl y (by simp [hy])
   have := hl s (by simp)
   dsimp only
   split
   ·exact Nat.or_lt_two_pow (n := 12) ha (pow_lt12 (by omega))
   ·exact ha
 exact fun l hl => key l 0 (by decide) hl
theorem addF_len : ∀ (frm : List Int) (nx : Nat → List Nat) (id b i : Nat), (nx i).length ≤ b → (addF nx id frm i).length ≤ b + frm.length := by
 intro frm
 induction frm with
 |nil => intro nx id b i h; exact h
 |cons v frm ih =>
  intro nx id b i h
  have := ih (upd nx v.toNat id) id (b + 1) i (by
   unfold upd
   split
   ·rw [List.length_append, List.length_singleton]; omega
   ·omega)
  show (addF (upd nx v.toNat id) id frm i).length ≤ _
  rw [List.length_cons]
  omega
theorem nxL_len : ∀ (l : List Src) (i : Nat), (∀ s ∈ l, s.frm.length ≤ 3) → (nxL l i).length ≤ 3 * l.length := by
 have key : ∀ (l : List Src) (nx : Nat → List Nat) (b i : Nat), (nx i).length ≤ b → (∀ s ∈ l, s.frm.length ≤ 3) → (l.foldl (fun nx s => addF nx s.id.toNat s.frm) nx i).length ≤ b + 3 * l.length := by
  intro l
  induction l with
  |nil => intro nx b i h _; exact h
  |cons s l ih =>
   intro nx b i h hl
   have h1 := addF_len s.frm nx s.id.toNat b i h
   have h2 := hl s (by simp)
   have h3 := ih (addF nx s.id.toNat s.frm) (b + 3) i (by omega) (fun y hy => hl y (by simp [hy]))
   rw [List.foldl_cons, List.length_cons]
   omega
 intro l i hl
 have := key l (fun _ => []) 0 i (Nat.zero_le _) hl
 simpa [nxL] using this
theorem addF_mem : ∀ (frm : List Int) (nx : Nat → List Nat) (id i v : Nat), v ∈ addF nx id frm i ↔ v ∈ nx i ∨ (v = id ∧ ∃ y ∈ frm, y.toNat = i) := by
 intro frm
 induction frm with
 |nil => intro nx id i v; simp [addF]
 |cons y frm ih =>
  intro nx id i v
  show v ∈ addF (upd nx y.toNat id) id frm i ↔ _
  rw [ih]
  unfold upd
  by_cases h : i = y.toNat
  ·subst h
   simp only [if_true, List.mem_append, List.mem_cons, List.not_mem_nil, or_false, exists_eq_or_imp, true_or, and_true]
   constructor
   ·rintro ((h | h) | h)
    ·exact .inl h
    ·exact .inr h
    ·exact .inr h.1
   ·rintro (h | h)
    ·exact .inl (.inl h)
    ·exact .inl (.inr h)
  ·have h' : ¬ y.toNat = i := fun e => h e.symm
   rw [if_neg h]
   simp [h']
theorem nxL_mem : ∀ (l : List Src) (i v : Nat), v ∈ nxL l i ↔ ∃ s ∈ l, v = s.id.toNat ∧ ∃ y ∈ s.frm, y.toNat = i := by
 have key : ∀ (l : List Src) (nx : Nat → List Nat) (i v : Nat), v ∈ l.foldl (fun nx s => addF nx s.id.toNat s.frm) nx i ↔ v ∈ nx i ∨ ∃ s ∈ l, v = s.id.toNat ∧ ∃ y ∈ s.frm, y.toNat = i := by
  intro l
  induction l with
  |nil => intro nx i v; simp
  |cons s l ih =>
   intro nx i v
   rw [List.foldl_cons, ih, addF_mem]
   simp only [List.mem_cons, exists_eq_or_imp]
   rw [or_assoc]
 intro l i v
 rw [nxL, key]
 simp
theorem ogL_bit : ∀ (l : List Src) (i : Nat), (ogL l).testBit i = true ↔ ∃ s ∈ l, s.frm.length = 0 ∧ s.id.toNat = i := by
 have key : ∀ (l : List Src) (a i : Nat), (l.foldl (fun og s => if s.frm.length = 0 then og ||| 2 ^ s.id.toNat else og) a).testBit i = true ↔ a.testBit i = true ∨ ∃ s ∈ l, s.frm.length = 0 ∧ s.id.toNat = i := by
  intro l
  induction l with
  |nil => intro a i; simp
  |cons s l ih =>
   intro a i
   rw [List.foldl_cons, ih]
   simp only [List.mem_cons, exists_eq_or_imp]
   by_cases h : s.frm.length = 0
   ·rw [if_pos h, Nat.testBit_or, Nat.testBit_two_pow]
    simp [h, or_assoc]
   ·rw [if_neg h]
    simp [h]
 intro l i
 rw [ogL, key]
 simp
def wcells (nv : Nat → Value) (og sd wo : Nat) : Array Value := #[nv 0, nv 1, nv 2, nv 3, nv 4, nv 5, nv 6, nv 7, nv 8, nv 9, nv 10, nv 11, .int .u16 (og : Int), .int .u16 (sd : Int), .int .u16 (wo : Int)]
def updV (nv : Nat → Value) (v : Nat) (x : Value) (i : Nat) : Value := if i = v then x else nv i
theorem twelveN {P : Nat → Prop} {i : Nat} (h : i < 12) (h0 : P 0) (h1 : P 1) (h2 : P 2) (h3 : P 3) (h4 : P 4) (h5 : P 5) (h6 : P 6) (h7 : P 7) (h8 : P 8) (h9 : P 9) (h10 : P 10) (h11 : P 11) : P i := by
 have : i = 0 ∨ i = 1 ∨ i = 2 ∨ i = 3 ∨ i = 4 ∨ i = 5 ∨ i = 6 ∨ i = 7 ∨ i = 8 ∨ i = 9 ∨ i = 10 ∨ i = 11 := by omega
 rcases this with rfl | rfl | rfl | rfl | rfl | rfl | rfl | rfl | rfl | rfl | rfl | rfl <;> assumption
theorem wcells_next {nv : Nat → Value} {og sd wo i : Nat} (h : i < 12) : (wcells nv og sd wo)[i]? = some (nv i) := twelveN (P := fun i => (wcells nv og sd wo)[i]? = some (nv i)) h rfl rfl rfl rfl rfl rfl rfl rfl rfl rfl rfl rfl
theorem wcells_put {nv : Nat → Value} {og sd wo i : Nat} (x : Value) (h : i < 12) : (wcells nv og sd wo).setIfInBounds i x = wcells (updV nv i x) og sd wo := twelveN (P := fun i => (wcells nv og sd wo).setIfInBounds i x = wcells (updV nv i x) og sd wo) h rfl rfl rfl rfl rfl rfl rfl rfl rfl rfl rfl rfl
structure SX (WB : Nat) (nv : Nat → Value) (nx : Nat → List Nat) (og sd wo : Nat) (W : World) : Prop where
 blk : W.heap[WB]? = some (.cells (wcells nv og sd wo) 68)
 rows : ∀ i, i < 12 → (Kd.int .i64).R 3 W (WB + 1) (fun k => (nv i).ownBlock = some k) (nv i) ((nx i).map Int.ofNat)
 ne : ∀ i j, i < 12 → j < 12 → i ≠ j → NeRow (nv i) (nv j)
theorem SX.size {WB : Nat} {nv : Nat → Value} {nx : Nat → List Nat} {og sd wo : Nat} {W : World} (h : SX WB nv nx og sd wo W) : WB < W.heap.size := (Array.getElem?_eq_some_iff.1 h.blk).1
theorem SX.fr {WB : Nat} {nv : Nat → Value} {nx : Nat → List Nat} {og sd wo : Nat} {W W' : World} (h : SX WB nv nx og sd wo W) (hb : Below W.heap.size W W') : SX WB nv nx og sd wo W' :=
 ⟨(hb.block _ h.size).trans h.blk, fun i hi => Kd.R_below (h.rows i hi) hb, h.ne⟩
theorem SX.web {WB : Nat} {nv : Nat → Value} {nx : Nat → List Nat} {og sd wo : Nat} {W : World} (h : SX WB nv nx og sd wo W) : WebX WB nx og sd wo W :=
 ⟨fun i hi => by
  obtain ⟨A, c, e, hl, hC⟩ := Kd.R_reads (h.rows i hi)
  rw [List.length_map] at e hC
  exact ⟨A, c, by rw [← e]; exact cell_of h.blk (wcells_next hi), hC⟩, cell_of h.blk rfl, cell_of h.blk rfl, cell_of h.blk rfl⟩
theorem row_only {e base : Nat} {ok : Nat → Prop} {W : World} {v : Value} {xs : List Int} (h : (Kd.int .i64).R e W base ok v xs) : (Kd.int .i64).R e W base (fun k => v.ownBlock = some k) v xs := Kd.R_of_own (Kd.own_of_R h) (fun k hk => hk)
theorem SX.put {WB : Nat} {nv : Nat → Value} {nx : Nat → List Nat} {og sd wo og' sd' wo' o : Nat} {W : World} {x : Value} (h : SX WB nv nx og sd wo W) (he : (wcells nv og sd wo).setIfInBounds o x = wcells nv og' sd' wo') : SX WB nv nx og' sd' wo' (W.setCell ⟨WB, o, none⟩ x) :=
 ⟨by rw [← he]; exact heap_set (o := o) x h.blk, fun i hi => Kd.R_set (h.rows i hi) h.blk (fun q hq => by rw [kI_only hq]; decide) o x, h.ne⟩
end Go.Proofs.YticngcjfofcoiaaDoor
/- Plain facts of valid sources. -/
namespace Go.Proofs.YticngcjfofcoiaaDoor
open Go.RowKit Go.Rg Go.Proofs.YticngcjfofcoiaaDoorW.PrintWords
set_option linter.unusedVariables false
set_option linter.unusedSimpArgs false
theorem okAt_some {l : List Src} {xs : List Int} {y : Int} (h : asrt l xs = true) (hy : y ∈ xs) : ∃ s ∈ l, s.id = y := by
 obtain ⟨i, hi, e⟩ := List.getElem_of_mem hy
 have h1 := List.all_eq_true.1 h i (List.mem_range.2 hi)
 unfold okAt at h1
 have hrd : rd xs (i : Int) = y := by simp [rd, hi, e]
 rw [hrd, Bool.and_eq_true] at h1
 obtain ⟨s, hs⟩ := Option.isSome_iff_exists.1 h1.1
 unfold fndS at hs
 exact ⟨s, List.mem_of_find?_eq_some hs, by have := List.find?_some hs; simpa using this⟩
theorem valid_len {l : List Src} (h : validS l = true) : l.length ≤ 12 := by
 unfold validS at h
 simp only [Bool.and_eq_true, decide_eq_true_eq] at h
 exact h.1
theorem valid_at {l : List Src} (h : validS l = true) {i : Nat} (hi : i < l.length) : vAt l i = true := by
 unfold validS at h
 simp only [Bool.and_eq_true] at h
 exact List.all_eq_true.1 h.2 i (List.mem_range.2 hi)
theorem valid_src {l : List Src} (h : validS l = true) {s : Src} (hs : s ∈ l) : 0 ≤ s.id ∧ s.id < 12 ∧ s.frm.length ≤ 3 ∧ (s.kind = 1 ∨ s.kind = 2) ∧ asrt l s.frm = true ∧ s.id ∉ s.frm := by
 obtain ⟨i, hi, e⟩ := List.getElem_of_mem hs
 have h1 := valid_at h hi
 have hg : l.getD i s0 = s := by simp [List.getD, hi, e]
 unfold vAt vHead vTail idAt at h1
 rw [hg] at h1
 simp only [Bool.and_eq_true, Bool.or_eq_true, decide_eq_true_eq, Bool.not_eq_true'] at h1
 obtain ⟨⟨h2, h3, h4, h5⟩, h6, h7, h8⟩ := h1
 exact ⟨h2, h3, h6, h5, h7, fun hm => by rw [List.contains_iff_mem.2 hm] at h8; cases h8⟩
theorem valid_rng {l : List Src} (h : validS l = true) {xs : List Int} (hx : asrt l xs = true) {y : Int} (hy : y ∈ xs) : 0 ≤ y ∧ y < 12 := by
 obtain ⟨s, hs, rfl⟩ := okAt_some hx hy
 have := valid_src h hs
 exact ⟨this.1, this.2.1⟩
theorem valid_asc {l : List Src} (h : validS l = true) {i : Nat} (hi : i + 1 < l.length) : idAt l i < idAt l (i + 1) := by
 have h1 := valid_at h hi
 unfold vAt vHead at h1
 simp only [Bool.and_eq_true, Bool.or_eq_true, decide_eq_true_eq] at h1
 rcases h1.1.2.2.1 with h2 | h2
 ·omega
 ·simpa using h2
theorem valid_spin {l : List Src} (h : validS l = true) : ∀ s ∈ l, 0 ≤ s.id ∧ s.id < 12 ∧ s.frm.length ≤ 3 ∧ ∀ y ∈ s.frm, 0 ≤ y ∧ y < 12 := fun s hs => by
 have h1 := valid_src h hs
 exact ⟨h1.1, h1.2.1, h1.2.2.1, fun y hy => valid_rng h h1.2.2.2.2.1 hy⟩
theorem valid_ids {l : List Src} (h : validS l = true) : ∀ {i j : Nat}, i < j → j < l.length → idAt l i < idAt l j := by
 intro i j hij
 induction j with
 |zero => omega
 |succ j ih =>
  intro hj
  rcases Nat.lt_or_ge i j with h1 | h1
  ·exact Int.lt_trans (ih h1 (by omega)) (valid_asc h hj)
  ·obtain rfl : i = j := by omega
   exact valid_asc h hj
theorem valid_uniq {l : List Src} (h : validS l = true) {s t : Src} (hs : s ∈ l) (ht : t ∈ l) (e : s.id = t.id) : s = t := by
 obtain ⟨i, hi, e1⟩ := List.getElem_of_mem hs
 obtain ⟨j, hj, e2⟩ := List.getElem_of_mem ht
 have g1 : idAt l i = s.id := by unfold idAt; simp [List.getD, hi, e1]
 have g2 : idAt l j = t.id := by unfold idAt; simp [List.getD, hj, e2]
 rcases Nat.lt_trichotomy i j with h1 | h1 | h1
 ·have := valid_ids h h1 hj; omega
 ·subst h1; rw [← e1, ← e2]
 ·have := valid_ids h h1 hi; omega
theorem valid_nx {l : List Src} (h : validS l = true) : NxOk (nxL l) := by
 refine ⟨fun i hi v hv => ?_, fun i hm => ?_⟩
 ·obtain ⟨s, hs, rfl, _⟩ := (nxL_mem l i v).1 hv
  have := valid_src h hs
  omega
 ·obtain ⟨s, hs, e, y, hy, e2⟩ := (nxL_mem l i i).1 hm
  have h1 := valid_src h hs
  have h2 := valid_rng h h1.2.2.2.2.1 hy
  have : y = s.id := by omega
  exact h1.2.2.2.2.2 (this ▸ hy)
theorem valid_og {l : List Src} (h : validS l = true) : ogL l < 4096 := ogL_lt l fun s hs => by have := valid_src h hs; exact ⟨this.1, this.2.1⟩
theorem valid_sd {l : List Src} (h : validS l = true) {xs : List Int} (hx : asrt l xs = true) : sdL xs < 4096 := orL_lt (by decide) fun v hv => by
 obtain ⟨y, hy, rfl⟩ := List.mem_map.1 hv
 have := valid_rng h hx hy
 omega
end Go.Proofs.YticngcjfofcoiaaDoor
/- Plain facts of the members of a set and of their least. -/
namespace Go.Proofs.YticngcjfofcoiaaDoor
open Go.RowKit Go.Rg Go.Proofs.YticngcjfofcoiaaDoorW.PrintWords
set_option linter.unusedVariables false
set_option linter.unusedSimpArgs false
def elems (s : Nat) : List Nat := (List.range 12).filter fun i => s.testBit i
def tz (s : Nat) : Nat := (elems s).headD 0
def tabL : List Nat := [0, 1, 28, 2, 29, 14, 24, 3, 30, 22, 20, 15, 25, 17, 4, 8, 31, 27, 13, 23, 21, 19, 16, 7, 26, 12, 18, 6, 11, 5, 10, 9]
def tabv : Array Value := (tabL.map fun (x : Nat) => Value.int .u8 (x : Int)).toArray
def Tab (w : World) : Prop := ∃ t : TypeId × Nat × Nat, w.heap[0]? = some (.cells tabv t.1 t.2)
theorem Tab.pos {w : World} (h : Tab w) : 0 < w.heap.size := by
 obtain ⟨t, h⟩ := h
 exact (Array.getElem?_eq_some_iff.1 h).1
theorem Tab.next {n : Nat} {w w' : World} (h : Tab w) (hb : Below n w w') (hn : 0 < n) : Tab w' := by
 obtain ⟨t, h⟩ := h
 exact ⟨t, (hb.block 0 hn).trans h⟩
theorem Tab.fr {S : Nat → Prop} {w w' : World} (h : Tab w) (hb : Fr S w w') (hn : ¬ S 0) : Tab w' := by
 have hp := h.pos
 obtain ⟨t, h⟩ := h
 exact ⟨t, (hb.block 0 hp hn).trans h⟩
theorem Tab.at {w : World} (h : Tab w) {i x : Nat} (hx : tabL[i]? = some x) : w.cell? ⟨0, i, none⟩ = some (.int .u8 (x : Int)) := by
 obtain ⟨t, h⟩ := h
 refine cell_of h ?_
 simp [tabv, hx]
theorem low_all : (List.range 4096).all (fun s => s == 0 || ((s &&& (65536 - s)) == 2 ^ tz s && elems s == tz s :: elems (s &&& (s - 1)) && decide (tz s < 12) && tabL[2 ^ tz s * 125613361 % 4294967296 / 134217728]? == some (tz s))) = true := by decide +kernel
theorem low {s : Nat} (h : s < 4096) (h0 : s ≠ 0) : (s &&& (65536 - s)) = 2 ^ tz s ∧ elems s = tz s :: elems (s &&& (s - 1)) ∧ tz s < 12 ∧ tabL[2 ^ tz s * 125613361 % 4294967296 / 134217728]? = some (tz s) := by
 have := List.all_eq_true.1 low_all s (List.mem_range.2 h)
 simp only [Bool.or_eq_true, beq_iff_eq, Bool.and_eq_true, decide_eq_true_eq] at this
 rcases this with h1 | ⟨⟨⟨h1, h2⟩, h3⟩, h4⟩
 ·exact absurd h1 h0
 ·exact ⟨h1, h2, h3, h4⟩
theorem elems_zero : elems 0 = [] := by decide
theorem elems_mem {s i : Nat} (h : i ∈ elems s) : i < 12 ∧ s.testBit i = true := by
 simpa [elems] using h
theorem elems_len (s : Nat) : (elems s).length ≤ 12 := by
 have := List.length_filter_le (fun i => s.testBit i) (List.range 12)
 simpa [elems] using this
end Go.Proofs.YticngcjfofcoiaaDoor
/- Plain facts of the search for all sources to which there are ways. -/
namespace Go.Proofs.YticngcjfofcoiaaDoor
open Go.RowKit Go.Rg Go.Proofs.YticngcjfofcoiaaDoorW.PrintWords
set_option linter.unusedVariables false
set_option linter.unusedSimpArgs false
def dif (a b : Nat) : Nat := a &&& (65535 - b)
theorem dif_bit {a b i : Nat} (hb : b < 65536) (hi : i < 16) : (dif a b).testBit i = (a.testBit i && !b.testBit i) := by
 unfold dif
 rw [Nat.testBit_and, show 65535 - b = 2 ^ 16 - (b + 1) by omega, Nat.testBit_two_pow_sub_succ (by omega)]
 simp [hi]
theorem dif_lt {a b n : Nat} (ha : a < n) : dif a b < n := Nat.lt_of_le_of_lt Nat.and_le_left ha
theorem andNot16 {a b : Nat} (ha : a < 65536) (hb : b < 65536) : Go.bits .andNot .u16 (a : Int) (b : Int) = ((dif a b : Nat) : Int) := u16_andNot_nat a b ha hb
theorem high_bit {a i : Nat} (ha : a < 4096) (hi : 12 ≤ i) : a.testBit i = false := by
 apply Nat.testBit_lt_two_pow
 exact Nat.lt_of_lt_of_le ha (Nat.pow_le_pow_right (n := 2) (by decide) hi)
theorem elems_iff {s i : Nat} (hs : s < 4096) : i ∈ elems s ↔ s.testBit i = true := by
 simp only [elems, List.mem_filter, List.mem_range]
 constructor
 ·exact fun h => h.2
 ·intro h
  refine ⟨?_, h⟩
  rcases Nat.lt_or_ge i 12 with h1 | h1
  ·exact h1
  ·rw [high_bit hs h1] at h; cases h
def nbr (nx : Nat → List Nat) (l : List Nat) : Nat := l.foldl (fun a x => orL a (nx x)) 0
theorem nbr_snoc (nx : Nat → List Nat) (l : List Nat) (x : Nat) : nbr nx (l ++ [x]) = orL (nbr nx l) (nx x) := by simp [nbr]
theorem nbr_lt {nx : Nat → List Nat} (h : NxOk nx) : ∀ (l : List Nat), (∀ x ∈ l, x < 12) → nbr nx l < 4096 := by
 have key : ∀ (l : List Nat) (a : Nat), a < 4096 → (∀ x ∈ l, x < 12) → l.foldl (fun a x => orL a (nx x)) a < 4096 := by
  intro l
  induction l with
  |nil => intro a ha _; exact ha
  |cons x l ih => intro a ha hl; exact ih _ (orL_lt ha (h.lt x (hl x (by simp)))) fun y hy => hl y (by simp [hy])
 exact fun l hl => key l 0 (by decide) hl
theorem nbr_bit (nx : Nat → List Nat) (l : List Nat) (i : Nat) : (nbr nx l).testBit i = true ↔ ∃ x ∈ l, i ∈ nx x := by
 have key : ∀ (l : List Nat) (a : Nat), (l.foldl (fun a x => orL a (nx x)) a).testBit i = true ↔ a.testBit i = true ∨ ∃ x ∈ l, i ∈ nx x := by
  intro l
  induction l with
  |nil => simp
  |cons x l ih =>
   intro a
   rw [List.foldl_cons, ih, orL_bit]
   simp only [Bool.or_eq_true, List.contains_iff_mem, List.mem_cons, exists_eq_or_imp]
   rw [or_assoc]
 rw [nbr, key]
 simp
structure RI (nx : Nat → List Nat) (sd og X out todo : Nat) : Prop where
 outs : out < 4096
 todos : todo < 4096
 sub : ∀ i, out.testBit i = true → Flow.Reach (netOf nx sd og X) (fun _ => false) i ∧ X.testBit i = false
 base : ∀ i, og.testBit i = true → X.testBit i = false → out.testBit i = true
 mine : ∀ i, todo.testBit i = true → out.testBit i = true
 step : ∀ x y, out.testBit x = true → todo.testBit x = false → y ∈ nx x → X.testBit y = false → out.testBit y = true
theorem RI.start {nx : Nat → List Nat} {sd og X : Nat} (ho : og < 4096) (hX : X < 4096) : RI nx sd og X (dif og X) (dif og X) := by
 have hb : ∀ i, (dif og X).testBit i = (og.testBit i && !X.testBit i) := fun i => by
  rcases Nat.lt_or_ge i 16 with h | h
  ·exact dif_bit (by omega) h
  ·rw [high_bit (dif_lt ho) (by omega), high_bit ho (by omega)]; rfl
 refine ⟨dif_lt ho, dif_lt ho, fun i h => ?_, fun i h1 h2 => ?_, fun i h => h, fun x y h1 h2 => ?_⟩
 ·rw [hb] at h
  simp only [Bool.and_eq_true, Bool.not_eq_true'] at h
  refine ⟨.base (w := netOf nx sd og X) ?_ h.1 h.2, h.2⟩
  rcases Nat.lt_or_ge i 12 with h1 | h1
  ·exact h1
  ·rw [high_bit ho h1] at h; cases h.1
 ·rw [hb, h1, h2]; rfl
 ·rw [h1] at h2; cases h2
def newT (nx : Nat → List Nat) (X out todo : Nat) : Nat := dif (dif (nbr nx (elems todo)) out) X
theorem RI.next {nx : Nat → List Nat} {sd og X out todo : Nat} (h : RI nx sd og X out todo) (hn : NxOk nx) (hX : X < 4096) : RI nx sd og X (out ||| newT nx X out todo) (newT nx X out todo) := by
 have hN := nbr_lt hn (elems todo) (fun x hx => (elems_mem hx).1)
 have hT : newT nx X out todo < 4096 := dif_lt (dif_lt hN)
 have hb : ∀ i, (newT nx X out todo).testBit i = true ↔ (∃ x, todo.testBit x = true ∧ i ∈ nx x) ∧ out.testBit i = false ∧ X.testBit i = false := fun i => by
  have hnb : (nbr nx (elems todo)).testBit i = true ↔ ∃ x, todo.testBit x = true ∧ i ∈ nx x := by
   rw [nbr_bit]
   simp only [elems_iff h.todos]
  rcases Nat.lt_or_ge i 16 with h1 | h1
  ·have ho := h.outs
   unfold newT
   rw [dif_bit (by omega) h1, dif_bit (by omega) h1, ← hnb]
   simp [and_assoc]
  ·rw [high_bit hT (by omega)]
   constructor
   ·intro h; cases h
   ·intro ⟨h2, _⟩
    rw [← hnb, high_bit hN (by omega)] at h2
    cases h2
 refine ⟨Nat.or_lt_two_pow (n := 12) h.outs hT, hT, fun i hi => ?_, fun i h1 h2 => ?_, fun i hi => ?_, fun x y h1 h2 h3 h4 => ?_⟩
 ·rw [Nat.testBit_or, Bool.or_eq_true] at hi
  rcases hi with hi | hi
  ·exact h.sub i hi
  ·obtain ⟨⟨x, hx, hxi⟩, h1, h2⟩ := (hb i).1 hi
   obtain ⟨r1, r2⟩ := h.sub x (h.mine x hx)
   have hx12 := r1.lt
   refine ⟨.step r1 r2 rfl (hn.lt x hx12 i hxi) ?_, h2⟩
   simpa [netOf] using hxi
 ·rw [Nat.testBit_or, h.base i h1 h2]; rfl
 ·rw [Nat.testBit_or, hi]; simp
 ·rw [Nat.testBit_or, Bool.or_eq_true] at h1 ⊢
  by_cases hy : out.testBit y = true
  ·exact .inl hy
  ·have hy' : out.testBit y = false := by simpa using hy
   have hx : out.testBit x = true := by
    rcases h1 with h1 | h1
    ·exact h1
    ·rw [h2] at h1; cases h1
   by_cases ht : todo.testBit x = true
   ·exact .inr ((hb y).2 ⟨⟨x, ht, h3⟩, hy', h4⟩)
   ·exact absurd (h.step x y hx (by simpa using ht) h3 h4) hy
theorem RI.done {nx : Nat → List Nat} {sd og X out : Nat} (h : RI nx sd og X out 0) (hn : NxOk nx) : ∀ i, out.testBit i = true ↔ Flow.Reach (netOf nx sd og X) (fun _ => false) i ∧ X.testBit i = false := by
 intro i
 refine ⟨h.sub i, fun ⟨hr, hx⟩ => ?_⟩
 have key : ∀ i, Flow.Reach (netOf nx sd og X) (fun _ => false) i → X.testBit i = false → out.testBit i = true := by
  intro i hr
  induction hr with
  |base hi ho hw => exact fun _ => h.base _ ho hw
  |step hx hw hd hy he ih =>
   intro hxy
   refine h.step _ _ (ih hw) (by simp) ?_ hxy
   simpa [netOf] using he
 exact key i hr hx
def rmeas (out todo : Nat) : Nat := 2 * (4096 - out) + (if todo = 0 then 0 else 1)
theorem rmeas_lt {nx : Nat → List Nat} {sd og X out todo : Nat} (h : RI nx sd og X out todo) (hn : NxOk nx) (hX : X < 4096) (h0 : todo ≠ 0) : rmeas (out ||| newT nx X out todo) (newT nx X out todo) < rmeas out todo := by
 have h1 := (h.next hn hX).outs
 have h2 : out ≤ out ||| newT nx X out todo := Nat.left_le_or
 unfold rmeas
 rw [if_neg h0]
 by_cases hT : newT nx X out todo = 0
 ·rw [if_pos hT]; omega
 ·rw [if_neg hT]
  have h3 : out ≠ out ||| newT nx X out todo := fun e => by
   obtain ⟨i, hi⟩ : ∃ i, (newT nx X out todo).testBit i = true := Nat.exists_testBit_of_ne_zero hT
   have hi12 : i < 16 := by
    rcases Nat.lt_or_ge i 16 with h4 | h4
    ·exact h4
    ·rw [high_bit (h.next hn hX).todos (by omega)] at hi; cases hi
   have ho : out.testBit i = true := by rw [e, Nat.testBit_or, hi]; simp
   have ho4 := h.outs
   unfold newT at hi
   rw [dif_bit (by omega) hi12, dif_bit (by omega) hi12, ho] at hi
   simp at hi
  omega
end Go.Proofs.YticngcjfofcoiaaDoor
/- Plain facts of the search by room that gives the first cut. -/
namespace Go.Proofs.YticngcjfofcoiaaDoor
open Go.RowKit Go.Rg Go.Proofs.YticngcjfofcoiaaDoorW.PrintWords
set_option linter.unusedVariables false
set_option linter.unusedSimpArgs false
def unseen (S : Nat → Bool) : Nat := ((List.range 26).filter fun i => !S i).length
theorem unseen_set {S : Nat → Bool} {x : Nat} (hx : x < 26) (hS : S x = false) : unseen (setS S x) + 1 = unseen S := by
 have key : ∀ n : Nat, ((List.range n).filter fun i => !setS S x i).length + (if x < n then 1 else 0) = ((List.range n).filter fun i => !S i).length := by
  intro n
  induction n with
  |zero => simp
  |succ n ih =>
   rw [List.range_succ, List.filter_append, List.filter_append, List.length_append, List.length_append, ← ih]
   rcases Nat.lt_trichotomy n x with h | h | h
   ·have h1 : ¬ x < n + 1 := by omega
    have h2 : ¬ x < n := by omega
    have h3 : setS S x n = S n := by unfold setS; rw [decide_eq_false (by omega)]; rfl
    simp [h1, h2, h3, List.filter_cons]
   ·subst h
    have h3 : setS S n n = true := by simp [setS]
    simp [h3, hS, List.filter_cons]
   ·have h1 : x < n + 1 := by omega
    have h2 : x < n := by omega
    have h3 : setS S x n = S n := by unfold setS; rw [decide_eq_false (by omega)]; rfl
    simp [h1, h2, h3, List.filter_cons]
    omega
 have := key 26
 rw [if_pos hx] at this
 exact this
structure BI (w : Flow.Web) (R : Nat → Nat → Int) (S : Nat → Bool) (l : List Nat) : Prop where
 top : S 24 = true
 sub : ∀ x, S x = true → Flow.Seen w R x
 mine : ∀ x ∈ l, x < 26 ∧ S x = true
 step : ∀ x, S x = true → x ∉ l → ∀ y, y < 26 → 0 < R x y → S y = true
 tot : unseen S + l.length ≤ 26
structure BJ (w : Flow.Web) (R : Nat → Nat → Int) (S0 : Nat → Bool) (l0 : List Nat) (h k : Nat) (S : Nat → Bool) (l : List Nat) : Prop where
 top : S 24 = true
 sub : ∀ x, S x = true → Flow.Seen w R x
 mine : ∀ x ∈ l, x < 26 ∧ S x = true
 step : ∀ x, S x = true → x ∉ l → x ≠ h → ∀ y, y < 26 → 0 < R x y → S y = true
 row : ∀ y, y < k → 0 < R h y → S y = true
 hd : S h = true
 num : unseen S + l.length < unseen S0 + l0.length
 tot : unseen S + l.length ≤ 25
theorem BI.start {w : Flow.Web} (hK : w.K = 12) (R : Nat → Nat → Int) : BI w R (setS (fun _ => false) 24) [24] := by
 have h1 : ∀ x, setS (fun _ => false) 24 x = true ↔ x = 24 := fun x => by unfold setS; by_cases h : x = 24 <;> simp [h]
 refine ⟨(h1 24).2 rfl, fun x hx => ?_, fun x hx => ?_, fun x hx hn => ?_, by decide⟩
 ·rw [(h1 x).1 hx, show (24 : Nat) = 2 * w.K by omega]; exact .base
 ·rw [List.mem_singleton] at hx; exact ⟨by omega, (h1 x).2 hx⟩
 ·exact absurd (by rw [(h1 x).1 hx]; simp) hn
theorem BJ.start {w : Flow.Web} {R : Nat → Nat → Int} {S : Nat → Bool} {h : Nat} {t : List Nat} (hI : BI w R S (h :: t)) : BJ w R S (h :: t) h 0 S t :=
 ⟨hI.top, hI.sub, fun x hx => hI.mine x (by simp [hx]), fun x hx hn he => hI.step x hx (by simp [hn, he]), fun y hy => absurd hy (Nat.not_lt_zero _), (hI.mine h (by simp)).2, by simp, by have := hI.tot; simp at this; omega⟩
theorem BJ.see {w : Flow.Web} (hK : w.K = 12) {R : Nat → Nat → Int} {S0 S : Nat → Bool} {l0 l : List Nat} {h k : Nat} (hJ : BJ w R S0 l0 h k S l) (hk : k < 26) (hR : 0 < R h k) (hS : S k = false) : BJ w R S0 l0 h (k + 1) (setS S k) (l ++ [k]) := by
 have h1 : ∀ x, setS S k x = true ↔ x = k ∨ S x = true := fun x => by unfold setS; by_cases h : x = k <;> simp [h]
 refine ⟨(h1 _).2 (.inr hJ.top), fun x hx => ?_, fun x hx => ?_, fun x hx hn he y hy hr => ?_, fun y hy hr => ?_, (h1 _).2 (.inr hJ.hd), ?_, ?_⟩
 ·rcases (h1 x).1 hx with rfl | hx
  ·exact .step (hJ.sub h hJ.hd) (by omega) hR
  ·exact hJ.sub x hx
 ·rcases List.mem_append.1 hx with hx | hx
  ·exact ⟨(hJ.mine x hx).1, (h1 x).2 (.inr (hJ.mine x hx).2)⟩
  ·rw [List.mem_singleton] at hx; exact ⟨by omega, (h1 x).2 (.inl hx)⟩
 ·rw [List.mem_append, List.mem_singleton] at hn
  rcases (h1 x).1 hx with rfl | hx
  ·exact absurd (.inr rfl) hn
  ·exact (h1 y).2 (.inr (hJ.step x hx (fun h => hn (.inl h)) he y hy hr))
 ·rcases Nat.lt_or_ge y k with h | h
  ·exact (h1 y).2 (.inr (hJ.row y h hr))
  ·exact (h1 y).2 (.inl (by omega))
 ·have := unseen_set hk hS
  have := hJ.num
  rw [List.length_append, List.length_singleton]
  omega
 ·have := unseen_set hk hS
  have := hJ.tot
  rw [List.length_append, List.length_singleton]
  omega
theorem BJ.skip {w : Flow.Web} {R : Nat → Nat → Int} {S0 S : Nat → Bool} {l0 l : List Nat} {h k : Nat} (hJ : BJ w R S0 l0 h k S l) (hR : 0 < R h k → S k = true) : BJ w R S0 l0 h (k + 1) S l :=
 ⟨hJ.top, hJ.sub, hJ.mine, hJ.step, fun y hy hr => by
  rcases Nat.lt_or_ge y k with h | h
  ·exact hJ.row y h hr
  ·obtain rfl : y = k := by omega
   exact hR hr, hJ.hd, hJ.num, hJ.tot⟩
theorem BJ.done {w : Flow.Web} {R : Nat → Nat → Int} {S0 S : Nat → Bool} {l0 l : List Nat} {h : Nat} (hJ : BJ w R S0 l0 h 26 S l) : BI w R S l :=
 ⟨hJ.top, hJ.sub, hJ.mine, fun x hx hn y hy hr => by
  by_cases he : x = h
  ·subst he; exact hJ.row y hy hr
  ·exact hJ.step x hx hn he y hy hr, by have := hJ.tot; omega⟩
theorem BI.all {w : Flow.Web} (hK : w.K = 12) {R : Nat → Nat → Int} {S : Nat → Bool} (hI : BI w R S []) : ∀ x, S x = true ↔ Flow.Seen w R x := by
 intro x
 refine ⟨hI.sub x, fun h => ?_⟩
 induction h with
 |base => rw [show 2 * w.K = 24 by omega]; exact hI.top
 |@step a b ha hb hr ih => exact hI.step a ih (by simp) b (by omega) hr
def cutTo (S : Nat → Bool) (wo k : Nat) : List Nat := (List.range k).filter fun i => S i && (!S (12 + i) && !wo.testBit i)
theorem cutTo_step (S : Nat → Bool) (wo k : Nat) : cutTo S wo (k + 1) = cutTo S wo k ++ (if (S k && (!S (12 + k) && !wo.testBit k)) = true then [k] else []) := by
 unfold cutTo
 rw [List.range_succ, List.filter_append]
 congr 1
 simp only [List.filter_cons, List.filter_nil]
theorem cutTo_len (S : Nat → Bool) (wo k : Nat) : (cutTo S wo k).length ≤ k := by
 have := List.length_filter_le (fun i => S i && (!S (12 + i) && !wo.testBit i)) (List.range k)
 simpa [cutTo] using this
open Classical in
theorem BI.first {nx : Nat → List Nat} (hn : NxOk nx) {sd og wo : Nat} {R : Nat → Nat → Int} {n : Nat} {S : Nat → Bool} (hI : BI (netOf nx sd og wo) R S []) (h : Flow.Inv (netOf nx sd og wo) R n) (hs : ¬ Flow.Seen (netOf nx sd og wo) R 25) : cutTo S wo 12 = Flow.firstL (netOf nx sd og wo) := by
 have hf := hn.fit sd og wo
 have hall := hI.all (w := netOf nx sd og wo) rfl
 unfold Flow.firstL cutTo
 rw [← Flow.firstB_eq hf h hs]
 refine List.filter_congr fun i hi => ?_
 have hd : ∀ x, decide (Flow.Seen (netOf nx sd og wo) R x) = S x := fun x => by
  cases hx : S x with
  |true => exact decide_eq_true ((hall x).1 hx)
  |false => exact decide_eq_false fun h => by rw [(hall x).2 h] at hx; cases hx
 unfold Flow.cutB Flow.cutOf
 show (S i && (!S (12 + i) && !wo.testBit i)) = _
 show _ = (decide (Flow.Seen (netOf nx sd og wo) R i) && (!decide (Flow.Seen (netOf nx sd og wo) R (12 + i)) && !wo.testBit i))
 rw [hd, hd]
def seenW (SB : Nat) (W : World) (i : Nat) : Bool := match W.cell? ⟨SB, i, none⟩ with
 |some (.bool b) => b
 |_ => false
def lenV : Value → Nat
 |.slice _ n _ => n
 |_ => 0
theorem seenW_eq {SB : Nat} {S : Nat → Bool} {W : World} (h : ∀ i, i < 26 → W.cell? ⟨SB, i, none⟩ = some (.bool (S i)) ∧ W.frozen? ⟨SB, i, none⟩ = false) : unseen (seenW SB W) = unseen S := by
 unfold unseen
 congr 1
 refine List.filter_congr fun i hi => ?_
 unfold seenW
 rw [(h i (List.mem_range.1 hi)).1]
end Go.Proofs.YticngcjfofcoiaaDoor
/- Plain facts of the least ways, as the program finds them. -/
namespace Go.Proofs.YticngcjfofcoiaaDoor
open Go.RowKit Go.Rg Go.Proofs.YticngcjfofcoiaaDoorW.PrintWords
set_option linter.unusedVariables false
set_option linter.unusedSimpArgs false
def bitsOf (u i : Nat) : Bool := u.testBit i
theorem sub_net (nx : Nat → List Nat) (sd og wo o u : Nat) (v : List Nat) : Flow.sub (netOf nx sd og wo) (fun i => o.testBit i) (Flow.or2 (bitsOf u) (Flow.inL v)) = netOf nx sd o (orL u v ||| wo) := by
 unfold Flow.sub netOf
 congr 1
 funext i
 rw [Nat.testBit_or, orL_bit]
 show (wo.testBit i || (u.testBit i || v.contains i)) = _
 rw [Bool.or_comm]
theorem one_bits (x : Nat) : Flow.one x = fun i => (2 ^ x).testBit i := by
 funext i
 unfold Flow.one
 rw [Nat.testBit_two_pow]
 by_cases h : i = x
 ·subst h; simp
 ·have : ¬ x = i := fun e => h e.symm
  simp [h, this]
theorem or_bits (og x : Nat) : Flow.or2 (fun i => og.testBit i) (Flow.one x) = fun i => (og ||| 2 ^ x).testBit i := by
 rw [one_bits]
 funext i
 show (og.testBit i || (2 ^ x).testBit i) = _
 rw [Nat.testBit_or]
noncomputable def canB (nx : Nat → List Nat) (sd og wo u : Nat) (v : List Nat) (all x : Nat) : Bool :=
 decide (Flow.mc (netOf nx sd (2 ^ x) (orL u v ||| wo)) = 1) && decide (all ≤ Flow.mc (netOf nx sd (og ||| 2 ^ x) (orL u v ||| wo)))
open Classical in
theorem canB_eq (nx : Nat → List Nat) (sd og wo u : Nat) (v : List Nat) (all x : Nat) : decide (Flow.CanP (netOf nx sd og wo) (bitsOf u) v x all) = canB nx sd og wo u v all x := by
 unfold Flow.CanP canB
 rw [one_bits, sub_net, ← one_bits]
 rw [show (netOf nx sd og wo).org = fun i => og.testBit i from rfl, or_bits, sub_net]
 simp
def aft (nx : Nat → List Nat) (og : Nat) (v : List Nat) : Nat := match v.getLast? with
 |none => og
 |some x => orL 0 (nx x)
theorem aft_lt {nx : Nat → List Nat} (hn : NxOk nx) {og : Nat} (ho : og < 4096) {v : List Nat} (hv : ∀ x ∈ v, x < 12) : aft nx og v < 4096 := by
 unfold aft
 cases h : v.getLast? with
 |none => exact ho
 |some x => exact orL_lt (by decide) (hn.lt x (hv x (List.mem_of_getLast? h)))
theorem aft_bit (nx : Nat → List Nat) (sd og wo : Nat) (v : List Nat) (i : Nat) : Flow.after (netOf nx sd og wo) v i = (aft nx og v).testBit i := by
 unfold Flow.after aft
 cases h : v.getLast? with
 |none => rfl
 |some x =>
  show (nx x).contains i = _
  rw [orL_bit]
  simp
noncomputable def goodB (nx : Nat → List Nat) (sd og wo u : Nat) (v : List Nat) (all i : Nat) : Bool := !u.testBit i && (!v.contains i && (!wo.testBit i && canB nx sd og wo u v all i))
theorem find_eq (nx : Nat → List Nat) (sd og wo u : Nat) (v : List Nat) (all : Nat) : (List.range 12).find? (Flow.fits (netOf nx sd og wo) (bitsOf u) v all) = (elems (aft nx og v)).find? (goodB nx sd og wo u v all) := by
 unfold elems
 rw [List.find?_filter]
 congr 1
 funext i
 unfold Flow.fits goodB
 rw [aft_bit, canB_eq]
 show ((aft nx og v).testBit i && (!u.testBit i && (!v.contains i && (!wo.testBit i && canB nx sd og wo u v all i)))) = decide ((aft nx og v).testBit i = true ∧ _ = true)
 rw [Bool.decide_and, Bool.decide_eq_true, Bool.decide_eq_true]
noncomputable def bestW (g : Nat → Bool) (v l : List Nat) : List Nat := match l.find? g with
 |none => []
 |some j => v ++ [j]
theorem bestW_no {g : Nat → Bool} {v l : List Nat} {x : Nat} (h : g x = false) : bestW g v (l ++ [x]) = bestW g v l := by
 unfold bestW
 rw [List.find?_append]
 cases l.find? g with
 |none => simp [h]
 |some j => rfl
theorem bestW_new {g : Nat → Bool} {v l : List Nat} {x : Nat} (h : g x = true) (h0 : l.find? g = none) : bestW g v (l ++ [x]) = v ++ [x] := by
 unfold bestW
 rw [List.find?_append, h0]
 simp [h]
theorem bestW_old {g : Nat → Bool} {v l : List Nat} {x j : Nat} (h0 : l.find? g = some j) : bestW g v (l ++ [x]) = v ++ [j] ∧ bestW g v l = v ++ [j] := by
 unfold bestW
 rw [List.find?_append, h0]
 exact ⟨rfl, rfl⟩
theorem lexC_snoc {v : List Int} {x y : Int} (h : y < x) : lexC (v ++ [x]) (v ++ [y]) = 1 := by
 induction v with
 |nil =>
  have : ¬ x < y := by omega
  simp [lexC, this, h]
 |cons a v ih => simp [lexC, ih]
theorem elems_sorted (s : Nat) : (elems s).Pairwise (· < ·) := List.Pairwise.filter _ List.pairwise_lt_range
theorem elems_earlier {s i x j : Nat} {g : Nat → Bool} (hx : (elems s)[i]? = some x) (hj : ((elems s).take i).find? g = some j) : j < x := by
 obtain ⟨hi, e⟩ := List.getElem?_eq_some_iff.1 hx
 have hm : j ∈ (elems s).take i := List.mem_of_find?_eq_some hj
 obtain ⟨k, hk, e2⟩ := List.getElem_of_mem hm
 rw [List.length_take] at hk
 rw [List.getElem_take] at e2
 have := List.pairwise_iff_getElem.1 (elems_sorted s) k i (by omega) hi (by omega)
 omega
end Go.Proofs.YticngcjfofcoiaaDoor
/- The contracts of after, done and can, over a way as a list. -/
namespace Go.Proofs.YticngcjfofcoiaaDoor
open Go.RowKit Go.Rg Go.Proofs.YticngcjfofcoiaaDoorW.PrintWords
set_option linter.unusedVariables false
set_option linter.unusedSimpArgs false
theorem last_split {v : List Nat} (h : v ≠ []) : ∃ m x, v.length = m + 1 ∧ v[m]? = some x ∧ v.getLast? = some x ∧ x ∈ v := by
 obtain ⟨x, hx⟩ : ∃ x, v.getLast? = some x := by
  cases h' : v.getLast? with
  |none => exact absurd (List.getLast?_eq_none_iff.1 h') h
  |some x => exact ⟨x, rfl⟩
 have hl : 0 < v.length := List.length_pos_iff.2 h
 refine ⟨v.length - 1, x, by omega, ?_, hx, List.mem_of_getLast? hx⟩
 rw [← hx, List.getLast?_eq_getElem?]
theorem after_any (WB : Nat) (nx : Nat → List Nat) (og sd wo : Nat) (W : World) (A : Option Addr) (c : Nat) (v : List Nat) (hW : WebX WB nx og sd wo W) (hnx : NxOk nx) (hA : (Kd.int .i64).C W A v.length (v.map Int.ofNat)) (hv : ∀ x ∈ v, x < 12) :
  Calls Tryd.prog 66 #[.pointer (some ⟨WB, 0, none⟩), .slice A v.length c] W fun e W' => e = .returned (.int .u16 (aft nx og v : Nat)) ∧ Below W.heap.size W W' := by
 by_cases h0 : v = []
 ·subst h0
  exact after_nil WB nx og sd wo W A c hW
 ·obtain ⟨m, x, hm, hx, hl, hxv⟩ := last_split h0
  have e : aft nx og v = orL 0 (nx x) := by unfold aft; rw [hl]
  rw [e]
  rw [hm] at hA ⊢
  exact after_last WB nx og sd wo W A c m x v hW hnx hA hx (hv x hxv)
theorem isDone_eq (nx : Nat → List Nat) (sd og wo u rest x : Nat) (v : List Nat) (h : v.getLast? = some x) : Flow.isDone (netOf nx sd og wo) (bitsOf u) v rest = (sd.testBit x && decide (rest ≤ Flow.mc (netOf nx sd og (orL u v ||| wo)))) := by
 unfold Flow.isDone
 rw [h, show (netOf nx sd og wo).org = fun i => og.testBit i from rfl, sub_net]
 rfl
theorem done_any (WB : Nat) (nx : Nat → List Nat) (og sd wo u rest : Nat) (W : World) (A : Option Addr) (c : Nat) (v : List Nat) (h0 : v ≠ []) (hW : WebX WB nx og sd wo W) (hnx : NxOk nx) (hA : (Kd.int .i64).C W A v.length (v.map Int.ofNat)) (hv : ∀ x ∈ v, x < 12) (hog : og < 4096) (hsd : sd < 4096) (hwo : wo < 4096) (hu : u < 4096) (hrest : rest < 100) :
  Calls Tryd.prog 65 #[.pointer (some ⟨WB, 0, none⟩), .slice A v.length c, .int .u16 u, .int .i64 rest] W fun e W' => e = .returned (.bool (Flow.isDone (netOf nx sd og wo) (bitsOf u) v rest)) ∧ Below W.heap.size W W' := by
 obtain ⟨m, x, hm, hx, hl, hxv⟩ := last_split h0
 rw [isDone_eq nx sd og wo u rest x v hl]
 rw [hm] at hA ⊢
 exact done_last WB nx og sd wo u rest W A c m x v hW hnx hA hx hv hog hsd hwo hu hrest hm
theorem can_any (WB : Nat) (nx : Nat → List Nat) (og sd wo u all : Nat) (W : World) (A : Option Addr) (c : Nat) (v : List Nat) (x : Nat) (hW : WebX WB nx og sd wo W) (hnx : NxOk nx) (hA : (Kd.int .i64).C W A (v.length + 1) ((v ++ [x]).map Int.ofNat)) (hv : ∀ y ∈ v, y < 12) (hx : x < 12) (hog : og < 4096) (hsd : sd < 4096) (hwo : wo < 4096) (hu : u < 4096) (hall : all < 100) (hc : v.length + 1 ≤ c) :
  Calls Tryd.prog 69 #[.pointer (some ⟨WB, 0, none⟩), .slice A (v.length + 1) c, .int .u16 u, .int .i64 all] W fun e W' => e = .returned (.bool (canB nx sd og wo u v all x)) ∧ Below W.heap.size W W' := by
 have h := can_last WB nx og sd wo u all W A c v.length x (v ++ [x]) hW hnx hA (by simp) (fun y hy => by
  rcases List.mem_append.1 hy with hy | hy
  ·exact hv y hy
  ·rw [List.mem_singleton] at hy; omega) hog hsd hwo hu hall (by simp) hc
 rw [List.take_left] at h
 exact h
theorem mc_twelve (nx : Nat → List Nat) (hn : NxOk nx) (sd og wo : Nat) : Flow.mc (netOf nx sd og wo) ≤ 12 := by
 have h := Flow.mc_le (hn.fit sd og wo) (D := fun _ => true) (fun x _ _ hd _ => by cases hd)
 rw [show (netOf nx sd og wo).K = 12 from rfl, Flow.count_all] at h
 omega
end Go.Proofs.YticngcjfofcoiaaDoor
