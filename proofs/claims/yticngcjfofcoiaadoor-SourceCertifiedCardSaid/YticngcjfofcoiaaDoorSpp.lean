/- Plain facts of the web that spin makes; how a web lies while it is made. -/
import Derived.Test.YticngcjfofcoiaaDoorVd
import Derived.Test.YticngcjfofcoiaaDoorXs
namespace Go.Proofs.YticngcjfofcoiaaDoor
open Go.RowKit Go.Rg Go.Proofs.YticngcjfofcoiaaDoorW.PrintWords
set_option linter.unusedVariables false
set_option linter.unusedSimpArgs false

def upd (nx : Nat → List Nat) (v id : Nat) (i : Nat) : List Nat := if i = v then nx i ++ [id] else nx i
def addF (nx : Nat → List Nat) (id : Nat) (frm : List Int) : Nat → List Nat := frm.foldl (fun nx v => upd nx v.toNat id) nx
def nxL (l : List Src) : Nat → List Nat := l.foldl (fun nx s => addF nx s.id.toNat s.frm) (fun _ => [])
def ogL (l : List Src) : Nat := l.foldl (fun og s => if s.frm.length = 0 then og ||| 2 ^ s.id.toNat else og) 0
def sdL (xs : List Int) : Nat := orL 0 (xs.map Int.toNat)
theorem addF_snoc (nx : Nat → List Nat) (id : Nat) (frm : List Int) (v : Int) : addF nx id (frm ++ [v]) = upd (addF nx id frm) v.toNat id := by simp [addF]
theorem nxL_snoc (l : List Src) (s : Src) : nxL (l ++ [s]) = addF (nxL l) s.id.toNat s.frm := by simp [nxL]
theorem ogL_snoc (l : List Src) (s : Src) : ogL (l ++ [s]) = if s.frm.length = 0 then ogL l ||| 2 ^ s.id.toNat else ogL l := by simp [ogL]
theorem take_at {α : Type} {l : List α} {k : Nat} {s : α} (h : l[k]? = some s) : l.take (k + 1) = l.take k ++ [s] := by
  obtain ⟨hk, e⟩ := List.getElem?_eq_some_iff.1 h
  rw [List.take_succ_eq_append_getElem hk, e]
theorem ogL_lt : ∀ (l : List Src), (∀ s ∈ l, 0 ≤ s.id ∧ s.id < 12) → ogL l < 4096 := by
  have key : ∀ (l : List Src) (a : Nat), a < 4096 → (∀ s ∈ l, 0 ≤ s.id ∧ s.id < 12) → l.foldl (fun og s => if s.frm.length = 0 then og ||| 2 ^ s.id.toNat else og) a < 4096 := by
    intro l
    induction l with
    | nil => intro a ha _; exact ha
    | cons s l ih =>
      intro a ha hl
      refine ih _ ?_ fun y hy => hl y (by simp [hy])
      have := hl s (by simp)
      dsimp only
      split
      · exact Nat.or_lt_two_pow (n := 12) ha (pow_lt12 (by omega))
      · exact ha
  exact fun l hl => key l 0 (by decide) hl
theorem addF_len : ∀ (frm : List Int) (nx : Nat → List Nat) (id b i : Nat), (nx i).length ≤ b → (addF nx id frm i).length ≤ b + frm.length := by
  intro frm
  induction frm with
  | nil => intro nx id b i h; exact h
  | cons v frm ih =>
    intro nx id b i h
    have := ih (upd nx v.toNat id) id (b + 1) i (by
      unfold upd
      split
      · rw [List.length_append, List.length_singleton]; omega
      · omega)
    show (addF (upd nx v.toNat id) id frm i).length ≤ _
    rw [List.length_cons]
    omega
theorem nxL_len : ∀ (l : List Src) (i : Nat), (∀ s ∈ l, s.frm.length ≤ 3) → (nxL l i).length ≤ 3 * l.length := by
  have key : ∀ (l : List Src) (nx : Nat → List Nat) (b i : Nat), (nx i).length ≤ b → (∀ s ∈ l, s.frm.length ≤ 3) → (l.foldl (fun nx s => addF nx s.id.toNat s.frm) nx i).length ≤ b + 3 * l.length := by
    intro l
    induction l with
    | nil => intro nx b i h _; exact h
    | cons s l ih =>
      intro nx b i h hl
      have h1 := addF_len s.frm nx s.id.toNat b i h
      have h2 := hl s (by simp)
      have h3 := ih (addF nx s.id.toNat s.frm) (b + 3) i (by omega) (fun y hy => hl y (by simp [hy]))
      rw [List.foldl_cons, List.length_cons]
      omega
  intro l i hl
  have := key l (fun _ => []) 0 i (Nat.zero_le _) hl
  simpa [nxL] using this
theorem addF_mem : ∀ (frm : List Int) (nx : Nat → List Nat) (id i v : Nat), v ∈ addF nx id frm i ↔ v ∈ nx i ∨ (v = id ∧ ∃ y ∈ frm, y.toNat = i) := by
  intro frm
  induction frm with
  | nil => intro nx id i v; simp [addF]
  | cons y frm ih =>
    intro nx id i v
    show v ∈ addF (upd nx y.toNat id) id frm i ↔ _
    rw [ih]
    unfold upd
    by_cases h : i = y.toNat
    · subst h
      simp only [if_true, List.mem_append, List.mem_cons, List.not_mem_nil, or_false, exists_eq_or_imp, true_or, and_true]
      constructor
      · rintro ((h | h) | h)
        · exact .inl h
        · exact .inr h
        · exact .inr h.1
      · rintro (h | h)
        · exact .inl (.inl h)
        · exact .inl (.inr h)
    · have h' : ¬ y.toNat = i := fun e => h e.symm
      rw [if_neg h]
      simp [h']
theorem nxL_mem : ∀ (l : List Src) (i v : Nat), v ∈ nxL l i ↔ ∃ s ∈ l, v = s.id.toNat ∧ ∃ y ∈ s.frm, y.toNat = i := by
  have key : ∀ (l : List Src) (nx : Nat → List Nat) (i v : Nat), v ∈ l.foldl (fun nx s => addF nx s.id.toNat s.frm) nx i ↔ v ∈ nx i ∨ ∃ s ∈ l, v = s.id.toNat ∧ ∃ y ∈ s.frm, y.toNat = i := by
    intro l
    induction l with
    | nil => intro nx i v; simp
    | cons s l ih =>
      intro nx i v
      rw [List.foldl_cons, ih, addF_mem]
      simp only [List.mem_cons, exists_eq_or_imp]
      rw [or_assoc]
  intro l i v
  rw [nxL, key]
  simp
theorem ogL_bit : ∀ (l : List Src) (i : Nat), (ogL l).testBit i = true ↔ ∃ s ∈ l, s.frm.length = 0 ∧ s.id.toNat = i := by
  have key : ∀ (l : List Src) (a i : Nat), (l.foldl (fun og s => if s.frm.length = 0 then og ||| 2 ^ s.id.toNat else og) a).testBit i = true ↔ a.testBit i = true ∨ ∃ s ∈ l, s.frm.length = 0 ∧ s.id.toNat = i := by
    intro l
    induction l with
    | nil => intro a i; simp
    | cons s l ih =>
      intro a i
      rw [List.foldl_cons, ih]
      simp only [List.mem_cons, exists_eq_or_imp]
      by_cases h : s.frm.length = 0
      · rw [if_pos h, Nat.testBit_or, Nat.testBit_two_pow]
        simp [h, or_assoc]
      · rw [if_neg h]
        simp [h]
  intro l i
  rw [ogL, key]
  simp

/-- A web's cells. -/
def wcells (nv : Nat → Value) (og sd wo : Nat) : Array Value := #[nv 0, nv 1, nv 2, nv 3, nv 4, nv 5, nv 6, nv 7, nv 8, nv 9, nv 10, nv 11, .int .u16 (og : Int), .int .u16 (sd : Int), .int .u16 (wo : Int)]
def updV (nv : Nat → Value) (v : Nat) (x : Value) (i : Nat) : Value := if i = v then x else nv i
theorem twelveN {P : Nat → Prop} {i : Nat} (h : i < 12) (h0 : P 0) (h1 : P 1) (h2 : P 2) (h3 : P 3) (h4 : P 4) (h5 : P 5) (h6 : P 6) (h7 : P 7) (h8 : P 8) (h9 : P 9) (h10 : P 10) (h11 : P 11) : P i := by
  have : i = 0 ∨ i = 1 ∨ i = 2 ∨ i = 3 ∨ i = 4 ∨ i = 5 ∨ i = 6 ∨ i = 7 ∨ i = 8 ∨ i = 9 ∨ i = 10 ∨ i = 11 := by omega
  rcases this with rfl | rfl | rfl | rfl | rfl | rfl | rfl | rfl | rfl | rfl | rfl | rfl <;> assumption
theorem wcells_next {nv : Nat → Value} {og sd wo i : Nat} (h : i < 12) : (wcells nv og sd wo)[i]? = some (nv i) := twelveN (P := fun i => (wcells nv og sd wo)[i]? = some (nv i)) h rfl rfl rfl rfl rfl rfl rfl rfl rfl rfl rfl rfl
theorem wcells_put {nv : Nat → Value} {og sd wo i : Nat} (x : Value) (h : i < 12) : (wcells nv og sd wo).setIfInBounds i x = wcells (updV nv i x) og sd wo := twelveN (P := fun i => (wcells nv og sd wo).setIfInBounds i x = wcells (updV nv i x) og sd wo) h rfl rfl rfl rfl rfl rfl rfl rfl rfl rfl rfl rfl
/-- A web while it is made. -/
structure SX (WB : Nat) (nv : Nat → Value) (nx : Nat → List Nat) (og sd wo : Nat) (W : World) : Prop where
  blk : W.heap[WB]? = some (.cells (wcells nv og sd wo) 68)
  rows : ∀ i, i < 12 → (Kd.int .i64).R 3 W (WB + 1) (fun k => (nv i).ownBlock = some k) (nv i) ((nx i).map Int.ofNat)
  ne : ∀ i j, i < 12 → j < 12 → i ≠ j → NeRow (nv i) (nv j)
theorem SX.size {WB : Nat} {nv : Nat → Value} {nx : Nat → List Nat} {og sd wo : Nat} {W : World} (h : SX WB nv nx og sd wo W) : WB < W.heap.size := (Array.getElem?_eq_some_iff.1 h.blk).1
theorem SX.fr {WB : Nat} {nv : Nat → Value} {nx : Nat → List Nat} {og sd wo : Nat} {W W' : World} (h : SX WB nv nx og sd wo W) (hb : Below W.heap.size W W') : SX WB nv nx og sd wo W' :=
  ⟨(hb.block _ h.size).trans h.blk, fun i hi => Kd.R_below (h.rows i hi) hb, h.ne⟩
theorem SX.web {WB : Nat} {nv : Nat → Value} {nx : Nat → List Nat} {og sd wo : Nat} {W : World} (h : SX WB nv nx og sd wo W) : WebX WB nx og sd wo W :=
  ⟨fun i hi => by
    obtain ⟨A, c, e, hl, hC⟩ := Kd.R_reads (h.rows i hi)
    rw [List.length_map] at e hC
    exact ⟨A, c, by rw [← e]; exact cell_of h.blk (wcells_next hi), hC⟩, cell_of h.blk rfl, cell_of h.blk rfl, cell_of h.blk rfl⟩
theorem row_only {e base : Nat} {ok : Nat → Prop} {W : World} {v : Value} {xs : List Int} (h : (Kd.int .i64).R e W base ok v xs) : (Kd.int .i64).R e W base (fun k => v.ownBlock = some k) v xs := Kd.R_of_own (Kd.own_of_R h) (fun k hk => hk)
/-- A store into the web's own block. -/
theorem SX.put {WB : Nat} {nv : Nat → Value} {nx : Nat → List Nat} {og sd wo og' sd' wo' o : Nat} {W : World} {x : Value} (h : SX WB nv nx og sd wo W) (he : (wcells nv og sd wo).setIfInBounds o x = wcells nv og' sd' wo') : SX WB nv nx og' sd' wo' (W.setCell ⟨WB, o, none⟩ x) :=
  ⟨by rw [← he]; exact heap_set (o := o) x h.blk, fun i hi => Kd.R_set (h.rows i hi) h.blk (fun q hq => by rw [kI_only hq]; decide) o x, h.ne⟩
end Go.Proofs.YticngcjfofcoiaaDoor
