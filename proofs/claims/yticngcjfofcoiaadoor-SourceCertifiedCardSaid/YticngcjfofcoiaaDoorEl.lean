/- Plain facts of the members of a set and of their least. -/
import Derived.Test.YticngcjfofcoiaaDoorCn
import Derived.LoopIn
import Derived.LoopNIn
import Derived.BigFrameIn
namespace Go.Proofs.YticngcjfofcoiaaDoor
open Go.RowKit Go.Rg Go.Proofs.YticngcjfofcoiaaDoorW.PrintWords
set_option linter.unusedVariables false
set_option linter.unusedSimpArgs false

/-- The members of a set, ascending. -/
def elems (s : Nat) : List Nat := (List.range 12).filter fun i => s.testBit i
/-- The least of them. -/
def tz (s : Nat) : Nat := (elems s).headD 0
def tabL : List Nat := [0, 1, 28, 2, 29, 14, 24, 3, 30, 22, 20, 15, 25, 17, 4, 8, 31, 27, 13, 23, 21, 19, 16, 7, 26, 12, 18, 6, 11, 5, 10, 9]
def tabv : Array Value := (tabL.map fun (x : Nat) => Value.int .u8 (x : Int)).toArray
/-- The laid table. -/
def Tab (w : World) : Prop := ∃ t : TypeId × Nat × Nat, w.heap[0]? = some (.cells tabv t.1 t.2)
theorem Tab.pos {w : World} (h : Tab w) : 0 < w.heap.size := by
  obtain ⟨t, h⟩ := h
  exact (Array.getElem?_eq_some_iff.1 h).1
theorem Tab.next {n : Nat} {w w' : World} (h : Tab w) (hb : Below n w w') (hn : 0 < n) : Tab w' := by
  obtain ⟨t, h⟩ := h
  exact ⟨t, (hb.block 0 hn).trans h⟩
theorem Tab.fr {S : Nat → Prop} {w w' : World} (h : Tab w) (hb : Fr S w w') (hn : ¬ S 0) : Tab w' := by
  have hp := h.pos
  obtain ⟨t, h⟩ := h
  exact ⟨t, (hb.block 0 hp hn).trans h⟩
theorem Tab.at {w : World} (h : Tab w) {i x : Nat} (hx : tabL[i]? = some x) : w.cell? ⟨0, i, none⟩ = some (.int .u8 (x : Int)) := by
  obtain ⟨t, h⟩ := h
  refine cell_of h ?_
  simp [tabv, hx]

theorem low_all : (List.range 4096).all (fun s => s == 0 || ((s &&& (65536 - s)) == 2 ^ tz s && elems s == tz s :: elems (s &&& (s - 1)) && decide (tz s < 12) && tabL[2 ^ tz s * 125613361 % 4294967296 / 134217728]? == some (tz s))) = true := by decide +kernel
theorem low {s : Nat} (h : s < 4096) (h0 : s ≠ 0) : (s &&& (65536 - s)) = 2 ^ tz s ∧ elems s = tz s :: elems (s &&& (s - 1)) ∧ tz s < 12 ∧ tabL[2 ^ tz s * 125613361 % 4294967296 / 134217728]? = some (tz s) := by
  have := List.all_eq_true.1 low_all s (List.mem_range.2 h)
  simp only [Bool.or_eq_true, beq_iff_eq, Bool.and_eq_true, decide_eq_true_eq] at this
  rcases this with h1 | ⟨⟨⟨h1, h2⟩, h3⟩, h4⟩
  · exact absurd h1 h0
  · exact ⟨h1, h2, h3, h4⟩
theorem elems_zero : elems 0 = [] := by decide
theorem elems_mem {s i : Nat} (h : i ∈ elems s) : i < 12 ∧ s.testBit i = true := by
  simpa [elems] using h
theorem elems_len (s : Nat) : (elems s).length ≤ 12 := by
  have := List.length_filter_le (fun i => s.testBit i) (List.range 12)
  simpa [elems] using this

end Go.Proofs.YticngcjfofcoiaaDoor
