/- What the row's premise gives of a slice of sources and of a support. -/
import Derived.Test.YticngcjfofcoiaaDoorSh
namespace Go.Proofs.YticngcjfofcoiaaDoor
open Go.ChangeShapes Go.WideShapes Go.ChangeAt Go.RowKit Go.Proofs.YticngcjfofcoiaaDoorW.PrintWords
set_option linter.unusedVariables false
set_option linter.unusedSimpArgs false
set_option maxRecDepth 100000
theorem list_of {α : Type} {P : Nat → α → Prop} : ∀ (n : Nat), (∀ i, i < n → ∃ x, P i x) → ∃ xs : List α, xs.length = n ∧ ∀ i x, xs[i]? = some x → P i x
 |0, _ => ⟨[], rfl, fun i x h => by simp at h⟩
 |n + 1, h => by
  obtain ⟨xs, hl, hx⟩ := list_of n (fun i hi => h i (by omega))
  obtain ⟨y, hy⟩ := h n (by omega)
  refine ⟨xs ++ [y], by simp [hl], fun i x hi => ?_⟩
  by_cases hin : i < xs.length
  ·rw [List.getElem?_append_left hin] at hi
   exact hx i x hi
  ·have : i < (xs ++ [y]).length := (List.getElem?_eq_some_iff.1 hi).1
   have e : i = n := by simp at this; omega
   subst e
   rw [List.getElem?_append_right (by omega), show i - xs.length = 0 by omega] at hi
   simp at hi
   subst hi
   exact hy
theorem cells26 : Tryd.prog.cellsOf 26 = 1 := by kernel_rfl
theorem cells28 : Tryd.prog.cellsOf 28 = 1 := by kernel_rfl
theorem cells30 : Tryd.prog.cellsOf 30 = 3 := by kernel_rfl
theorem cells35 : Tryd.prog.cellsOf 35 = 3 := by kernel_rfl
theorem row_of_trod {H : Type} {enc : TypeId × Value → H} {W : World} {base : Nat} {sp : Nat → Bool} {held : Bool} {n : Nat} {cs : List Value} {x : DataW H × List MemPlace} (h : DataW.trod enc Tryd.prog W base sp held n 26 cs = some x) :
  ∃ A c xs, cs = [.slice A (xs : List Int).length c] ∧ xs.length ≤ c ∧ (Kd.int .i64).C W A xs.length xs := by
 rcases DataW.trod_slice Tryd.underlying26 h with ⟨hcs, _⟩ | ⟨a, l, c, elems, rest, n, _, hcs, _, _, hl, hm, hlen, hel, _, _⟩
 ·exact ⟨none, 0, [], hcs, Nat.le_refl _, ⟨rfl, by decide, fun h => absurd h (Nat.lt_irrefl _)⟩⟩
 ·obtain ⟨xs, hxl, hx⟩ := list_of (P := fun i (y : Int) => W.cell? (a.add i) = some (.int .i64 y)) l (fun i hi => by
   have h1 := hel i hi
   rw [cells3, List.getElem?_eq_getElem (by omega), Option.bind_eq_some_iff, Nat.mul_one] at h1
   obtain ⟨ds, hds, ht⟩ := h1
   obtain ⟨y, rfl, _, _⟩ := DataW.trod_int Tryd.underlying3 ht
   obtain ⟨_, _, hcc⟩ := World.cells?_some hds
   have := hcc 0 (by decide)
   exact ⟨y, by simpa [Addr.add] using this⟩)
  subst hxl
  refine ⟨some a, c, xs, hcs, hl, rfl, by unfold maxLen at hm; omega, fun _ => ⟨a, rfl, fun j q hj => ⟨[.int .i64 q], rfl, rfl, fun i u hi => ?_⟩⟩⟩
  cases i with
  |zero =>
   simp only [List.getElem?_cons_zero, Option.some.injEq] at hi
   subst hi
   have hsz : (Kd.int .i64).sz = 1 := rfl
   rw [hsz, Nat.mul_one, Nat.add_zero]
   exact hx j q hj
  |succ i => simp at hi
theorem addr_add_add (a : Addr) (m n : Nat) : (a.add m).add n = a.add (m + n) := by
 obtain ⟨b, o, sp⟩ := a
 unfold Addr.add
 by_cases hm : m = 0
 ·subst hm; simp
 ·by_cases hn : n = 0
  ·subst hn; simp
  ·simp [hm, hn, Nat.add_assoc]
theorem rows_of_trod {H : Type} {enc : TypeId × Value → H} {W : World} {base : Nat} {sp : Nat → Bool} {held : Bool} {n : Nat} {cs : List Value} {x : DataW H × List MemPlace} (h : DataW.trod enc Tryd.prog W base sp held n 28 cs = some x) :
  ∃ A c xs, cs = [.slice A (xs : List (List Int)).length c] ∧ xs.length ≤ c ∧ (Kd.slice 3 (Kd.int .i64)).C W A xs.length xs := by
 rcases DataW.trod_slice Tryd.underlying28 h with ⟨hcs, _⟩ | ⟨a, l, c, elems, rest, n, _, hcs, _, _, hl, hm, hlen, hel, _, _⟩
 ·exact ⟨none, 0, [], hcs, Nat.le_refl _, ⟨rfl, by decide, fun h => absurd h (Nat.lt_irrefl _)⟩⟩
 ·obtain ⟨xs, hxl, hx⟩ := list_of (P := fun i (y : List Int) => ∃ A c, W.cell? (a.add i) = some (.slice A y.length c) ∧ y.length ≤ c ∧ (Kd.int .i64).C W A y.length y) l (fun i hi => by
   have h1 := hel i hi
   rw [cells26, List.getElem?_eq_getElem (by omega), Option.bind_eq_some_iff, Nat.mul_one] at h1
   obtain ⟨ds, hds, ht⟩ := h1
   obtain ⟨A, c, y, rfl, h2, h3⟩ := row_of_trod ht
   obtain ⟨_, _, hcc⟩ := World.cells?_some hds
   have := hcc 0 (by decide)
   exact ⟨y, A, c, by simpa [Addr.add] using this, h2, h3⟩)
  subst hxl
  refine ⟨some a, c, xs, hcs, hl, rfl, by unfold maxLen at hm; omega, fun _ => ⟨a, rfl, fun j q hj => ?_⟩⟩
  obtain ⟨B, e, h1, h2, h3⟩ := hx j q hj
  refine ⟨[.slice B q.length e], rfl, ⟨B, e, rfl, h2, h3⟩, fun i u hi => ?_⟩
  cases i with
  |zero =>
   simp only [List.getElem?_cons_zero, Option.some.injEq] at hi
   subst hi
   have hsz : (Kd.slice 3 (Kd.int .i64)).sz = 1 := rfl
   rw [hsz, Nat.mul_one, Nat.add_zero]
   exact h1
  |succ i => simp at hi
theorem open_row26 {H : Type} {enc : TypeId × Value → H} {W : World} {base : Nat} {sp : Nat → Bool} {held : Bool} {r : Reach} {b0 : Nat} {v : Value} {d : DataW H} {p : List MemPlace} (hv : Value.okWide Tryd.prog W r b0 26 v) (h : DataW.Trod enc Tryd.prog W base sp held 26 v d p) :
  ∃ A c xs, v = .slice A (xs : List Int).length c ∧ xs.length ≤ c ∧ (Kd.int .i64).C W A xs.length xs := by
 obtain ⟨A, len, cap, rfl⟩ := okWide_slice Tryd.underlying26 hv
 obtain ⟨fuel, hf⟩ := h
 obtain ⟨A', c, xs, e, h2, h3⟩ := row_of_trod hf
 simp [Value.cells] at e
 obtain ⟨rfl, rfl, rfl⟩ := e
 exact ⟨_, _, xs, rfl, h2, h3⟩
theorem open_row24 {H : Type} {enc : TypeId × Value → H} {W : World} {base : Nat} {sp : Nat → Bool} {held : Bool} {r : Reach} {b0 : Nat} {v : Value} {d : DataW H} {p : List MemPlace} (hv : Value.okWide Tryd.prog W r b0 24 v) (h : DataW.Trod enc Tryd.prog W base sp held 24 v d p) :
  ∃ A c l, v = .slice A (l : List Src).length c ∧ l.length ≤ c ∧ Kd.C kS W A l.length l := by
 obtain ⟨A, len, cap, rfl⟩ := okWide_slice Tryd.underlying24 hv
 obtain ⟨fuel, hf⟩ := h
 rcases DataW.trod_slice Tryd.underlying24 hf with ⟨hcs, _⟩ | ⟨a, l, c, elems, rest, n, _, hcs, _, _, hl, hm, hlen, hel, _, _⟩
 ·simp [Value.cells] at hcs
  obtain ⟨rfl, rfl, rfl⟩ := hcs
  exact ⟨none, 0, [], rfl, Nat.le_refl _, rfl, by decide, fun h => absurd h (Nat.lt_irrefl _)⟩
 ·simp [Value.cells] at hcs
  obtain ⟨rfl, rfl, rfl⟩ := hcs
  obtain ⟨xs, hxl, hx⟩ := list_of (P := fun i (y : Src) => ∃ FA fc, (∀ j u, [Value.int .i64 y.id, .int .i64 y.kind, .slice FA y.frm.length fc][j]? = some u → W.cell? (a.add (i * 3 + j)) = some u) ∧ y.frm.length ≤ fc ∧ (Kd.int .i64).C W FA y.frm.length y.frm) len (fun i hi => by
   have h1 := hel i hi
   rw [cells35, List.getElem?_eq_getElem (by omega), Option.bind_eq_some_iff] at h1
   obtain ⟨ds, hds, ht⟩ := h1
   obtain ⟨_, hdl, hcc⟩ := World.cells?_some hds
   obtain ⟨ys, m, _, _, _, hyl, hye⟩ := DataW.trod_struct Tryd.underlying35 ht
   match ds, hdl, hcc, hye with
   |[c0, c1, c2], _, hcc, hye =>
    have one : ∀ (u : Value) (o : Option (DataW H × List MemPlace)), DataW.trod enc Tryd.prog W base sp held m 3 [u] = o → (∃ z, o = some z) → ∃ x, u = .int .i64 x := by
     rintro u _ ht ⟨z, rfl⟩
     obtain ⟨x, e, _, hw⟩ := DataW.trod_int Tryd.underlying3 ht
     simp at e
     exact ⟨x, e⟩
    have get : ∀ j, j < 3 → ∃ z, ys[j]? = some z := fun j hj => ⟨_, List.getElem?_eq_getElem (by rw [hyl]; exact hj)⟩
    obtain ⟨x0, rfl⟩ := one c0 _ (by have g := hye 0 _ rfl; erw [cells3] at g; exact g) (get 0 (by decide))
    obtain ⟨x1, rfl⟩ := one c1 _ (by have g := hye 1 _ rfl; erw [cells3] at g; exact g) (get 1 (by decide))
    obtain ⟨z2, hz2⟩ := get 2 (by decide)
    have g2 : DataW.trod enc Tryd.prog W base sp held m 26 [c2] = some z2 := by
     have g := hye 2 _ rfl
     erw [cells26] at g
     rw [hz2] at g
     exact g
    obtain ⟨FA, fc, fr, e, hfc, hfr⟩ := row_of_trod g2
    simp at e
    subst e
    refine ⟨⟨x0, x1, fr⟩, FA, fc, fun j u hj => ?_, hfc, hfr⟩
    have hj3 : j < 3 := (List.getElem?_eq_some_iff.1 hj).1
    have := hcc j hj3
    rw [hj] at this
    rw [← this]
    congr 1
    exact (addr_add_add a (i * 3) j).symm)
  subst hxl
  refine ⟨some a, cap, xs, rfl, hl, rfl, by unfold maxLen at hm; omega, fun _ => ⟨a, rfl, fun j q hj => ?_⟩⟩
  obtain ⟨FA, fc, h1, h2, h3⟩ := hx j q hj
  exact ⟨[.int .i64 q.id, .int .i64 q.kind, .slice FA q.frm.length fc], rfl, kS_mk (x := q) h2 h3, fun i u hi => h1 i u hi⟩
theorem open_sup {H : Type} {enc : TypeId × Value → H} {W : World} {base : Nat} {sp : Nat → Bool} {held : Bool} {r : Reach} {b0 : Nat} {v : Value} {d : DataW H} {p : List MemPlace} (hv : Value.okWide Tryd.prog W r b0 30 v) (h : DataW.Trod enc Tryd.prog W base sp held 30 v d p) :
  ∃ n WA wc ws CA cc cs, v = .agg #[.int .i64 n, .slice WA (ws : List (List Int)).length wc, .slice CA (cs : List Int).length cc] ∧ OddAt WA wc ws CA cc cs W := by
 have hc : ∃ cs, v = .agg cs ∧ cs.size = Tryd.prog.cellsOf 30 := by
  unfold Value.okWide at hv
  rw [Tryd.underlying30] at hv
  obtain ⟨cs, h1, h2, _⟩ := hv
  exact ⟨cs, h1, h2⟩
 obtain ⟨cs, rfl, hsz⟩ := hc
 rw [cells30] at hsz
 obtain ⟨l⟩ := cs
 obtain ⟨fuel, hf⟩ := h
 obtain ⟨ys, m, _, _, _, hyl, hye⟩ := DataW.trod_struct Tryd.underlying30 hf
 match l, hsz, hye with
 |[c0, c1, c2], _, hye =>
  have get : ∀ j, j < 3 → ∃ z, ys[j]? = some z := fun j hj => ⟨_, List.getElem?_eq_getElem (by rw [hyl]; exact hj)⟩
  obtain ⟨z0, hz0⟩ := get 0 (by decide)
  have g0 : DataW.trod enc Tryd.prog W base sp held m 3 [c0] = some z0 := by
   have g := hye 0 _ rfl
   erw [cells3] at g
   rw [hz0] at g
   exact g
  obtain ⟨x0, e0, _, _⟩ := DataW.trod_int Tryd.underlying3 g0
  obtain ⟨z1, hz1⟩ := get 1 (by decide)
  have g1 : DataW.trod enc Tryd.prog W base sp held m 28 [c1] = some z1 := by
   have g := hye 1 _ rfl
   erw [cells28] at g
   rw [hz1] at g
   exact g
  obtain ⟨WA, wc, ws, e1, hw1, hw2⟩ := rows_of_trod g1
  obtain ⟨z2, hz2⟩ := get 2 (by decide)
  have g2 : DataW.trod enc Tryd.prog W base sp held m 26 [c2] = some z2 := by
   have g := hye 2 _ rfl
   erw [cells26] at g
   rw [hz2] at g
   exact g
  obtain ⟨CA, cc, cs, e2, hc1, hc2⟩ := row_of_trod g2
  simp at e0 e1 e2
  subst e0
  subst e1
  subst e2
  exact ⟨x0, WA, wc, ws, CA, cc, cs, rfl, hw2, hc2, hw1, hc1⟩
end Go.Proofs.YticngcjfofcoiaaDoor
