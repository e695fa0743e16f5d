/- Rights: the law RightsMatchesReference answers true at every input, as the given card states it, rights.kinds being tied to the program's text; no further condition. -/
import Derived.Test.YtnabgijdbcdpmaaDoorZs
import Derived.Test.YtnabgijdbcdpmaaDoorRows
import Derived.Test.YtnabgijdbcdpmaaDoorTie
import Derived.Test.YtnabgijdbcdpmaaDoorCards
import Derived.SevenTiedAt
namespace Go.Proofs.YtnabgijdbcdpmaaDoor
open Go.ChangeShapes Go.WideShapes Go.ChangeAt Go.RowKit Go.Proofs.YtnabgijdbcdpmaaDoor.PRightsMatchesReference Go.Proofs.YtnabgijdbcdpmaaDoorW.PrintWords
set_option linter.unusedVariables false
set_option linter.unusedSimpArgs false

theorem list_of {α : Type} {P : Nat → α → Prop} : ∀ (n : Nat), (∀ i, i < n → ∃ x, P i x) → ∃ xs : List α, xs.length = n ∧ ∀ i x, xs[i]? = some x → P i x
  | 0, _ => ⟨[], rfl, fun i x h => by simp at h⟩
  | n + 1, h => by
    obtain ⟨xs, hl, hx⟩ := list_of n (fun i hi => h i (by omega))
    obtain ⟨y, hy⟩ := h n (by omega)
    refine ⟨xs ++ [y], by simp [hl], fun i x hi => ?_⟩
    by_cases hin : i < xs.length
    · rw [List.getElem?_append_left hin] at hi
      exact hx i x hi
    · have : i < (xs ++ [y]).length := (List.getElem?_eq_some_iff.1 hi).1
      have e : i = n := by simp at this; omega
      subst e
      rw [List.getElem?_append_right (by omega), show i - xs.length = 0 by omega] at hi
      simp at hi
      subst hi
      exact hy
theorem cells40 : Tryd.prog.cellsOf 40 = 8 := by kernel_rfl
theorem cells23 : Tryd.prog.cellsOf 23 = 1 := by kernel_rfl
theorem cells26 : Tryd.prog.cellsOf 26 = 2 := by kernel_rfl
theorem cells27 : Tryd.prog.cellsOf 27 = 1 := by kernel_rfl
theorem cells29 : Tryd.prog.cellsOf 29 = 5 := by kernel_rfl
/-- A row, from a reading of its head. -/
theorem row_of_trod {H : Type} {enc : TypeId × Value → H} {W : World} {base : Nat} {sp : Nat → Bool} {held : Bool} {n : Nat} {cs : List Value} {x : DataW H × List MemPlace} (h : DataW.trod enc Tryd.prog W base sp held n 23 cs = some x) :
    ∃ A c xs, cs = [.slice A (xs : List Int).length c] ∧ xs.length ≤ c ∧ (Kd.int .i64).C W A xs.length xs := by
  rcases DataW.trod_slice Tryd.underlying23 h with ⟨hcs, _⟩ | ⟨a, l, c, elems, rest, n, _, hcs, _, _, hl, hm, hlen, hel, _, _⟩
  · exact ⟨none, 0, [], hcs, Nat.le_refl _, ⟨rfl, by decide, fun h => absurd h (Nat.lt_irrefl _)⟩⟩
  · obtain ⟨xs, hxl, hx⟩ := list_of (P := fun i (y : Int) => W.cell? (a.add i) = some (.int .i64 y)) l (fun i hi => by
      have h1 := hel i hi
      rw [cells3, List.getElem?_eq_getElem (by omega), Option.bind_eq_some_iff, Nat.mul_one] at h1
      obtain ⟨ds, hds, ht⟩ := h1
      obtain ⟨y, rfl, _, _⟩ := DataW.trod_int Tryd.underlying3 ht
      obtain ⟨_, _, hcc⟩ := World.cells?_some hds
      have := hcc 0 (by decide)
      exact ⟨y, by simpa [Addr.add] using this⟩)
    subst hxl
    refine ⟨some a, c, xs, hcs, hl, rfl, by unfold maxLen at hm; omega, fun _ => ⟨a, rfl, fun j q hj => ⟨[.int .i64 q], rfl, rfl, fun i u hi => ?_⟩⟩⟩
    cases i with
    | zero =>
      simp only [List.getElem?_cons_zero, Option.some.injEq] at hi
      subst hi
      have hsz : (Kd.int .i64).sz = 1 := rfl
      rw [hsz, Nat.mul_one, Nat.add_zero]
      exact hx j q hj
    | succ i => simp at hi
theorem addr_add_add (a : Addr) (m n : Nat) : (a.add m).add n = a.add (m + n) := by
  obtain ⟨b, o, sp⟩ := a
  unfold Addr.add
  by_cases hm : m = 0
  · subst hm; simp
  · by_cases hn : n = 0
    · subst hn; simp
    · simp [hm, hn, Nat.add_assoc]
/-- A slice of clauses. -/
theorem open_row24 {H : Type} {enc : TypeId × Value → H} {W : World} {base : Nat} {sp : Nat → Bool} {held : Bool} {r : Reach} {b0 : Nat} {v : Value} {d : DataW H} {p : List MemPlace} (hv : Value.okWide Tryd.prog W r b0 24 v) (h : DataW.Trod enc Tryd.prog W base sp held 24 v d p) :
    ∃ A c l, v = .slice A (l : List Cl).length c ∧ l.length ≤ c ∧ Kd.C k40 W A l.length l := by
  obtain ⟨A, len, cap, rfl⟩ := okWide_slice Tryd.underlying24 hv
  obtain ⟨fuel, hf⟩ := h
  rcases DataW.trod_slice Tryd.underlying24 hf with ⟨hcs, _⟩ | ⟨a, l, c, elems, rest, n, _, hcs, _, _, hl, hm, hlen, hel, _, _⟩
  · simp [Value.cells] at hcs
    obtain ⟨rfl, rfl, rfl⟩ := hcs
    exact ⟨none, 0, [], rfl, Nat.le_refl _, rfl, by decide, fun h => absurd h (Nat.lt_irrefl _)⟩
  · simp [Value.cells] at hcs
    obtain ⟨rfl, rfl, rfl⟩ := hcs
    obtain ⟨xs, hxl, hx⟩ := list_of (P := fun i (y : Cl) => ∀ j u, [Value.int .i64 y.f0, .int .i64 y.f1, .int .i64 y.f2, .int .i64 y.f3, .int .i64 y.f4, .int .i64 y.f5, .int .i64 y.f6, .int .i64 y.f7][j]? = some u → W.cell? (a.add (i * 8 + j)) = some u) len (fun i hi => by
      have h1 := hel i hi
      rw [cells40, List.getElem?_eq_getElem (by omega), Option.bind_eq_some_iff] at h1
      obtain ⟨ds, hds, ht⟩ := h1
      obtain ⟨_, hdl, hcc⟩ := World.cells?_some hds
      obtain ⟨ys, m, _, _, _, hyl, hye⟩ := DataW.trod_struct Tryd.underlying40 ht
      match ds, hdl, hcc, hye with
      | [c0, c1, c2, c3, c4, c5, c6, c7], _, hcc, hye =>
        have one : ∀ (u : Value) (o : Option (DataW H × List MemPlace)), DataW.trod enc Tryd.prog W base sp held m 3 [u] = o → (∃ z, o = some z) → ∃ x, u = .int .i64 x := by
          rintro u _ ht ⟨z, rfl⟩
          obtain ⟨x, e, _, hw⟩ := DataW.trod_int Tryd.underlying3 ht
          simp at e
          exact ⟨x, e⟩
        have get : ∀ j, j < 8 → ∃ z, ys[j]? = some z := fun j hj => ⟨_, List.getElem?_eq_getElem (by rw [hyl]; exact hj)⟩
        obtain ⟨x0, rfl⟩ := one c0 _ (by have g := hye 0 _ rfl; erw [cells3] at g; exact g) (get 0 (by decide))
        obtain ⟨x1, rfl⟩ := one c1 _ (by have g := hye 1 _ rfl; erw [cells3] at g; exact g) (get 1 (by decide))
        obtain ⟨x2, rfl⟩ := one c2 _ (by have g := hye 2 _ rfl; erw [cells3] at g; exact g) (get 2 (by decide))
        obtain ⟨x3, rfl⟩ := one c3 _ (by have g := hye 3 _ rfl; erw [cells3] at g; exact g) (get 3 (by decide))
        obtain ⟨x4, rfl⟩ := one c4 _ (by have g := hye 4 _ rfl; erw [cells3] at g; exact g) (get 4 (by decide))
        obtain ⟨x5, rfl⟩ := one c5 _ (by have g := hye 5 _ rfl; erw [cells3] at g; exact g) (get 5 (by decide))
        obtain ⟨x6, rfl⟩ := one c6 _ (by have g := hye 6 _ rfl; erw [cells3] at g; exact g) (get 6 (by decide))
        obtain ⟨x7, rfl⟩ := one c7 _ (by have g := hye 7 _ rfl; erw [cells3] at g; exact g) (get 7 (by decide))
        refine ⟨⟨x0, x1, x2, x3, x4, x5, x6, x7⟩, fun j u hj => ?_⟩
        have hj8 : j < 8 := (List.getElem?_eq_some_iff.1 hj).1
        have := hcc j hj8
        rw [hj] at this
        rw [← this]
        congr 1
        exact (addr_add_add a (i * 8) j).symm)
    subst hxl
    refine ⟨some a, cap, xs, rfl, hl, rfl, by unfold maxLen at hm; omega, fun _ => ⟨a, rfl, fun j q hj => ⟨[.int .i64 q.f0, .int .i64 q.f1, .int .i64 q.f2, .int .i64 q.f3, .int .i64 q.f4, .int .i64 q.f5, .int .i64 q.f6, .int .i64 q.f7], rfl, k40_mk W q, fun i u hi => hx j q hj i u hi⟩⟩⟩
/-- Rows of rows, from a reading of the head. -/
theorem rows_of_trod {H : Type} {enc : TypeId × Value → H} {W : World} {base : Nat} {sp : Nat → Bool} {held : Bool} {n : Nat} {cs : List Value} {x : DataW H × List MemPlace} (h : DataW.trod enc Tryd.prog W base sp held n 27 cs = some x) :
    ∃ A c xs, cs = [.slice A (xs : List (List Int)).length c] ∧ xs.length ≤ c ∧ (Kd.slice 3 (Kd.int .i64)).C W A xs.length xs := by
  rcases DataW.trod_slice Tryd.underlying27 h with ⟨hcs, _⟩ | ⟨a, l, c, elems, rest, n, _, hcs, _, _, hl, hm, hlen, hel, _, _⟩
  · exact ⟨none, 0, [], hcs, Nat.le_refl _, ⟨rfl, by decide, fun h => absurd h (Nat.lt_irrefl _)⟩⟩
  · obtain ⟨xs, hxl, hx⟩ := list_of (P := fun i (y : List Int) => ∃ A c, W.cell? (a.add i) = some (.slice A y.length c) ∧ y.length ≤ c ∧ (Kd.int .i64).C W A y.length y) l (fun i hi => by
      have h1 := hel i hi
      rw [cells23, List.getElem?_eq_getElem (by omega), Option.bind_eq_some_iff, Nat.mul_one] at h1
      obtain ⟨ds, hds, ht⟩ := h1
      obtain ⟨A, c, y, rfl, h2, h3⟩ := row_of_trod ht
      obtain ⟨_, _, hcc⟩ := World.cells?_some hds
      have := hcc 0 (by decide)
      exact ⟨y, A, c, by simpa [Addr.add] using this, h2, h3⟩)
    subst hxl
    refine ⟨some a, c, xs, hcs, hl, rfl, by unfold maxLen at hm; omega, fun _ => ⟨a, rfl, fun j q hj => ?_⟩⟩
    obtain ⟨B, e, h1, h2, h3⟩ := hx j q hj
    refine ⟨[.slice B q.length e], rfl, ⟨B, e, rfl, h2, h3⟩, fun i u hi => ?_⟩
    cases i with
    | zero =>
      simp only [List.getElem?_cons_zero, Option.some.injEq] at hi
      subst hi
      have hsz : (Kd.slice 3 (Kd.int .i64)).sz = 1 := rfl
      rw [hsz, Nat.mul_one, Nat.add_zero]
      exact h1
    | succ i => simp at hi
/-- A want. -/
theorem open_want {H : Type} {enc : TypeId × Value → H} {W : World} {base : Nat} {sp : Nat → Bool} {held : Bool} {r : Reach} {b0 : Nat} {v : Value} {d : DataW H} {p : List MemPlace} (hv : Value.okWide Tryd.prog W r b0 29 v) (h : DataW.Trod enc Tryd.prog W base sp held 29 v d p) :
    ∃ wt WA wn, v = wtv wt WA wn ∧ (Kd.slice 3 (Kd.int .i64)).C W WA wt.needs.length wt.needs := by
  have hc : ∃ cs, v = .agg cs ∧ cs.size = Tryd.prog.cellsOf 29 := by
    unfold Value.okWide at hv
    rw [Tryd.underlying29] at hv
    obtain ⟨cs, h1, h2, _⟩ := hv
    exact ⟨cs, h1, h2⟩
  obtain ⟨cs, rfl, hsz⟩ := hc
  rw [cells29] at hsz
  obtain ⟨l⟩ := cs
  obtain ⟨fuel, hf⟩ := h
  obtain ⟨ys, m, _, _, _, hyl, hye⟩ := DataW.trod_struct Tryd.underlying29 hf
  match l, hsz, hye with
  | [c0, c1, c2, c3, c4], _, hye =>
    have get : ∀ j, j < 4 → ∃ z, ys[j]? = some z := fun j hj => ⟨_, List.getElem?_eq_getElem (by rw [hyl]; exact hj)⟩
    have one : ∀ (k : Nat) (u : Value) (o : Option (DataW H × List MemPlace)), DataW.trod enc Tryd.prog W base sp held k 3 [u] = o → (∃ z, o = some z) → ∃ x, u = .int .i64 x := by
      rintro k u _ ht ⟨z, rfl⟩
      obtain ⟨x, e, _, hw⟩ := DataW.trod_int Tryd.underlying3 ht
      simp at e
      exact ⟨x, e⟩
    obtain ⟨z0, hz0⟩ := get 0 (by decide)
    have g0 : DataW.trod enc Tryd.prog W base sp held m 26 [c0, c1] = some z0 := by
      have g := hye 0 _ rfl
      erw [cells26] at g
      rw [hz0] at g
      exact g
    obtain ⟨zs, m2, _, _, _, hzl, hze⟩ := DataW.trod_struct Tryd.underlying26 g0
    have get2 : ∀ j, j < 2 → ∃ z, zs[j]? = some z := fun j hj => ⟨_, List.getElem?_eq_getElem (by rw [hzl]; exact hj)⟩
    obtain ⟨x0, rfl⟩ := one m2 c0 _ (by have g := hze 0 _ rfl; erw [cells3] at g; exact g) (get2 0 (by decide))
    obtain ⟨x1, rfl⟩ := one m2 c1 _ (by have g := hze 1 _ rfl; erw [cells3] at g; exact g) (get2 1 (by decide))
    obtain ⟨x2, rfl⟩ := one m c2 _ (by have g := hye 1 _ rfl; erw [cells3] at g; exact g) (get 1 (by decide))
    obtain ⟨x3, rfl⟩ := one m c3 _ (by have g := hye 2 _ rfl; erw [cells3] at g; exact g) (get 2 (by decide))
    obtain ⟨z3, hz3⟩ := get 3 (by decide)
    have g3 : DataW.trod enc Tryd.prog W base sp held m 27 [c4] = some z3 := by
      have g := hye 3 _ rfl
      erw [cells27] at g
      rw [hz3] at g
      exact g
    obtain ⟨A, c, xs, e, _, hC⟩ := rows_of_trod g3
    simp at e
    subst e
    exact ⟨⟨x0, x1, x2, x3, xs⟩, A, c, rfl, hC⟩
end Go.Proofs.YtnabgijdbcdpmaaDoor

namespace Go.Proofs.YtnabgijdbcdpmaaDoor
open Go.RowKit Go.Rg Go.Proofs.YtnabgijdbcdpmaaDoor.PRightsMatchesReference Go.Proofs.YtnabgijdbcdpmaaDoorW.PrintWords
set_option linter.unusedVariables false
set_option linter.unusedSimpArgs false

/-- What the law's arguments are, in a world. -/
structure MX (odd : Wt) (OA : Option Addr) (on : Nat) (SA : Option Addr) (ss : List Int) (RA : Option Addr) (raw : List Cl) (UA : Option Addr) (us : List Int) (KA : Option Addr) (ks : List Int) (CA : Option Addr) (cs : List Int) (OB : Nat) (w0 W : World) : Prop where
  below : Below w0.heap.size w0 W
  kinds : Kinds W
  ro : (Kd.slice 3 (Kd.int .i64)).C W OA odd.needs.length odd.needs
  rs : (Kd.int .i64).C W SA ss.length ss
  rr : Kd.C k40 W RA raw.length raw
  ru : (Kd.int .i64).C W UA us.length us
  rk : (Kd.int .i64).C W KA ks.length ks
  rc : (Kd.int .i64).C W CA cs.length cs
  box : W.heap[OB]? = some (.cells (wtc odd OA on) 29 (0, 0))
theorem MX.next {odd : Wt} {OA : Option Addr} {on : Nat} {SA : Option Addr} {ss : List Int} {RA : Option Addr} {raw : List Cl} {UA : Option Addr} {us : List Int} {KA : Option Addr} {ks : List Int} {CA : Option Addr} {cs : List Int} {OB : Nat} {w0 W W' : World} (h : MX odd OA on SA ss RA raw UA us KA ks CA cs OB w0 W) (hb : Below W.heap.size W W') : MX odd OA on SA ss RA raw UA us KA ks CA cs OB w0 W' :=
  ⟨h.below.trans (hb.mono h.below.size), h.kinds.next hb, Kd.C_below h.ro hb, Kd.C_below h.rs hb, Kd.C_below h.rr hb, Kd.C_below h.ru hb, Kd.C_below h.rk hb, Kd.C_below h.rc hb, (hb.block _ (Array.getElem?_eq_some_iff.1 h.box).1).trans h.box⟩
/-- A want in a block of its own. -/
structure BW (wt : Wt) (WA : Option Addr) (wn WB : Nat) (W : World) : Prop where
  box : W.heap[WB]? = some (.cells (wtc wt WA wn) 29 (0, 0))
  rw : (Kd.slice 3 (Kd.int .i64)).C W WA wt.needs.length wt.needs
theorem BW.next {wt : Wt} {WA : Option Addr} {wn WB : Nat} {W W' : World} (h : BW wt WA wn WB W) (hb : Below W.heap.size W W') : BW wt WA wn WB W' :=
  ⟨(hb.block _ (Array.getElem?_eq_some_iff.1 h.box).1).trans h.box, Kd.C_below h.rw hb⟩
theorem BW.c0 {wt : Wt} {WA : Option Addr} {wn WB : Nat} {W : World} (h : BW wt WA wn WB W) : W.cell? ⟨WB, 0, none⟩ = some (.int .i64 wt.te) := cell_of (o := 0) h.box rfl
theorem BW.c1 {wt : Wt} {WA : Option Addr} {wn WB : Nat} {W : World} (h : BW wt WA wn WB W) : W.cell? ⟨WB, 1, none⟩ = some (.int .i64 wt.cl) := cell_of (o := 1) h.box rfl
theorem BW.c2 {wt : Wt} {WA : Option Addr} {wn WB : Nat} {W : World} (h : BW wt WA wn WB W) : W.cell? ⟨WB, 2, none⟩ = some (.int .i64 wt.at_) := cell_of (o := 2) h.box rfl
theorem BW.c3 {wt : Wt} {WA : Option Addr} {wn WB : Nat} {W : World} (h : BW wt WA wn WB W) : W.cell? ⟨WB, 3, none⟩ = some (.int .i64 wt.us) := cell_of (o := 3) h.box rfl
theorem BW.c4 {wt : Wt} {WA : Option Addr} {wn WB : Nat} {W : World} (h : BW wt WA wn WB W) : W.cell? ⟨WB, 4, none⟩ = some (.slice WA wt.needs.length wn) := cell_of (o := 4) h.box rfl

/-- Slices of clauses that lie in a block. -/
def LitL (W : World) (G N : Nat) : Prop := ∀ i, i < N → ∃ (A : Option Addr) (c : Nat) (l : List Cl), W.cell? ⟨G, i, none⟩ = some (.slice A l.length c) ∧ l.length ≤ c ∧ Kd.C k40 W A l.length l
/-- Slices of numbers that lie in a block. -/
def LitI (W : World) (G N : Nat) : Prop := ∀ i, i < N → ∃ (A : Option Addr) (c : Nat) (l : List Int), W.cell? ⟨G, i, none⟩ = some (.slice A l.length c) ∧ l.length ≤ c ∧ (Kd.int .i64).C W A l.length l
/-- Wants that lie in a block. -/
def LitW (W : World) (G N : Nat) : Prop := ∀ i, i < N → ∃ (wt : Wt) (A : Option Addr) (c : Nat), W.cell? ⟨G, i * 5, none⟩ = some (.int .i64 wt.te) ∧ W.cell? ⟨G, i * 5 + 1, none⟩ = some (.int .i64 wt.cl) ∧ W.cell? ⟨G, i * 5 + 2, none⟩ = some (.int .i64 wt.at_) ∧ W.cell? ⟨G, i * 5 + 3, none⟩ = some (.int .i64 wt.us) ∧ W.cell? ⟨G, i * 5 + 4, none⟩ = some (.slice A wt.needs.length c) ∧ wt.needs.length ≤ 5 ∧ (Kd.slice 3 (Kd.int .i64)).C W A wt.needs.length wt.needs

theorem C_min {W : World} {A : Option Addr} {xs : List Int} (h : (Kd.int .i64).C W A xs.length xs) (n : Nat) : (Kd.int .i64).C W A (min xs.length n) (xs.take n) := by
  have h1 := C_take h (k := min xs.length n) (by omega)
  have e : xs.take (min xs.length n) = xs.take n := by
    rcases Nat.le_total xs.length n with hh | hh
    · rw [Nat.min_eq_left hh, List.take_length, List.take_of_length_le hh]
    · rw [Nat.min_eq_right hh]
  rwa [e] at h1
theorem lit_two {W : World} {G t : Nat} {A1 A2 : Option Addr} {c1 c2 q : Nat} {x y : List Int} (h : W.heap[G]? = some (.cells #[.slice A1 x.length c1, .slice A2 q c2] t (0, 0))) (hc1 : x.length ≤ c1) (hx : (Kd.int .i64).C W A1 x.length x) (hq : q ≤ c2) (hy : (Kd.int .i64).C W A2 q y) : LitI W G 2 := fun i hi => by
  obtain rfl := hy.1.symm
  have hi' : i = 0 ∨ i = 1 := by omega
  rcases hi' with rfl | rfl
  · exact ⟨A1, c1, x, cell_of h rfl, hc1, hx⟩
  · exact ⟨A2, c2, y, cell_of h rfl, hq, hy⟩
theorem lit_three {W : World} {G t : Nat} {A1 A2 A3 : Option Addr} {c1 c2 c3 q : Nat} {x y z : List Int} (h : W.heap[G]? = some (.cells #[.slice A1 q c1, .slice A2 x.length c2, .slice A3 y.length c3] t (0, 0))) (hq : q ≤ c1) (hz : (Kd.int .i64).C W A1 q z) (hc2 : x.length ≤ c2) (hx : (Kd.int .i64).C W A2 x.length x) (hc3 : y.length ≤ c3) (hy : (Kd.int .i64).C W A3 y.length y) : LitI W G 3 := fun i hi => by
  obtain rfl := hz.1.symm
  have hi' : i = 0 ∨ i = 1 ∨ i = 2 := by omega
  rcases hi' with rfl | rfl | rfl
  · exact ⟨A1, c1, z, cell_of h rfl, hq, hz⟩
  · exact ⟨A2, c2, x, cell_of h rfl, hc2, hx⟩
  · exact ⟨A3, c3, y, cell_of h rfl, hc3, hy⟩

set_option maxRecDepth 100000 in
set_option maxHeartbeats 8000000 in
theorem match_law (XA : Option Addr) (xn xc : Nat) (n : Int) (NA : Option Addr) (nc : Nat) (ns : List Int) (SA : Option Addr) (sc : Nat) (ss : List Int) (RA : Option Addr) (rc : Nat) (raw : List Cl) (odd : Wt) (OA : Option Addr) (on : Nat) (UA : Option Addr) (uc : Nat) (us : List Int) (KA : Option Addr) (kc : Nat) (ks : List Int) (CA : Option Addr) (cc : Nat) (cs : List Int) (w : World) (hK : Kinds w) (hx : X5 w XA xn) (hn : rng n)
    (hN : (Kd.int .i64).C w NA ns.length ns) (hNr : ∀ x ∈ ns, rng x) (hS : (Kd.int .i64).C w SA ss.length ss) (hSr : ∀ x ∈ ss, rng x) (hR : Kd.C k40 w RA raw.length raw) (hRc : raw.length ≤ rc) (hO : (Kd.slice 3 (Kd.int .i64)).C w OA odd.needs.length odd.needs)
    (hU : (Kd.int .i64).C w UA us.length us) (hUc : us.length ≤ uc) (hKs : (Kd.int .i64).C w KA ks.length ks) (hKc : ks.length ≤ kc) (hKr : ∀ x ∈ ks, rng x) (hC : (Kd.int .i64).C w CA cs.length cs) (hCc : cs.length ≤ cc) :
    Calls Tryd.prog 3 #[.slice XA xn xc, .int .i64 n, .slice NA ns.length nc, .slice SA ss.length sc, .slice RA raw.length rc, wtv odd OA on, .slice UA us.length uc, .slice KA ks.length kc, .slice CA cs.length cc] w fun e w' => e = .returned (.bool true) ∧ Below w.heap.size w w' := by
  have hmr := max_len hR
  have hmu := max_len hU
  have hmk := max_len hKs
  have hmc := max_len hC
  have hb0 := (Below.refl w.heap.size w).alloc (Nat.le_refl _) (.cells (wtc odd OA on) 29)
  have hM : MX odd OA on SA ss RA raw UA us KA ks CA cs w.heap.size w (w.alloc (.cells (wtc odd OA on) 29)) := ⟨hb0, hK.next hb0, Kd.C_below hO hb0, Kd.C_below hS hb0, Kd.C_below hR hb0, Kd.C_below hU hb0, Kd.C_below hKs hb0, Kd.C_below hC hb0, heap_new rfl⟩
  have HM := Lib.hid hM; clear hM hK hS hR hO hU hKs hC
  have HN := Lib.hid (And.intro (Kd.C_below hN hb0) (And.intro hNr hn)); clear hN hNr hn
  have HX := Lib.hid (hx.below hb0); clear hx hb0
  have HRG := Lib.hid (And.intro hSr hKr); clear hSr hKr
  unfold wtv
  unfold wtc at HM HN HX
  go_enter Tryd.func3, Tryd.ntmps3
  go_wp2_with fail
  generalize hOB : w.heap.size = OB at *
  generalize w.alloc (.cells #[.int .i64 odd.te, .int .i64 odd.cl, .int .i64 odd.at_, .int .i64 odd.us, .slice OA odd.needs.length on] 29) = w0 at *
  refine (sane_any _ HM.out.kinds).mono ?_
  rintro e w1 ⟨rfl, hb1⟩
  have HM1 := Lib.hid (HM.out.next hb1)
  have HX1 := Lib.hid (HX.out.below hb1)
  have HN1 := Lib.hid (Kd.C_below HN.out.1 hb1); clear hb1 HM HX
  go_wp2_with fail
  refine (MadeWant_any n NA nc ns _ HN1.out HN.out.2.2 HN.out.2.1).mono ?_
  rintro e w2 ⟨wm, WA, wn, rfl, hW, hvw, hus, hb2⟩
  have hn5 : wm.needs.length ≤ 5 := by
    have := (vldW_iff.1 hvw).1
    omega
  have hA2 := hb2.trans (((Below.refl w2.heap.size w2).alloc (Nat.le_refl _) (.cells (wtc wm WA wn) 29)).mono hb2.size)
  have HM2 := Lib.hid (HM1.out.next hA2)
  have HX2 := Lib.hid (HX1.out.below hA2)
  have HB2 := Lib.hid (show BW wm WA wn w2.heap.size (w2.alloc (.cells (wtc wm WA wn) 29)) from ⟨heap_new rfl, Kd.C_below hW ((Below.refl w2.heap.size w2).alloc (Nat.le_refl _) (.cells (wtc wm WA wn) 29))⟩)
  clear hA2 hb2 hW HM1 HX1 HN1 hvw hus
  unfold wtv
  unfold wtc at HM2 HX2 HB2
  go_wp2_with fail
  generalize hWB : w2.heap.size = WB at *
  generalize w2.alloc (.cells #[.int .i64 wm.te, .int .i64 wm.cl, .int .i64 wm.at_, .int .i64 wm.us, .slice WA wm.needs.length wn] 29) = W2 at *
  clear hWB
  refine region_late [0, 2, 3, 4, 5, 6, 9] [] [1, 7, 8] (by kernel_rfl) (by kernel_rfl) (fun c a d v w h => by cases h.2.1) ?_
  simp only [pick_cons, pick_nil, nthO_succ, nthO_zero]
  repeat (go_big_quiet_step (fail))
  have hq : (if (13 : Int) < (raw.length : Int) then (13 : Int) else (raw.length : Int)).toNat = min raw.length 13 := by split <;> omega
  generalize (if (13 : Int) < (raw.length : Int) then (13 : Int) else (raw.length : Int)).toNat = q at *
  subst hq
  generalize (if (13 : Int) < (raw.length : Int) then (13 : Int) else (raw.length : Int)) = q13 at *
  refine wpQuiet_nil ?_
  refine wpQuiet_nil ?_
  rintro W' ⟨X, rfl⟩
  have hbX := X.2.below (fun _ _ h => h) (Nat.le_refl _)
  have HM3 := Lib.hid (HM2.out.next hbX)
  have HX3 := Lib.hid (HX2.out.below hbX)
  have HB3 := Lib.hid (HB2.out.next hbX); clear hbX HM2 HX2 HB2
  generalize X.val = W3 at *
  clear X
  go_wp2_with fail
  refine (Made_any XA xc xn _ HX3.out).mono ?_
  rintro e w4 ⟨v, l, rfl, hR, hv, hll, hb4⟩
  obtain ⟨LA, lc, rfl, hlc, hRC⟩ := Kd.R_reads hR
  have hA4 := (Below.refl w4.heap.size w4).alloc (Nat.le_refl _) (.cells #[.slice LA l.length lc, .slice RA (min raw.length 13) rc] 24)
  have hM4 := (HM3.out.next hb4).next hA4
  have hLL : LitL (w4.alloc (.cells #[.slice LA l.length lc, .slice RA (min raw.length 13) rc] 24)) w4.heap.size 2 := fun i hi => by
    have hi' : i = 0 ∨ i = 1 := by omega
    rcases hi' with rfl | rfl
    · exact ⟨LA, lc, l, cell_new rfl, hlc, Kd.C_below hRC hA4⟩
    · have hl13 : (raw.take 13).length = min raw.length 13 := by rw [List.length_take, Nat.min_comm]
      refine ⟨RA, rc, raw.take 13, by rw [hl13]; exact cell_new rfl, by rw [hl13]; omega, ?_⟩
      have := Kd.C_take hM4.rr (show min raw.length 13 ≤ raw.length by omega)
      have e : raw.take (min raw.length 13) = raw.take 13 := by
        rcases Nat.le_total raw.length 13 with hh | hh
        · rw [Nat.min_eq_left hh, List.take_length, List.take_of_length_le hh]
        · rw [Nat.min_eq_right hh]
      rwa [e] at this
  have HM4 := Lib.hid hM4
  have HB4 := Lib.hid ((HB3.out.next hb4).next hA4)
  have HLL := Lib.hid hLL; clear hLL hM4 hA4 hb4 hR hRC hv hll hlc HM3 HX3 HB3
  go_wp2_with fail
  generalize w4.heap.size = LB at *
  generalize w4.alloc (.cells #[.slice LA l.length lc, .slice RA (min raw.length 13) rc] 24) = W4 at *
  go_loopw [57] (fun iv wr => ∃ i : Nat, i ≤ 2 ∧ iv = .int .i64 i ∧ Hid (Below W4.heap.size W4 wr)) (fun iv wr => 2 - (intOf iv).toNat)
  case atStart => exact ⟨0, by omega, rfl, Lib.hid (Below.refl _ _)⟩
  case round =>
    obtain ⟨i, hi, rfl, HI⟩ := hrel
    by_cases hi2 : i < 2
    · have hiI : (i : Int) < 2 := by omega
      obtain ⟨A, c, l, hx, hlc, hC⟩ := HLL.out i hi2
      have hml := max_len hC
      have hx := pw_cell_below HI.out hx
      have hC := Kd.C_below hC HI.out
      have HMr := Lib.hid (HM4.out.next HI.out)
      have HBr := Lib.hid (HB4.out.next HI.out)
      have HC := Lib.hid hC; clear hC HLL HM4 HB4
      go_wp2_with fail
      refine (validL_any A c l wr HC.out HMr.out.kinds).mono ?_
      rintro e v1 ⟨rfl, hb1⟩
      have HC1 := Lib.hid (Kd.C_below HC.out hb1)
      go_wp2_with fail
      refine (rvalidL_any A c l v1 HC1.out).mono ?_
      rintro e v2 ⟨rfl, hb2⟩
      have hb := hb1.trans (hb2.mono hb1.size)
      have HM2 := Lib.hid (HMr.out.next hb)
      have HB2 := Lib.hid (HBr.out.next hb)
      have HC2 := Lib.hid (Kd.C_below HC.out hb)
      have HW2 := Lib.hid (HI.out.trans (hb.mono HI.out.size)); clear hb hb1 hb2 HMr HBr HC HC1 HI hx
      generalize vldL l = bv at *
      go_wp2_with fail
      refine region_freeS (fun _ => False) [0, 1, 5] #[true, true, false, false, false, true] 3 (by kernel_rfl) (by kernel_rfl) (fun c a d v w h => by cases h.2.1) ?_
      simp only [pick_cons, pick_nil, nthO_succ, nthO_zero]
      have q0 := cell_extB (B := fun _ => False) (HB2.out.c0) (fun h => h)
      have q1 := cell_extB (B := fun _ => False) (HB2.out.c1) (fun h => h)
      have q2 := cell_extB (B := fun _ => False) (HB2.out.c2) (fun h => h)
      have q3 := cell_extB (B := fun _ => False) (HB2.out.c3) (fun h => h)
      have q4 := cell_extB (B := fun _ => False) (HB2.out.c4) (fun h => h)
      have q5 := cell_extB (B := fun _ => False) (cell_of (o := 0) HM2.out.box rfl) (fun h => h)
      have q6 := cell_extB (B := fun _ => False) (cell_of (o := 1) HM2.out.box rfl) (fun h => h)
      have q7 := cell_extB (B := fun _ => False) (cell_of (o := 2) HM2.out.box rfl) (fun h => h)
      have q8 := cell_extB (B := fun _ => False) (cell_of (o := 3) HM2.out.box rfl) (fun h => h)
      have q9 := cell_extB (B := fun _ => False) (cell_of (o := 4) HM2.out.box rfl) (fun h => h)
      repeat (go_big_quiet_step (fail))
      refine wpQuiet_nil ?_
      clear q0 q1 q2 q3 q4 q5 q6 q7 q8 q9
      have HS := Lib.hid (show Fr (fun _ => False) v2 v2.drew ∧ Below v2.heap.size v2 v2.drew from ⟨(Fr.refl _ _).drew, ⟨rfl, rfl, rfl, Nat.le_refl _, fun _ _ => rfl⟩⟩)
      generalize v2.drew = u0 at HS ⊢
      have hfl : (fewN odd.needs).length ≤ 5 := by unfold fewN; rw [List.length_map, List.length_take]; omega
      obtain ⟨fo, hfo⟩ : ∃ fo : Wt, { odd with needs := fewN odd.needs } = fo := ⟨_, rfl⟩
      have hfn : fewN odd.needs = fo.needs := by rw [← hfo]
      have hfe := few_any odd OA on u0 (Kd.C_below HM2.out.ro HS.out.2)
      unfold FewPost at hfe
      rw [hfo, hfn] at hfe
      rw [hfn] at hfl
      clear hfo hfn
      unfold wtv at hfe
      have HFE := Lib.hid hfe; clear hfe
      refine any_stepS [2] (by kernel_rfl) ?_
      simp only [List.forall_mem_cons, List.forall_mem_nil, nthO_succ, nthO_zero]
      refine ⟨?_, fun _ h => by cases h⟩
      go_wp2_with fail
      refine HFE.out.mono ?_
      rintro e u1 ⟨FA, fn, rfl, hFC, hb⟩
      have HS_ := Lib.hid (And.intro (HS.out.1.call hb) (HS.out.2.trans (hb.mono HS.out.2.size))); clear HS hb HFE; have HS := HS_; clear HS_
      go_wp2_with fail
      refine ⟨⟨⟨_, HS.out.1⟩, rfl⟩, ?_⟩
      have hA := (Below.refl u1.heap.size u1).alloc (Nat.le_refl _) (.cells #[.int .i64 wm.te, .int .i64 wm.cl, .int .i64 wm.at_, .int .i64 wm.us, .slice WA wm.needs.length wn, .int .i64 fo.te, .int .i64 fo.cl, .int .i64 fo.at_, .int .i64 fo.us, .slice FA fo.needs.length fn] 29)
      have hF4 := HS.out.1.alloc (.cells #[.int .i64 wm.te, .int .i64 wm.cl, .int .i64 wm.at_, .int .i64 wm.us, .slice WA wm.needs.length wn, .int .i64 fo.te, .int .i64 fo.cl, .int .i64 fo.at_, .int .i64 fo.us, .slice FA fo.needs.length fn] 29)
      have hb4 := HS.out.2.trans (hA.mono HS.out.2.size)
      have hM4 := HM2.out.next hb4
      have hC4 := Kd.C_below HC2.out hb4
      have hW4 := HW2.out.trans (hb4.mono HW2.out.size)
      have hLW : LitW (u1.alloc (.cells #[.int .i64 wm.te, .int .i64 wm.cl, .int .i64 wm.at_, .int .i64 wm.us, .slice WA wm.needs.length wn, .int .i64 fo.te, .int .i64 fo.cl, .int .i64 fo.at_, .int .i64 fo.us, .slice FA fo.needs.length fn] 29)) u1.heap.size 2 := fun j hj => by
        have hj' : j = 0 ∨ j = 1 := by omega
        rcases hj' with rfl | rfl
        · exact ⟨wm, WA, wn, cell_new rfl, cell_new rfl, cell_new rfl, cell_new rfl, cell_new rfl, hn5, Kd.C_below HB2.out.rw hb4⟩
        · exact ⟨fo, FA, fn, cell_new rfl, cell_new rfl, cell_new rfl, cell_new rfl, cell_new rfl, hfl, Kd.C_below hFC hA⟩
      have HZ := Lib.hid (And.intro hF4 (And.intro hM4 (And.intro hC4 (And.intro hW4 hLW)))); clear hA hF4 hb4 hM4 hC4 hW4 hLW hFC HS HM2 HC2 HW2 HB2
      refine any_stepS [3] (by kernel_rfl) ?_
      simp only [List.forall_mem_cons, List.forall_mem_nil, nthO_succ, nthO_zero]
      refine ⟨?_, fun _ h => by cases h⟩
      go_wp2_with fail
      refine ⟨⟨⟨_, HZ.out.1⟩, rfl⟩, ?_⟩
      generalize u1.alloc (.cells #[.int .i64 wm.te, .int .i64 wm.cl, .int .i64 wm.at_, .int .i64 wm.us, .slice WA wm.needs.length wn, .int .i64 fo.te, .int .i64 fo.cl, .int .i64 fo.at_, .int .i64 fo.us, .slice FA fo.needs.length fn] 29) = W5 at *
      generalize u1.heap.size = GW at *
      refine any_stepS [4] (by kernel_rfl) ?_
      simp only [List.forall_mem_cons, List.forall_mem_nil, nthO_succ, nthO_zero]
      refine ⟨?_, fun _ h => by cases h⟩
      go_wp2_with fail
      refine ⟨⟨⟨_, HZ.out.1⟩, rfl⟩, wpAnyH_done (by kernel_rfl) ?_ _⟩
      have HM5 := Lib.hid HZ.out.2.1
      have HC5 := Lib.hid HZ.out.2.2.1
      have HW5 := Lib.hid HZ.out.2.2.2.1
      have HLW := Lib.hid HZ.out.2.2.2.2; clear HZ
      go_wp2_with fail
      go_loopw [71] (fun jv wr => ∃ j : Nat, j ≤ 2 ∧ jv = .int .i64 j ∧ Hid (Below W5.heap.size W5 wr)) (fun jv wr => 2 - (intOf jv).toNat)
      case atStart => exact ⟨0, by omega, rfl, Lib.hid (Below.refl _ _)⟩
      case round =>
        obtain ⟨j, hj, rfl, HI⟩ := hrel
        by_cases hj2 : j < 2
        · have hjI : (j : Int) < 2 := by omega
          obtain ⟨wt, VA, vn, x0, x1, x2, x3, x4, hw5, hVC⟩ := HLW.out j hj2
          have x0 := pw_cell_below HI.out x0
          have x1 := pw_cell_below HI.out x1
          have x2 := pw_cell_below HI.out x2
          have x3 := pw_cell_below HI.out x3
          have x4 := pw_cell_below HI.out x4
          have hVC := Kd.C_below hVC HI.out
          have hA := (Below.refl wr.heap.size wr).alloc (Nat.le_refl _) (.cells (wtc wt VA vn) 29)
          have hb := HI.out.trans (hA.mono HI.out.size)
          have HM6 := Lib.hid (HM5.out.next hb)
          have HC6 := Lib.hid (Kd.C_below HC5.out hb)
          have HB6 := Lib.hid (show BW wt VA vn wr.heap.size (wr.alloc (.cells (wtc wt VA vn) 29)) from ⟨heap_new rfl, Kd.C_below hVC hA⟩)
          have HW6 := Lib.hid hb; clear hA hb hVC HM5 HC5 HLW HI
          unfold wtc at HM6 HC6 HB6 HW6
          go_wp2_with fail
          generalize wr.alloc (.cells #[.int .i64 wt.te, .int .i64 wt.cl, .int .i64 wt.at_, .int .i64 wt.us, .slice VA wt.needs.length vn] 29) = W7 at *
          generalize wr.heap.size = VB at *
          have hF15 : ∀ X : Ext W7, _ := fun X => vWant_any wt VA vn X.val (Kd.C_below HB6.out.rw (X.2.below (fun _ _ h => h) (Nat.le_refl _)))
          have hF16 : ∀ X : Ext W7, _ := fun X => rvw_any wt VA vn X.val (Kd.C_below HB6.out.rw (X.2.below (fun _ _ h => h) (Nat.le_refl _)))
          unfold wtv at hF15 hF16
          generalize vldW wt = wv at *
          have HF := Lib.hid (And.intro hF15 hF16); clear hF15 hF16
          have c0 := cell_ext HB6.out.c0
          have c1 := cell_ext HB6.out.c1
          have c2 := cell_ext HB6.out.c2
          have c3 := cell_ext HB6.out.c3
          have c4 := cell_ext HB6.out.c4
          refine region_ext (by kernel_rfl) (by kernel_rfl) ?_
          repeat (go_big_quiet_step (first | (go_at_call 15; with_reducible exact call_ext (HF.out.1 _)) | (go_at_call 16; with_reducible exact call_ext (HF.out.2 _))))
          refine wpQuiet_nil ?_
          rintro W' ⟨X, rfl⟩
          clear c0 c1 c2 c3 c4 HF
          have hb := (X.2.below (fun _ _ h => h) (Nat.le_refl _))
          have HM8 := Lib.hid (HM6.out.next hb)
          have HC8 := Lib.hid (Kd.C_below HC6.out hb)
          have HB8 := Lib.hid (HB6.out.next hb)
          have HW8 := Lib.hid (HW6.out.trans (hb.mono HW6.out.size)); clear hb HM6 HC6 HB6 HW6
          generalize X.val = W8 at *
          clear X
          go_wp2_with fail
          go_loopw [25] (fun kv wr => ∃ k : Nat, k ≤ l.length ∧ kv = .int .i64 k ∧ Hid (Below W8.heap.size W8 wr)) (fun kv wr => l.length - (intOf kv).toNat)
          case atStart => exact ⟨0, Nat.zero_le _, rfl, Lib.hid (Below.refl _ _)⟩
          case round =>
            obtain ⟨k, hk, rfl, HI⟩ := hrel
            by_cases hkl : k < l.length
            · have hkI : (k : Int) < (l.length : Int) := by omega
              have hCk := Kd.C_below HC8.out HI.out
              have hBk := HB8.out.next HI.out
              have hKk := (HM8.out.next HI.out).kinds
              obtain ⟨ad, e, x0, x1, x2, x3, x4, x5, x6, x7⟩ := at_T40 hCk (k : Int) (by omega) hkI
              cases e
              simp only [Int.toNat_natCast] at x0 x1 x2 x3 x4 x5 x6 x7
              have hF17 : ∀ X : Ext wr, _ := fun X => applies_any (rd_T40 l (k : Int)) wt VA vn X.val (hKk.next (X.2.below (fun _ _ h => h) (Nat.le_refl _))) (Kd.C_below hBk.rw (X.2.below (fun _ _ h => h) (Nat.le_refl _)))
              have hF18 : ∀ X : Ext wr, _ := fun X => rapplies_any (rd_T40 l (k : Int)) wt VA vn X.val (Kd.C_below hBk.rw (X.2.below (fun _ _ h => h) (Nat.le_refl _)))
              clear hCk hKk
              generalize rd_T40 l (k : Int) = Y at *
              obtain ⟨f0, f1, f2, f3, f4, f5, f6, f7⟩ := Y
              unfold clv wtv at hF17 hF18
              simp only at x0 x1 x2 x3 x4 x5 x6 x7 hF17 hF18
              generalize applies ⟨f0, f1, f2, f3, f4, f5, f6, f7⟩ wt = av at *
              have HF := Lib.hid (And.intro hF17 hF18); clear hF17 hF18
              have c0 := cell_ext hBk.c0
              have c1 := cell_ext hBk.c1
              have c2 := cell_ext hBk.c2
              have c3 := cell_ext hBk.c3
              have c4 := cell_ext hBk.c4
              have z0 := cell_ext x0
              have z1 := cell_ext x1
              have z2 := cell_ext x2
              have z3 := cell_ext x3
              have z4 := cell_ext x4
              have z5 := cell_ext x5
              have z6 := cell_ext x6
              have z7 := cell_ext x7
              clear x0 x1 x2 x3 x4 x5 x6 x7 hBk
              go_wp2_with fail
              refine region_ext (by kernel_rfl) (by kernel_rfl) ?_
              repeat (go_big_quiet_step (first | (go_at_call 17; with_reducible exact call_ext (HF.out.1 _)) | (go_at_call 18; with_reducible exact call_ext (HF.out.2 _))))
              refine wpQuiet_nil ?_
              rintro W' ⟨X, rfl⟩
              go_wp2_with fail
              go_roundw
              case rel => exact ⟨k + 1, by omega, by go_num, Lib.hid (HI.out.trans (X.2.below (fun _ _ h => h) HI.out.size))⟩
              case measure => simp [intOf]; omega
            · obtain rfl : k = l.length := by omega
              have HM9 := Lib.hid (HM8.out.next HI.out)
              have HC9 := Lib.hid (Kd.C_below HC8.out HI.out)
              have HB9 := Lib.hid (HB8.out.next HI.out)
              have HW9 := Lib.hid (HW8.out.trans (HI.out.mono HW8.out.size)); clear HM8 HC8 HB8 HW8 HI
              go_wp2_with fail
              refine region_late [0, 2, 3, 4, 5, 6, 9] [] [1, 7, 8] (by kernel_rfl) (by kernel_rfl) (fun c a d v w h => by cases h.2.1) ?_
              simp only [pick_cons, pick_nil, nthO_succ, nthO_zero]
              repeat (go_big_quiet_step (fail))
              have hq : (if (13 : Int) < (us.length : Int) then (13 : Int) else (us.length : Int)).toNat = min us.length 13 := by split <;> omega
              generalize (if (13 : Int) < (us.length : Int) then (13 : Int) else (us.length : Int)).toNat = q at *
              subst hq
              generalize (if (13 : Int) < (us.length : Int) then (13 : Int) else (us.length : Int)) = q14 at *
              refine wpQuiet_nil ?_
              refine wpQuiet_nil ?_
              rintro W' ⟨X, rfl⟩
              have hb := X.2.below (fun _ _ h => h) (Nat.le_refl _)
              have HM10 := Lib.hid (HM9.out.next hb)
              have HC10 := Lib.hid (Kd.C_below HC9.out hb)
              have HB10 := Lib.hid (HB9.out.next hb)
              have HW10 := Lib.hid (HW9.out.trans (hb.mono HW9.out.size)); clear hb HM9 HC9 HB9 HW9
              generalize X.val = W10 at *
              clear X
              go_wp2_with fail
              refine (MadeUsed_any SA sc ss W10 HM10.out.rs HRG.out.1).mono ?_
              rintro e w11 ⟨v, u, rfl, hU, hu12, huo, hsm, hb⟩
              obtain ⟨DA, dc, rfl, hdc, hDC⟩ := Kd.R_reads hU
              have hA := (Below.refl w11.heap.size w11).alloc (Nat.le_refl _) (.cells #[.slice DA u.length dc, .slice UA (min us.length 13) uc] 23)
              have hb := hb.trans (hA.mono hb.size)
              have HM11 := Lib.hid (HM10.out.next hb)
              have HC11 := Lib.hid (Kd.C_below HC10.out hb)
              have HB11 := Lib.hid (HB10.out.next hb)
              have HW11 := Lib.hid (HW10.out.trans (hb.mono HW10.out.size))
              have HLU := Lib.hid (lit_two (G := w11.heap.size) (t := 23) (heap_new (W := w11) rfl) hdc (Kd.C_below hDC hA) (Nat.le_trans (Nat.min_le_left _ _) hUc) (C_min HM11.out.ru 13))
              clear hA hb hU hu12 huo hsm hdc hDC HM10 HC10 HB10 HW10
              go_wp2_with fail
              generalize w11.heap.size = GU at *
              generalize w11.alloc (.cells #[.slice DA u.length dc, .slice UA (min us.length 13) uc] 23) = W12 at *
              go_loopw [108] (fun mv wr => ∃ m : Nat, m ≤ 2 ∧ mv = .int .i64 m ∧ Hid (Below W12.heap.size W12 wr)) (fun mv wr => 2 - (intOf mv).toNat)
              case atStart => exact ⟨0, by omega, rfl, Lib.hid (Below.refl _ _)⟩
              case round =>
                obtain ⟨m, hm, rfl, HI⟩ := hrel
                by_cases hm2 : m < 2
                · have hmI : (m : Int) < 2 := by omega
                  obtain ⟨EA, ec, d, hx, hec, hEC⟩ := HLU.out m hm2
                  have hx := pw_cell_below HI.out hx
                  have HL := Lib.hid (show LX w A c l EA ec d wt VA vn VB wr from ⟨HM11.out.below.trans (HI.out.mono HM11.out.below.size), ⟨(HM11.out.next HI.out).kinds, Kd.C_below HC11.out HI.out, Kd.C_below hEC HI.out, (HB11.out.next HI.out).rw⟩, (HB11.out.next HI.out).box⟩)
                  have HMm := Lib.hid (HM11.out.next HI.out)
                  have HWm := Lib.hid HI.out; clear hEC HM11 HC11 HB11 HLU HI
                  have c0 := HL.out.c0
                  have c1 := HL.out.c1
                  have c2 := HL.out.c2
                  have c3 := HL.out.c3
                  have c4 := HL.out.c4
                  go_wp2_with fail
                  have hSo := Solve_any A c l EA ec d wt VA vn wr HL.out.args
                  unfold wtv at hSo
                  refine hSo.mono ?_
                  clear hSo c0 c1 c2 c3 c4 hx
                  rintro e v1 ⟨p1, p2, rfl, hP, hQ, hb⟩
                  obtain ⟨P1, n1, rfl, hn1, hP1⟩ := Kd.R_reads hP
                  obtain ⟨P2, n2, rfl, hn2, hP2⟩ := Kd.R_reads hQ
                  have H_ := Lib.hid (HL.out.next hb); clear HL; have HL := H_; clear H_
                  have H_ := Lib.hid (HMm.out.next hb); clear HMm; have HMm := H_; clear H_
                  have H_ := Lib.hid (HWm.out.trans (hb.mono HWm.out.size)); clear HWm; have HWm := H_; clear H_
                  have HP1 := Lib.hid hP1
                  have HP2 := Lib.hid hP2; clear hb hP hQ hP1 hP2
                  have c0 := HL.out.c0
                  have c1 := HL.out.c1
                  have c2 := HL.out.c2
                  have c3 := HL.out.c3
                  have c4 := HL.out.c4
                  go_wp2_with fail
                  have hSo := rSolve_any A c l EA ec d wt VA vn v1 HL.out.args
                  unfold wtv at hSo
                  refine hSo.mono ?_
                  clear hSo c0 c1 c2 c3 c4
                  rintro e v2 ⟨Q1, m1, Q2, m2, rfl, hm1, hm2', hQ1, hQ2, hb⟩
                  have H_ := Lib.hid (HL.out.next hb); clear HL; have HL := H_; clear H_
                  have H_ := Lib.hid (HMm.out.next hb); clear HMm; have HMm := H_; clear H_
                  have H_ := Lib.hid (HWm.out.trans (hb.mono HWm.out.size)); clear HWm; have HWm := H_; clear H_
                  have H_ := Lib.hid (Kd.C_below HP1.out hb); clear HP1; have HP1 := H_; clear H_
                  have H_ := Lib.hid (Kd.C_below HP2.out hb); clear HP2; have HP2 := H_; clear H_
                  have HQ1 := Lib.hid hQ1
                  have HQ2 := Lib.hid hQ2; clear hb hQ1 hQ2
                  generalize solve1 l d wt = s1 at *
                  generalize solve2 l d wt = s2 at *
                  generalize solveE l d wt = sE at *
                  go_wp2_with fail
                  refine (ints_any P1 n1 s1 Q1 m1 s1 v2 HP1.out hn1 HQ1.out hm1).mono ?_
                  rintro e v3 ⟨rfl, hb⟩
                  have H_ := Lib.hid (HL.out.next hb); clear HL; have HL := H_; clear H_
                  have H_ := Lib.hid (HMm.out.next hb); clear HMm; have HMm := H_; clear H_
                  have H_ := Lib.hid (HWm.out.trans (hb.mono HWm.out.size)); clear HWm; have HWm := H_; clear H_
                  have H_ := Lib.hid (Kd.C_below HP2.out hb); clear HP2; have HP2 := H_; clear H_
                  have H_ := Lib.hid (Kd.C_below HQ1.out hb); clear HQ1; have HQ1 := H_; clear H_
                  have H_ := Lib.hid (Kd.C_below HQ2.out hb); clear HQ2; have HQ2 := H_; clear H_
                  clear hb HP1
                  go_wp2_with fail
                  refine (ints_any P2 n2 s2 Q2 m2 s2 v3 HP2.out hn2 HQ2.out hm2').mono ?_
                  rintro e v4 ⟨rfl, hb⟩
                  have H_ := Lib.hid (HL.out.next hb); clear HL; have HL := H_; clear H_
                  have H_ := Lib.hid (HMm.out.next hb); clear HMm; have HMm := H_; clear H_
                  have H_ := Lib.hid (HWm.out.trans (hb.mono HWm.out.size)); clear HWm; have HWm := H_; clear H_
                  have H_ := Lib.hid (Kd.C_below HQ1.out hb); clear HQ1; have HQ1 := H_; clear H_
                  have H_ := Lib.hid (Kd.C_below HQ2.out hb); clear HQ2; have HQ2 := H_; clear H_
                  clear hb HP2
                  go_wp2_with fail
                  refine region_freeS (fun _ => False) [0, 1, 2, 3, 4, 5, 6, 7, 11] #[true, true, true, true, true, true, true, true, false, false, false, true] 3 (by kernel_rfl) (by kernel_rfl) (fun c a d v w h => by cases h.2.1) ?_
                  simp only [pick_cons, pick_nil, nthO_succ, nthO_zero]
                  have q0 := cell_extB (B := fun _ => False) (HL.out.c0) (fun h => h)
                  have q1 := cell_extB (B := fun _ => False) (HL.out.c1) (fun h => h)
                  have q2 := cell_extB (B := fun _ => False) (HL.out.c2) (fun h => h)
                  have q3 := cell_extB (B := fun _ => False) (HL.out.c3) (fun h => h)
                  have q4 := cell_extB (B := fun _ => False) (HL.out.c4) (fun h => h)
                  repeat (go_big_quiet_step (fail))
                  have hq : (if (5 : Int) < (ks.length : Int) then (5 : Int) else (ks.length : Int)).toNat = min ks.length 5 := by split <;> omega
                  generalize (if (5 : Int) < (ks.length : Int) then (5 : Int) else (ks.length : Int)).toNat = q at *
                  subst hq
                  generalize (if (5 : Int) < (ks.length : Int) then (5 : Int) else (ks.length : Int)) = q5 at *
                  refine wpQuiet_nil ?_
                  clear q0 q1 q2 q3 q4
                  have HS := Lib.hid (show Fr (fun _ => False) v4 v4.drew ∧ Below v4.heap.size v4 v4.drew from ⟨(Fr.refl _ _).drew, ⟨rfl, rfl, rfl, Nat.le_refl _, fun _ _ => rfl⟩⟩)
                  generalize v4.drew = u0 at HS ⊢
                  have hfi := first_any wt VA vn KA kc ks u0 (Kd.C_below HL.out.args.rw HS.out.2) (Kd.C_below HMm.out.rk HS.out.2) HRG.out.2 hw5
                  unfold wtv at hfi
                  have HFI := Lib.hid hfi; clear hfi
                  refine any_stepS [8] (by kernel_rfl) ?_
                  simp only [List.forall_mem_cons, List.forall_mem_nil, nthO_succ, nthO_zero]
                  refine ⟨?_, fun _ h => by cases h⟩
                  go_wp2_with fail
                  refine HFI.out.mono ?_
                  rintro e u1 ⟨v, out, rfl, hR, hok, hb⟩
                  obtain ⟨OA', oc, rfl, hoc, hOC⟩ := Kd.R_reads hR
                  have HS_ := Lib.hid (And.intro (HS.out.1.call hb) (HS.out.2.trans (hb.mono HS.out.2.size))); clear HS hb HFI hR hok; have HS := HS_; clear HS_
                  go_wp2_with fail
                  refine ⟨⟨⟨_, HS.out.1⟩, rfl⟩, ?_⟩
                  have hA := (Below.refl u1.heap.size u1).alloc (Nat.le_refl _) (.cells #[.slice KA (min ks.length 5) kc, .slice Q1 s1.length m1, .slice OA' out.length oc] 23)
                  have hF4 := HS.out.1.alloc (.cells #[.slice KA (min ks.length 5) kc, .slice Q1 s1.length m1, .slice OA' out.length oc] 23)
                  have hb := HS.out.2.trans (hA.mono HS.out.2.size)
                  have H_ := Lib.hid (HL.out.next hb); clear HL; have HL := H_; clear H_
                  have H_ := Lib.hid (HMm.out.next hb); clear HMm; have HMm := H_; clear H_
                  have H_ := Lib.hid (HWm.out.trans (hb.mono HWm.out.size)); clear HWm; have HWm := H_; clear H_
                  have H_ := Lib.hid (Kd.C_below HQ1.out hb); clear HQ1; have HQ1 := H_; clear H_
                  have H_ := Lib.hid (Kd.C_below HQ2.out hb); clear HQ2; have HQ2 := H_; clear H_
                  have HLK := Lib.hid (lit_three (G := u1.heap.size) (t := 23) (heap_new (W := u1) rfl) (Nat.le_trans (Nat.min_le_left _ _) hKc) (C_min HMm.out.rk 5) hm1 HQ1.out hoc (Kd.C_below hOC hA))
                  have HF4 := Lib.hid hF4; clear hA hF4 hb hOC HS HQ1
                  refine any_stepS [9] (by kernel_rfl) ?_
                  simp only [List.forall_mem_cons, List.forall_mem_nil, nthO_succ, nthO_zero]
                  refine ⟨?_, fun _ h => by cases h⟩
                  go_wp2_with fail
                  refine ⟨⟨⟨_, HF4.out⟩, rfl⟩, ?_⟩
                  generalize u1.alloc (.cells #[.slice KA (min ks.length 5) kc, .slice Q1 s1.length m1, .slice OA' out.length oc] 23) = W13 at *
                  generalize u1.heap.size = GK at *
                  refine any_stepS [10] (by kernel_rfl) ?_
                  simp only [List.forall_mem_cons, List.forall_mem_nil, nthO_succ, nthO_zero]
                  refine ⟨?_, fun _ h => by cases h⟩
                  go_wp2_with fail
                  refine ⟨⟨⟨_, HF4.out⟩, rfl⟩, wpAnyH_done (by kernel_rfl) ?_ _⟩
                  clear HF4
                  go_wp2_with fail
                  go_loopw [154] (fun mv wr => ∃ g : Nat, g ≤ 3 ∧ mv = .int .i64 g ∧ Hid (Below W13.heap.size W13 wr)) (fun mv wr => 3 - (intOf mv).toNat)
                  case atStart => exact ⟨0, by omega, rfl, Lib.hid (Below.refl _ _)⟩
                  case round =>
                    obtain ⟨g, hg, rfl, HI⟩ := hrel
                    by_cases hg3 : g < 3
                    · have hgI : (g : Int) < 3 := by omega
                      obtain ⟨PA, pc, p, hx, hpc, hPC⟩ := HLK.out g hg3
                      have hx := pw_cell_below HI.out hx
                      have HLg := Lib.hid (HL.out.next HI.out)
                      have HPg := Lib.hid (Kd.C_below hPC HI.out)
                      have HWg := Lib.hid HI.out; clear hPC HLK HI HL
                      have c0 := HLg.out.c0
                      have c1 := HLg.out.c1
                      have c2 := HLg.out.c2
                      have c3 := HLg.out.c3
                      have c4 := HLg.out.c4
                      go_wp2_with fail
                      have hBr := Broken_any A c l EA ec d wt VA vn PA pc p wr HLg.out.args HPg.out hpc
                      unfold wtv at hBr
                      refine hBr.mono ?_
                      clear hBr c0 c1 c2 c3 c4 hx
                      rintro e y1 ⟨v, rfl, hF, hb⟩
                      obtain ⟨B1, b1, rfl, hb1, hB1⟩ := Kd.R_reads hF
                      have H_ := Lib.hid (HLg.out.next hb); clear HLg; have HLg := H_; clear H_
                      have H_ := Lib.hid (Kd.C_below HPg.out hb); clear HPg; have HPg := H_; clear H_
                      have H_ := Lib.hid (HWg.out.trans (hb.mono HWg.out.size)); clear HWg; have HWg := H_; clear H_
                      have HB1 := Lib.hid hB1; clear hB1 hF hb
                      have c0 := HLg.out.c0
                      have c1 := HLg.out.c1
                      have c2 := HLg.out.c2
                      have c3 := HLg.out.c3
                      have c4 := HLg.out.c4
                      go_wp2_with fail
                      have hBr := rBroken_any A c l EA ec d wt VA vn PA pc p y1 HLg.out.args HPg.out hpc
                      unfold wtv at hBr
                      refine hBr.mono ?_
                      clear hBr c0 c1 c2 c3 c4
                      rintro e y2 ⟨v, rfl, hF, hb⟩
                      obtain ⟨B2, b2, rfl, hb2, hB2⟩ := Kd.R_reads hF
                      have H_ := Lib.hid (HLg.out.next hb); clear HLg; have HLg := H_; clear H_
                      have H_ := Lib.hid (Kd.C_below HPg.out hb); clear HPg; have HPg := H_; clear H_
                      have H_ := Lib.hid (HWg.out.trans (hb.mono HWg.out.size)); clear HWg; have HWg := H_; clear H_
                      have H_ := Lib.hid (Kd.C_below HB1.out hb); clear HB1; have HB1 := H_; clear H_
                      have HB2 := Lib.hid hB2; clear hB2 hF hb
                      have hF22 : ∀ X : Ext y2, _ := fun X => ints_any B1 b1 (brokenL l d wt p) B2 b2 (brokenL l d wt p) X.val (Kd.C_below HB1.out (X.2.below (fun _ _ h => h) (Nat.le_refl _))) hb1 (Kd.C_below HB2.out (X.2.below (fun _ _ h => h) (Nat.le_refl _))) hb2
                      have hF26 : ∀ X : Ext y2, _ := fun X => Lawful_any A c l EA ec d wt VA vn PA pc p X.val (HLg.out.args.next (X.2.below (fun _ _ h => h) (Nat.le_refl _))) (Kd.C_below HPg.out (X.2.below (fun _ _ h => h) (Nat.le_refl _))) hpc
                      have hF27 : ∀ X : Ext y2, _ := fun X => rLawful_any A c l EA ec d wt VA vn PA pc p X.val (HLg.out.args.next (X.2.below (fun _ _ h => h) (Nat.le_refl _))) (Kd.C_below HPg.out (X.2.below (fun _ _ h => h) (Nat.le_refl _))) hpc
                      unfold wtv at hF26 hF27
                      generalize brokenL l d wt p = bL at *
                      generalize brokenE l d wt p = bE at *
                      generalize lawB l d wt p = lb at *
                      rw [show decide (bL = bL) = true by simp] at hF22
                      have HF := Lib.hid (And.intro hF22 (And.intro hF26 hF27)); clear hF22 hF26 hF27
                      have c0 := cell_ext HLg.out.c0
                      have c1 := cell_ext HLg.out.c1
                      have c2 := cell_ext HLg.out.c2
                      have c3 := cell_ext HLg.out.c3
                      have c4 := cell_ext HLg.out.c4
                      go_wp2_with fail
                      refine region_ext (by kernel_rfl) (by kernel_rfl) ?_
                      repeat (go_big_quiet_step (first | (go_at_call 22; with_reducible exact call_ext (HF.out.1 _)) | (go_at_call 26; with_reducible exact call_ext (HF.out.2.1 _)) | (go_at_call 27; with_reducible exact call_ext (HF.out.2.2 _))))
                      refine wpQuiet_nil ?_
                      rintro W' ⟨X, rfl⟩
                      go_wp2_with fail
                      go_roundw
                      case rel => exact ⟨g + 1, by omega, by go_num, Lib.hid (HWg.out.trans (X.2.below (fun _ _ h => h) HWg.out.size))⟩
                      case measure => simp [intOf]; omega
                    · obtain rfl : g = 3 := by omega
                      have hb := HI.out
                      have H_ := Lib.hid (HL.out.next hb); clear HL; have HL := H_; clear H_
                      have H_ := Lib.hid (HMm.out.next hb); clear HMm; have HMm := H_; clear H_
                      have H_ := Lib.hid (HWm.out.trans (hb.mono HWm.out.size)); clear HWm; have HWm := H_; clear H_
                      have H_ := Lib.hid (Kd.C_below HQ2.out hb); clear HQ2; have HQ2 := H_; clear H_
                      clear hb HLK HI
                      have hC6 := C_min HMm.out.rc 6
                      have hc6 : min cs.length 6 ≤ cc := Nat.le_trans (Nat.min_le_left _ _) hCc
                      by_cases h6 : (6 : Int) < (cs.length : Int)
                      · have h6' : min cs.length 6 = 6 := by omega
                        rw [h6'] at hC6 hc6
                        have hA := (Below.refl wr.heap.size wr).alloc (Nat.le_refl _) (.cells #[.slice CA 6 cc, .slice Q2 s2.length m2, .slice none 0 0] 23)
                        have hb := hA
                        have HLC := Lib.hid (lit_three (G := wr.heap.size) (t := 23) (y := []) (heap_new (W := wr) rfl) hc6 (Kd.C_below hC6 hA) hm2' (Kd.C_below HQ2.out hA) (Nat.le_refl _) C_nil)
                        have H_ := Lib.hid (HL.out.next hb); clear HL; have HL := H_; clear H_
                        have H_ := Lib.hid (HMm.out.next hb); clear HMm; have HMm := H_; clear H_
                        have H_ := Lib.hid (HWm.out.trans (hb.mono HWm.out.size)); clear HWm; have HWm := H_; clear H_
                        clear hA hb HQ2 hC6 hc6
                        go_wp2_with fail
                        generalize wr.heap.size = GC at *
                        generalize wr.alloc (.cells #[.slice CA 6 cc, .slice Q2 s2.length m2, .slice none 0 0] 23) = W15 at *
                        go_loopw [205] (fun mv wr => ∃ g : Nat, g ≤ 3 ∧ mv = .int .i64 g ∧ Hid (Below W15.heap.size W15 wr)) (fun mv wr => 3 - (intOf mv).toNat)
                        case atStart => exact ⟨0, by omega, rfl, Lib.hid (Below.refl _ _)⟩
                        case round =>
                          obtain ⟨g, hg, rfl, HI⟩ := hrel
                          by_cases hg3 : g < 3
                          · have hgI : (g : Int) < 3 := by omega
                            obtain ⟨PA, pc, p, hx, hpc, hPC⟩ := HLC.out g hg3
                            have hx := pw_cell_below HI.out hx
                            have HLg := Lib.hid (HL.out.next HI.out)
                            have hPg := Kd.C_below hPC HI.out
                            have hF28 : ∀ X : Ext wr, _ := fun X => Forbids_any A c l EA ec d wt VA vn PA pc p X.val (HLg.out.args.next (X.2.below (fun _ _ h => h) (Nat.le_refl _))) (Kd.C_below hPg (X.2.below (fun _ _ h => h) (Nat.le_refl _))) hpc
                            have hF29 : ∀ X : Ext wr, _ := fun X => rForbids_any A c l EA ec d wt VA vn PA pc p X.val (HLg.out.args.next (X.2.below (fun _ _ h => h) (Nat.le_refl _))) (Kd.C_below hPg (X.2.below (fun _ _ h => h) (Nat.le_refl _))) hpc
                            unfold wtv at hF28 hF29
                            generalize forbB l d wt p = fb at *
                            have HF := Lib.hid (And.intro hF28 hF29); clear hF28 hF29 hPg hPC HLC HL
                            have c0 := cell_ext HLg.out.c0
                            have c1 := cell_ext HLg.out.c1
                            have c2 := cell_ext HLg.out.c2
                            have c3 := cell_ext HLg.out.c3
                            have c4 := cell_ext HLg.out.c4
                            go_wp2_with fail
                            refine region_ext (by kernel_rfl) (by kernel_rfl) ?_
                            repeat (go_big_quiet_step (first | (go_at_call 28; with_reducible exact call_ext (HF.out.1 _)) | (go_at_call 29; with_reducible exact call_ext (HF.out.2 _))))
                            refine wpQuiet_nil ?_
                            rintro W' ⟨X, rfl⟩
                            go_wp2_with fail
                            go_roundw
                            case rel => exact ⟨g + 1, by omega, by go_num, Lib.hid (HI.out.trans (X.2.below (fun _ _ h => h) HI.out.size))⟩
                            case measure => simp [intOf]; omega
                          · obtain rfl : g = 3 := by omega
                            have HW := Lib.hid (HWm.out.trans (HI.out.mono HWm.out.size))
                            go_wp2_with fail
                            go_roundw
                            case rel => exact ⟨m + 1, by omega, by go_num, HW⟩
                            case measure => simp [intOf]; omega
                      · have h6' : min cs.length 6 = cs.length := by omega
                        rw [h6'] at hC6 hc6
                        have hA := (Below.refl wr.heap.size wr).alloc (Nat.le_refl _) (.cells #[.slice CA cs.length cc, .slice Q2 s2.length m2, .slice none 0 0] 23)
                        have hb := hA
                        have HLC := Lib.hid (lit_three (G := wr.heap.size) (t := 23) (y := []) (heap_new (W := wr) rfl) hc6 (Kd.C_below hC6 hA) hm2' (Kd.C_below HQ2.out hA) (Nat.le_refl _) C_nil)
                        have H_ := Lib.hid (HL.out.next hb); clear HL; have HL := H_; clear H_
                        have H_ := Lib.hid (HMm.out.next hb); clear HMm; have HMm := H_; clear H_
                        have H_ := Lib.hid (HWm.out.trans (hb.mono HWm.out.size)); clear HWm; have HWm := H_; clear H_
                        clear hA hb HQ2 hC6 hc6
                        go_wp2_with fail
                        generalize wr.heap.size = GC at *
                        generalize wr.alloc (.cells #[.slice CA cs.length cc, .slice Q2 s2.length m2, .slice none 0 0] 23) = W15 at *
                        go_loopw [205] (fun mv wr => ∃ g : Nat, g ≤ 3 ∧ mv = .int .i64 g ∧ Hid (Below W15.heap.size W15 wr)) (fun mv wr => 3 - (intOf mv).toNat)
                        case atStart => exact ⟨0, by omega, rfl, Lib.hid (Below.refl _ _)⟩
                        case round =>
                          obtain ⟨g, hg, rfl, HI⟩ := hrel
                          by_cases hg3 : g < 3
                          · have hgI : (g : Int) < 3 := by omega
                            obtain ⟨PA, pc, p, hx, hpc, hPC⟩ := HLC.out g hg3
                            have hx := pw_cell_below HI.out hx
                            have HLg := Lib.hid (HL.out.next HI.out)
                            have hPg := Kd.C_below hPC HI.out
                            have hF28 : ∀ X : Ext wr, _ := fun X => Forbids_any A c l EA ec d wt VA vn PA pc p X.val (HLg.out.args.next (X.2.below (fun _ _ h => h) (Nat.le_refl _))) (Kd.C_below hPg (X.2.below (fun _ _ h => h) (Nat.le_refl _))) hpc
                            have hF29 : ∀ X : Ext wr, _ := fun X => rForbids_any A c l EA ec d wt VA vn PA pc p X.val (HLg.out.args.next (X.2.below (fun _ _ h => h) (Nat.le_refl _))) (Kd.C_below hPg (X.2.below (fun _ _ h => h) (Nat.le_refl _))) hpc
                            unfold wtv at hF28 hF29
                            generalize forbB l d wt p = fb at *
                            have HF := Lib.hid (And.intro hF28 hF29); clear hF28 hF29 hPg hPC HLC HL
                            have c0 := cell_ext HLg.out.c0
                            have c1 := cell_ext HLg.out.c1
                            have c2 := cell_ext HLg.out.c2
                            have c3 := cell_ext HLg.out.c3
                            have c4 := cell_ext HLg.out.c4
                            go_wp2_with fail
                            refine region_ext (by kernel_rfl) (by kernel_rfl) ?_
                            repeat (go_big_quiet_step (first | (go_at_call 28; with_reducible exact call_ext (HF.out.1 _)) | (go_at_call 29; with_reducible exact call_ext (HF.out.2 _))))
                            refine wpQuiet_nil ?_
                            rintro W' ⟨X, rfl⟩
                            go_wp2_with fail
                            go_roundw
                            case rel => exact ⟨g + 1, by omega, by go_num, Lib.hid (HI.out.trans (X.2.below (fun _ _ h => h) HI.out.size))⟩
                            case measure => simp [intOf]; omega
                          · obtain rfl : g = 3 := by omega
                            have HW := Lib.hid (HWm.out.trans (HI.out.mono HWm.out.size))
                            go_wp2_with fail
                            go_roundw
                            case rel => exact ⟨m + 1, by omega, by go_num, HW⟩
                            case measure => simp [intOf]; omega
                · obtain rfl : m = 2 := by omega
                  have HW := Lib.hid (HW11.out.trans (HI.out.mono HW11.out.size))
                  go_wp2_with fail
                  go_roundw
                  case rel => exact ⟨j + 1, by omega, by go_num, HW⟩
                  case measure => simp [intOf]; omega
        · obtain rfl : j = 2 := by omega
          have HW := Lib.hid (HW5.out.trans (HI.out.mono HW5.out.size))
          go_wp2_with fail
          go_roundw
          case rel => exact ⟨i + 1, by omega, by go_num, HW⟩
          case measure => simp [intOf]; omega
    · obtain rfl : i = 2 := by omega
      have hMe := HM4.out.below
      have HMe := Lib.hid (hMe.trans (HI.out.mono hMe.size)); clear hMe
      go_wp2_with fail
      go_ret
      exact ⟨rfl, HMe.out⟩
end Go.Proofs.YtnabgijdbcdpmaaDoor

namespace Go.Proofs.YtnabgijdbcdpmaaDoor.rightsMatchesReference
open Go.ChangeShapes Go.WideShapes Go.ChangeAt Go.RowKit
set_option linter.unusedVariables false
set_option linter.unusedSimpArgs false
set_option maxRecDepth 100000 in
theorem lifted (os : Os) (started : os.Started) (H : Type) (enc : TypeId × Value → H) :
    ReturnsInHanded {} Tryd.checked os 3 .any (fun w args => (Rows.rightsMatchesReferenceSpec.pre enc Tryd.prog Tryd.f3 [] false w args ∧ laidMetH Tryd.prog laid1 w) ∧ sizedMet enc Tryd.prog Tryd.f3 (OpenSpec.ofChange Rows.rightsMatchesReferenceSpec) false w args)
      (Rows.rightsMatchesReferenceSpec.post enc Tryd.prog Tryd.f3 false true false false) := by
  refine returnsInHanded_of_change_and (C := Tryd.checked) (X := fun w _ => laidMetH Tryd.prog laid1 w) (fun _ _ _ hh h => h.of_heap hh) own started (by kernel_rfl) Tryd.func3
    (ChangeSpec.witness_shaped (enc := enc) (C := Tryd.checked) (os := os) (X := fun w _ => laidMetH Tryd.prog laid1 w) false (World.doorLaid Tryd.prog 600 os) #[.slice none 0 0, .int .i64 0, .slice none 0 0, .slice none 0 0, .slice none 0 0, .agg #[.int .i64 0, .int .i64 0, .int .i64 0, .int .i64 0, .slice none 0 0], .slice none 0 0, .slice none 0 0, .slice none 0 0] 8 rfl (World.shaped_of_RefB (by kernel_rfl) (by kernel_rfl)) (by kernel_rfl) (by kernel_rfl) (by kernel_rfl) (door_met os _)) ?_
  intro W base args ds gs before hval0 hW _ _ hL _
  have hval : ∀ (j : Nat) t v, Tryd.f3.params[j]? = some t → args[j]? = some v → Value.okWide Tryd.prog W .any base t v := hval0
  have hW' := hW
  obtain ⟨p, q, hA0, hV, rfl, hfz, hnd⟩ := hW
  have hA : DataW.TrodAll enc Tryd.prog W 0 (fun _ => true) true Tryd.f3.params.toList args.toList ds p := hA0
  rw [Tryd.params3] at hA hval
  obtain ⟨v0, vs0, d0, ds0, p0, q0, hargs, rfl, rfl, h0, r0⟩ := trodAll_cons hA
  obtain ⟨v1, vs1, d1, ds1, p1, q1, rfl, rfl, rfl, h1, r1⟩ := trodAll_cons r0
  obtain ⟨v2, vs2, d2, ds2, p2, q2, rfl, rfl, rfl, h2, r2⟩ := trodAll_cons r1
  obtain ⟨v3, vs3, d3, ds3, p3, q3, rfl, rfl, rfl, h3, r3⟩ := trodAll_cons r2
  obtain ⟨v4, vs4, d4, ds4, p4, q4, rfl, rfl, rfl, h4, r4⟩ := trodAll_cons r3
  obtain ⟨v5, vs5, d5, ds5, p5, q5, rfl, rfl, rfl, h5, r5⟩ := trodAll_cons r4
  obtain ⟨v6, vs6, d6, ds6, p6, q6, rfl, rfl, rfl, h6, r6⟩ := trodAll_cons r5
  obtain ⟨v7, vs7, d7, ds7, p7, q7, rfl, rfl, rfl, h7, r7⟩ := trodAll_cons r6
  obtain ⟨v8, vs8, d8, ds8, p8, q8, rfl, rfl, rfl, h8, r8⟩ := trodAll_cons r7
  obtain ⟨rfl, rfl, rfl⟩ := trodAll_nil r8
  obtain rfl : args = #[v0, v1, v2, v3, v4, v5, v6, v7, v8] := by cases args; simp_all
  obtain ⟨rfl, rfl⟩ := trodVars_none hV
  have k0 := h0
  have lt0 : ∀ x ∈ p0, x.block < W.heap.size := by obtain ⟨m, hm⟩ := k0; exact DataW.trod_lt m _ _ _ hm
  obtain ⟨A0, n0, c0, rfl, hc0, hX0⟩ := open_row22 (hval 0 22 v0 rfl rfl) h0
  obtain ⟨a1, rfl, rfl, rfl, w1⟩ := open_int Tryd.underlying3 (hval 1 3 v1 rfl rfl) h1
  have k2 := h2
  have lt2 : ∀ x ∈ p2, x.block < W.heap.size := by obtain ⟨m, hm⟩ := k2; exact DataW.trod_lt m _ _ _ hm
  obtain ⟨A2, c2, x2, rfl, hc2, hC2, hg2⟩ := open_row23 (hval 2 23 v2 rfl rfl) h2
  have k3 := h3
  have lt3 : ∀ x ∈ p3, x.block < W.heap.size := by obtain ⟨m, hm⟩ := k3; exact DataW.trod_lt m _ _ _ hm
  obtain ⟨A3, c3, x3, rfl, hc3, hC3, hg3⟩ := open_row23 (hval 3 23 v3 rfl rfl) h3
  have k4 := h4
  have lt4 : ∀ x ∈ p4, x.block < W.heap.size := by obtain ⟨m, hm⟩ := k4; exact DataW.trod_lt m _ _ _ hm
  obtain ⟨A4, c4, l4, rfl, hc4, hC4⟩ := open_row24 (hval 4 24 v4 rfl rfl) h4
  have k5 := h5
  have lt5 : ∀ x ∈ p5, x.block < W.heap.size := by obtain ⟨m, hm⟩ := k5; exact DataW.trod_lt m _ _ _ hm
  obtain ⟨t5, A5, n5, rfl, hC5⟩ := open_want (hval 5 29 v5 rfl rfl) h5
  have k6 := h6
  have lt6 : ∀ x ∈ p6, x.block < W.heap.size := by obtain ⟨m, hm⟩ := k6; exact DataW.trod_lt m _ _ _ hm
  obtain ⟨A6, c6, x6, rfl, hc6, hC6, hg6⟩ := open_row23 (hval 6 23 v6 rfl rfl) h6
  have k7 := h7
  have lt7 : ∀ x ∈ p7, x.block < W.heap.size := by obtain ⟨m, hm⟩ := k7; exact DataW.trod_lt m _ _ _ hm
  obtain ⟨A7, c7, x7, rfl, hc7, hC7, hg7⟩ := open_row23 (hval 7 23 v7 rfl rfl) h7
  have k8 := h8
  have lt8 : ∀ x ∈ p8, x.block < W.heap.size := by obtain ⟨m, hm⟩ := k8; exact DataW.trod_lt m _ _ _ hm
  obtain ⟨A8, c8, x8, rfl, hc8, hC8, hg8⟩ := open_row23 (hval 8 23 v8 rfl rfl) h8
  clear hA0 hval0
  refine (match_law A0 n0 c0 a1 A2 c2 x2 A3 c3 x3 A4 c4 l4 t5 A5 n5 A6 c6 x6 A7 c7 x7 A8 c8 x8 W (of_laid hL) hX0 (lit_rng w1) hC2 hg2 hC3 hg3 hC4 hc4 hC5 hC6 hc6 hC7 hc7 hg7 hC8 hc8).mono fun e W' ⟨he, hg⟩ => ?_
  subst he
  exact ⟨_, rfl, _, _, _, [], _, [], hW', trodAll_mk1 (shut_bool Tryd.underlying4 _), (trodAll_cons_mk (Below.trod laidOut (by kernel_rfl) (of_decide_eq_true (by kernel_rfl)) k0 hg lt0) (trodAll_cons_mk (shut_int Tryd.underlying3 w1) (trodAll_cons_mk (Below.trod laidOut (by kernel_rfl) (of_decide_eq_true (by kernel_rfl)) k2 hg lt2) (trodAll_cons_mk (Below.trod laidOut (by kernel_rfl) (of_decide_eq_true (by kernel_rfl)) k3 hg lt3) (trodAll_cons_mk (Below.trod laidOut (by kernel_rfl) (of_decide_eq_true (by kernel_rfl)) k4 hg lt4) (trodAll_cons_mk (Below.trod laidOut (by kernel_rfl) (of_decide_eq_true (by kernel_rfl)) k5 hg lt5) (trodAll_cons_mk (Below.trod laidOut (by kernel_rfl) (of_decide_eq_true (by kernel_rfl)) k6 hg lt6) (trodAll_cons_mk (Below.trod laidOut (by kernel_rfl) (of_decide_eq_true (by kernel_rfl)) k7 hg lt7) (trodAll_cons_mk (Below.trod laidOut (by kernel_rfl) (of_decide_eq_true (by kernel_rfl)) k8 hg lt8) trodAll_mk0))))))))), rfl, hg.frame _, fun h => by cases h⟩

theorem over : Rows.rightsMatchesReferenceRow.holds Tryd.pinned (OpenSpec.ofChange Rows.rightsMatchesReferenceSpec) :=
  OpenClaim.holds_of_wide 3 Tryd.f3 rfl rfl rfl rfl rfl rfl rfl ⟨rfl, rfl, rfl, rfl, rfl⟩ rfl rfl rfl rfl rfl (by kernel_rfl) Tryd.func3 (by kernel_rfl)
    (of_decide_eq_true (by kernel_rfl)) (by unfold Func.isWrapper; first | (rw [if_pos (by decide +kernel)]; kernel_rfl) | (rw [if_neg (by decide +kernel)]; exact ⟨rfl, rfl⟩))
    (fun os started H enc _ => lifted os started H enc)
theorem said : Rows.RightsMatchesReferenceSaid := over

/-- ████ THE STATEMENT ████ -/
theorem proved : Rows.RightsMatchesReferenceCardSaid :=
  Claim7.holds_tied_plain_at .later [] [.funcs] true (true, "c882bbf18fe2638fa03ec3f0946baf73ba33234a0127255e741620561da83a79") false
    said (fun _ h => by cases h) (by kernel_rfl) (fun _ h => by cases h) rightsMatchesReference_row_tie rfl ⟨rfl, rfl⟩ (by kernel_rfl) rfl
    (fun f fn hf hfn => by
      obtain rfl : f = 3 := Option.some.inj ((show Tryd.prog.funcNamed "newswire/newswirelaw29.RightsMatchesReference" = some 3 by kernel_rfl).symm.trans hf) |>.symm
      obtain rfl : fn = Tryd.f3 := (Option.some.inj (Tryd.func3.symm.trans hfn)).symm
      exact ⟨by kernel_rfl, fun j t ht => by
        rw [Tryd.params3] at ht
        have hm : t ∈ [22, 3, 23, 23, 24, 29, 23, 23, 23] := by simpa using Array.mem_of_getElem? ht
        have hall : ([22, 3, 23, 23, 24, 29, 23, 23, 23].all fun u => !Tryd.prog.wantsStandIn u) = true := by kernel_rfl
        exact (show Tryd.prog.wantsStandIn t = false by simpa using List.all_eq_true.1 hall t hm)⟩)
    (by kernel_rfl)
#print axioms proved
end Go.Proofs.YtnabgijdbcdpmaaDoor.rightsMatchesReference
