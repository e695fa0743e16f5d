/- What the rows' premises give the walks: the laid table, rows of three numbers. -/
import Derived.Test.YticngcjfofcoiaaDoorRows
import Derived.Test.YticngcjfofcoiaaDoorHd
import Derived.WalkKit
import Derived.ProofKit
import Derived.OpenShut
import Derived.LaidMore
import Derived.ChangeOld
import Derived.Carry
import Derived.Below
import Derived.Stop.Joined
namespace Go.Proofs.YticngcjfofcoiaaDoor
open Go.ChangeShapes Go.WideShapes Go.ChangeAt Go.RowKit Go.Proofs.YticngcjfofcoiaaDoorW.PrintWords
set_option linter.unusedVariables false
set_option linter.unusedSimpArgs false
set_option maxRecDepth 100000

def laid1 : List (String × DataW Unit) := [("math/bits.deBruijn32tab", Rows.laid_math_bits_deBruijn32tab)]
theorem own : ownKnob Tryd.prog.godebug = none := by kernel_rfl
theorem laidOut : laidOutB Tryd.prog = true := by kernel_rfl
theorem gTab : Tryd.prog.globalNamed "math/bits.deBruijn32tab" = some 0 := by kernel_rfl
theorem tTab : (Tryd.prog.globals[0]?).map (·.type) = some 103 := by kernel_rfl
theorem cells103 : Tryd.prog.cellsOf 103 = 32 := by kernel_rfl
theorem cells56 : Tryd.prog.cellsOf 56 = 3 := by kernel_rfl
theorem cells5 : Tryd.prog.cellsOf 5 = 1 := by kernel_rfl
theorem cells3 : Tryd.prog.cellsOf 3 = 1 := by kernel_rfl
theorem door_met (os : Os) (args : Array Value) : laidMetH Tryd.prog laid1 ((World.doorLaid Tryd.prog 600 os).forCall (fun _ _ => 0) ⟨#[], args, []⟩).memory :=
  laidMetH_of_parts3 (fuel := 8) (laidMet_of_run' 8 (by kernel_rfl) (by kernel_rfl)) (by kernel_rfl) (by kernel_rfl)
theorem laid_list : (Rows.laid_math_bits_deBruijn32tab : DataW Unit) = .agg (tabL.map fun (n : Nat) => .lit (.int .u8 (n : Int))) := rfl
theorem of_laid {W : World} (h : laidMetH Tryd.prog laid1 W) : Tab W := by
  have h1 : laidMet Tryd.prog laid1 W := h
  obtain ⟨ps, ⟨g, t, cs, fuel, p, q, hg, ht, hv, hd, _, _⟩, _, _⟩ := h1
  obtain rfl := Option.some.inj (gTab.symm.trans hg)
  obtain rfl := Option.some.inj (tTab.symm.trans ht)
  obtain ⟨xs, n, rfl, hx, hcl, hxl, hel⟩ := DataW.trod_array Tryd.underlying103 hd
  rw [cells103] at hcl
  have hx1 := (Prod.mk.inj hx).1
  rw [laid_list] at hx1
  have hx2 := DataW.agg.inj hx1
  have hl32 : tabL.length = 32 := rfl
  have hcs : cs = tabv := by
    have : cs.toList = tabL.map fun (n : Nat) => Value.int .u8 (n : Int) := by
      refine List.ext_getElem (by rw [hcl, List.length_map, hl32]) fun i h1 h2 => ?_
      have hi : i < 32 := by omega
      have g := hel i hi
      erw [cells5] at g
      rw [Nat.mul_one, List.drop_eq_getElem_cons h1, List.take_succ_cons, List.take_zero, List.getElem?_eq_getElem (by omega)] at g
      obtain ⟨n, e1, e2, _⟩ := DataW.trod_int Tryd.underlying5 g
      have e3 : (xs.map (·.1))[i]? = some (.lit (.int .u8 n)) := by
        rw [List.getElem?_map, List.getElem?_eq_getElem (by omega), e2]; rfl
      rw [← hx2, List.getElem?_map, List.getElem?_eq_getElem (by omega)] at e3
      have e4 := (Lit.int.inj (DataW.lit.inj (Option.some.inj e3))).2
      have e5 : cs.toList[i] = .int .u8 n := by simpa using e1
      rw [e5, List.getElem_map, ← e4]
    have h2 : cs = cs.toList.toArray := by simp
    rw [h2, this]
    rfl
  subst hcs
  unfold World.var? at hv
  rw [gTab, Option.bind_some] at hv
  split at hv
  · rename_i cs' t' fz' hh
    cases hv
    exact ⟨⟨t', fz'⟩, hh⟩
  · cases hv
/-- Rows of three numbers. -/
theorem open_row22 {H : Type} {enc : TypeId × Value → H} {W : World} {base : Nat} {sp : Nat → Bool} {held : Bool} {r : Reach} {b0 : Nat} {v : Value} {d : DataW H} {p : List MemPlace} (hv : Value.okWide Tryd.prog W r b0 22 v) (h : DataW.Trod enc Tryd.prog W base sp held 22 v d p) :
    ∃ A c x, v = .slice A (x : List (Int × Int × Int)).length c ∧ x.length ≤ c ∧ Kd.C k3 W A x.length x := by
  obtain ⟨A, len, cap, rfl⟩ := okWide_slice Tryd.underlying22 hv
  obtain ⟨fuel, hf⟩ := h
  rcases DataW.trod_slice Tryd.underlying22 hf with ⟨hcs, _⟩ | ⟨a, l, c, elems, rest, n, _, hcs, _, _, hl, hm, hlen, hel, _, _⟩
  · simp [Value.cells] at hcs
    obtain ⟨rfl, rfl, rfl⟩ := hcs
    exact ⟨none, 0, [], rfl, Nat.le_refl _, ⟨rfl, by decide, fun h => absurd h (Nat.lt_irrefl _)⟩⟩
  · simp [Value.cells] at hcs
    obtain ⟨rfl, rfl, rfl⟩ := hcs
    have each : ∀ i, i < len → ∃ t : Int × Int × Int, ∀ (j : Nat) (u : Value), [Value.int .i64 t.1, .int .i64 t.2.1, .int .i64 t.2.2][j]? = some u → W.cell? (a.add (i * 3 + j)) = some u := fun i hi => by
      have h1 := hel i hi
      rw [cells56, List.getElem?_eq_getElem (by omega), Option.bind_eq_some_iff] at h1
      obtain ⟨cs, hcs, ht⟩ := h1
      obtain ⟨_, hcl, hcc⟩ := World.cells?_some hcs
      obtain ⟨ys, m, _, _, _, hyl, hye⟩ := DataW.trod_array Tryd.underlying56 ht
      match cs, hcl, hcc, hye with
      | [c0, c1, c2], _, hcc, hye =>
        have one : ∀ (j : Nat) (u : Value), j < 3 → [c0, c1, c2][j]? = some u → DataW.trod enc Tryd.prog W base sp held m 3 [u] = ys[j]? → ∃ x, u = .int .i64 x := by
          intro j u hj hu ht
          rw [List.getElem?_eq_getElem (by omega)] at ht
          obtain ⟨x, e, _, hw⟩ := DataW.trod_int Tryd.underlying3 ht
          simp at e
          exact ⟨x, e⟩
        obtain ⟨x0, rfl⟩ := one 0 c0 (by decide) rfl (by have g := hye 0 (by decide); erw [cells3] at g; exact g)
        obtain ⟨x1, rfl⟩ := one 1 c1 (by decide) rfl (by have g := hye 1 (by decide); erw [cells3] at g; exact g)
        obtain ⟨x2, rfl⟩ := one 2 c2 (by decide) rfl (by have g := hye 2 (by decide); erw [cells3] at g; exact g)
        have plain : ∀ j, (a.add (i * 3)).add j = a.add (i * 3 + j) := fun j => by
          unfold Addr.add
          by_cases h1 : i * 3 = 0
          · simp [h1]
          · by_cases h2 : j = 0
            · simp [h1, h2]
            · rw [if_neg h1, if_neg h2, if_neg (by omega)]
              simp [Nat.add_assoc]
        refine ⟨(x0, x1, x2), fun j u hj => ?_⟩
        rw [← plain]
        match j with
        | 0 => obtain rfl := Option.some.inj hj; exact hcc 0 (by decide)
        | 1 => obtain rfl := Option.some.inj hj; exact hcc 1 (by decide)
        | 2 => obtain rfl := Option.some.inj hj; exact hcc 2 (by decide)
        | (k + 3) => simp at hj
    have hch : ∃ f : Nat → Int × Int × Int, ∀ i, i < len → ∀ (j : Nat) (u : Value), [Value.int .i64 (f i).1, .int .i64 (f i).2.1, .int .i64 (f i).2.2][j]? = some u → W.cell? (a.add (i * 3 + j)) = some u := by
      refine ⟨fun i => if h : i < len then Classical.choose (each i h) else (0, 0, 0), fun i hi => ?_⟩
      simp only [hi, dite_true]
      exact Classical.choose_spec (each i hi)
    obtain ⟨f, hf2⟩ := hch
    have hlx : ((List.range len).map f).length = len := by simp
    refine ⟨some a, cap, (List.range len).map f, by rw [hlx], by omega, ⟨rfl, by rw [hlx]; unfold maxLen at hm; omega, fun _ => ⟨a, rfl, fun j q hj => ?_⟩⟩⟩
    have hjl : j < len := by have := (List.getElem?_eq_some_iff.1 hj).1; omega
    have hq : f j = q := by
      rw [List.getElem?_map, List.getElem?_range hjl] at hj
      exact Option.some.inj hj
    have hc := hf2 j hjl
    rw [hq] at hc
    exact ⟨[.int .i64 q.1, .int .i64 q.2.1, .int .i64 q.2.2], rfl, ⟨[.int .i64 q.1], [.int .i64 q.2.1, .int .i64 q.2.2], rfl, rfl, ⟨[.int .i64 q.2.1], [.int .i64 q.2.2], rfl, rfl, rfl⟩⟩, fun i u hi => hc i u hi⟩
end Go.Proofs.YticngcjfofcoiaaDoor
