/- What lies in SourceMonotone: the sources, the numbers, a row of truth values. -/
import Derived.Test.YticngcjfofcoiaaDoorHd
import Derived.Test.YticngcjfofcoiaaDoorMr
namespace Go.Proofs.YticngcjfofcoiaaDoor
open Go.RowKit Go.Rg Go.Proofs.YticngcjfofcoiaaDoorW.PrintWords
set_option linter.unusedVariables false
set_option linter.unusedSimpArgs false
set_option maxRecDepth 100000

/-- Twelve truth values. -/
def BoolAt (g : Nat) (S : Nat → Bool) (W : World) : Prop := ∀ i, i < 12 → W.cell? ⟨g, i, none⟩ = some (.bool (S i)) ∧ W.frozen? ⟨g, i, none⟩ = false
theorem BoolAt.next {g : Nat} {S : Nat → Bool} {W W' : World} (h : BoolAt g S W) (hb : Below W.heap.size W W') : BoolAt g S W' := fun i hi =>
  ⟨pw_cell_below hb (h i hi).1, by rw [hb.frozen (World.block_lt_of_cell? W _ (h i hi).1)]; exact (h i hi).2⟩
theorem BoolAt.put {g : Nat} {S : Nat → Bool} {W : World} (h : BoolAt g S W) {x : Nat} (hx : x < 12) : BoolAt g (setS S x) (W.setCell ⟨g, x, none⟩ (.bool true)) := fun i hi => by
  refine ⟨?_, by rw [World.frozen?_setCell]; exact (h i hi).2⟩
  by_cases e : i = x
  · subst e
    rw [cs_same (h i hi).1]
    simp [setS]
  · rw [cs_other (ad_ne (by omega)), (h i hi).1]
    simp [setS, e]
theorem bools_new {W : World} {g : Nat} (h : W.heap.size = g) : BoolAt g (fun _ => false) (W.alloc (.cells (Array.replicate 12 (.bool false)) 4)) := fun i hi => by
  have hb := heap_new (W := W) (o := .cells (Array.replicate 12 (.bool false)) 4) h
  exact ⟨cell_of hb (by rw [Array.getElem?_replicate, if_pos hi]), frozen_of hb⟩
theorem info4 : (Tryd.prog.info? 4).map (fun i => (i.zero, i.size, i.bytes)) = some (some (.bool false), 1, 1) := by kernel_rfl
theorem make12 (W : World) : (Instr.makeSlice 55 (.int .i64 12) (.int .i64 12)).run Tryd.prog W = .ok (.slice (some ⟨W.heap.size, 0, none⟩) 12 12) (W.alloc (.cells (Array.replicate 12 (.bool false)) 4)) := by
  obtain ⟨i0, hi, hzz⟩ := Option.map_eq_some_iff.1 info4
  simp only [Prod.mk.injEq] at hzz
  obtain ⟨hz0, hz1, hz2⟩ := hzz
  have hr := run_make (P := Tryd.prog) W 55 4 i0 (.bool false) Tryd.underlying55 hi hz0 .i64 .i64 12 12 (by omega) (by omega) (by rw [hz2]; decide) (by omega)
  rw [hz1] at hr
  have e : madeCells (Value.bool false).cells (Int.toNat 12 * 1) = Array.replicate 12 (.bool false) := by first | kernel_rfl | rfl | simp [madeCells, Value.cells]
  rw [e] at hr
  exact hr
/-- The state of SourceMonotone. -/
structure MNX (w : World) (g : Nat) (A : Option Addr) (c : Nat) (l : List Src) (B : Option Addr) (d : Nat) (xs : List Int) (S : Nat → Bool) (W : World) : Prop where
  below : Below w.heap.size w W
  tab : Tab W
  src : kS.R 35 W w.heap.size (fun k => k < g) (.slice A l.length c) l
  int : (Kd.int .i64).R 3 W w.heap.size (fun k => g < k) (.slice B xs.length d) xs
  bools : BoolAt g S W
  lo : w.heap.size ≤ g
  pos : 0 < w.heap.size
theorem MNX.next {w : World} {g : Nat} {A : Option Addr} {c : Nat} {l : List Src} {B : Option Addr} {d : Nat} {xs : List Int} {S : Nat → Bool} {W W' : World} (h : MNX w g A c l B d xs S W) (hb : Below W.heap.size W W') : MNX w g A c l B d xs S W' :=
  ⟨h.below.trans (hb.mono h.below.size), h.tab.next hb h.tab.pos, Kd.R_below h.src hb, Kd.R_below h.int hb, h.bools.next hb, h.lo, h.pos⟩
theorem MNX.put {w : World} {g : Nat} {A : Option Addr} {c : Nat} {l : List Src} {B : Option Addr} {d : Nat} {xs : List Int} {S : Nat → Bool} {W : World} (h : MNX w g A c l B d xs S W) {x : Nat} (hx : x < 12) : MNX w g A c l B d xs (setS S x) (W.setCell ⟨g, x, none⟩ (.bool true)) := by
  have hlo := h.lo
  have hpos := h.pos
  refine ⟨h.below.setCell (p := ⟨g, x, none⟩) h.lo _, ?_, Kd.R_far h.src (p := ⟨g, x, none⟩) (fun k hk => by show k ≠ g; omega) _, Kd.R_far h.int (p := ⟨g, x, none⟩) (fun k hk => by show k ≠ g; omega) _, h.bools.put hx, h.lo, h.pos⟩
  obtain ⟨t, ht⟩ := h.tab
  exact ⟨t, heap_set_ne (p := ⟨g, x, none⟩) _ (by show 0 ≠ g; omega) ht⟩
theorem MNX.size {w : World} {g : Nat} {A : Option Addr} {c : Nat} {l : List Src} {B : Option Addr} {d : Nat} {xs : List Int} {S : Nat → Bool} {W : World} (h : MNX w g A c l B d xs S W) : g < W.heap.size := World.block_lt_of_cell? W _ (h.bools 0 (by omega)).1
theorem MNX.srcA {w : World} {g : Nat} {A : Option Addr} {c : Nat} {l : List Src} {B : Option Addr} {d : Nat} {xs : List Int} {S : Nat → Bool} {W : World} (h : MNX w g A c l B d xs S W) (hm : MadeL l.length l) : SrcAt A c l W := by
  obtain ⟨A', c', e, hc, hC⟩ := Kd.R_reads h.src
  cases e
  exact ⟨hC, hc, made_short hm⟩
theorem MNX.intA {w : World} {g : Nat} {A : Option Addr} {c : Nat} {l : List Src} {B : Option Addr} {d : Nat} {xs : List Int} {S : Nat → Bool} {W : World} (h : MNX w g A c l B d xs S W) : IntAt B d xs W := by
  obtain ⟨A', c', e, hc, hC⟩ := Kd.R_reads h.int
  cases e
  exact ⟨hC, hc⟩
theorem IntAt.take {B : Option Addr} {d : Nat} {xs : List Int} {W : World} (h : IntAt B d xs W) {i : Nat} (hi : i ≤ xs.length) : IntAt B d (xs.take i) W := ⟨Kd.C_take h.rx hi, by have := h.cx; rw [List.length_take]; omega⟩
theorem made_callR (XA : Option Addr) (xc : Nat) (x : List (Int × Int × Int)) (w : World) (hx : Kd.C k3 w XA x.length x) :
    Calls Tryd.prog 11 #[.slice XA x.length xc] w fun e w' => ∃ (A : Option Addr) (c : Nat) (l : List Src), e = .returned (.slice A l.length c) ∧ Hid (kS.R 35 w' w.heap.size (fun k => w.heap.size ≤ k ∧ k < w'.heap.size) (.slice A l.length c) l ∧ MadeL l.length l ∧ l.length ≤ 10 ∧ Below w.heap.size w w') := by
  refine (made_any XA xc x w hx).mono ?_
  rintro e w' ⟨v, l, rfl, hR, hm, hl, hb⟩
  obtain ⟨A, c, rfl⟩ := Kd.R_slice hR
  exact ⟨A, c, l, rfl, Lib.hid ⟨Kd.R_mono (Kd.R_bound hR) (fun k hk => ⟨hk.1, hk.2.2.1⟩), hm, hl, hb⟩⟩
theorem chosen_callR (n : Nat) (hn : n ≤ 12) (m : Int) (w : World) :
    Calls Tryd.prog 12 #[.int .i64 n, .int .i64 m] w fun e w' => ∃ (B : Option Addr) (d : Nat) (xs : List Int), e = .returned (.slice B xs.length d) ∧ Hid ((Kd.int .i64).R 3 w' w.heap.size (fun k => w.heap.size ≤ k) (.slice B xs.length d) xs ∧ ChosenL n xs ∧ xs.length ≤ n ∧ Below w.heap.size w w') := by
  refine (chosen_any n hn m w).mono ?_
  rintro e w' ⟨v, l, rfl, hR, hm, hl, hb⟩
  obtain ⟨A, c, rfl⟩ := Kd.R_slice hR
  exact ⟨A, c, l, rfl, Lib.hid ⟨hR, hm, hl, hb⟩⟩
/-- Numbers of origins, as Origins answers them. -/
theorem origins_call {A : Option Addr} {c : Nat} {l : List Src} {w : World} (y : Int) (hs : SrcAt A c l w) (hT : Tab w) (hv : validS l = true) (hy : ∃ s ∈ l, s.id = y) :
    Calls Tryd.prog 18 #[.slice A l.length c, .int .i64 y] w fun e w' => ∃ (OA : Option Addr) (n oc : Nat), e = .returned (.tuple #[.slice OA n oc, .int .i64 0]) ∧ Hid ((orgL l y).length = n ∧ (Kd.int .i64).R 3 w' w.heap.size (fun k => w.heap.size ≤ k) (.slice OA n oc) ((orgL l y).map Int.ofNat) ∧ n ≤ 9223372036854775807 ∧ Below w.heap.size w w') := by
  refine (Origins_yes A c l y w hs.rl hs.short hT hv (fnd_has hy)).mono ?_
  rintro e w' ⟨v, rfl, hR, hb⟩
  have : (elems (ogL l)).filter (fromB l y.toNat) = orgL l y := by rw [orgL, if_pos ⟨hv, fnd_has hy⟩]
  rw [this] at hR
  have hR2 := hR
  obtain ⟨OA, oc, rfl, hc, hC⟩ := Kd.R_reads hR
  rw [List.length_map] at hC hR2 ⊢
  exact ⟨OA, _, oc, rfl, Lib.hid ⟨rfl, hR2, hC.2.1, hb⟩⟩
/-- How many of the first are true. -/
def cntTo (S : Nat → Bool) (i : Nat) : Nat := ((List.range i).filter S).length
theorem cntTo_succ (S : Nat → Bool) (i : Nat) : cntTo S (i + 1) = cntTo S i + if S i = true then 1 else 0 := by
  unfold cntTo
  rw [List.range_succ, List.filter_append, List.length_append, List.filter_cons]
  split <;> simp_all
theorem cntTo_le (S : Nat → Bool) (i : Nat) : cntTo S i ≤ i := by
  unfold cntTo
  exact Nat.le_trans (List.length_filter_le ..) (by simp)
theorem cntTo_count (S : Nat → Bool) (K : Nat) : (cntTo S K : Int) = Flow.count K S := Flow.filter_count K S
/-- What the rounds of SourceMonotone keep: the numbers' origins are marked. -/
def Marked (l : List Src) (xs : List Int) (S : Nat → Bool) : Prop := ∀ y ∈ xs, ∀ o ∈ orgL l y, S o = true
theorem Marked.more {l : List Src} {xs : List Int} {S : Nat → Bool} (h : Marked l xs S) (x : Nat) : Marked l xs (setS S x) := fun y hy o ho => by
  unfold setS
  rw [h y hy o ho, Bool.or_true]
noncomputable def lastN (l : List Src) (xs : List Int) (i : Nat) : Nat := if i = 0 then 0 else cntS l (xs.take (i - 1)) 0
theorem lastN_le {l : List Src} {xs : List Int} (hm : MadeL l.length l) (hl : l.length ≤ 10) (hc : ChosenL l.length xs) {i : Nat} (hi : i ≤ xs.length) : lastN l xs i ≤ cntS l (xs.take i) 0 ∧ cntS l (xs.take i) 0 ≤ lastN l xs i + 1 ∧ cntS l (xs.take i) 0 ≤ i := by
  have h3 := said_le (made_given hm hl (chosen_take hc i))
  rw [List.length_take] at h3
  unfold lastN
  split
  · rename_i h
    subst h
    exact ⟨Nat.zero_le _, by omega, by omega⟩
  · have h1 := more_step hm hl hc (i := i - 1) (by omega)
    rw [show i - 1 + 1 = i by omega] at h1
    exact ⟨h1.1, h1.2, by omega⟩
end Go.Proofs.YticngcjfofcoiaaDoor
