/- The walk of the law's sane. -/
import Derived.Test.YticngcjfofcoiaaDoorZe
namespace Go.Proofs.YticngcjfofcoiaaDoor
open Go.RowKit Go.Rg Go.Proofs.YticngcjfofcoiaaDoorW.PrintWords
set_option linter.unusedVariables false
set_option linter.unusedSimpArgs false
set_option maxRecDepth 100000
theorem lit_row {b : Nat} {xs : List Int} {W : World} (hl : xs.length ≤ 9223372036854775807) (h : W.heap[b]? = some (.cells (nums .i64 xs).toArray 3)) : (Kd.int .i64).C W (some ⟨b, 0, none⟩) xs.length xs := by
 have hR : (Kd.int .i64).R 3 W 0 (fun _ => True) (.slice (some ⟨b, 0, none⟩) xs.length xs.length) xs :=
  Kd.R_of_own ⟨by simp [encs], .inr ⟨b, xs.length, (nums .i64 xs).toArray, rfl, Nat.zero_le _, h, Nat.le_refl _, by simpa [maxLen] using hl, by simp [nums], by rw [List.take_of_length_le (by simp [nums])]; simp [nums, encs]⟩⟩ (fun k _ => trivial)
 obtain ⟨A, c, e, _, hC⟩ := Kd.R_reads hR
 cases e
 exact hC
structure SupAt (b : Nat) (n : Int) (WA : Option Addr) (wc n1 : Nat) (ws : List (List Int)) (CA : Option Addr) (cc n2 : Nat) (cs : List Int) (W : World) : Prop where
 blk : W.heap[b]? = some (.cells #[.int .i64 n, .slice WA n1 wc, .slice CA n2 cc] 30)
 rows : kW.C W WA n1 ws
 cut : (Kd.int .i64).C W CA n2 cs
 cutl : n2 ≤ cc
theorem SupAt.next {b : Nat} {n : Int} {WA : Option Addr} {wc n1 : Nat} {ws : List (List Int)} {CA : Option Addr} {cc n2 : Nat} {cs : List Int} {W W' : World} (h : SupAt b n WA wc n1 ws CA cc n2 cs W) (hb : Below W.heap.size W W') : SupAt b n WA wc n1 ws CA cc n2 cs W' :=
 ⟨(hb.block _ (Array.getElem?_eq_some_iff.1 h.blk).1).trans h.blk, Kd.C_below h.rows hb, Kd.C_below h.cut hb, h.cutl⟩
theorem kW_reads {W : World} {base : Nat} {ok : Nat → Prop} {v : Value} {xs : List (List Int)} (h : kW.R 26 W base ok v xs) : ∃ A c, v = .slice A xs.length c ∧ kW.C W A xs.length xs := by
 obtain ⟨A, c, e, _, hC⟩ := Kd.R_reads h
 exact ⟨A, c, e, hC⟩
theorem sup_open {l : List Src} {xs : List Int} {wo : Nat} {w w' : World} {e : Ending} (h : SupPost l xs wo w e w') : ∃ WA wc CA cc, e = .returned (.tuple #[.agg #[.int .i64 (cntS l xs wo : Nat), .slice WA (toI (waysS l xs wo)).length wc, .slice CA ((cutS l xs wo).map Int.ofNat).length cc], .int .i64 (errS l xs)]) ∧ kW.C w' WA (toI (waysS l xs wo)).length (toI (waysS l xs wo)) ∧ (Kd.int .i64).C w' CA ((cutS l xs wo).map Int.ofNat).length ((cutS l xs wo).map Int.ofNat) ∧ ((cutS l xs wo).map Int.ofNat).length ≤ cc ∧ Below w.heap.size w w' := by
 obtain ⟨wv, cv, rfl, h1, h2, hb⟩ := h
 obtain ⟨WA, wc, rfl, hw⟩ := kW_reads h1
 obtain ⟨CA, cc, rfl, hl, hc⟩ := Kd.R_reads h2
 exact ⟨WA, wc, CA, cc, rfl, hw, hc, hl, hb⟩
structure EXS (w : World) (b : Nat) (W : World) : Prop where
 below : Below w.heap.size w W
 tab : Tab W
 rl : Kd.C kS W (some ⟨b, 0, none⟩) 6 ex
theorem EXS.next {w W W' : World} {b : Nat} (h : EXS w b W) (hb : Below W.heap.size W W') : EXS w b W' :=
 ⟨h.below.trans (hb.mono h.below.size), h.tab.next hb h.tab.pos, Kd.C_below h.rl hb⟩
theorem ex_short : ∀ s ∈ ex, s.frm.length ≤ 1000 := by decide
theorem ex_row {B : Nat} {W : World} (h0 : W.heap[B]? = some (.cells #[.int .i64 0] 3)) (h1 : W.heap[B + 1]? = some (.cells #[.int .i64 0, .int .i64 1] 3)) (h2 : W.heap[B + 2]? = some (.cells #[.int .i64 5] 3)) (h3 : W.heap[B + 3]? = some (.cells #[.int .i64 4] 3))
  (h4 : W.heap[B + 4]? = some (.cells #[.int .i64 0, .int .i64 1, .slice none 0 0, .int .i64 1, .int .i64 2, .slice none 0 0, .int .i64 2, .int .i64 1, .slice (some ⟨B, 0, none⟩) 1 1, .int .i64 3, .int .i64 1, .slice (some ⟨B + 1, 0, none⟩) 2 2, .int .i64 4, .int .i64 1, .slice (some ⟨B + 2, 0, none⟩) 1 1, .int .i64 5, .int .i64 1, .slice (some ⟨B + 3, 0, none⟩) 1 1] 35)) : Kd.C kS W (some ⟨B + 4, 0, none⟩) 6 ex := by
 refine ⟨rfl, by decide, fun _ => ⟨_, rfl, fun j p hj => ?_⟩⟩
 match j with
 |0 =>
  obtain rfl : (⟨0, 1, []⟩ : Src) = p := by simpa [ex] using hj
  refine ⟨_, rfl, kS_mk (x := ⟨0, 1, []⟩) (Nat.le_refl _) (Kd.C_nil _ _), fun i u hi => ?_⟩
  match i with
  |0 => rw [add_plain]; exact cell_of h4 (by simpa [show kS.sz = 3 from rfl] using hi)
  |1 => rw [add_plain]; exact cell_of h4 (by simpa [show kS.sz = 3 from rfl] using hi)
  |2 => rw [add_plain]; exact cell_of h4 (by simpa [show kS.sz = 3 from rfl] using hi)
  |(n + 3) => simp at hi
 |1 =>
  obtain rfl : (⟨1, 2, []⟩ : Src) = p := by simpa [ex] using hj
  refine ⟨_, rfl, kS_mk (x := ⟨1, 2, []⟩) (Nat.le_refl _) (Kd.C_nil _ _), fun i u hi => ?_⟩
  match i with
  |0 => rw [add_plain]; exact cell_of h4 (by simpa [show kS.sz = 3 from rfl] using hi)
  |1 => rw [add_plain]; exact cell_of h4 (by simpa [show kS.sz = 3 from rfl] using hi)
  |2 => rw [add_plain]; exact cell_of h4 (by simpa [show kS.sz = 3 from rfl] using hi)
  |(n + 3) => simp at hi
 |2 =>
  obtain rfl : (⟨2, 1, [0]⟩ : Src) = p := by simpa [ex] using hj
  refine ⟨_, rfl, kS_mk (x := ⟨2, 1, [0]⟩) (Nat.le_refl _) (lit_row (xs := [0]) (by decide) h0), fun i u hi => ?_⟩
  match i with
  |0 => rw [add_plain]; exact cell_of h4 (by simpa [show kS.sz = 3 from rfl] using hi)
  |1 => rw [add_plain]; exact cell_of h4 (by simpa [show kS.sz = 3 from rfl] using hi)
  |2 => rw [add_plain]; exact cell_of h4 (by simpa [show kS.sz = 3 from rfl] using hi)
  |(n + 3) => simp at hi
 |3 =>
  obtain rfl : (⟨3, 1, [0, 1]⟩ : Src) = p := by simpa [ex] using hj
  refine ⟨_, rfl, kS_mk (x := ⟨3, 1, [0, 1]⟩) (Nat.le_refl _) (lit_row (xs := [0, 1]) (by decide) h1), fun i u hi => ?_⟩
  match i with
  |0 => rw [add_plain]; exact cell_of h4 (by simpa [show kS.sz = 3 from rfl] using hi)
  |1 => rw [add_plain]; exact cell_of h4 (by simpa [show kS.sz = 3 from rfl] using hi)
  |2 => rw [add_plain]; exact cell_of h4 (by simpa [show kS.sz = 3 from rfl] using hi)
  |(n + 3) => simp at hi
 |4 =>
  obtain rfl : (⟨4, 1, [5]⟩ : Src) = p := by simpa [ex] using hj
  refine ⟨_, rfl, kS_mk (x := ⟨4, 1, [5]⟩) (Nat.le_refl _) (lit_row (xs := [5]) (by decide) h2), fun i u hi => ?_⟩
  match i with
  |0 => rw [add_plain]; exact cell_of h4 (by simpa [show kS.sz = 3 from rfl] using hi)
  |1 => rw [add_plain]; exact cell_of h4 (by simpa [show kS.sz = 3 from rfl] using hi)
  |2 => rw [add_plain]; exact cell_of h4 (by simpa [show kS.sz = 3 from rfl] using hi)
  |(n + 3) => simp at hi
 |5 =>
  obtain rfl : (⟨5, 1, [4]⟩ : Src) = p := by simpa [ex] using hj
  refine ⟨_, rfl, kS_mk (x := ⟨5, 1, [4]⟩) (Nat.le_refl _) (lit_row (xs := [4]) (by decide) h3), fun i u hi => ?_⟩
  match i with
  |0 => rw [add_plain]; exact cell_of h4 (by simpa [show kS.sz = 3 from rfl] using hi)
  |1 => rw [add_plain]; exact cell_of h4 (by simpa [show kS.sz = 3 from rfl] using hi)
  |2 => rw [add_plain]; exact cell_of h4 (by simpa [show kS.sz = 3 from rfl] using hi)
  |(n + 3) => simp at hi
 |(n + 6) => simp [ex] at hj
theorem ex_lies (w : World) (hT : Tab w) {B : Nat} (hB : w.heap.size = B) : EXS w (B + 4) (((((w.alloc (.cells #[.int .i64 0] 3)).alloc (.cells #[.int .i64 0, .int .i64 1] 3)).alloc (.cells #[.int .i64 5] 3)).alloc (.cells #[.int .i64 4] 3)).alloc (.cells #[.int .i64 0, .int .i64 1, .slice none 0 0, .int .i64 1, .int .i64 2, .slice none 0 0, .int .i64 2, .int .i64 1, .slice (some ⟨B, 0, none⟩) 1 1, .int .i64 3, .int .i64 1, .slice (some ⟨B + 1, 0, none⟩) 2 2, .int .i64 4, .int .i64 1, .slice (some ⟨B + 2, 0, none⟩) 1 1, .int .i64 5, .int .i64 1, .slice (some ⟨B + 3, 0, none⟩) 1 1] 35)) := by
 have b0 := (Below.refl w.heap.size w).alloc (Nat.le_refl _) (.cells #[.int .i64 0] 3)
 have b1 := (Below.refl (w.alloc (.cells #[.int .i64 0] 3)).heap.size (w.alloc (.cells #[.int .i64 0] 3))).alloc (Nat.le_refl _) (.cells #[.int .i64 0, .int .i64 1] 3)
 have b2 := (Below.refl ((w.alloc (.cells #[.int .i64 0] 3)).alloc (.cells #[.int .i64 0, .int .i64 1] 3)).heap.size ((w.alloc (.cells #[.int .i64 0] 3)).alloc (.cells #[.int .i64 0, .int .i64 1] 3))).alloc (Nat.le_refl _) (.cells #[.int .i64 5] 3)
 have b3 := (Below.refl (((w.alloc (.cells #[.int .i64 0] 3)).alloc (.cells #[.int .i64 0, .int .i64 1] 3)).alloc (.cells #[.int .i64 5] 3)).heap.size (((w.alloc (.cells #[.int .i64 0] 3)).alloc (.cells #[.int .i64 0, .int .i64 1] 3)).alloc (.cells #[.int .i64 5] 3))).alloc (Nat.le_refl _) (.cells #[.int .i64 4] 3)
 have b4 := (Below.refl ((((w.alloc (.cells #[.int .i64 0] 3)).alloc (.cells #[.int .i64 0, .int .i64 1] 3)).alloc (.cells #[.int .i64 5] 3)).alloc (.cells #[.int .i64 4] 3)).heap.size ((((w.alloc (.cells #[.int .i64 0] 3)).alloc (.cells #[.int .i64 0, .int .i64 1] 3)).alloc (.cells #[.int .i64 5] 3)).alloc (.cells #[.int .i64 4] 3))).alloc (Nat.le_refl _) (.cells #[.int .i64 0, .int .i64 1, .slice none 0 0, .int .i64 1, .int .i64 2, .slice none 0 0, .int .i64 2, .int .i64 1, .slice (some ⟨B, 0, none⟩) 1 1, .int .i64 3, .int .i64 1, .slice (some ⟨B + 1, 0, none⟩) 2 2, .int .i64 4, .int .i64 1, .slice (some ⟨B + 2, 0, none⟩) 1 1, .int .i64 5, .int .i64 1, .slice (some ⟨B + 3, 0, none⟩) 1 1] 35)
 have z1 : (w.alloc (.cells #[.int .i64 0] 3)).heap.size = B + 1 := by simp [hB]
 have z2 : ((w.alloc (.cells #[.int .i64 0] 3)).alloc (.cells #[.int .i64 0, .int .i64 1] 3)).heap.size = B + 2 := by simp [hB]
 have z3 : (((w.alloc (.cells #[.int .i64 0] 3)).alloc (.cells #[.int .i64 0, .int .i64 1] 3)).alloc (.cells #[.int .i64 5] 3)).heap.size = B + 3 := by simp [hB]
 have z4 : ((((w.alloc (.cells #[.int .i64 0] 3)).alloc (.cells #[.int .i64 0, .int .i64 1] 3)).alloc (.cells #[.int .i64 5] 3)).alloc (.cells #[.int .i64 4] 3)).heap.size = B + 4 := by simp [hB]
 have k0 : (((((w.alloc (.cells #[.int .i64 0] 3)).alloc (.cells #[.int .i64 0, .int .i64 1] 3)).alloc (.cells #[.int .i64 5] 3)).alloc (.cells #[.int .i64 4] 3)).alloc (.cells #[.int .i64 0, .int .i64 1, .slice none 0 0, .int .i64 1, .int .i64 2, .slice none 0 0, .int .i64 2, .int .i64 1, .slice (some ⟨B, 0, none⟩) 1 1, .int .i64 3, .int .i64 1, .slice (some ⟨B + 1, 0, none⟩) 2 2, .int .i64 4, .int .i64 1, .slice (some ⟨B + 2, 0, none⟩) 1 1, .int .i64 5, .int .i64 1, .slice (some ⟨B + 3, 0, none⟩) 1 1] 35)).heap[B]? = some (.cells #[.int .i64 0] 3) := by rw [b4.block (B) (by omega), b3.block (B) (by omega), b2.block (B) (by omega), b1.block (B) (by omega)]; exact heap_new hB
 have k1 : (((((w.alloc (.cells #[.int .i64 0] 3)).alloc (.cells #[.int .i64 0, .int .i64 1] 3)).alloc (.cells #[.int .i64 5] 3)).alloc (.cells #[.int .i64 4] 3)).alloc (.cells #[.int .i64 0, .int .i64 1, .slice none 0 0, .int .i64 1, .int .i64 2, .slice none 0 0, .int .i64 2, .int .i64 1, .slice (some ⟨B, 0, none⟩) 1 1, .int .i64 3, .int .i64 1, .slice (some ⟨B + 1, 0, none⟩) 2 2, .int .i64 4, .int .i64 1, .slice (some ⟨B + 2, 0, none⟩) 1 1, .int .i64 5, .int .i64 1, .slice (some ⟨B + 3, 0, none⟩) 1 1] 35)).heap[B + 1]? = some (.cells #[.int .i64 0, .int .i64 1] 3) := by rw [b4.block (B + 1) (by omega), b3.block (B + 1) (by omega), b2.block (B + 1) (by omega)]; exact heap_new z1
 have k2 : (((((w.alloc (.cells #[.int .i64 0] 3)).alloc (.cells #[.int .i64 0, .int .i64 1] 3)).alloc (.cells #[.int .i64 5] 3)).alloc (.cells #[.int .i64 4] 3)).alloc (.cells #[.int .i64 0, .int .i64 1, .slice none 0 0, .int .i64 1, .int .i64 2, .slice none 0 0, .int .i64 2, .int .i64 1, .slice (some ⟨B, 0, none⟩) 1 1, .int .i64 3, .int .i64 1, .slice (some ⟨B + 1, 0, none⟩) 2 2, .int .i64 4, .int .i64 1, .slice (some ⟨B + 2, 0, none⟩) 1 1, .int .i64 5, .int .i64 1, .slice (some ⟨B + 3, 0, none⟩) 1 1] 35)).heap[B + 2]? = some (.cells #[.int .i64 5] 3) := by rw [b4.block (B + 2) (by omega), b3.block (B + 2) (by omega)]; exact heap_new z2
 have k3 : (((((w.alloc (.cells #[.int .i64 0] 3)).alloc (.cells #[.int .i64 0, .int .i64 1] 3)).alloc (.cells #[.int .i64 5] 3)).alloc (.cells #[.int .i64 4] 3)).alloc (.cells #[.int .i64 0, .int .i64 1, .slice none 0 0, .int .i64 1, .int .i64 2, .slice none 0 0, .int .i64 2, .int .i64 1, .slice (some ⟨B, 0, none⟩) 1 1, .int .i64 3, .int .i64 1, .slice (some ⟨B + 1, 0, none⟩) 2 2, .int .i64 4, .int .i64 1, .slice (some ⟨B + 2, 0, none⟩) 1 1, .int .i64 5, .int .i64 1, .slice (some ⟨B + 3, 0, none⟩) 1 1] 35)).heap[B + 3]? = some (.cells #[.int .i64 4] 3) := by rw [b4.block (B + 3) (by omega)]; exact heap_new z3
 have k4 : (((((w.alloc (.cells #[.int .i64 0] 3)).alloc (.cells #[.int .i64 0, .int .i64 1] 3)).alloc (.cells #[.int .i64 5] 3)).alloc (.cells #[.int .i64 4] 3)).alloc (.cells #[.int .i64 0, .int .i64 1, .slice none 0 0, .int .i64 1, .int .i64 2, .slice none 0 0, .int .i64 2, .int .i64 1, .slice (some ⟨B, 0, none⟩) 1 1, .int .i64 3, .int .i64 1, .slice (some ⟨B + 1, 0, none⟩) 2 2, .int .i64 4, .int .i64 1, .slice (some ⟨B + 2, 0, none⟩) 1 1, .int .i64 5, .int .i64 1, .slice (some ⟨B + 3, 0, none⟩) 1 1] 35)).heap[B + 4]? = some (.cells #[.int .i64 0, .int .i64 1, .slice none 0 0, .int .i64 1, .int .i64 2, .slice none 0 0, .int .i64 2, .int .i64 1, .slice (some ⟨B, 0, none⟩) 1 1, .int .i64 3, .int .i64 1, .slice (some ⟨B + 1, 0, none⟩) 2 2, .int .i64 4, .int .i64 1, .slice (some ⟨B + 2, 0, none⟩) 1 1, .int .i64 5, .int .i64 1, .slice (some ⟨B + 3, 0, none⟩) 1 1] 35) := heap_new z4
 have hb : Below w.heap.size w (((((w.alloc (.cells #[.int .i64 0] 3)).alloc (.cells #[.int .i64 0, .int .i64 1] 3)).alloc (.cells #[.int .i64 5] 3)).alloc (.cells #[.int .i64 4] 3)).alloc (.cells #[.int .i64 0, .int .i64 1, .slice none 0 0, .int .i64 1, .int .i64 2, .slice none 0 0, .int .i64 2, .int .i64 1, .slice (some ⟨B, 0, none⟩) 1 1, .int .i64 3, .int .i64 1, .slice (some ⟨B + 1, 0, none⟩) 2 2, .int .i64 4, .int .i64 1, .slice (some ⟨B + 2, 0, none⟩) 1 1, .int .i64 5, .int .i64 1, .slice (some ⟨B + 3, 0, none⟩) 1 1] 35)) := (((b0.trans (b1.mono (by omega))).trans (b2.mono (by omega))).trans (b3.mono (by omega))).trans (b4.mono (by omega))
 exact ⟨hb, hT.next hb hT.pos, ex_row k0 k1 k2 k3 k4⟩
theorem ilit (W : World) (xs : List Int) (hl : xs.length ≤ 9223372036854775807) : Below W.heap.size W (W.alloc (.cells (nums .i64 xs).toArray 3)) ∧ (Kd.int .i64).C (W.alloc (.cells (nums .i64 xs).toArray 3)) (some ⟨W.heap.size, 0, none⟩) xs.length xs :=
 ⟨(Below.refl _ _).alloc (Nat.le_refl _) _, lit_row hl (heap_new rfl)⟩
theorem box_at {W : World} {n : Int} {WA : Option Addr} {wc n1 : Nat} {ws : List (List Int)} {CA : Option Addr} {cc n2 : Nat} {cs : List Int} (h1 : kW.C W WA n1 ws) (h2 : (Kd.int .i64).C W CA n2 cs) (h3 : n2 ≤ cc) :
  Below W.heap.size W (W.alloc (.cells #[.int .i64 n, .slice WA n1 wc, .slice CA n2 cc] 30)) ∧ SupAt W.heap.size n WA wc n1 ws CA cc n2 cs (W.alloc (.cells #[.int .i64 n, .slice WA n1 wc, .slice CA n2 cc] 30)) :=
 have hb := (Below.refl W.heap.size W).alloc (Nat.le_refl _) (.cells #[.int .i64 n, .slice WA n1 wc, .slice CA n2 cc] 30)
 ⟨hb, heap_new rfl, Kd.C_below h1 hb, Kd.C_below h2 hb, h3⟩
theorem ex_sup {w W : World} {b : Nat} (h : EXS w b W) (c d : Nat) (XA : Option Addr) (xs : List Int) (hx : (Kd.int .i64).C W XA xs.length xs) {n : Nat} {ws : List (List Nat)} {cs : List Nat} {er : Int} (hv : cntS ex xs 0 = n ∧ waysS ex xs 0 = ws ∧ cutS ex xs 0 = cs ∧ errS ex xs = er) {n1 n2 : Nat} {ws' : List (List Int)} {cs' : List Int} (e1 : toI ws = ws') (e2 : cs.map Int.ofNat = cs') (e3 : ws'.length = n1) (e4 : cs'.length = n2) :
  Calls Tryd.prog 13 #[.slice (some ⟨b, 0, none⟩) 6 c, .slice XA xs.length d] W fun e w' => ∃ WA wc CA cc, e = .returned (.tuple #[.agg #[.int .i64 n, .slice WA n1 wc, .slice CA n2 cc], .int .i64 er]) ∧ kW.C w' WA n1 ws' ∧ (Kd.int .i64).C w' CA n2 cs' ∧ n2 ≤ cc ∧ Below W.heap.size W w' := by
 obtain ⟨rfl, rfl, rfl, rfl⟩ := hv
 subst e1
 subst e2
 subst e3
 subst e4
 exact (Support_any (some ⟨b, 0, none⟩) c ex XA d xs W h.rl ex_short hx h.tab).mono fun e w' hp => sup_open hp
theorem ex_named {w W : World} {b : Nat} (h : EXS w b W) (c d : Nat) (XA : Option Addr) (xs : List Int) (hx : (Kd.int .i64).C W XA xs.length xs) {n : Nat} {er : Int} (hv : cntS ex xs 2 = n ∧ errS ex xs = er) :
  Calls Tryd.prog 14 #[.slice (some ⟨b, 0, none⟩) 6 c, .slice XA xs.length d] W fun e w' => ∃ (X : Option Addr) (m p : Nat) (Y : Option Addr) (k q : Nat), e = .returned (.tuple #[.agg #[.int .i64 n, .slice X m p, .slice Y k q], .int .i64 er]) ∧ Below W.heap.size W w' := by
 obtain ⟨rfl, rfl⟩ := hv
 refine (Named_any (some ⟨b, 0, none⟩) c ex XA d xs W h.rl ex_short hx h.tab).mono fun e w' hp => ?_
 rw [ex_wo] at hp
 obtain ⟨WA, wc, CA, cc, e1, _, _, _, hb⟩ := sup_open hp
 exact ⟨_, _, _, _, _, _, e1, hb⟩
theorem ex_some {w W : World} {b : Nat} (h : EXS w b W) (c d : Nat) (XA : Option Addr) (xs : List Int) (hx : (Kd.int .i64).C W XA xs.length xs) {er : Int} (hv : errS ex xs = er) :
  Calls Tryd.prog 13 #[.slice (some ⟨b, 0, none⟩) 6 c, .slice XA xs.length d] W fun e w' => ∃ (n : Int) (X : Option Addr) (m p : Nat) (Y : Option Addr) (k q : Nat), e = .returned (.tuple #[.agg #[.int .i64 n, .slice X m p, .slice Y k q], .int .i64 er]) ∧ Below W.heap.size W w' := by
 obtain rfl := hv
 refine (Support_any (some ⟨b, 0, none⟩) c ex XA d xs W h.rl ex_short hx h.tab).mono fun e w' hp => ?_
 obtain ⟨WA, wc, CA, cc, e1, _, _, _, hb⟩ := sup_open hp
 exact ⟨_, _, _, _, _, _, _, e1, hb⟩
theorem ex_count {w W : World} {b : Nat} (h : EXS w b W) (c d : Nat) (XA : Option Addr) (xs : List Int) (hx : (Kd.int .i64).C W XA xs.length xs) {n : Nat} {er : Int} (hv : cntS ex xs 0 = n ∧ errS ex xs = er) :
  Calls Tryd.prog 13 #[.slice (some ⟨b, 0, none⟩) 6 c, .slice XA xs.length d] W fun e w' => ∃ (X : Option Addr) (m p : Nat) (Y : Option Addr) (k q : Nat), e = .returned (.tuple #[.agg #[.int .i64 n, .slice X m p, .slice Y k q], .int .i64 er]) ∧ Below W.heap.size W w' := by
 obtain ⟨rfl, rfl⟩ := hv
 refine (Support_any (some ⟨b, 0, none⟩) c ex XA d xs W h.rl ex_short hx h.tab).mono fun e w' hp => ?_
 obtain ⟨WA, wc, CA, cc, e1, _, _, _, hb⟩ := sup_open hp
 exact ⟨_, _, _, _, _, _, e1, hb⟩
theorem ex_orig {w W : World} {b : Nat} (h : EXS w b W) (c : Nat) (x : Int) {os : List Nat} (hv : orgL ex x = os) (h1 : (fndS ex x).isSome = true) {n : Nat} {os' : List Int} (e1 : os.map Int.ofNat = os') (e2 : os'.length = n) :
  Calls Tryd.prog 18 #[.slice (some ⟨b, 0, none⟩) 6 c, .int .i64 x] W fun e w' => ∃ OA oc, e = .returned (.tuple #[.slice OA n oc, .int .i64 0]) ∧ (Kd.int .i64).C w' OA n os' ∧ n ≤ oc ∧ Below W.heap.size W w' := by
 subst e1
 subst e2
 refine (Origins_yes (some ⟨b, 0, none⟩) c ex x W h.rl ex_short h.tab ex_valid h1).mono fun e w' hp => ?_
 obtain ⟨v, rfl, hR, hb⟩ := hp
 have : (elems (ogL ex)).filter (fromB ex x.toNat) = os := by rw [← hv, orgL, if_pos ⟨ex_valid, h1⟩]
 rw [this] at hR
 obtain ⟨OA, oc, rfl, hl, hC⟩ := Kd.R_reads hR
 exact ⟨OA, oc, rfl, hC, hl, hb⟩
theorem ex_find3 {w W : World} {b : Nat} (h : EXS w b W) (c : Nat) : Calls Tryd.prog 15 #[.slice (some ⟨b, 0, none⟩) 6 c, .int .i64 3] W fun e w' => ∃ FA fc, e = .returned (.tuple #[.agg #[.int .i64 3, .int .i64 1, .slice FA 2 fc], .bool true]) ∧ Below W.heap.size W w' := by
 refine (find_any (some ⟨b, 0, none⟩) c ex 3 W h.rl ex_short).mono fun e w' hp => ?_
 unfold FindPost at hp
 rw [ex_find.1] at hp
 obtain ⟨v, rfl, hR, hb⟩ := hp
 obtain ⟨FA, fc, rfl, hl, hC⟩ := Kd.R_reads hR
 exact ⟨FA, fc, rfl, hb⟩
theorem ex_find7 {w W : World} {b : Nat} (h : EXS w b W) (c : Nat) : Calls Tryd.prog 15 #[.slice (some ⟨b, 0, none⟩) 6 c, .int .i64 7] W fun e w' => ∃ FA fc, e = .returned (.tuple #[.agg #[.int .i64 0, .int .i64 0, .slice FA 0 fc], .bool false]) ∧ Below W.heap.size W w' := by
 refine (find_any (some ⟨b, 0, none⟩) c ex 7 W h.rl ex_short).mono fun e w' hp => ?_
 unfold FindPost at hp
 rw [ex_find.2] at hp
 obtain ⟨v, rfl, hR, hb⟩ := hp
 obtain ⟨FA, fc, rfl, hl, hC⟩ := Kd.R_reads hR
 exact ⟨FA, fc, rfl, hb⟩
theorem row_two {b : Nat} {W : World} {A1 A2 : Option Addr} {c1 c2 n1 n2 : Nat} {x1 x2 : List Int} (h : W.heap[b]? = some (.cells #[.slice A1 n1 c1, .slice A2 n2 c2] 26)) (h1 : (Kd.int .i64).C W A1 n1 x1) (hl1 : n1 ≤ c1) (h2 : (Kd.int .i64).C W A2 n2 x2) (hl2 : n2 ≤ c2) : kW.C W (some ⟨b, 0, none⟩) 2 [x1, x2] := by
 refine ⟨rfl, by decide, fun _ => ⟨_, rfl, fun j p hj => ?_⟩⟩
 match j with
 |0 =>
  obtain rfl : x1 = p := by simpa using hj
  have e := h1.1
  subst e
  refine ⟨_, rfl, ⟨A1, c1, rfl, hl1, h1⟩, fun i u hi => ?_⟩
  match i with
  |0 => rw [add_plain]; exact cell_of h (by simpa [show kW.sz = 1 from rfl] using hi)
  |(n + 1) => simp at hi
 |1 =>
  obtain rfl : x2 = p := by simpa using hj
  have e := h2.1
  subst e
  refine ⟨_, rfl, ⟨A2, c2, rfl, hl2, h2⟩, fun i u hi => ?_⟩
  match i with
  |0 => rw [add_plain]; exact cell_of h (by simpa [show kW.sz = 1 from rfl] using hi)
  |(n + 1) => simp at hi
 |(n + 2) => simp at hj
theorem row_one {b : Nat} {W : World} {A1 : Option Addr} {c1 n1 : Nat} {x1 : List Int} (h : W.heap[b]? = some (.cells #[.slice A1 n1 c1] 26)) (h1 : (Kd.int .i64).C W A1 n1 x1) (hl1 : n1 ≤ c1) : kW.C W (some ⟨b, 0, none⟩) 1 [x1] := by
 refine ⟨rfl, by decide, fun _ => ⟨_, rfl, fun j p hj => ?_⟩⟩
 match j with
 |0 =>
  obtain rfl : x1 = p := by simpa using hj
  have e := h1.1
  subst e
  refine ⟨_, rfl, ⟨A1, c1, rfl, hl1, h1⟩, fun i u hi => ?_⟩
  match i with
  |0 => rw [add_plain]; exact cell_of h (by simpa [show kW.sz = 1 from rfl] using hi)
  |(n + 1) => simp at hi
 |(n + 1) => simp at hj
theorem want_lies (w : World) {B : Nat} (hB : w.heap.size = B) : Below w.heap.size w (((((w.alloc (.cells #[.int .i64 0, .int .i64 2] 3)).alloc (.cells #[.int .i64 1, .int .i64 3] 3)).alloc (.cells #[.slice (some ⟨B, 0, none⟩) 2 2, .slice (some ⟨B + 1, 0, none⟩) 2 2] 26)).alloc (.cells #[.int .i64 0, .int .i64 1] 3)).alloc (.cells #[.int .i64 2, .slice (some ⟨B + 2, 0, none⟩) 2 2, .slice (some ⟨B + 3, 0, none⟩) 2 2] 30)) ∧ SupAt (B + 4) 2 (some ⟨B + 2, 0, none⟩) 2 2 [[0, 2], [1, 3]] (some ⟨B + 3, 0, none⟩) 2 2 [0, 1] (((((w.alloc (.cells #[.int .i64 0, .int .i64 2] 3)).alloc (.cells #[.int .i64 1, .int .i64 3] 3)).alloc (.cells #[.slice (some ⟨B, 0, none⟩) 2 2, .slice (some ⟨B + 1, 0, none⟩) 2 2] 26)).alloc (.cells #[.int .i64 0, .int .i64 1] 3)).alloc (.cells #[.int .i64 2, .slice (some ⟨B + 2, 0, none⟩) 2 2, .slice (some ⟨B + 3, 0, none⟩) 2 2] 30)) := by
 have b0 := (Below.refl w.heap.size w).alloc (Nat.le_refl _) (.cells #[.int .i64 0, .int .i64 2] 3)
 have b1 := (Below.refl (w.alloc (.cells #[.int .i64 0, .int .i64 2] 3)).heap.size (w.alloc (.cells #[.int .i64 0, .int .i64 2] 3))).alloc (Nat.le_refl _) (.cells #[.int .i64 1, .int .i64 3] 3)
 have b2 := (Below.refl ((w.alloc (.cells #[.int .i64 0, .int .i64 2] 3)).alloc (.cells #[.int .i64 1, .int .i64 3] 3)).heap.size ((w.alloc (.cells #[.int .i64 0, .int .i64 2] 3)).alloc (.cells #[.int .i64 1, .int .i64 3] 3))).alloc (Nat.le_refl _) (.cells #[.slice (some ⟨B, 0, none⟩) 2 2, .slice (some ⟨B + 1, 0, none⟩) 2 2] 26)
 have b3 := (Below.refl (((w.alloc (.cells #[.int .i64 0, .int .i64 2] 3)).alloc (.cells #[.int .i64 1, .int .i64 3] 3)).alloc (.cells #[.slice (some ⟨B, 0, none⟩) 2 2, .slice (some ⟨B + 1, 0, none⟩) 2 2] 26)).heap.size (((w.alloc (.cells #[.int .i64 0, .int .i64 2] 3)).alloc (.cells #[.int .i64 1, .int .i64 3] 3)).alloc (.cells #[.slice (some ⟨B, 0, none⟩) 2 2, .slice (some ⟨B + 1, 0, none⟩) 2 2] 26))).alloc (Nat.le_refl _) (.cells #[.int .i64 0, .int .i64 1] 3)
 have b4 := (Below.refl ((((w.alloc (.cells #[.int .i64 0, .int .i64 2] 3)).alloc (.cells #[.int .i64 1, .int .i64 3] 3)).alloc (.cells #[.slice (some ⟨B, 0, none⟩) 2 2, .slice (some ⟨B + 1, 0, none⟩) 2 2] 26)).alloc (.cells #[.int .i64 0, .int .i64 1] 3)).heap.size ((((w.alloc (.cells #[.int .i64 0, .int .i64 2] 3)).alloc (.cells #[.int .i64 1, .int .i64 3] 3)).alloc (.cells #[.slice (some ⟨B, 0, none⟩) 2 2, .slice (some ⟨B + 1, 0, none⟩) 2 2] 26)).alloc (.cells #[.int .i64 0, .int .i64 1] 3))).alloc (Nat.le_refl _) (.cells #[.int .i64 2, .slice (some ⟨B + 2, 0, none⟩) 2 2, .slice (some ⟨B + 3, 0, none⟩) 2 2] 30)
 have z1 : (w.alloc (.cells #[.int .i64 0, .int .i64 2] 3)).heap.size = B + 1 := by simp [hB]
 have z2 : ((w.alloc (.cells #[.int .i64 0, .int .i64 2] 3)).alloc (.cells #[.int .i64 1, .int .i64 3] 3)).heap.size = B + 2 := by simp [hB]
 have z3 : (((w.alloc (.cells #[.int .i64 0, .int .i64 2] 3)).alloc (.cells #[.int .i64 1, .int .i64 3] 3)).alloc (.cells #[.slice (some ⟨B, 0, none⟩) 2 2, .slice (some ⟨B + 1, 0, none⟩) 2 2] 26)).heap.size = B + 3 := by simp [hB]
 have z4 : ((((w.alloc (.cells #[.int .i64 0, .int .i64 2] 3)).alloc (.cells #[.int .i64 1, .int .i64 3] 3)).alloc (.cells #[.slice (some ⟨B, 0, none⟩) 2 2, .slice (some ⟨B + 1, 0, none⟩) 2 2] 26)).alloc (.cells #[.int .i64 0, .int .i64 1] 3)).heap.size = B + 4 := by simp [hB]
 have k0 : (((((w.alloc (.cells #[.int .i64 0, .int .i64 2] 3)).alloc (.cells #[.int .i64 1, .int .i64 3] 3)).alloc (.cells #[.slice (some ⟨B, 0, none⟩) 2 2, .slice (some ⟨B + 1, 0, none⟩) 2 2] 26)).alloc (.cells #[.int .i64 0, .int .i64 1] 3)).alloc (.cells #[.int .i64 2, .slice (some ⟨B + 2, 0, none⟩) 2 2, .slice (some ⟨B + 3, 0, none⟩) 2 2] 30)).heap[B]? = some (.cells #[.int .i64 0, .int .i64 2] 3) := by rw [b4.block (B) (by omega), b3.block (B) (by omega), b2.block (B) (by omega), b1.block (B) (by omega)]; exact heap_new hB
 have k1 : (((((w.alloc (.cells #[.int .i64 0, .int .i64 2] 3)).alloc (.cells #[.int .i64 1, .int .i64 3] 3)).alloc (.cells #[.slice (some ⟨B, 0, none⟩) 2 2, .slice (some ⟨B + 1, 0, none⟩) 2 2] 26)).alloc (.cells #[.int .i64 0, .int .i64 1] 3)).alloc (.cells #[.int .i64 2, .slice (some ⟨B + 2, 0, none⟩) 2 2, .slice (some ⟨B + 3, 0, none⟩) 2 2] 30)).heap[B + 1]? = some (.cells #[.int .i64 1, .int .i64 3] 3) := by rw [b4.block (B + 1) (by omega), b3.block (B + 1) (by omega), b2.block (B + 1) (by omega)]; exact heap_new z1
 have k2 : (((((w.alloc (.cells #[.int .i64 0, .int .i64 2] 3)).alloc (.cells #[.int .i64 1, .int .i64 3] 3)).alloc (.cells #[.slice (some ⟨B, 0, none⟩) 2 2, .slice (some ⟨B + 1, 0, none⟩) 2 2] 26)).alloc (.cells #[.int .i64 0, .int .i64 1] 3)).alloc (.cells #[.int .i64 2, .slice (some ⟨B + 2, 0, none⟩) 2 2, .slice (some ⟨B + 3, 0, none⟩) 2 2] 30)).heap[B + 2]? = some (.cells #[.slice (some ⟨B, 0, none⟩) 2 2, .slice (some ⟨B + 1, 0, none⟩) 2 2] 26) := by rw [b4.block (B + 2) (by omega), b3.block (B + 2) (by omega)]; exact heap_new z2
 have k3 : (((((w.alloc (.cells #[.int .i64 0, .int .i64 2] 3)).alloc (.cells #[.int .i64 1, .int .i64 3] 3)).alloc (.cells #[.slice (some ⟨B, 0, none⟩) 2 2, .slice (some ⟨B + 1, 0, none⟩) 2 2] 26)).alloc (.cells #[.int .i64 0, .int .i64 1] 3)).alloc (.cells #[.int .i64 2, .slice (some ⟨B + 2, 0, none⟩) 2 2, .slice (some ⟨B + 3, 0, none⟩) 2 2] 30)).heap[B + 3]? = some (.cells #[.int .i64 0, .int .i64 1] 3) := by rw [b4.block (B + 3) (by omega)]; exact heap_new z3
 have k4 : (((((w.alloc (.cells #[.int .i64 0, .int .i64 2] 3)).alloc (.cells #[.int .i64 1, .int .i64 3] 3)).alloc (.cells #[.slice (some ⟨B, 0, none⟩) 2 2, .slice (some ⟨B + 1, 0, none⟩) 2 2] 26)).alloc (.cells #[.int .i64 0, .int .i64 1] 3)).alloc (.cells #[.int .i64 2, .slice (some ⟨B + 2, 0, none⟩) 2 2, .slice (some ⟨B + 3, 0, none⟩) 2 2] 30)).heap[B + 4]? = some (.cells #[.int .i64 2, .slice (some ⟨B + 2, 0, none⟩) 2 2, .slice (some ⟨B + 3, 0, none⟩) 2 2] 30) := heap_new z4
 exact ⟨((((b0.trans (b1.mono (by omega))).trans (b2.mono (by omega))).trans (b3.mono (by omega))).trans (b4.mono (by omega))), k4, row_two k2 (lit_row (xs := [0, 2]) (by decide) k0) (Nat.le_refl _) (lit_row (xs := [1, 3]) (by decide) k1) (Nat.le_refl _), lit_row (xs := [0, 1]) (by decide) k3, Nat.le_refl _⟩
theorem one_lies (w : World) {B : Nat} (hB : w.heap.size = B) : Below w.heap.size w (((w.alloc (.cells #[.int .i64 0] 3)).alloc (.cells #[.slice (some ⟨B, 0, none⟩) 1 1] 26)).alloc (.cells #[.int .i64 0] 3)) ∧ kW.C (((w.alloc (.cells #[.int .i64 0] 3)).alloc (.cells #[.slice (some ⟨B, 0, none⟩) 1 1] 26)).alloc (.cells #[.int .i64 0] 3)) (some ⟨B + 1, 0, none⟩) 1 [[0]] ∧ (Kd.int .i64).C (((w.alloc (.cells #[.int .i64 0] 3)).alloc (.cells #[.slice (some ⟨B, 0, none⟩) 1 1] 26)).alloc (.cells #[.int .i64 0] 3)) (some ⟨B + 2, 0, none⟩) 1 [0] := by
 have b0 := (Below.refl w.heap.size w).alloc (Nat.le_refl _) (.cells #[.int .i64 0] 3)
 have b1 := (Below.refl (w.alloc (.cells #[.int .i64 0] 3)).heap.size (w.alloc (.cells #[.int .i64 0] 3))).alloc (Nat.le_refl _) (.cells #[.slice (some ⟨B, 0, none⟩) 1 1] 26)
 have b2 := (Below.refl ((w.alloc (.cells #[.int .i64 0] 3)).alloc (.cells #[.slice (some ⟨B, 0, none⟩) 1 1] 26)).heap.size ((w.alloc (.cells #[.int .i64 0] 3)).alloc (.cells #[.slice (some ⟨B, 0, none⟩) 1 1] 26))).alloc (Nat.le_refl _) (.cells #[.int .i64 0] 3)
 have z1 : (w.alloc (.cells #[.int .i64 0] 3)).heap.size = B + 1 := by simp [hB]
 have z2 : ((w.alloc (.cells #[.int .i64 0] 3)).alloc (.cells #[.slice (some ⟨B, 0, none⟩) 1 1] 26)).heap.size = B + 2 := by simp [hB]
 have k0 : (((w.alloc (.cells #[.int .i64 0] 3)).alloc (.cells #[.slice (some ⟨B, 0, none⟩) 1 1] 26)).alloc (.cells #[.int .i64 0] 3)).heap[B]? = some (.cells #[.int .i64 0] 3) := by rw [b2.block (B) (by omega), b1.block (B) (by omega)]; exact heap_new hB
 have k1 : (((w.alloc (.cells #[.int .i64 0] 3)).alloc (.cells #[.slice (some ⟨B, 0, none⟩) 1 1] 26)).alloc (.cells #[.int .i64 0] 3)).heap[B + 1]? = some (.cells #[.slice (some ⟨B, 0, none⟩) 1 1] 26) := by rw [b2.block (B + 1) (by omega)]; exact heap_new z1
 have k2 : (((w.alloc (.cells #[.int .i64 0] 3)).alloc (.cells #[.slice (some ⟨B, 0, none⟩) 1 1] 26)).alloc (.cells #[.int .i64 0] 3)).heap[B + 2]? = some (.cells #[.int .i64 0] 3) := heap_new z2
 exact ⟨((b0.trans (b1.mono (by omega))).trans (b2.mono (by omega))), row_one k1 (lit_row (xs := [0]) (by decide) k0) (Nat.le_refl _), lit_row (xs := [0]) (by decide) k2⟩
set_option maxHeartbeats 4000000 in
theorem sane_any (w : World) (hT : Tab w) : Calls Tryd.prog 10 #[] w fun e w' => e = .returned (.bool true) ∧ Below w.heap.size w w' := by
 obtain ⟨B, hB⟩ : ∃ b, w.heap.size = b := ⟨_, rfl⟩
 have hE := ex_lies w hT hB
 obtain ⟨we, hwe⟩ : ∃ we, (((((w.alloc (.cells #[.int .i64 0] 3)).alloc (.cells #[.int .i64 0, .int .i64 1] 3)).alloc (.cells #[.int .i64 5] 3)).alloc (.cells #[.int .i64 4] 3)).alloc (.cells #[.int .i64 0, .int .i64 1, .slice none 0 0, .int .i64 1, .int .i64 2, .slice none 0 0, .int .i64 2, .int .i64 1, .slice (some ⟨B, 0, none⟩) 1 1, .int .i64 3, .int .i64 1, .slice (some ⟨B + 1, 0, none⟩) 2 2, .int .i64 4, .int .i64 1, .slice (some ⟨B + 2, 0, none⟩) 1 1, .int .i64 5, .int .i64 1, .slice (some ⟨B + 3, 0, none⟩) 1 1] 35)) = we := ⟨_, rfl⟩
 rw [hwe] at hE
 have HE := Lib.hid hE; clear hE hT
 go_enter Tryd.func10, Tryd.ntmps10
 have hl := ilit we [2, 3] (by simp)
 go_wp2_with fail
 refine (ex_sup (HE.out.next hl.1) 6 2 _ [2, 3] hl.2 ex_a (n1 := 2) (ws' := [[0, 2], [1, 3]]) (n2 := 2) (cs' := [0, 1]) rfl rfl rfl rfl).mono ?_
 rintro e w1 ⟨WA1, wc1, CA1, cc1, rfl, hw, hc, hcl, hb⟩
 have HB := Lib.hid (hl.1.trans (hb.mono hl.1.size)); clear hl hb
 have HE_ := Lib.hid (HE.out.next HB.out); clear HE; have HE := HE_; clear HE_
 clear HB
 have HR1 := Lib.hid (And.intro hw (And.intro hc hcl)); clear hw hc hcl
 obtain ⟨ba, hba⟩ : ∃ b, w1.heap.size = b := ⟨_, rfl⟩
 have hbx := box_at (n := 2) (wc := wc1) HR1.out.1 HR1.out.2.1 HR1.out.2.2
 have hb := hbx.1
 have hbx := hbx.2
 rw [hba] at hbx
 obtain ⟨w2, hw2⟩ : ∃ W2, w1.alloc (.cells #[.int .i64 2, .slice WA1 2 wc1, .slice CA1 2 cc1] 30) = W2 := ⟨_, rfl⟩
 rw [hw2] at hbx hb
 have HB := Lib.hid hb; clear hb
 have HE_ := Lib.hid (HE.out.next HB.out); clear HE; have HE := HE_; clear HE_
 clear HB
 have HSA := Lib.hid hbx; clear hbx
 have hl := ilit w2 [0, 2] (by simp)
 go_wp2_with fail
 refine (ex_sup (HE.out.next hl.1) 6 2 _ [0, 2] hl.2 ex_b (n1 := 1) (ws' := [[0]]) (n2 := 1) (cs' := [0]) rfl rfl rfl rfl).mono ?_
 rintro e w3 ⟨WA2, wc2, CA2, cc2, rfl, hw, hc, hcl, hb⟩
 have HB := Lib.hid (hl.1.trans (hb.mono hl.1.size)); clear hl hb
 have HE_ := Lib.hid (HE.out.next HB.out); clear HE; have HE := HE_; clear HE_
 have H_ := Lib.hid (HSA.out.next HB.out); clear HSA; have HSA := H_; clear H_
 clear HB
 have HR2 := Lib.hid (And.intro hw (And.intro hc hcl)); clear hw hc hcl
 obtain ⟨bb, hbb⟩ : ∃ b, w3.heap.size = b := ⟨_, rfl⟩
 have hbx := box_at (n := 1) (wc := wc2) HR2.out.1 HR2.out.2.1 HR2.out.2.2
 have hb := hbx.1
 have hbx := hbx.2
 rw [hbb] at hbx
 obtain ⟨w4, hw4⟩ : ∃ W2, w3.alloc (.cells #[.int .i64 1, .slice WA2 1 wc2, .slice CA2 1 cc2] 30) = W2 := ⟨_, rfl⟩
 rw [hw4] at hbx hb
 have HB := Lib.hid hb; clear hb
 have HE_ := Lib.hid (HE.out.next HB.out); clear HE; have HE := HE_; clear HE_
 have H_ := Lib.hid (HSA.out.next HB.out); clear HSA; have HSA := H_; clear H_
 clear HB
 have HSB := Lib.hid hbx; clear hbx
 have hl := ilit w4 [4, 5] (by simp)
 go_wp2_with fail
 refine (ex_count (HE.out.next hl.1) 6 2 _ [4, 5] hl.2 ex_c).mono ?_
 rintro e w5 ⟨X3, m3, p3, Y3, k3, q3, rfl, hb⟩
 have HB := Lib.hid (hl.1.trans (hb.mono hl.1.size)); clear hl hb
 have HE_ := Lib.hid (HE.out.next HB.out); clear HE; have HE := HE_; clear HE_
 have H_ := Lib.hid (HSA.out.next HB.out); clear HSA; have HSA := H_; clear H_
 have H_ := Lib.hid (HSB.out.next HB.out); clear HSB; have HSB := H_; clear H_
 clear HB
 obtain ⟨bc, hbc⟩ : ∃ b, w5.heap.size = b := ⟨_, rfl⟩
 have hb := (Below.refl w5.heap.size w5).alloc (Nat.le_refl _) (.cells #[.int .i64 0, .slice X3 m3 p3, .slice Y3 k3 q3] 30)
 have hbx := heap_new (W := w5) (o := .cells #[.int .i64 0, .slice X3 m3 p3, .slice Y3 k3 q3] 30) hbc
 obtain ⟨w6, hw6⟩ : ∃ W2, w5.alloc (.cells #[.int .i64 0, .slice X3 m3 p3, .slice Y3 k3 q3] 30) = W2 := ⟨_, rfl⟩
 rw [hw6] at hbx hb
 have HB := Lib.hid hb; clear hb
 have HE_ := Lib.hid (HE.out.next HB.out); clear HE; have HE := HE_; clear HE_
 have H_ := Lib.hid (HSA.out.next HB.out); clear HSA; have HSA := H_; clear H_
 have H_ := Lib.hid (HSB.out.next HB.out); clear HSB; have HSB := H_; clear H_
 clear HB
 have HSC := Lib.hid hbx; clear hbx
 have hl := ilit w6 [2, 3] (by simp)
 go_wp2_with fail
 refine (ex_named (HE.out.next hl.1) 6 2 _ [2, 3] hl.2 ⟨ex_d, ex_a.2.2.2⟩).mono ?_
 rintro e w7 ⟨X4, m4, p4, Y4, k4, q4, rfl, hb⟩
 have HB := Lib.hid (hl.1.trans (hb.mono hl.1.size)); clear hl hb
 have HE_ := Lib.hid (HE.out.next HB.out); clear HE; have HE := HE_; clear HE_
 have H_ := Lib.hid (HSA.out.next HB.out); clear HSA; have HSA := H_; clear H_
 have H_ := Lib.hid (HSB.out.next HB.out); clear HSB; have HSB := H_; clear H_
 have H_ := Lib.hid ((HB.out.block _ (Array.getElem?_eq_some_iff.1 HSC.out).1).trans HSC.out); clear HSC; have HSC := H_; clear H_
 clear HB
 obtain ⟨bd, hbd⟩ : ∃ b, w7.heap.size = b := ⟨_, rfl⟩
 have hb := (Below.refl w7.heap.size w7).alloc (Nat.le_refl _) (.cells #[.int .i64 1, .slice X4 m4 p4, .slice Y4 k4 q4] 30)
 have hbx := heap_new (W := w7) (o := .cells #[.int .i64 1, .slice X4 m4 p4, .slice Y4 k4 q4] 30) hbd
 obtain ⟨w8, hw8⟩ : ∃ W2, w7.alloc (.cells #[.int .i64 1, .slice X4 m4 p4, .slice Y4 k4 q4] 30) = W2 := ⟨_, rfl⟩
 rw [hw8] at hbx hb
 have HB := Lib.hid hb; clear hb
 have HE_ := Lib.hid (HE.out.next HB.out); clear HE; have HE := HE_; clear HE_
 have H_ := Lib.hid (HSA.out.next HB.out); clear HSA; have HSA := H_; clear H_
 have H_ := Lib.hid (HSB.out.next HB.out); clear HSB; have HSB := H_; clear H_
 have H_ := Lib.hid ((HB.out.block _ (Array.getElem?_eq_some_iff.1 HSC.out).1).trans HSC.out); clear HSC; have HSC := H_; clear H_
 clear HB
 have HSD := Lib.hid hbx; clear hbx
 have hl := ilit w8 [6] (by simp)
 go_wp2_with fail
 refine (ex_some (HE.out.next hl.1) 6 1 _ [6] hl.2 ex_e).mono ?_
 rintro e w9 ⟨z5, X5, m5, p5, Y5, k5, q5, rfl, hb⟩
 have HB := Lib.hid (hl.1.trans (hb.mono hl.1.size)); clear hl hb
 have HE_ := Lib.hid (HE.out.next HB.out); clear HE; have HE := HE_; clear HE_
 have H_ := Lib.hid (HSA.out.next HB.out); clear HSA; have HSA := H_; clear H_
 have H_ := Lib.hid (HSB.out.next HB.out); clear HSB; have HSB := H_; clear H_
 have H_ := Lib.hid ((HB.out.block _ (Array.getElem?_eq_some_iff.1 HSC.out).1).trans HSC.out); clear HSC; have HSC := H_; clear H_
 have H_ := Lib.hid ((HB.out.block _ (Array.getElem?_eq_some_iff.1 HSD.out).1).trans HSD.out); clear HSD; have HSD := H_; clear H_
 clear HB
 obtain ⟨be, hbe⟩ : ∃ b, w9.heap.size = b := ⟨_, rfl⟩
 have hb := (Below.refl w9.heap.size w9).alloc (Nat.le_refl _) (.cells #[.int .i64 z5, .slice X5 m5 p5, .slice Y5 k5 q5] 30)
 have hbx := heap_new (W := w9) (o := .cells #[.int .i64 z5, .slice X5 m5 p5, .slice Y5 k5 q5] 30) hbe
 obtain ⟨w10, hw10⟩ : ∃ W2, w9.alloc (.cells #[.int .i64 z5, .slice X5 m5 p5, .slice Y5 k5 q5] 30) = W2 := ⟨_, rfl⟩
 rw [hw10] at hbx hb
 have HB := Lib.hid hb; clear hb
 have HE_ := Lib.hid (HE.out.next HB.out); clear HE; have HE := HE_; clear HE_
 have H_ := Lib.hid (HSA.out.next HB.out); clear HSA; have HSA := H_; clear H_
 have H_ := Lib.hid (HSB.out.next HB.out); clear HSB; have HSB := H_; clear H_
 have H_ := Lib.hid ((HB.out.block _ (Array.getElem?_eq_some_iff.1 HSC.out).1).trans HSC.out); clear HSC; have HSC := H_; clear H_
 have H_ := Lib.hid ((HB.out.block _ (Array.getElem?_eq_some_iff.1 HSD.out).1).trans HSD.out); clear HSD; have HSD := H_; clear H_
 clear HB
 have HSE := Lib.hid hbx; clear hbx
 go_wp2_with fail
 refine (ex_orig HE.out 6 3 ex_org3 (by decide) (n := 2) (os' := [0, 1]) rfl rfl).mono ?_
 rintro e w11 ⟨OA, oc, rfl, ho, hol, hb⟩
 have HB := Lib.hid hb; clear hb
 have HE_ := Lib.hid (HE.out.next HB.out); clear HE; have HE := HE_; clear HE_
 have H_ := Lib.hid (HSA.out.next HB.out); clear HSA; have HSA := H_; clear H_
 have H_ := Lib.hid (HSB.out.next HB.out); clear HSB; have HSB := H_; clear H_
 have H_ := Lib.hid ((HB.out.block _ (Array.getElem?_eq_some_iff.1 HSC.out).1).trans HSC.out); clear HSC; have HSC := H_; clear H_
 have H_ := Lib.hid ((HB.out.block _ (Array.getElem?_eq_some_iff.1 HSD.out).1).trans HSD.out); clear HSD; have HSD := H_; clear H_
 have H_ := Lib.hid ((HB.out.block _ (Array.getElem?_eq_some_iff.1 HSE.out).1).trans HSE.out); clear HSE; have HSE := H_; clear H_
 clear HB
 have HO := Lib.hid (And.intro ho hol); clear ho hol
 go_wp2_with fail
 refine (ex_orig HE.out 6 4 ex_org4 (by decide) (n := 0) (os' := []) rfl rfl).mono ?_
 rintro e w12 ⟨OB, od, rfl, _, _, hb⟩
 have HB := Lib.hid hb; clear hb
 have HE_ := Lib.hid (HE.out.next HB.out); clear HE; have HE := HE_; clear HE_
 have H_ := Lib.hid (HSA.out.next HB.out); clear HSA; have HSA := H_; clear H_
 have H_ := Lib.hid (HSB.out.next HB.out); clear HSB; have HSB := H_; clear H_
 have H_ := Lib.hid ((HB.out.block _ (Array.getElem?_eq_some_iff.1 HSC.out).1).trans HSC.out); clear HSC; have HSC := H_; clear H_
 have H_ := Lib.hid ((HB.out.block _ (Array.getElem?_eq_some_iff.1 HSD.out).1).trans HSD.out); clear HSD; have HSD := H_; clear H_
 have H_ := Lib.hid ((HB.out.block _ (Array.getElem?_eq_some_iff.1 HSE.out).1).trans HSE.out); clear HSE; have HSE := H_; clear H_
 have H_ := Lib.hid (And.intro (Kd.C_below HO.out.1 HB.out) HO.out.2); clear HO; have HO := H_; clear H_
 clear HB
 go_wp2_with fail
 refine (ex_find3 HE.out 6).mono ?_
 rintro e w13 ⟨FA, fc, rfl, hb⟩
 have HB := Lib.hid hb; clear hb
 have HE_ := Lib.hid (HE.out.next HB.out); clear HE; have HE := HE_; clear HE_
 have H_ := Lib.hid (HSA.out.next HB.out); clear HSA; have HSA := H_; clear H_
 have H_ := Lib.hid (HSB.out.next HB.out); clear HSB; have HSB := H_; clear H_
 have H_ := Lib.hid ((HB.out.block _ (Array.getElem?_eq_some_iff.1 HSC.out).1).trans HSC.out); clear HSC; have HSC := H_; clear H_
 have H_ := Lib.hid ((HB.out.block _ (Array.getElem?_eq_some_iff.1 HSD.out).1).trans HSD.out); clear HSD; have HSD := H_; clear H_
 have H_ := Lib.hid ((HB.out.block _ (Array.getElem?_eq_some_iff.1 HSE.out).1).trans HSE.out); clear HSE; have HSE := H_; clear H_
 have H_ := Lib.hid (And.intro (Kd.C_below HO.out.1 HB.out) HO.out.2); clear HO; have HO := H_; clear H_
 clear HB
 obtain ⟨bs, hbs⟩ : ∃ b, w13.heap.size = b := ⟨_, rfl⟩
 have hb := (Below.refl w13.heap.size w13).alloc (Nat.le_refl _) (.cells #[.int .i64 3, .int .i64 1, .slice FA 2 fc] 35)
 have hbx := heap_new (W := w13) (o := .cells #[.int .i64 3, .int .i64 1, .slice FA 2 fc] 35) hbs
 obtain ⟨w14, hw14⟩ : ∃ W2, w13.alloc (.cells #[.int .i64 3, .int .i64 1, .slice FA 2 fc] 35) = W2 := ⟨_, rfl⟩
 rw [hw14] at hbx hb
 have HB := Lib.hid hb; clear hb
 have HE_ := Lib.hid (HE.out.next HB.out); clear HE; have HE := HE_; clear HE_
 have H_ := Lib.hid (HSA.out.next HB.out); clear HSA; have HSA := H_; clear H_
 have H_ := Lib.hid (HSB.out.next HB.out); clear HSB; have HSB := H_; clear H_
 have H_ := Lib.hid ((HB.out.block _ (Array.getElem?_eq_some_iff.1 HSC.out).1).trans HSC.out); clear HSC; have HSC := H_; clear H_
 have H_ := Lib.hid ((HB.out.block _ (Array.getElem?_eq_some_iff.1 HSD.out).1).trans HSD.out); clear HSD; have HSD := H_; clear H_
 have H_ := Lib.hid ((HB.out.block _ (Array.getElem?_eq_some_iff.1 HSE.out).1).trans HSE.out); clear HSE; have HSE := H_; clear H_
 have H_ := Lib.hid (And.intro (Kd.C_below HO.out.1 HB.out) HO.out.2); clear HO; have HO := H_; clear H_
 clear HB
 have HSS := Lib.hid hbx; clear hbx
 go_wp2_with fail
 refine (ex_find7 HE.out 6).mono ?_
 rintro e w15 ⟨G7, g7, rfl, hb⟩
 have HB := Lib.hid hb; clear hb
 have HE_ := Lib.hid (HE.out.next HB.out); clear HE; have HE := HE_; clear HE_
 have H_ := Lib.hid (HSA.out.next HB.out); clear HSA; have HSA := H_; clear H_
 have H_ := Lib.hid (HSB.out.next HB.out); clear HSB; have HSB := H_; clear H_
 have H_ := Lib.hid ((HB.out.block _ (Array.getElem?_eq_some_iff.1 HSC.out).1).trans HSC.out); clear HSC; have HSC := H_; clear H_
 have H_ := Lib.hid ((HB.out.block _ (Array.getElem?_eq_some_iff.1 HSD.out).1).trans HSD.out); clear HSD; have HSD := H_; clear H_
 have H_ := Lib.hid ((HB.out.block _ (Array.getElem?_eq_some_iff.1 HSE.out).1).trans HSE.out); clear HSE; have HSE := H_; clear H_
 have H_ := Lib.hid (And.intro (Kd.C_below HO.out.1 HB.out) HO.out.2); clear HO; have HO := H_; clear H_
 have H_ := Lib.hid ((HB.out.block _ (Array.getElem?_eq_some_iff.1 HSS.out).1).trans HSS.out); clear HSS; have HSS := H_; clear H_
 clear HB
 obtain ⟨bt, hbt⟩ : ∃ b, w15.heap.size = b := ⟨_, rfl⟩
 have hb := (Below.refl w15.heap.size w15).alloc (Nat.le_refl _) (.cells #[.int .i64 0, .int .i64 0, .slice G7 0 g7] 35)
 have hbx := heap_new (W := w15) (o := .cells #[.int .i64 0, .int .i64 0, .slice G7 0 g7] 35) hbt
 obtain ⟨w16, hw16⟩ : ∃ W2, w15.alloc (.cells #[.int .i64 0, .int .i64 0, .slice G7 0 g7] 35) = W2 := ⟨_, rfl⟩
 rw [hw16] at hbx hb
 have HB := Lib.hid hb; clear hb
 have HE_ := Lib.hid (HE.out.next HB.out); clear HE; have HE := HE_; clear HE_
 have H_ := Lib.hid (HSA.out.next HB.out); clear HSA; have HSA := H_; clear H_
 have H_ := Lib.hid (HSB.out.next HB.out); clear HSB; have HSB := H_; clear H_
 have H_ := Lib.hid ((HB.out.block _ (Array.getElem?_eq_some_iff.1 HSC.out).1).trans HSC.out); clear HSC; have HSC := H_; clear H_
 have H_ := Lib.hid ((HB.out.block _ (Array.getElem?_eq_some_iff.1 HSD.out).1).trans HSD.out); clear HSD; have HSD := H_; clear H_
 have H_ := Lib.hid ((HB.out.block _ (Array.getElem?_eq_some_iff.1 HSE.out).1).trans HSE.out); clear HSE; have HSE := H_; clear H_
 have H_ := Lib.hid (And.intro (Kd.C_below HO.out.1 HB.out) HO.out.2); clear HO; have HO := H_; clear H_
 have H_ := Lib.hid ((HB.out.block _ (Array.getElem?_eq_some_iff.1 HSS.out).1).trans HSS.out); clear HSS; have HSS := H_; clear H_
 clear HB
 have HST := Lib.hid hbx; clear hbx
 obtain ⟨bz, hbz⟩ : ∃ b, w16.heap.size = b := ⟨_, rfl⟩
 have hwl := want_lies w16 hbz
 obtain ⟨w17, hw17⟩ : ∃ W2, (((((w16.alloc (.cells #[.int .i64 0, .int .i64 2] 3)).alloc (.cells #[.int .i64 1, .int .i64 3] 3)).alloc (.cells #[.slice (some ⟨bz, 0, none⟩) 2 2, .slice (some ⟨bz + 1, 0, none⟩) 2 2] 26)).alloc (.cells #[.int .i64 0, .int .i64 1] 3)).alloc (.cells #[.int .i64 2, .slice (some ⟨bz + 2, 0, none⟩) 2 2, .slice (some ⟨bz + 3, 0, none⟩) 2 2] 30)) = W2 := ⟨_, rfl⟩
 rw [hw17] at hwl
 have HB := Lib.hid hwl.1
 have HE_ := Lib.hid (HE.out.next HB.out); clear HE; have HE := HE_; clear HE_
 have H_ := Lib.hid (HSA.out.next HB.out); clear HSA; have HSA := H_; clear H_
 have H_ := Lib.hid (HSB.out.next HB.out); clear HSB; have HSB := H_; clear H_
 have H_ := Lib.hid ((HB.out.block _ (Array.getElem?_eq_some_iff.1 HSC.out).1).trans HSC.out); clear HSC; have HSC := H_; clear H_
 have H_ := Lib.hid ((HB.out.block _ (Array.getElem?_eq_some_iff.1 HSD.out).1).trans HSD.out); clear HSD; have HSD := H_; clear H_
 have H_ := Lib.hid ((HB.out.block _ (Array.getElem?_eq_some_iff.1 HSE.out).1).trans HSE.out); clear HSE; have HSE := H_; clear H_
 have H_ := Lib.hid (And.intro (Kd.C_below HO.out.1 HB.out) HO.out.2); clear HO; have HO := H_; clear H_
 have H_ := Lib.hid ((HB.out.block _ (Array.getElem?_eq_some_iff.1 HSS.out).1).trans HSS.out); clear HSS; have HSS := H_; clear H_
 have H_ := Lib.hid ((HB.out.block _ (Array.getElem?_eq_some_iff.1 HST.out).1).trans HST.out); clear HST; have HST := H_; clear H_
 clear HB
 have HSW := Lib.hid hwl.2; clear hwl
 have ca0 := cell_of (o := 0) HSA.out.blk rfl
 have ca1 := cell_of (o := 1) HSA.out.blk rfl
 have ca2 := cell_of (o := 2) HSA.out.blk rfl
 have cw0 := cell_of (o := 0) HSW.out.blk rfl
 have cw1 := cell_of (o := 1) HSW.out.blk rfl
 have cw2 := cell_of (o := 2) HSW.out.blk rfl
 go_wp2_with fail
 refine (same_any 2 2 WA1 _ wc1 _ [[0, 2], [1, 3]] [[0, 2], [1, 3]] CA1 _ cc1 _ [0, 1] [0, 1] _ HSA.out.rows HSW.out.rows HSA.out.cut HSW.out.cut HSA.out.cutl HSW.out.cutl).mono ?_
 rintro e w18 ⟨rfl, hb⟩
 rw [show sameB 2 [[0, 2], [1, 3]] [0, 1] 2 [[0, 2], [1, 3]] [0, 1] = true by decide]
 have HB := Lib.hid hb; clear hb
 have HE_ := Lib.hid (HE.out.next HB.out); clear HE; have HE := HE_; clear HE_
 have H_ := Lib.hid (HSA.out.next HB.out); clear HSA; have HSA := H_; clear H_
 have H_ := Lib.hid (HSB.out.next HB.out); clear HSB; have HSB := H_; clear H_
 have H_ := Lib.hid ((HB.out.block _ (Array.getElem?_eq_some_iff.1 HSC.out).1).trans HSC.out); clear HSC; have HSC := H_; clear H_
 have H_ := Lib.hid ((HB.out.block _ (Array.getElem?_eq_some_iff.1 HSD.out).1).trans HSD.out); clear HSD; have HSD := H_; clear H_
 have H_ := Lib.hid ((HB.out.block _ (Array.getElem?_eq_some_iff.1 HSE.out).1).trans HSE.out); clear HSE; have HSE := H_; clear H_
 have H_ := Lib.hid (And.intro (Kd.C_below HO.out.1 HB.out) HO.out.2); clear HO; have HO := H_; clear H_
 have H_ := Lib.hid ((HB.out.block _ (Array.getElem?_eq_some_iff.1 HSS.out).1).trans HSS.out); clear HSS; have HSS := H_; clear H_
 have H_ := Lib.hid ((HB.out.block _ (Array.getElem?_eq_some_iff.1 HST.out).1).trans HST.out); clear HST; have HST := H_; clear H_
 have H_ := Lib.hid (HSW.out.next HB.out); clear HSW; have HSW := H_; clear H_
 clear HB
 clear ca0 ca1 ca2 cw0 cw1 cw2
 have cb0 := cell_of (o := 0) HSB.out.blk rfl
 have cb1 := cell_of (o := 1) HSB.out.blk rfl
 have cb2 := cell_of (o := 2) HSB.out.blk rfl
 have hl := one_lies w18 rfl
 go_wp2_with fail
 refine (same_any 1 1 WA2 _ wc2 _ [[0]] [[0]] CA2 _ cc2 _ [0] [0] _ (HSB.out.next hl.1).rows hl.2.1 (HSB.out.next hl.1).cut hl.2.2 HSB.out.cutl (Nat.le_refl _)).mono ?_
 rintro e w19 ⟨rfl, hb⟩
 rw [show sameB 1 [[0]] [0] 1 [[0]] [0] = true by decide]
 have HB := Lib.hid (hl.1.trans (hb.mono hl.1.size)); clear hl hb
 have HE_ := Lib.hid (HE.out.next HB.out); clear HE; have HE := HE_; clear HE_
 have H_ := Lib.hid (HSA.out.next HB.out); clear HSA; have HSA := H_; clear H_
 have H_ := Lib.hid (HSB.out.next HB.out); clear HSB; have HSB := H_; clear H_
 have H_ := Lib.hid ((HB.out.block _ (Array.getElem?_eq_some_iff.1 HSC.out).1).trans HSC.out); clear HSC; have HSC := H_; clear H_
 have H_ := Lib.hid ((HB.out.block _ (Array.getElem?_eq_some_iff.1 HSD.out).1).trans HSD.out); clear HSD; have HSD := H_; clear H_
 have H_ := Lib.hid ((HB.out.block _ (Array.getElem?_eq_some_iff.1 HSE.out).1).trans HSE.out); clear HSE; have HSE := H_; clear H_
 have H_ := Lib.hid (And.intro (Kd.C_below HO.out.1 HB.out) HO.out.2); clear HO; have HO := H_; clear H_
 have H_ := Lib.hid ((HB.out.block _ (Array.getElem?_eq_some_iff.1 HSS.out).1).trans HSS.out); clear HSS; have HSS := H_; clear H_
 have H_ := Lib.hid ((HB.out.block _ (Array.getElem?_eq_some_iff.1 HST.out).1).trans HST.out); clear HST; have HST := H_; clear H_
 have H_ := Lib.hid (HSW.out.next HB.out); clear HSW; have HSW := H_; clear H_
 clear HB
 clear cb0 cb1 cb2
 have cc0 := cell_of (o := 0) HSC.out rfl
 have cd0 := cell_of (o := 0) HSD.out rfl
 have hl := ilit w19 [0, 1] (by simp)
 go_wp2_with fail
 refine (ints_any OA oc [0, 1] _ _ [0, 1] _ (Kd.C_below HO.out.1 hl.1) HO.out.2 hl.2 (Nat.le_refl _)).mono ?_
 rintro e w20 ⟨rfl, hb⟩
 rw [show decide (([0, 1] : List Int) = [0, 1]) = true by decide]
 have HB := Lib.hid (hl.1.trans (hb.mono hl.1.size)); clear hl hb
 have HE_ := Lib.hid (HE.out.next HB.out); clear HE; have HE := HE_; clear HE_
 have H_ := Lib.hid (HSA.out.next HB.out); clear HSA; have HSA := H_; clear H_
 have H_ := Lib.hid (HSB.out.next HB.out); clear HSB; have HSB := H_; clear H_
 have H_ := Lib.hid ((HB.out.block _ (Array.getElem?_eq_some_iff.1 HSC.out).1).trans HSC.out); clear HSC; have HSC := H_; clear H_
 have H_ := Lib.hid ((HB.out.block _ (Array.getElem?_eq_some_iff.1 HSD.out).1).trans HSD.out); clear HSD; have HSD := H_; clear H_
 have H_ := Lib.hid ((HB.out.block _ (Array.getElem?_eq_some_iff.1 HSE.out).1).trans HSE.out); clear HSE; have HSE := H_; clear H_
 have H_ := Lib.hid (And.intro (Kd.C_below HO.out.1 HB.out) HO.out.2); clear HO; have HO := H_; clear H_
 have H_ := Lib.hid ((HB.out.block _ (Array.getElem?_eq_some_iff.1 HSS.out).1).trans HSS.out); clear HSS; have HSS := H_; clear H_
 have H_ := Lib.hid ((HB.out.block _ (Array.getElem?_eq_some_iff.1 HST.out).1).trans HST.out); clear HST; have HST := H_; clear H_
 have H_ := Lib.hid (HSW.out.next HB.out); clear HSW; have HSW := H_; clear H_
 clear HB
 clear cc0 cd0
 have cs0 := cell_of (o := 0) HSS.out rfl
 have cs1 := cell_of (o := 1) HSS.out rfl
 have cs2 := cell_of (o := 2) HSS.out rfl
 have hl := ilit w20 [2, 3] (by simp)
 have cw0 : (w20.alloc (.cells #[.int .i64 2, .int .i64 3] 3)).cell? ⟨bz + 4, 0, none⟩ = some (.int .i64 2) := cell_of (o := 0) (HSW.out.next hl.1).blk rfl
 have cw1 : (w20.alloc (.cells #[.int .i64 2, .int .i64 3] 3)).cell? ⟨bz + 4, 1, none⟩ = some (.slice (some ⟨bz + 2, 0, none⟩) 2 2) := cell_of (o := 1) (HSW.out.next hl.1).blk rfl
 have cw2 : (w20.alloc (.cells #[.int .i64 2, .int .i64 3] 3)).cell? ⟨bz + 4, 2, none⟩ = some (.slice (some ⟨bz + 3, 0, none⟩) 2 2) := cell_of (o := 2) (HSW.out.next hl.1).blk rfl
 go_wp2_with fail
 refine (check_any (some ⟨B + 4, 0, none⟩) 6 ex _ 2 [2, 3] 2 _ _ [[0, 2], [1, 3]] _ _ [0, 1] _ (HE.out.next hl.1).rl ex_short hl.2 (HSW.out.next hl.1).rows (HSW.out.next hl.1).cut (HE.out.next hl.1).tab).mono ?_
 rintro e w21 ⟨rfl, hb⟩
 rw [ex_check]
 have HB := Lib.hid (hl.1.trans (hb.mono hl.1.size)); clear hl hb
 have HE_ := Lib.hid (HE.out.next HB.out); clear HE; have HE := HE_; clear HE_
 have H_ := Lib.hid (HSA.out.next HB.out); clear HSA; have HSA := H_; clear H_
 have H_ := Lib.hid (HSB.out.next HB.out); clear HSB; have HSB := H_; clear H_
 have H_ := Lib.hid ((HB.out.block _ (Array.getElem?_eq_some_iff.1 HSC.out).1).trans HSC.out); clear HSC; have HSC := H_; clear H_
 have H_ := Lib.hid ((HB.out.block _ (Array.getElem?_eq_some_iff.1 HSD.out).1).trans HSD.out); clear HSD; have HSD := H_; clear H_
 have H_ := Lib.hid ((HB.out.block _ (Array.getElem?_eq_some_iff.1 HSE.out).1).trans HSE.out); clear HSE; have HSE := H_; clear H_
 have H_ := Lib.hid (And.intro (Kd.C_below HO.out.1 HB.out) HO.out.2); clear HO; have HO := H_; clear H_
 have H_ := Lib.hid ((HB.out.block _ (Array.getElem?_eq_some_iff.1 HSS.out).1).trans HSS.out); clear HSS; have HSS := H_; clear H_
 have H_ := Lib.hid ((HB.out.block _ (Array.getElem?_eq_some_iff.1 HST.out).1).trans HST.out); clear HST; have HST := H_; clear H_
 have H_ := Lib.hid (HSW.out.next HB.out); clear HSW; have HSW := H_; clear H_
 clear HB
 clear cs0 cs1 cs2 cw0 cw1 cw2
 have hl := ilit w21 [2, 3] (by simp)
 have cb0 : (w21.alloc (.cells #[.int .i64 2, .int .i64 3] 3)).cell? ⟨bb, 0, none⟩ = some (.int .i64 1) := cell_of (o := 0) (HSB.out.next hl.1).blk rfl
 have cb1 : (w21.alloc (.cells #[.int .i64 2, .int .i64 3] 3)).cell? ⟨bb, 1, none⟩ = some (.slice WA2 1 wc2) := cell_of (o := 1) (HSB.out.next hl.1).blk rfl
 have cb2 : (w21.alloc (.cells #[.int .i64 2, .int .i64 3] 3)).cell? ⟨bb, 2, none⟩ = some (.slice CA2 1 cc2) := cell_of (o := 2) (HSB.out.next hl.1).blk rfl
 go_wp2_with fail
 refine (check_any (some ⟨B + 4, 0, none⟩) 6 ex _ 2 [2, 3] 1 _ _ [[0]] _ _ [0] _ (HE.out.next hl.1).rl ex_short hl.2 (HSB.out.next hl.1).rows (HSB.out.next hl.1).cut (HE.out.next hl.1).tab).mono ?_
 rintro e w22 ⟨rfl, hb⟩
 rw [ex_check2]
 have HB := Lib.hid (hl.1.trans (hb.mono hl.1.size)); clear hl hb
 have HE_ := Lib.hid (HE.out.next HB.out); clear HE; have HE := HE_; clear HE_
 have H_ := Lib.hid (HSA.out.next HB.out); clear HSA; have HSA := H_; clear H_
 have H_ := Lib.hid (HSB.out.next HB.out); clear HSB; have HSB := H_; clear H_
 have H_ := Lib.hid ((HB.out.block _ (Array.getElem?_eq_some_iff.1 HSC.out).1).trans HSC.out); clear HSC; have HSC := H_; clear H_
 have H_ := Lib.hid ((HB.out.block _ (Array.getElem?_eq_some_iff.1 HSD.out).1).trans HSD.out); clear HSD; have HSD := H_; clear H_
 have H_ := Lib.hid ((HB.out.block _ (Array.getElem?_eq_some_iff.1 HSE.out).1).trans HSE.out); clear HSE; have HSE := H_; clear H_
 have H_ := Lib.hid (And.intro (Kd.C_below HO.out.1 HB.out) HO.out.2); clear HO; have HO := H_; clear H_
 have H_ := Lib.hid ((HB.out.block _ (Array.getElem?_eq_some_iff.1 HSS.out).1).trans HSS.out); clear HSS; have HSS := H_; clear H_
 have H_ := Lib.hid ((HB.out.block _ (Array.getElem?_eq_some_iff.1 HST.out).1).trans HST.out); clear HST; have HST := H_; clear H_
 have H_ := Lib.hid (HSW.out.next HB.out); clear HSW; have HSW := H_; clear H_
 clear HB
 clear cb0 cb1 cb2
 go_wp2_with fail
 refine (valid_any (some ⟨B + 4, 0, none⟩) 6 ex _ HE.out.rl ex_short).mono ?_
 rintro e w23 ⟨rfl, hb⟩
 rw [ex_valid]
 have HB := Lib.hid hb; clear hb
 have HE_ := Lib.hid (HE.out.next HB.out); clear HE; have HE := HE_; clear HE_
 have H_ := Lib.hid (HSA.out.next HB.out); clear HSA; have HSA := H_; clear H_
 have H_ := Lib.hid (HSB.out.next HB.out); clear HSB; have HSB := H_; clear H_
 have H_ := Lib.hid ((HB.out.block _ (Array.getElem?_eq_some_iff.1 HSC.out).1).trans HSC.out); clear HSC; have HSC := H_; clear H_
 have H_ := Lib.hid ((HB.out.block _ (Array.getElem?_eq_some_iff.1 HSD.out).1).trans HSD.out); clear HSD; have HSD := H_; clear H_
 have H_ := Lib.hid ((HB.out.block _ (Array.getElem?_eq_some_iff.1 HSE.out).1).trans HSE.out); clear HSE; have HSE := H_; clear H_
 have H_ := Lib.hid (And.intro (Kd.C_below HO.out.1 HB.out) HO.out.2); clear HO; have HO := H_; clear H_
 have H_ := Lib.hid ((HB.out.block _ (Array.getElem?_eq_some_iff.1 HSS.out).1).trans HSS.out); clear HSS; have HSS := H_; clear H_
 have H_ := Lib.hid ((HB.out.block _ (Array.getElem?_eq_some_iff.1 HST.out).1).trans HST.out); clear HST; have HST := H_; clear H_
 have H_ := Lib.hid (HSW.out.next HB.out); clear HSW; have HSW := H_; clear H_
 clear HB
 go_wp2_with fail
 refine (Same_any (some ⟨B + 4, 0, none⟩) (some ⟨B + 4, 0, none⟩) 6 6 ex ex _ HE.out.rl HE.out.rl).mono ?_
 rintro e w24 ⟨rfl, hb⟩
 rw [ex_same.1]
 have HB := Lib.hid hb; clear hb
 have HE_ := Lib.hid (HE.out.next HB.out); clear HE; have HE := HE_; clear HE_
 have H_ := Lib.hid (HSA.out.next HB.out); clear HSA; have HSA := H_; clear H_
 have H_ := Lib.hid (HSB.out.next HB.out); clear HSB; have HSB := H_; clear H_
 have H_ := Lib.hid ((HB.out.block _ (Array.getElem?_eq_some_iff.1 HSC.out).1).trans HSC.out); clear HSC; have HSC := H_; clear H_
 have H_ := Lib.hid ((HB.out.block _ (Array.getElem?_eq_some_iff.1 HSD.out).1).trans HSD.out); clear HSD; have HSD := H_; clear H_
 have H_ := Lib.hid ((HB.out.block _ (Array.getElem?_eq_some_iff.1 HSE.out).1).trans HSE.out); clear HSE; have HSE := H_; clear H_
 have H_ := Lib.hid (And.intro (Kd.C_below HO.out.1 HB.out) HO.out.2); clear HO; have HO := H_; clear H_
 have H_ := Lib.hid ((HB.out.block _ (Array.getElem?_eq_some_iff.1 HSS.out).1).trans HSS.out); clear HSS; have HSS := H_; clear H_
 have H_ := Lib.hid ((HB.out.block _ (Array.getElem?_eq_some_iff.1 HST.out).1).trans HST.out); clear HST; have HST := H_; clear H_
 have H_ := Lib.hid (HSW.out.next HB.out); clear HSW; have HSW := H_; clear H_
 clear HB
 go_wp2_with fail
 refine (Same_any (some ⟨B + 4, 0, none⟩) (some ⟨B + 4, 0, none⟩) 6 6 ex (ex.take 3) _ HE.out.rl (Kd.C_take HE.out.rl (by decide))).mono ?_
 rintro e w25 ⟨rfl, hb⟩
 rw [ex_same.2]
 have HB := Lib.hid hb; clear hb
 have HE_ := Lib.hid (HE.out.next HB.out); clear HE; have HE := HE_; clear HE_
 have H_ := Lib.hid (HSA.out.next HB.out); clear HSA; have HSA := H_; clear H_
 have H_ := Lib.hid (HSB.out.next HB.out); clear HSB; have HSB := H_; clear H_
 have H_ := Lib.hid ((HB.out.block _ (Array.getElem?_eq_some_iff.1 HSC.out).1).trans HSC.out); clear HSC; have HSC := H_; clear H_
 have H_ := Lib.hid ((HB.out.block _ (Array.getElem?_eq_some_iff.1 HSD.out).1).trans HSD.out); clear HSD; have HSD := H_; clear H_
 have H_ := Lib.hid ((HB.out.block _ (Array.getElem?_eq_some_iff.1 HSE.out).1).trans HSE.out); clear HSE; have HSE := H_; clear H_
 have H_ := Lib.hid (And.intro (Kd.C_below HO.out.1 HB.out) HO.out.2); clear HO; have HO := H_; clear H_
 have H_ := Lib.hid ((HB.out.block _ (Array.getElem?_eq_some_iff.1 HSS.out).1).trans HSS.out); clear HSS; have HSS := H_; clear H_
 have H_ := Lib.hid ((HB.out.block _ (Array.getElem?_eq_some_iff.1 HST.out).1).trans HST.out); clear HST; have HST := H_; clear H_
 have H_ := Lib.hid (HSW.out.next HB.out); clear HSW; have HSW := H_; clear H_
 clear HB
 go_wp2_with fail
 go_ret
 exact ⟨rfl, HE.out.below⟩
end Go.Proofs.YticngcjfofcoiaaDoor
