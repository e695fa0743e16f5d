/- The contract of least: the least ways. -/
import Derived.Test.YticngcjfofcoiaaDoorEa
import Derived.Test.YticngcjfofcoiaaDoorRy
namespace Go.Proofs.YticngcjfofcoiaaDoor
open Go.RowKit Go.Rg Go.Proofs.YticngcjfofcoiaaDoorW.PrintWords
set_option linter.unusedVariables false
set_option linter.unusedSimpArgs false
attribute [local go_sem] Oper.semAt_some
abbrev kW : Kd (List Int) := Kd.slice 3 (Kd.int .i64)
theorem kW_E {q : Nat} (h : q ∈ (26 : Nat) :: kW.E) : q = 26 ∨ q = 3 := by
 have : kW.E = [3] := rfl
 rw [this] at h
 simpa using h
theorem kI_E {q : Nat} (h : q ∈ (3 : Nat) :: (Kd.int .i64).E) : q = 3 := by
 have : (Kd.int .i64).E = [] := rfl
 rw [this] at h
 simpa using h
structure LB (WB : Nat) (w : World) (bs : List Nat) (b5 b6 u : Nat) (r : Int) (wv : Value) (ps : List (List Nat)) (W : World) : Prop where
 below : Below w.heap.size w W
 box : W.heap[w.heap.size]? = some (.cells #[.pointer (some ⟨WB, 0, none⟩)] 64)
 marks : Marks w.heap.size bs W
 used : W.heap[b5]? = some (.cells #[.int .u16 (u : Int)] 60)
 rest : W.heap[b6]? = some (.cells #[.int .i64 r] 3)
 ways : kW.R 26 W w.heap.size (fun k => w.heap.size ≤ k ∧ k ≠ b6) wv (ps.map fun p => p.map Int.ofNat)
 ord : w.heap.size < b5 ∧ b5 < b6
theorem LB.size {WB : Nat} {w : World} {bs : List Nat} {b5 b6 u : Nat} {r : Int} {wv : Value} {ps : List (List Nat)} {W : World} (h : LB WB w bs b5 b6 u r wv ps W) : b6 < W.heap.size := (Array.getElem?_eq_some_iff.1 h.rest).1
theorem LB.call {WB : Nat} {w : World} {bs : List Nat} {b5 b6 u : Nat} {r : Int} {wv : Value} {ps : List (List Nat)} {W W' : World} (h : LB WB w bs b5 b6 u r wv ps W) (hb : Below W.heap.size W W') : LB WB w bs b5 b6 u r wv ps W' := by
 have hz := h.size
 have ho := h.ord
 exact ⟨h.below.trans (hb.mono h.below.size), (hb.block _ (by omega)).trans h.box, h.marks.call hb (Nat.le_refl _), (hb.block _ (by omega)).trans h.used, (hb.block _ hz).trans h.rest, Kd.R_below h.ways hb, h.ord⟩
theorem LB.put {WB : Nat} {w : World} {bs : List Nat} {b5 b6 u : Nat} {r : Int} {wv : Value} {ps : List (List Nat)} {W : World} {b : Nat} {cs : Array Value} (h : LB WB w bs b5 b6 u r wv ps W) (hb : W.heap[b]? = some (.cells cs 91)) (hlt : b6 < b) (v : Value) : LB WB w bs b5 b6 u r wv ps (W.setCell ⟨b, 0, none⟩ v) := by
 have ho := h.ord
 have hf : Fr (fun k => k = b) W (W.setCell ⟨b, 0, none⟩ v) := (Fr.refl _ _).setCell _ _ (fun _ => rfl)
 exact ⟨h.below.setCell (p := ⟨b, 0, none⟩) (show w.heap.size ≤ b by omega) _, heap_set_ne (p := ⟨b, 0, none⟩) _ (by show w.heap.size ≠ b; omega) h.box, h.marks.fr hf (h.marks.ne hb), heap_set_ne (p := ⟨b, 0, none⟩) _ (by show b5 ≠ b; omega) h.used, heap_set_ne (p := ⟨b, 0, none⟩) _ (by show b6 ≠ b; omega) h.rest, Kd.R_set h.ways hb (fun q hq => by rcases kW_E hq with rfl | rfl <;> decide) 0 v, h.ord⟩
theorem LB.mark {WB : Nat} {w : World} {bs : List Nat} {b5 b6 u : Nat} {r : Int} {wv : Value} {ps : List (List Nat)} {W : World} {B : Nat} (h : LB WB w bs b5 b6 u r wv ps W) (hB : ∀ b ∈ bs, b < B) (hlo : w.heap.size ≤ B) (hk : W.heap[B]? = some (.deferred (some []))) : LB WB w (B :: bs) b5 b6 u r wv ps W :=
 ⟨h.below, h.box, h.marks.cons hB hlo hk, h.used, h.rest, h.ways, h.ord⟩
structure NW (w : World) (b6 b7 : Nat) (nv : Value) (v : List Nat) (W : World) : Prop where
 box : W.heap[b7]? = some (.cells #[nv] 91)
 row : (Kd.int .i64).R 3 W w.heap.size (fun k => w.heap.size ≤ k ∧ k ≠ b6) nv (v.map Int.ofNat)
 nil : v = [] → nv = .slice none 0 0
 lt : b6 < b7
theorem NW.call {w : World} {b6 b7 : Nat} {nv : Value} {v : List Nat} {W W' : World} (h : NW w b6 b7 nv v W) (hb : Below W.heap.size W W') : NW w b6 b7 nv v W' :=
 ⟨(hb.block _ (Array.getElem?_eq_some_iff.1 h.box).1).trans h.box, Kd.R_below h.row hb, h.nil, h.lt⟩
def lenAt (i : Nat) (a : Act) (W : World) : Nat := match a.tmps.getD i undef with
 |.pointer (some p) => (match W.cell? p with | some v => lenV v | _ => 0)
 |_ => 0
def restAt (a : Act) (W : World) : Nat := match a.tmps.getD 6 undef with
 |.pointer (some p) => (match W.cell? p with | some v => (intOf v + 1).toNat | _ => 0)
 |_ => 0
theorem R_marks {α : Type} {k : Kd α} {e : Nat} {W W' : World} {base lo : Nat} {ok : Nat → Prop} {v : Value} {xs : List α} {bs : List Nat} (h : k.R e W base ok v xs) (hM : Marks lo bs W) (hf : Fr (fun k => k ∈ bs) W W') : k.R e W' base ok v xs :=
 Kd.R_mono (Kd.R_move (Kd.R_bound h) (fun i hi => by
  obtain ⟨_, _, hlt, q, _, cs, hc⟩ := hi
  refine hf.block i hlt (fun hm => ?_)
  rw [(hM.at_ i hm).2] at hc
  cases hc)) (fun i hi => hi.1)
theorem R_way {e : Nat} {W : World} {base : Nat} {ok : Nat → Prop} {v1 : Value} {v : List Nat} {x : Nat} (h : (Kd.int .i64).R e W base ok v1 ((v ++ [x]).map Int.ofNat)) : ∃ ad c, v1 = .slice (some ad) (v.length + 1) c ∧ v.length + 1 ≤ c ∧ (Kd.int .i64).C W (some ad) (v.length + 1) ((v ++ [x]).map Int.ofNat) := by
 obtain ⟨g, c, rfl, _⟩ := Kd.R_form h (by simp)
 obtain ⟨A, c2, e2, h1, h2⟩ := Kd.R_reads h
 have hl : ((v ++ [x]).map Int.ofNat).length = v.length + 1 := by simp
 cases e2
 rw [hl] at h1 h2 ⊢
 exact ⟨_, c, rfl, h1, h2⟩
theorem R_some {e : Nat} {W : World} {base : Nat} {ok : Nat → Prop} {v1 : Value} {v : List Nat} (h : (Kd.int .i64).R e W base ok v1 (v.map Int.ofNat)) (h0 : v ≠ []) : ∃ ad c, v1 = .slice (some ad) v.length c ∧ v.length ≤ c ∧ (Kd.int .i64).C W (some ad) v.length (v.map Int.ofNat) := by
 obtain ⟨g, c, rfl, _⟩ := Kd.R_form h (by rw [List.length_map]; exact List.length_pos_iff.2 h0)
 obtain ⟨A, c2, e2, h1, h2⟩ := Kd.R_reads h
 have hl : (v.map Int.ofNat).length = v.length := by simp
 cases e2
 rw [hl] at h1 h2 ⊢
 exact ⟨_, c, rfl, h1, h2⟩
theorem NW.reads {w : World} {b6 b7 : Nat} {nv : Value} {v : List Nat} {W : World} (h : NW w b6 b7 nv v W) : ∃ A c, nv = .slice A v.length c ∧ v.length ≤ c ∧ (A = none → c = 0) ∧ (Kd.int .i64).C W A v.length (v.map Int.ofNat) := by
 by_cases h0 : v = []
 ·have e := h.nil h0
  have hr := h.row
  subst h0
  subst e
  obtain ⟨A, c, e, h1, h2⟩ := Kd.R_reads hr
  cases e
  exact ⟨none, 0, rfl, Nat.le_refl _, fun _ => rfl, h2⟩
 ·obtain ⟨ad, c, e, h1, h2⟩ := R_some h.row h0
  exact ⟨some ad, c, e, h1, (fun h => by cases h), h2⟩
theorem LB.use {WB : Nat} {w : World} {bs : List Nat} {b5 b6 u : Nat} {r : Int} {wv : Value} {ps : List (List Nat)} {W : World} (h : LB WB w bs b5 b6 u r wv ps W) (u' : Nat) : LB WB w bs b5 b6 u' r wv ps (W.setCell ⟨b5, 0, none⟩ (.int .u16 (u' : Int))) := by
 have ho := h.ord
 have hf : Fr (fun k => k = b5) W (W.setCell ⟨b5, 0, none⟩ (.int .u16 (u' : Int))) := (Fr.refl _ _).setCell _ _ (fun _ => rfl)
 exact ⟨h.below.setCell (p := ⟨b5, 0, none⟩) (show w.heap.size ≤ b5 by omega) _, heap_set_ne (p := ⟨b5, 0, none⟩) _ (by show w.heap.size ≠ b5; omega) h.box, h.marks.fr hf (h.marks.ne h.used), heap_set (o := 0) _ h.used, heap_set_ne (p := ⟨b5, 0, none⟩) _ (by show b6 ≠ b5; omega) h.rest, Kd.R_set h.ways h.used (fun q hq => by rcases kW_E hq with rfl | rfl <;> decide) 0 _, h.ord⟩
theorem NW.use {w : World} {b5 b6 b7 : Nat} {nv : Value} {v : List Nat} {W : World} {cs : Array Value} (h : NW w b6 b7 nv v W) (hb : W.heap[b5]? = some (.cells cs 60)) (h5 : b5 < b6) (x : Value) : NW w b6 b7 nv v (W.setCell ⟨b5, 0, none⟩ x) :=
 ⟨heap_set_ne (p := ⟨b5, 0, none⟩) _ (by have := h.lt; show b7 ≠ b5; omega) h.box, Kd.R_set h.row hb (fun q hq => by rw [kI_E hq]; decide) 0 x, h.nil, h.lt⟩
theorem has_cast (v : List Nat) (x : Nat) : (v.map Int.ofNat).contains (x : Int) = v.contains x := by
 rw [Bool.eq_iff_iff, List.contains_iff_mem, List.contains_iff_mem, List.mem_map]
 constructor
 ·rintro ⟨a, ha, e⟩
  have : a = x := by injection e
  exact this ▸ ha
 ·exact fun h => ⟨x, h, rfl⟩
structure BW (W8 : World) (B0 b8 : Nat) (b : List Nat) (A : World) : Prop where
 below : Below b8 W8 A
 best : ∃ bv, A.heap[b8]? = some (.cells #[bv] 91) ∧ (Kd.int .i64).R 3 A b8 (fun k => B0 + 2 ≤ k) bv (b.map Int.ofNat) ∧ (b = [] → bv = .slice none 0 0)
theorem BW.fr {W8 : World} {B0 b8 : Nat} {b : List Nat} {A B : World} {S : Nat → Prop} (h : BW W8 B0 b8 b A) (h8 : b8 ≤ W8.heap.size) (hf : Fr S A B) (hS : ∀ k, S k → b8 < k ∧ k < B0 + 2) : BW W8 B0 b8 b B := by
 obtain ⟨h1, bv, h2, h3, h4⟩ := h
 refine ⟨h1.trans (hf.below (fun k hk hs => by have := hS k hs; omega) (by have := h1.size; omega)), bv, (hf.block _ (Array.getElem?_eq_some_iff.1 h2).1 (fun hs => by have := hS _ hs; omega)).trans h2, Kd.R_step h3 (fun k hk hl => hf.block k hl (fun hs => by have := hS k hs; omega)), h4⟩
theorem BW.call {W8 : World} {B0 b8 : Nat} {b : List Nat} {A B : World} (h : BW W8 B0 b8 b A) (h8 : b8 ≤ W8.heap.size) (hb : Below A.heap.size A B) : BW W8 B0 b8 b B := by
 obtain ⟨h1, bv, h2, h3, h4⟩ := h
 exact ⟨h1.trans (hb.mono (by have := h1.size; omega)), bv, (hb.block _ (Array.getElem?_eq_some_iff.1 h2).1).trans h2, Kd.R_below h3 hb, h4⟩
theorem BW.put {W8 : World} {B0 b8 : Nat} {b b' : List Nat} {A : World} {bv : Value} (h : BW W8 B0 b8 b A) (h8 : b8 ≤ W8.heap.size) (hr : (Kd.int .i64).R 3 A b8 (fun k => B0 + 2 ≤ k) bv (b'.map Int.ofNat)) (h0 : b' ≠ []) : BW W8 B0 b8 b' (A.setCell ⟨b8, 0, none⟩ bv) := by
 obtain ⟨h1, bv', h2, h3, h4⟩ := h
 exact ⟨h1.setCell (p := ⟨b8, 0, none⟩) (Nat.le_refl _) _, bv, heap_set (o := 0) _ h2, Kd.R_set hr h2 (fun q hq => by rw [kI_E hq]; decide) 0 bv, fun h => absurd h h0⟩
theorem goodB_cases (nx : Nat → List Nat) (sd og wo u : Nat) (v : List Nat) (all x : Nat) : goodB nx sd og wo u v all x = (!u.testBit x && (!v.contains x && (!wo.testBit x && canB nx sd og wo u v all x))) := rfl
theorem grow_succ (w : Flow.Web) (U : Nat → Bool) (r k : Nat) (v : List Nat) : Flow.grow w U r (k + 1) v = if Flow.isDone w U v r = true then some v else match (List.range w.K).find? (Flow.fits w U v (r + 1)) with
  |none => none
  |some i => Flow.grow w U r k (v ++ [i]) := rfl
theorem or_used (u : Nat) (v : List Nat) : Flow.or2 (bitsOf u) (Flow.inL v) = bitsOf (orL u v) := by
 funext i
 show (u.testBit i || v.contains i) = (orL u v).testBit i
 rw [orL_bit]
theorem lenAt_eq {i : Nat} {a : Act} {W : World} {p : Addr} {v : Value} (h : a.tmps.getD i undef = .pointer (some p)) (hc : W.cell? p = some v) : lenAt i a W = lenV v := by
 unfold lenAt
 rw [h]
 simp [hc]
theorem restAt_eq {a : Act} {W : World} {p : Addr} {v : Value} (h : a.tmps.getD 6 undef = .pointer (some p)) (hc : W.cell? p = some v) : restAt a W = (intOf v + 1).toNat := by
 unfold restAt
 rw [h]
 simp [hc]
theorem NW.len {w : World} {b6 b7 : Nat} {nv : Value} {v : List Nat} {W : World} (h : NW w b6 b7 nv v W) : lenV nv = v.length := by
 obtain ⟨_, _, e, _⟩ := h.reads
 rw [e]; rfl
theorem LB.grown {WB : Nat} {w : World} {bs : List Nat} {b5 b6 u : Nat} {r : Int} {wv wv' : Value} {ps ps' : List (List Nat)} {W W' : World} (h : LB WB w bs b5 b6 u r wv ps W) (hb : Below w.heap.size W W') (hg : W.grownBy W' wv.ownBlock) (hr : kW.R 26 W' w.heap.size (fun k => w.heap.size ≤ k ∧ k ≠ b6) wv' (ps'.map fun p => p.map Int.ofNat)) : LB WB w bs b5 b6 u r wv' ps' W' := by
 have hty := Kd.R_typed h.ways
 have key : ∀ k o, W.heap[k]? = some o → (∀ cs, o ≠ Obj.cells cs 26 (0, 0)) → W'.heap[k]? = some o := fun k o hk ho => by
  rw [← hk]
  refine hg.block k (Array.getElem?_eq_some_iff.1 hk).1 (fun e => ?_)
  obtain ⟨cs, hc⟩ := hty k e.symm
  rw [hk] at hc
  cases hc
  exact ho _ rfl
 exact ⟨h.below.trans hb, key _ _ h.box (fun cs e => by cases e), ⟨h.marks.nd, fun b hb' => ⟨(h.marks.at_ b hb').1, key _ _ (h.marks.at_ b hb').2 (fun cs e => by cases e)⟩⟩, key _ _ h.used (fun cs e => by cases e), key _ _ h.rest (fun cs e => by cases e), hr, h.ord⟩
theorem LB.renew {WB : Nat} {w : World} {bs : List Nat} {b5 b6 u : Nat} {r r' : Int} {wv : Value} {ps : List (List Nat)} {W W' : World} (h : LB WB w bs b5 b6 u r wv ps W) (hb : Below W.heap.size W W') (hr : W'.heap[W.heap.size]? = some (.cells #[.int .i64 r'] 3)) : LB WB w bs b5 W.heap.size u r' wv ps W' := by
 have h1 := h.call hb
 exact ⟨h1.below, h1.box, h1.marks, h1.used, hr, Kd.R_mono (Kd.R_below (Kd.R_bound h.ways) hb) (fun k hk => ⟨hk.1.1, by have := hk.2.2.1; omega⟩), h.ord.1, Nat.lt_trans h.ord.2 h.size⟩
theorem find_good {nx : Nat → List Nat} {sd og wo u : Nat} {v : List Nat} {all s j : Nat} (h : (elems s).find? (goodB nx sd og wo u v all) = some j) : j < 12 ∧ s.testBit j = true ∧ u.testBit j = false ∧ v.contains j = false ∧ wo.testBit j = false := by
 have hm := elems_mem (List.mem_of_find?_eq_some h)
 have hg := List.find?_some h
 unfold goodB at hg
 simp only [Bool.and_eq_true, Bool.not_eq_true'] at hg
 exact ⟨hm.1, hm.2, hg.1, hg.2.1, hg.2.2.1⟩
theorem grow_at {nx : Nat → List Nat} {sd og wo u r : Nat} {v : List Nat} (hl : v.length ≤ 12) (hd : Flow.isDone (netOf nx sd og wo) (bitsOf u) v r = false) : Flow.grow (netOf nx sd og wo) (bitsOf u) r (13 - v.length) v = match (elems (aft nx og v)).find? (goodB nx sd og wo u v (r + 1)) with
  |none => none
  |some i => Flow.grow (netOf nx sd og wo) (bitsOf u) r (13 - (v ++ [i]).length) (v ++ [i]) := by
 rw [show 13 - v.length = (12 - v.length) + 1 by omega, grow_succ, if_neg (by rw [hd]; decide), show (netOf nx sd og wo).K = 12 from rfl, find_eq]
 cases (elems (aft nx og v)).find? (goodB nx sd og wo u v (r + 1)) with
 |none => rfl
 |some i =>
  show Flow.grow _ _ _ _ _ = Flow.grow _ _ _ _ _
  rw [List.length_append, List.length_singleton, show 13 - (v.length + 1) = 12 - v.length by omega]
theorem least_none {nx : Nat → List Nat} {sd og wo u r : Nat} (h : Flow.grow (netOf nx sd og wo) (bitsOf u) r 13 [] = none) : Flow.leastF (netOf nx sd og wo) (r + 1) (bitsOf u) = [] := by
 unfold Flow.leastF
 rw [show (netOf nx sd og wo).K + 1 = 13 from rfl, h]
theorem least_some {nx : Nat → List Nat} {sd og wo u r : Nat} {v : List Nat} (h : Flow.grow (netOf nx sd og wo) (bitsOf u) r 13 [] = some v) : Flow.leastF (netOf nx sd og wo) (r + 1) (bitsOf u) = v :: Flow.leastF (netOf nx sd og wo) r (bitsOf (orL u v)) := by
 conv => lhs; unfold Flow.leastF
 rw [show (netOf nx sd og wo).K + 1 = 13 from rfl, h, ← or_used]
set_option maxRecDepth 100000 in
set_option maxHeartbeats 8000000 in
theorem least_any (WB : Nat) (nx : Nat → List Nat) (og sd wo : Nat) (w : World) (hW : WebX WB nx og sd wo w) (hnx : NxOk nx) (hT : Tab w) (hog : og < 4096) (hsd : sd < 4096) (hwo : wo < 4096) :
  Calls Tryd.prog 55 #[.pointer (some ⟨WB, 0, none⟩)] w fun e w' => ∃ v, e = .returned v ∧ kW.R 26 w' w.heap.size (fun k => w.heap.size ≤ k) v ((Flow.leastF (netOf nx sd og wo) (Flow.mc (netOf nx sd og wo)) (bitsOf 0)).map fun p => p.map Int.ofNat) ∧ Below w.heap.size w w' := by
 have hb1 := (Below.refl w.heap.size w).alloc (Nat.le_refl _) (.cells #[.pointer (some ⟨WB, 0, none⟩)] 64)
 have hW1 := hW.below hb1
 have hC : ∀ X : Ext (w.alloc (.cells #[.pointer (some ⟨WB, 0, none⟩)] 64)), Calls Tryd.prog 64 #[.pointer (some ⟨WB, 0, none⟩), .int .u16 (og : Int), .int .u16 0] X.val fun e W' => e = .returned (.int .i64 (Flow.mc (netOf nx sd og wo))) ∧ Below X.val.heap.size X.val W' := fun X => by
  have := most_any WB nx og sd wo og 0 X.val (hW1.below (X.2.below (fun _ _ h => h) (Nat.le_refl _))) hnx hog (by decide) hwo hsd
  rw [Nat.zero_or] at this
  exact this
 have cO := cell_ext hW1.org
 have cB := cell_ext (cell_of (o := 0) (heap_new (o := .cells #[.pointer (some ⟨WB, 0, none⟩)] 64) (W := w) rfl) rfl)
 have hM12 := mc_twelve nx hnx sd og wo
 obtain ⟨M, hM⟩ : ∃ M, Flow.mc (netOf nx sd og wo) = M := ⟨_, rfl⟩
 rw [hM] at hC hM12 ⊢
 have HC := Lib.hid hC; clear hC
 have HB := Lib.hid (And.intro hog (And.intro hsd hwo)); clear hog hsd hwo
 have HW := Lib.hid hW; clear hW hW1
 have HN := Lib.hid hnx; clear hnx
 have HT := Lib.hid hT; clear hT
 have H1 := Lib.hid hb1; clear hb1
 refine calls_of_wp_marks Tryd.func55 rfl ?_
 simp only [Tryd.ntmps55, List.size_toArray, List.length_cons, List.length_nil, Nat.reduceAdd, Nat.reduceSub, Array.replicate_succ, Array.replicate_zero, List.push_toArray, List.append_toArray, List.nil_append, List.cons_append]
 go_wp2_with fail
 refine region_ext (by kernel_rfl) (by kernel_rfl) ?_
 repeat (go_big_quiet_step (first | (go_at_call 64; with_reducible exact call_ext (HC.out _))))
 refine wpQuiet_nil ?_
 rintro W' ⟨X, rfl⟩
 have hb2 := X.2.below (n := (w.alloc (.cells #[.pointer (some ⟨WB, 0, none⟩)] 64)).heap.size) (fun _ _ h => h) (Nat.le_refl _)
 have hB0 : X.val.heap[w.heap.size]? = some (.cells #[.pointer (some ⟨WB, 0, none⟩)] 64) := (hb2.block _ (by simp)).trans (heap_new rfl)
 have hb3 := H1.out.trans (hb2.mono (by simp))
 have H2 := Lib.hid (And.intro hB0 hb3); clear hB0 hb2 hb3 cO cB HC
 generalize X.val = w1 at *
 have hMw : wrap64 ((M : Int) - 1) = (M : Int) - 1 := by unfold wrap64; omega
 go_wp2_with fail
 refine wp_loop (fun a W => ∃ (bs : List Nat) (b5 b6 u rr : Nat) (wv : Value) (ps : List (List Nat)) (u2 u3 u7 u8 u9 u10 u11 u12 u13 u14 u15 u16 u17 u18 u19 u20 u21 u22 u23 u24 u25 u26 u27 u28 u29 u30 u31 u32 u33 u34 u35 u36 u37 u38 u39 u40 u41 u42 u43 u44 u45 u46 u47 u48 u49 u50 u51 u52 u53 u54 u55 u56 u57 u58 u59 u60 u61 u62 u63 u64 u65 u66 u67 u68 u69 u70 u71 u72 u73 u74 u75 u76 u77 u78 u79 u80 u81 u82 u83 u84 u85 u86 u87 u88 u89 u90 u91 u92 u93 u94 u95 u96 u97 u98 u99 u100 u101 u102 u103 : Value), (LB WB w bs b5 b6 u ((rr : Int) - 1) wv ps W ∧ u < 4096 ∧ rr ≤ 12 ∧ ps.length + rr ≤ 12 ∧ ps ++ Flow.leastF (netOf nx sd og wo) rr (bitsOf u) = Flow.leastF (netOf nx sd og wo) M (bitsOf 0)) ∧ a = { tmps := #[.pointer (some ⟨WB, 0, none⟩), .pointer (some ⟨w.heap.size, 0, none⟩), u2, u3, wv, .pointer (some ⟨b5, 0, none⟩), .pointer (some ⟨b6, 0, none⟩), u7, u8, u9, u10, u11, u12, u13, u14, u15, u16, u17, u18, u19, u20, u21, u22, u23, u24, u25, u26, u27, u28, u29, u30, u31, u32, u33, u34, u35, u36, u37, u38, u39, u40, u41, u42, u43, u44, u45, u46, u47, u48, u49, u50, u51, u52, u53, u54, u55, u56, u57, u58, u59, u60, u61, u62, u63, u64, u65, u66, u67, u68, u69, u70, u71, u72, u73, u74, u75, u76, u77, u78, u79, u80, u81, u82, u83, u84, u85, u86, u87, u88, u89, u90, u91, u92, u93, u94, u95, u96, u97, u98, u99, u100, u101, u102, u103], defers := marks bs }) (restAt) ?_ ?_
 ·have hLB0 : LB WB w [] w1.heap.size (w1.heap.size + 1) 0 ((M : Int) - 1) (.slice none 0 0) [] ((w1.alloc (.cells #[.int .u16 0] 60)).alloc (.cells #[.int .i64 ((M : Int) - 1)] 3)) := by
   have hz := H2.out.2.size
   have hlt := (Array.getElem?_eq_some_iff.1 H2.out.1).1
   exact ⟨(H2.out.2.alloc H2.out.2.size _).alloc (by simp; omega) _, heap_old (heap_old H2.out.1), Marks.nil _ _, heap_old (heap_new rfl), heap_new (by simp), Kd.R_nil _ _ _ _ _, hlt, by omega⟩
  refine ⟨[], w1.heap.size, w1.heap.size + 1, 0, M, .slice none 0 0, [], ?_⟩
  (repeat apply Exists.intro)
  refine ⟨⟨hLB0, by decide, hM12, by simpa using hM12, List.nil_append _⟩, rfl⟩
 ·intro a W hinv
  obtain ⟨bs, b5, b6, u, rr, wv, ps, hinv⟩ := hinv
  obtain ⟨u2, hinv⟩ := hinv
  obtain ⟨u3, hinv⟩ := hinv
  obtain ⟨u7, hinv⟩ := hinv
  obtain ⟨u8, hinv⟩ := hinv
  obtain ⟨u9, hinv⟩ := hinv
  obtain ⟨u10, hinv⟩ := hinv
  obtain ⟨u11, hinv⟩ := hinv
  obtain ⟨u12, hinv⟩ := hinv
  obtain ⟨u13, hinv⟩ := hinv
  obtain ⟨u14, hinv⟩ := hinv
  obtain ⟨u15, hinv⟩ := hinv
  obtain ⟨u16, hinv⟩ := hinv
  obtain ⟨u17, hinv⟩ := hinv
  obtain ⟨u18, hinv⟩ := hinv
  obtain ⟨u19, hinv⟩ := hinv
  obtain ⟨u20, hinv⟩ := hinv
  obtain ⟨u21, hinv⟩ := hinv
  obtain ⟨u22, hinv⟩ := hinv
  obtain ⟨u23, hinv⟩ := hinv
  obtain ⟨u24, hinv⟩ := hinv
  obtain ⟨u25, hinv⟩ := hinv
  obtain ⟨u26, hinv⟩ := hinv
  obtain ⟨u27, hinv⟩ := hinv
  obtain ⟨u28, hinv⟩ := hinv
  obtain ⟨u29, hinv⟩ := hinv
  obtain ⟨u30, hinv⟩ := hinv
  obtain ⟨u31, hinv⟩ := hinv
  obtain ⟨u32, hinv⟩ := hinv
  obtain ⟨u33, hinv⟩ := hinv
  obtain ⟨u34, hinv⟩ := hinv
  obtain ⟨u35, hinv⟩ := hinv
  obtain ⟨u36, hinv⟩ := hinv
  obtain ⟨u37, hinv⟩ := hinv
  obtain ⟨u38, hinv⟩ := hinv
  obtain ⟨u39, hinv⟩ := hinv
  obtain ⟨u40, hinv⟩ := hinv
  obtain ⟨u41, hinv⟩ := hinv
  obtain ⟨u42, hinv⟩ := hinv
  obtain ⟨u43, hinv⟩ := hinv
  obtain ⟨u44, hinv⟩ := hinv
  obtain ⟨u45, hinv⟩ := hinv
  obtain ⟨u46, hinv⟩ := hinv
  obtain ⟨u47, hinv⟩ := hinv
  obtain ⟨u48, hinv⟩ := hinv
  obtain ⟨u49, hinv⟩ := hinv
  obtain ⟨u50, hinv⟩ := hinv
  obtain ⟨u51, hinv⟩ := hinv
  obtain ⟨u52, hinv⟩ := hinv
  obtain ⟨u53, hinv⟩ := hinv
  obtain ⟨u54, hinv⟩ := hinv
  obtain ⟨u55, hinv⟩ := hinv
  obtain ⟨u56, hinv⟩ := hinv
  obtain ⟨u57, hinv⟩ := hinv
  obtain ⟨u58, hinv⟩ := hinv
  obtain ⟨u59, hinv⟩ := hinv
  obtain ⟨u60, hinv⟩ := hinv
  obtain ⟨u61, hinv⟩ := hinv
  obtain ⟨u62, hinv⟩ := hinv
  obtain ⟨u63, hinv⟩ := hinv
  obtain ⟨u64, hinv⟩ := hinv
  obtain ⟨u65, hinv⟩ := hinv
  obtain ⟨u66, hinv⟩ := hinv
  obtain ⟨u67, hinv⟩ := hinv
  obtain ⟨u68, hinv⟩ := hinv
  obtain ⟨u69, hinv⟩ := hinv
  obtain ⟨u70, hinv⟩ := hinv
  obtain ⟨u71, hinv⟩ := hinv
  obtain ⟨u72, hinv⟩ := hinv
  obtain ⟨u73, hinv⟩ := hinv
  obtain ⟨u74, hinv⟩ := hinv
  obtain ⟨u75, hinv⟩ := hinv
  obtain ⟨u76, hinv⟩ := hinv
  obtain ⟨u77, hinv⟩ := hinv
  obtain ⟨u78, hinv⟩ := hinv
  obtain ⟨u79, hinv⟩ := hinv
  obtain ⟨u80, hinv⟩ := hinv
  obtain ⟨u81, hinv⟩ := hinv
  obtain ⟨u82, hinv⟩ := hinv
  obtain ⟨u83, hinv⟩ := hinv
  obtain ⟨u84, hinv⟩ := hinv
  obtain ⟨u85, hinv⟩ := hinv
  obtain ⟨u86, hinv⟩ := hinv
  obtain ⟨u87, hinv⟩ := hinv
  obtain ⟨u88, hinv⟩ := hinv
  obtain ⟨u89, hinv⟩ := hinv
  obtain ⟨u90, hinv⟩ := hinv
  obtain ⟨u91, hinv⟩ := hinv
  obtain ⟨u92, hinv⟩ := hinv
  obtain ⟨u93, hinv⟩ := hinv
  obtain ⟨u94, hinv⟩ := hinv
  obtain ⟨u95, hinv⟩ := hinv
  obtain ⟨u96, hinv⟩ := hinv
  obtain ⟨u97, hinv⟩ := hinv
  obtain ⟨u98, hinv⟩ := hinv
  obtain ⟨u99, hinv⟩ := hinv
  obtain ⟨u100, hinv⟩ := hinv
  obtain ⟨u101, hinv⟩ := hinv
  obtain ⟨u102, hinv⟩ := hinv
  obtain ⟨u103, hinv⟩ := hinv
  obtain ⟨⟨hLB, hu, hrr, hpr, hps⟩, rfl⟩ := hinv
  have c6 : W.cell? ⟨b6, 0, none⟩ = some (.int .i64 ((rr : Int) - 1)) := cell_of hLB.rest rfl
  cases rr with
  |zero =>
   have HL := Lib.hid (And.intro hLB hps); clear hLB hps
   go_wp2_with fail
   refine leave_marks HL.out.1.marks (v := wv) (fun W' hf hbl hs => ⟨by simp [results, Tryd.results55, go_sem], wv, rfl, ?_, HL.out.1.below.trans hbl⟩)
   rw [← HL.out.2, show Flow.leastF (netOf nx sd og wo) 0 (bitsOf u) = [] from rfl, List.append_nil]
   exact Kd.R_mono (R_marks HL.out.1.ways HL.out.1.marks hf) (fun k hk => hk.1)
  |succ r =>
   rw [show ((r + 1 : Nat) : Int) - 1 = (r : Int) by omega] at hLB c6
   have HL := Lib.hid (And.intro hLB (And.intro hps hpr)); clear hLB hps hpr
   go_wp2_with fail
   obtain ⟨b7, hb7⟩ : ∃ b, W.heap.size = b := ⟨_, rfl⟩
   rw [hb7]
   refine wp_loop (fun a W => ∃ (bs : List Nat) (nv : Value) (v : List Nat) (x2 x3 x8 x9 x10 x11 x12 x13 x14 x15 x16 x17 x18 x19 x20 x21 x22 x23 x24 x25 x26 x27 x28 x29 x30 x31 x32 x33 x34 x35 x36 x37 x38 x39 x40 x41 x42 x43 x44 x45 x46 x47 x48 x49 x50 x51 x52 x53 x54 x55 x56 x57 x58 x59 x60 x61 x62 x63 x64 x65 x66 x67 x68 x69 x70 x71 x72 x73 x74 x75 x76 x77 x78 x79 x80 x81 x82 x83 x84 x85 x86 x87 x88 x89 x90 x91 x92 x93 x94 x95 x96 x97 x98 x99 x100 x101 x102 x103 : Value), (LB WB w bs b5 b6 u (r : Int) wv ps W ∧ NW w b6 b7 nv v W ∧ (v = [] ∨ Flow.Begun (netOf nx sd og wo) (bitsOf u) v) ∧ v.length ≤ 12 ∧ Flow.grow (netOf nx sd og wo) (bitsOf u) r (13 - v.length) v = Flow.grow (netOf nx sd og wo) (bitsOf u) r 13 []) ∧ a = { tmps := #[.pointer (some ⟨WB, 0, none⟩), .pointer (some ⟨w.heap.size, 0, none⟩), x2, x3, wv, .pointer (some ⟨b5, 0, none⟩), .pointer (some ⟨b6, 0, none⟩), .pointer (some ⟨b7, 0, none⟩), x8, x9, x10, x11, x12, x13, x14, x15, x16, x17, x18, x19, x20, x21, x22, x23, x24, x25, x26, x27, x28, x29, x30, x31, x32, x33, x34, x35, x36, x37, x38, x39, x40, x41, x42, x43, x44, x45, x46, x47, x48, x49, x50, x51, x52, x53, x54, x55, x56, x57, x58, x59, x60, x61, x62, x63, x64, x65, x66, x67, x68, x69, x70, x71, x72, x73, x74, x75, x76, x77, x78, x79, x80, x81, x82, x83, x84, x85, x86, x87, x88, x89, x90, x91, x92, x93, x94, x95, x96, x97, x98, x99, x100, x101, x102, x103], defers := marks bs }) (fun a W => 13 - lenAt 7 a W) ?_ ?_
   ·refine ⟨bs, .slice none 0 0, [], ?_⟩
    (repeat apply Exists.intro)
    refine ⟨⟨HL.out.1.call ((Below.refl _ _).alloc (Nat.le_refl _) _), ⟨heap_new hb7, Kd.R_nil _ _ _ _ _, fun _ => rfl, ?_⟩, .inl rfl, Nat.zero_le _, rfl⟩, rfl⟩
    have := HL.out.1.size
    omega
   ·have HLP := Lib.hid (And.intro HL.out.2 HL.out.1.size); clear HL
    have HC6 := Lib.hid c6
    clear hb7 c6
    intro a W1 hinv
    obtain ⟨bs1, nv, v, hinv⟩ := hinv
    obtain ⟨x2, hinv⟩ := hinv
    obtain ⟨x3, hinv⟩ := hinv
    obtain ⟨x8, hinv⟩ := hinv
    obtain ⟨x9, hinv⟩ := hinv
    obtain ⟨x10, hinv⟩ := hinv
    obtain ⟨x11, hinv⟩ := hinv
    obtain ⟨x12, hinv⟩ := hinv
    obtain ⟨x13, hinv⟩ := hinv
    obtain ⟨x14, hinv⟩ := hinv
    obtain ⟨x15, hinv⟩ := hinv
    obtain ⟨x16, hinv⟩ := hinv
    obtain ⟨x17, hinv⟩ := hinv
    obtain ⟨x18, hinv⟩ := hinv
    obtain ⟨x19, hinv⟩ := hinv
    obtain ⟨x20, hinv⟩ := hinv
    obtain ⟨x21, hinv⟩ := hinv
    obtain ⟨x22, hinv⟩ := hinv
    obtain ⟨x23, hinv⟩ := hinv
    obtain ⟨x24, hinv⟩ := hinv
    obtain ⟨x25, hinv⟩ := hinv
    obtain ⟨x26, hinv⟩ := hinv
    obtain ⟨x27, hinv⟩ := hinv
    obtain ⟨x28, hinv⟩ := hinv
    obtain ⟨x29, hinv⟩ := hinv
    obtain ⟨x30, hinv⟩ := hinv
    obtain ⟨x31, hinv⟩ := hinv
    obtain ⟨x32, hinv⟩ := hinv
    obtain ⟨x33, hinv⟩ := hinv
    obtain ⟨x34, hinv⟩ := hinv
    obtain ⟨x35, hinv⟩ := hinv
    obtain ⟨x36, hinv⟩ := hinv
    obtain ⟨x37, hinv⟩ := hinv
    obtain ⟨x38, hinv⟩ := hinv
    obtain ⟨x39, hinv⟩ := hinv
    obtain ⟨x40, hinv⟩ := hinv
    obtain ⟨x41, hinv⟩ := hinv
    obtain ⟨x42, hinv⟩ := hinv
    obtain ⟨x43, hinv⟩ := hinv
    obtain ⟨x44, hinv⟩ := hinv
    obtain ⟨x45, hinv⟩ := hinv
    obtain ⟨x46, hinv⟩ := hinv
    obtain ⟨x47, hinv⟩ := hinv
    obtain ⟨x48, hinv⟩ := hinv
    obtain ⟨x49, hinv⟩ := hinv
    obtain ⟨x50, hinv⟩ := hinv
    obtain ⟨x51, hinv⟩ := hinv
    obtain ⟨x52, hinv⟩ := hinv
    obtain ⟨x53, hinv⟩ := hinv
    obtain ⟨x54, hinv⟩ := hinv
    obtain ⟨x55, hinv⟩ := hinv
    obtain ⟨x56, hinv⟩ := hinv
    obtain ⟨x57, hinv⟩ := hinv
    obtain ⟨x58, hinv⟩ := hinv
    obtain ⟨x59, hinv⟩ := hinv
    obtain ⟨x60, hinv⟩ := hinv
    obtain ⟨x61, hinv⟩ := hinv
    obtain ⟨x62, hinv⟩ := hinv
    obtain ⟨x63, hinv⟩ := hinv
    obtain ⟨x64, hinv⟩ := hinv
    obtain ⟨x65, hinv⟩ := hinv
    obtain ⟨x66, hinv⟩ := hinv
    obtain ⟨x67, hinv⟩ := hinv
    obtain ⟨x68, hinv⟩ := hinv
    obtain ⟨x69, hinv⟩ := hinv
    obtain ⟨x70, hinv⟩ := hinv
    obtain ⟨x71, hinv⟩ := hinv
    obtain ⟨x72, hinv⟩ := hinv
    obtain ⟨x73, hinv⟩ := hinv
    obtain ⟨x74, hinv⟩ := hinv
    obtain ⟨x75, hinv⟩ := hinv
    obtain ⟨x76, hinv⟩ := hinv
    obtain ⟨x77, hinv⟩ := hinv
    obtain ⟨x78, hinv⟩ := hinv
    obtain ⟨x79, hinv⟩ := hinv
    obtain ⟨x80, hinv⟩ := hinv
    obtain ⟨x81, hinv⟩ := hinv
    obtain ⟨x82, hinv⟩ := hinv
    obtain ⟨x83, hinv⟩ := hinv
    obtain ⟨x84, hinv⟩ := hinv
    obtain ⟨x85, hinv⟩ := hinv
    obtain ⟨x86, hinv⟩ := hinv
    obtain ⟨x87, hinv⟩ := hinv
    obtain ⟨x88, hinv⟩ := hinv
    obtain ⟨x89, hinv⟩ := hinv
    obtain ⟨x90, hinv⟩ := hinv
    obtain ⟨x91, hinv⟩ := hinv
    obtain ⟨x92, hinv⟩ := hinv
    obtain ⟨x93, hinv⟩ := hinv
    obtain ⟨x94, hinv⟩ := hinv
    obtain ⟨x95, hinv⟩ := hinv
    obtain ⟨x96, hinv⟩ := hinv
    obtain ⟨x97, hinv⟩ := hinv
    obtain ⟨x98, hinv⟩ := hinv
    obtain ⟨x99, hinv⟩ := hinv
    obtain ⟨x100, hinv⟩ := hinv
    obtain ⟨x101, hinv⟩ := hinv
    obtain ⟨x102, hinv⟩ := hinv
    obtain ⟨x103, hinv⟩ := hinv
    obtain ⟨⟨hLB, hNW, hv, hvl, hgr⟩, rfl⟩ := hinv
    have hv12 : ∀ x ∈ v, x < 12 := fun x hx => by
     rcases hv with rfl | hv
     ·cases hx
     ·exact (hv.ok x hx).1
    have c1 : W1.cell? ⟨w.heap.size, 0, none⟩ = some (.pointer (some ⟨WB, 0, none⟩)) := cell_of hLB.box rfl
    have c5 : W1.cell? ⟨b5, 0, none⟩ = some (.int .u16 (u : Int)) := cell_of hLB.used rfl
    have c6 : W1.cell? ⟨b6, 0, none⟩ = some (.int .i64 (r : Int)) := cell_of hLB.rest rfl
    have c7 : W1.cell? ⟨b7, 0, none⟩ = some nv := cell_of hNW.box rfl
    have hWX := HW.out.below hLB.below
    have hP := Lib.hid (And.intro hv (And.intro hvl (And.intro hgr hv12))); clear hv hvl hgr hv12
    have HC7 := Lib.hid c7
    by_cases h0 : v = []
    ·have e := hNW.nil h0
     subst e
     have heq : ∀ W, (binOp .eql 91 (.slice none 0 0) (.slice none 0 0)).run Tryd.prog W = .ok (.bool true) W := fun W => Lib.run_eql_slice_nil W 91 3 none 0 0 0 0 Tryd.underlying91
     have HD := Lib.hid (show Flow.isDone (netOf nx sd og wo) (bitsOf u) v r = false by rw [h0]; rfl)
     clear h0
     have HLN := Lib.hid (And.intro hLB (And.intro hNW hWX)); clear hLB hNW hWX
     clear c1 c5 c6
     have hLB9 := HLN.out.1.call (Below.refl W1.heap.size W1 |>.alloc (Nat.le_refl _) (.cells #[.slice none 0 0] 91))
     have hNW9 := HLN.out.2.1.call (Below.refl W1.heap.size W1 |>.alloc (Nat.le_refl _) (.cells #[.slice none 0 0] 91))
     obtain ⟨A9, c9, e9, hc9, hn9, hC9⟩ := hNW9.reads
     have haft := after_any WB nx og sd wo _ A9 c9 v (HW.out.below hLB9.below) HN.out hC9 hP.out.2.2.2
     rw [← e9] at haft
     have d1 : (W1.alloc (.cells #[.slice none 0 0] 91)).cell? ⟨w.heap.size, 0, none⟩ = some (.pointer (some ⟨WB, 0, none⟩)) := cell_of hLB9.box rfl
     have d7 : (W1.alloc (.cells #[.slice none 0 0] 91)).cell? ⟨b7, 0, none⟩ = some (.slice none 0 0) := cell_of hNW9.box rfl
     have HAF := Lib.hid haft; clear haft hLB9 hNW9 e9 hc9 hn9 hC9
     go_wp2_with fail
     refine HAF.out.mono ?_
     rintro e w10 ⟨rfl, hb10⟩
     have HB10 := Lib.hid hb10; clear hb10
     clear d1 d7 HAF
     go_wp2_with fail
     refine (each_any _ _).mono ?_
     rintro e w11 ⟨rfl, rfl⟩
     go_wp2_with fail
     obtain ⟨b8, hb8⟩ : ∃ b, W1.heap.size = b := ⟨_, rfl⟩
     rw [hb8]
     obtain ⟨SB, hSB⟩ : ∃ b, w10.heap.size = b := ⟨_, rfl⟩
     rw [hSB]
     have haf4 := aft_lt HN.out HB.out.1 hP.out.2.2.2
     have h8S : b8 < SB := by have := HB10.out.size; simp at this; omega
     have h78 : b7 < b8 := by have := (Array.getElem?_eq_some_iff.1 HLN.out.2.1.box).1; omega
     have h67 := HLN.out.2.1.lt
     have h56 := HLN.out.1.ord
     have hbw : Below b8 W1 (w10.alloc (.cells #[.int .u16 (aft nx og v : Nat)] 60)) := ((Below.refl b8 W1).alloc (by omega) (.cells #[.slice none 0 0] 91)).trans ((HB10.out.alloc HB10.out.size _).mono (by simp; omega))
     have hbx : (w10.alloc (.cells #[.int .u16 (aft nx og v : Nat)] 60)).heap[b8]? = some (.cells #[.slice none 0 0] 91) := ((HB10.out.alloc HB10.out.size _).block b8 (by simp; omega)).trans (heap_new hb8)
     have hT1 : Tab (w10.alloc (.cells #[.int .u16 (aft nx og v : Nat)] 60)) := HT.out.next (HLN.out.1.below.trans (hbw.mono (by omega))) HT.out.pos
     have hBW0 : BW W1 (SB + 1) b8 (bestW (goodB nx sd og wo u v (r + 1)) v ((elems (aft nx og v)).take 0)) (w10.alloc (.cells #[.int .u16 (aft nx og v : Nat)] 60)) := ⟨hbw, .slice none 0 0, hbx, Kd.R_nil _ _ _ _ _, fun _ => rfl⟩
     have HS := Lib.hid (And.intro hT1 (And.intro hBW0 (show (w10.alloc (.cells #[.int .u16 (aft nx og v : Nat)] 60)).heap[SB]? = some (.cells #[.int .u16 (aft nx og v : Nat)] 60) from heap_new hSB))); clear hT1 hBW0 hbw hbx
     refine wp_range (α := Nat) (SB + 1) (by simp [hSB]) (gf := 57) (lb := #[.pointer (some ⟨SB, 0, none⟩)]) rfl (fun _ _ => rfl) (each_iter (aft nx og v) SB haf4 (by omega)) (fun _ => rfl) (fun k => k = b8)
      (fun W' hf => ⟨HS.out.1.fr hf (fun h => h), (hf.block _ (Array.getElem?_eq_some_iff.1 HS.out.2.2).1 (fun h => h)).trans HS.out.2.2⟩) ?hlt ?hown
      (fun i s A => i ≤ (elems (aft nx og v)).length ∧ BW W1 (SB + 1) b8 (bestW (goodB nx sd og wo u v (r + 1)) v ((elems (aft nx og v)).take i)) A) (fun _ _ _ => False)
      ?hI (fun _ _ _ _ h _ _ => h) (fun i s A h => Nat.le_trans h.1 (elems_len _)) ?h0
      (fun i s z x a' A => x < 12 ∧ BW W1 (SB + 1) b8 (bestW (goodB nx sd og wo u v (r + 1)) v ((elems (aft nx og v)).take i)) A ∧ ∃ (y2 y3 y4 y10 y11 y12 y13 y14 y15 y16 y17 y18 y19 y20 y21 y22 y23 y24 y25 y26 y27 y28 y29 y30 y31 y32 y33 y34 y35 y36 y37 y38 y39 y40 y41 y42 y43 y44 y45 y46 y47 y48 y49 y50 y51 y52 y53 y54 y55 y56 y57 y58 y59 y60 y61 y62 y63 y64 y65 y66 y67 y68 y69 y70 y71 y72 y73 y74 y75 y76 y77 y78 y79 y80 y81 y82 y83 y84 y85 y86 y87 y88 y89 y90 y91 y92 y93 y94 y95 y96 y97 y98 y99 y100 y101 y102 y103 : Value), a' = { tmps := #[.pointer (some ⟨WB, 0, none⟩), .pointer (some ⟨w.heap.size, 0, none⟩), y2, y3, y4, .pointer (some ⟨b5, 0, none⟩), .pointer (some ⟨b6, 0, none⟩), .pointer (some ⟨b7, 0, none⟩), .pointer (some ⟨b8, 0, none⟩), .int .i64 (x : Int), y10, y11, y12, y13, y14, y15, y16, y17, y18, y19, y20, y21, y22, y23, y24, y25, y26, y27, y28, y29, y30, y31, y32, y33, y34, y35, y36, y37, y38, y39, y40, y41, y42, y43, y44, y45, y46, y47, y48, y49, y50, y51, y52, y53, y54, y55, y56, y57, y58, y59, y60, y61, y62, y63, y64, y65, y66, y67, y68, y69, y70, y71, y72, y73, y74, y75, y76, y77, y78, y79, y80, y81, y82, y83, y84, y85, y86, y87, y88, y89, y90, y91, y92, y93, y94, y95, y96, y97, y98, y99, y100, y101, y102, y103], defers := [] })
      ?hA ?hassign ?hbody ?hdone (fun _ _ _ _ _ h _ _ => h.elim)
     case hlt => rintro k (rfl | rfl | rfl) <;> omega
     case hown => rintro k rfl; exact ⟨by omega, by omega⟩
     case hI => rintro i s A B ⟨h1, h2⟩ hs hf; exact ⟨h1, h2.fr (by omega) hf (fun k h => by omega)⟩
     case h0 => intro W' hf hz'; exact ⟨Nat.zero_le _, HS.out.2.1.fr (by omega) hf (fun _ h => h.elim)⟩
     case hA => rintro i s z x a' A B ⟨h1, h2, h3⟩ hs hf hz'; exact ⟨h1, h2.fr (by omega) hf (fun k h => by omega), h3⟩
     case hassign =>
      rintro l i s x A hx ⟨h1, h2⟩ hs hsA
      have hx12 := (elems_mem (List.mem_of_getElem? hx)).1
      gi_wp2
      refine ⟨Fr.refl _ _, hx12, h2, ?_⟩
      (repeat apply Exists.intro)
      rfl
     case hbody =>
      rintro l i s z x a' A hx ⟨hx12, hBW, hy⟩ hs hsz' hzA
      obtain ⟨y2, hy⟩ := hy
      obtain ⟨y3, hy⟩ := hy
      obtain ⟨y4, hy⟩ := hy
      obtain ⟨y10, hy⟩ := hy
      obtain ⟨y11, hy⟩ := hy
      obtain ⟨y12, hy⟩ := hy
      obtain ⟨y13, hy⟩ := hy
      obtain ⟨y14, hy⟩ := hy
      obtain ⟨y15, hy⟩ := hy
      obtain ⟨y16, hy⟩ := hy
      obtain ⟨y17, hy⟩ := hy
      obtain ⟨y18, hy⟩ := hy
      obtain ⟨y19, hy⟩ := hy
      obtain ⟨y20, hy⟩ := hy
      obtain ⟨y21, hy⟩ := hy
      obtain ⟨y22, hy⟩ := hy
      obtain ⟨y23, hy⟩ := hy
      obtain ⟨y24, hy⟩ := hy
      obtain ⟨y25, hy⟩ := hy
      obtain ⟨y26, hy⟩ := hy
      obtain ⟨y27, hy⟩ := hy
      obtain ⟨y28, hy⟩ := hy
      obtain ⟨y29, hy⟩ := hy
      obtain ⟨y30, hy⟩ := hy
      obtain ⟨y31, hy⟩ := hy
      obtain ⟨y32, hy⟩ := hy
      obtain ⟨y33, hy⟩ := hy
      obtain ⟨y34, hy⟩ := hy
      obtain ⟨y35, hy⟩ := hy
      obtain ⟨y36, hy⟩ := hy
      obtain ⟨y37, hy⟩ := hy
      obtain ⟨y38, hy⟩ := hy
      obtain ⟨y39, hy⟩ := hy
      obtain ⟨y40, hy⟩ := hy
      obtain ⟨y41, hy⟩ := hy
      obtain ⟨y42, hy⟩ := hy
      obtain ⟨y43, hy⟩ := hy
      obtain ⟨y44, hy⟩ := hy
      obtain ⟨y45, hy⟩ := hy
      obtain ⟨y46, hy⟩ := hy
      obtain ⟨y47, hy⟩ := hy
      obtain ⟨y48, hy⟩ := hy
      obtain ⟨y49, hy⟩ := hy
      obtain ⟨y50, hy⟩ := hy
      obtain ⟨y51, hy⟩ := hy
      obtain ⟨y52, hy⟩ := hy
      obtain ⟨y53, hy⟩ := hy
      obtain ⟨y54, hy⟩ := hy
      obtain ⟨y55, hy⟩ := hy
      obtain ⟨y56, hy⟩ := hy
      obtain ⟨y57, hy⟩ := hy
      obtain ⟨y58, hy⟩ := hy
      obtain ⟨y59, hy⟩ := hy
      obtain ⟨y60, hy⟩ := hy
      obtain ⟨y61, hy⟩ := hy
      obtain ⟨y62, hy⟩ := hy
      obtain ⟨y63, hy⟩ := hy
      obtain ⟨y64, hy⟩ := hy
      obtain ⟨y65, hy⟩ := hy
      obtain ⟨y66, hy⟩ := hy
      obtain ⟨y67, hy⟩ := hy
      obtain ⟨y68, hy⟩ := hy
      obtain ⟨y69, hy⟩ := hy
      obtain ⟨y70, hy⟩ := hy
      obtain ⟨y71, hy⟩ := hy
      obtain ⟨y72, hy⟩ := hy
      obtain ⟨y73, hy⟩ := hy
      obtain ⟨y74, hy⟩ := hy
      obtain ⟨y75, hy⟩ := hy
      obtain ⟨y76, hy⟩ := hy
      obtain ⟨y77, hy⟩ := hy
      obtain ⟨y78, hy⟩ := hy
      obtain ⟨y79, hy⟩ := hy
      obtain ⟨y80, hy⟩ := hy
      obtain ⟨y81, hy⟩ := hy
      obtain ⟨y82, hy⟩ := hy
      obtain ⟨y83, hy⟩ := hy
      obtain ⟨y84, hy⟩ := hy
      obtain ⟨y85, hy⟩ := hy
      obtain ⟨y86, hy⟩ := hy
      obtain ⟨y87, hy⟩ := hy
      obtain ⟨y88, hy⟩ := hy
      obtain ⟨y89, hy⟩ := hy
      obtain ⟨y90, hy⟩ := hy
      obtain ⟨y91, hy⟩ := hy
      obtain ⟨y92, hy⟩ := hy
      obtain ⟨y93, hy⟩ := hy
      obtain ⟨y94, hy⟩ := hy
      obtain ⟨y95, hy⟩ := hy
      obtain ⟨y96, hy⟩ := hy
      obtain ⟨y97, hy⟩ := hy
      obtain ⟨y98, hy⟩ := hy
      obtain ⟨y99, hy⟩ := hy
      obtain ⟨y100, hy⟩ := hy
      obtain ⟨y101, hy⟩ := hy
      obtain ⟨y102, hy⟩ := hy
      obtain ⟨y103, hy⟩ := hy
      subst hy
      have hbA : Below W1.heap.size W1 A := by rw [hb8]; exact hBW.below
      have hLBA := HLN.out.1.call hbA
      have hNWA := HLN.out.2.1.call hbA
      obtain ⟨A9, c9, e9, hc9, hn9, hC9⟩ := hNWA.reads
      have hxi := List.getElem?_eq_some_iff.1 hx
      obtain ⟨hi, hxe⟩ := hxi
      have htk : (elems (aft nx og v)).take (i + 1) = (elems (aft nx og v)).take i ++ [x] := by rw [List.take_succ_eq_append_getElem hi, hxe]
      have a1 : A.cell? ⟨w.heap.size, 0, none⟩ = some (.pointer (some ⟨WB, 0, none⟩)) := cell_of hLBA.box rfl
      have a7 : A.cell? ⟨b7, 0, none⟩ = some (.slice none 0 0) := cell_of hNWA.box rfl
      have hvl := hP.out.2.1
      have hcl := cloneW_any A9 c9 (v.map Int.ofNat) A (by rw [List.length_map]; exact hC9) (by rw [List.length_map]; omega) (by rw [List.length_map]; exact hc9) hn9
      rw [List.length_map, ← e9] at hcl
      have HCL := Lib.hid hcl; clear hcl
      have hK := Lib.hid (And.intro (show i + 1 ≤ (elems (aft nx og v)).length from hi) (And.intro htk hBW))
      have hXS := Lib.hid hx; clear hxe htk hx hi
      have H9 := Lib.hid (And.intro e9 (And.intro hc9 (And.intro hn9 hC9))); clear e9 hc9 hn9 hC9
      have HAA := Lib.hid (And.intro hbA (And.intro hLBA hNWA)); clear hbA hLBA hNWA hBW
      gi_wp2_with fail
      refine ⟨trivial, rfl, CallsIn.mono (calls_round l 0 HCL.out) ?_⟩
      rintro e A1 ⟨cv, rfl, hfr⟩
      have HF := Lib.hid hfr; clear hfr HCL a1 a7
      gi_wp2_with (gi_at_builtin; go_loud (refine list_round l 0 (fun ⟨_, _, h⟩ => h) _ _ _ (by kernel_rfl) ?_; refine Kd.R_append (Kd.int .i64) (w0 := A1) A.heap.size rfl (.tmp 41) (.tmp 43) 91 3 (.int .i64 0) 8 rfl Tryd.underlying91 info3 rfl (by decide) (by decide) _ (v.map Int.ofNat) (x : Int) [.int .i64 (x : Int)] (fun k => A.heap.size ≤ k) (fun _ => False) rfl rfl rfl (fun _ h => h.elim) (fun k hk => Nat.le_trans HF.out.2.size hk) HF.out.1 (Below.refl _ _) HF.out.2.size (by simp; omega) ?_; intro v1 A2 h1 h2 h3 h4))
      rw [show v.map Int.ofNat ++ [(x : Int)] = (v ++ [x]).map Int.ofNat by simp] at h1
      obtain ⟨ad2, c2, rfl, hc2, hC2⟩ := R_way h1
      go_wp2_with fail
      have hbF := HF.out.2.trans h2
      have hbW := HAA.out.1.trans (hbF.mono HAA.out.1.size)
      have hLB2 := HLN.out.1.call hbW
      have hNW2 := HLN.out.2.1.call hbW
      have a1 : A2.cell? ⟨w.heap.size, 0, none⟩ = some (.pointer (some ⟨WB, 0, none⟩)) := cell_of hLB2.box rfl
      have a5 : A2.cell? ⟨b5, 0, none⟩ = some (.int .u16 (u : Int)) := cell_of hLB2.used rfl
      have a6 : A2.cell? ⟨b6, 0, none⟩ = some (.int .i64 (r : Int)) := cell_of hLB2.rest rfl
      have a7 : A2.cell? ⟨b7, 0, none⟩ = some (.slice none 0 0) := cell_of hNW2.box rfl
      have aW := (HW.out.below hLB2.below).wo
      have hhas := has_any u x (by omega) (by omega) A2
      have hcon := containsW_any A9 c9 (v.map Int.ofNat) (x : Int) A2 (by rw [List.length_map]; exact Kd.C_below H9.out.2.2.2 (hbF))
      rw [has_cast, List.length_map, ← H9.out.1] at hcon
      have hhwo := has_any wo x (by have := HB.out.2.2; omega) (by omega) A2
      have hcan := can_any WB nx og sd wo u (r + 1) A2 (some ad2) c2 v x (HW.out.below hLB2.below) HN.out hC2 hP.out.2.2.2 hx12 HB.out.1 HB.out.2.1 HB.out.2.2 hu (by omega) hc2
      rw [show ((r + 1 : Nat) : Int) = (r : Int) + 1 by omega] at hcan
      have hrw : wrap64 ((r : Int) + 1) = (r : Int) + 1 := by unfold wrap64; omega
      have HR1 := Lib.hid (And.intro h1 (And.intro hc2 hC2)); clear h1 hc2 hC2
      have HBF := Lib.hid (And.intro hbF hbW); clear hbF hbW h2 h3 h4
      clear hLB2 hNW2
      have hG := goodB_cases nx sd og wo u v (r + 1) x
      generalize hq1 : u.testBit x = q1 at *
      generalize hq2 : v.contains x = q2 at *
      generalize hq3 : wo.testBit x = q3 at *
      generalize hq4 : canB nx sd og wo u v (r + 1) x = q4 at *
      clear hq1 hq2 hq3 hq4
      have HCAN := Lib.hid hcan; clear hcan
      have HCON := Lib.hid hcon; clear hcon
      have HHAS := Lib.hid hhas; clear hhas
      have HHWO := Lib.hid hhwo; clear hhwo
      clear hu hrr
      cases q1 with
      |true =>
       have HG := Lib.hid hG; clear hG
       gi_wp2_with fail
       refine ⟨trivial, rfl, CallsIn.mono (calls_round l 0 HHAS.out) ?_⟩
       rintro e W' ⟨rfl, rfl⟩
       gi_wp2_with fail
       refine ⟨trivial, ?_⟩
       gi_wp2_with fail
       refine ⟨trivial, ?_⟩
       gi_wp2_with fail
       refine ⟨trivial, ?_⟩
       gi_wp2_with fail
       all_goals first | (rename_i hb hn; exact absurd hb (by simp [undef])) | skip
       refine ⟨trivial, ?_⟩
       gi_wp2_with fail
       refine ⟨(Fr.of_below HBF.out.1).mono (fun k _ h => .inr (.inr (by omega))), hK.out.1, ?_⟩
       rw [hK.out.2.1, bestW_no HG.out]
       exact hK.out.2.2.call (by omega) HBF.out.1
      |false =>
       cases q2 with
       |true =>
        have HG := Lib.hid hG; clear hG
        gi_wp2_with fail
        refine ⟨trivial, rfl, CallsIn.mono (calls_round l 0 HHAS.out) ?_⟩
        rintro e W' ⟨rfl, rfl⟩
        gi_wp2_with fail
        refine ⟨trivial, rfl, CallsIn.mono (calls_round l 0 HCON.out) ?_⟩
        rintro e W' ⟨rfl, rfl⟩
        gi_wp2_with fail
        refine ⟨trivial, ?_⟩
        gi_wp2_with fail
        refine ⟨trivial, ?_⟩
        gi_wp2_with fail
        all_goals first | (rename_i hb hn; exact absurd hb (by simp [undef])) | skip
        refine ⟨trivial, ?_⟩
        gi_wp2_with fail
        refine ⟨(Fr.of_below HBF.out.1).mono (fun k _ h => .inr (.inr (by omega))), hK.out.1, ?_⟩
        rw [hK.out.2.1, bestW_no HG.out]
        exact hK.out.2.2.call (by omega) HBF.out.1
       |false =>
        cases q3 with
        |true =>
         have HG := Lib.hid hG; clear hG
         gi_wp2_with fail
         refine ⟨trivial, rfl, CallsIn.mono (calls_round l 0 HHAS.out) ?_⟩
         rintro e W' ⟨rfl, rfl⟩
         gi_wp2_with fail
         refine ⟨trivial, rfl, CallsIn.mono (calls_round l 0 HCON.out) ?_⟩
         rintro e W' ⟨rfl, rfl⟩
         gi_wp2_with fail
         refine ⟨trivial, rfl, CallsIn.mono (calls_round l 0 HHWO.out) ?_⟩
         rintro e W' ⟨rfl, rfl⟩
         gi_wp2_with fail
         refine ⟨trivial, ?_⟩
         gi_wp2_with fail
         all_goals first | (rename_i hb hn; exact absurd hb (by simp [undef])) | skip
         refine ⟨trivial, ?_⟩
         gi_wp2_with fail
         refine ⟨(Fr.of_below HBF.out.1).mono (fun k _ h => .inr (.inr (by omega))), hK.out.1, ?_⟩
         rw [hK.out.2.1, bestW_no HG.out]
         exact hK.out.2.2.call (by omega) HBF.out.1
        |false =>
         cases q4 with
         |false =>
          have HG := Lib.hid hG; clear hG
          gi_wp2_with fail
          refine ⟨trivial, rfl, CallsIn.mono (calls_round l 0 HHAS.out) ?_⟩
          rintro e W' ⟨rfl, rfl⟩
          gi_wp2_with fail
          refine ⟨trivial, rfl, CallsIn.mono (calls_round l 0 HCON.out) ?_⟩
          rintro e W' ⟨rfl, rfl⟩
          gi_wp2_with fail
          refine ⟨trivial, rfl, CallsIn.mono (calls_round l 0 HHWO.out) ?_⟩
          rintro e W' ⟨rfl, rfl⟩
          gi_wp2_with fail
          refine ⟨trivial, rfl, CallsIn.mono (calls_round l 0 HCAN.out) ?_⟩
          rintro e A3 ⟨rfl, hb3⟩
          have hB3 := Lib.hid (HBF.out.1.trans (hb3.mono HBF.out.1.size)); clear hb3
          gi_wp2_with fail
          all_goals first | (rename_i hb hn; exact absurd hb (by simp [undef])) | skip
          refine ⟨trivial, ?_⟩
          gi_wp2_with fail
          refine ⟨(Fr.of_below hB3.out).mono (fun k _ h => .inr (.inr (by omega))), hK.out.1, ?_⟩
          rw [hK.out.2.1, bestW_no HG.out]
          exact hK.out.2.2.call (by omega) hB3.out
         |true =>
          have HG := Lib.hid hG; clear hG
          gi_wp2_with fail
          refine ⟨trivial, rfl, CallsIn.mono (calls_round l 0 HHAS.out) ?_⟩
          rintro e W' ⟨rfl, rfl⟩
          gi_wp2_with fail
          refine ⟨trivial, rfl, CallsIn.mono (calls_round l 0 HCON.out) ?_⟩
          rintro e W' ⟨rfl, rfl⟩
          gi_wp2_with fail
          refine ⟨trivial, rfl, CallsIn.mono (calls_round l 0 HHWO.out) ?_⟩
          rintro e W' ⟨rfl, rfl⟩
          gi_wp2_with fail
          refine ⟨trivial, rfl, CallsIn.mono (calls_round l 0 HCAN.out) ?_⟩
          rintro e A3 ⟨rfl, hb3⟩
          have hB3 := HBF.out.1.trans (hb3.mono HBF.out.1.size)
          have hBW3 := hK.out.2.2.call (by omega) hB3
          have HBW3 := Lib.hid hBW3
          obtain ⟨hbelow3, bv, hbx3, hbr3, hbn3⟩ := hBW3
          have e8 : A3.cell? ⟨b8, 0, none⟩ = some bv := cell_of hbx3 rfl
          have f8 := frozen_of (o := 0) hbx3
          have hR3 : (Kd.int .i64).R 3 A3 b8 (fun k => SB + 1 + 2 ≤ k) (.slice (some ad2) (v.length + 1) c2) ((v ++ [x]).map Int.ofNat) := Kd.R_mono (Kd.R_lower (Kd.R_below HR1.out.1 hb3) (by have := hK.out.2.2.below.size; omega)) (fun k hk => by omega)
          have hC3 := Kd.C_below HR1.out.2.2 hb3
          have HB3 := Lib.hid hB3; clear hB3 hbelow3
          cases hfd : ((elems (aft nx og v)).take i).find? (goodB nx sd og wo u v (r + 1)) with
          |none =>
           have hb0 : bestW (goodB nx sd og wo u v (r + 1)) v ((elems (aft nx og v)).take i) = [] := by unfold bestW; rw [hfd]
           obtain rfl := hbn3 hb0
           have heqn : ∀ W, (binOp .eql 91 (.slice none 0 0) (.slice none 0 0)).run Tryd.prog W = .ok (.bool true) W := fun W => Lib.run_eql_slice_nil W 91 3 none 0 0 0 0 Tryd.underlying91
           have HNW := Lib.hid (bestW_new (v := v) HG.out hfd)
           have HR3 := Lib.hid hR3
           clear hbx3 hbr3 hbn3 hb0 hfd hR3 hC3 hb3
           gi_wp2_with fail
           refine ⟨trivial, ?_⟩
           gi_wp2_with fail
           refine ⟨((Fr.of_below HB3.out).mono (fun k _ h => .inr (.inr (by omega)))).setCell _ _ (fun _ => .inl rfl), hK.out.1, ?_⟩
           rw [hK.out.2.1, HNW.out]
           exact BW.put HBW3.out (by omega) HR3.out (by simp)
          |some j =>
           have hold := bestW_old (v := v) (x := x) hfd
           rw [hold.2] at hbr3
           obtain ⟨ad3, c3, rfl, hc3, hC4⟩ := R_way hbr3
           have heqn : ∀ W, (binOp .eql 91 (.slice (some ad3) (v.length + 1) c3) (.slice none 0 0)).run Tryd.prog W = .ok (.bool false) W := fun W => Lib.run_eql_slice_nil W 91 3 (some ad3) (v.length + 1) c3 0 0 Tryd.underlying91
           have hjx := elems_earlier hXS.out hfd
           have hlen : ∀ y, ((v ++ [y]).map Int.ofNat).length = v.length + 1 := fun y => by simp
           have hcm := compareW_any (some ad2) c2 ((v ++ [x]).map Int.ofNat) (some ad3) c3 ((v ++ [j]).map Int.ofNat) A3 (by rw [hlen]; exact hC3) (by rw [hlen]; exact HR1.out.2.1) (by rw [hlen]; exact hC4) (by rw [hlen]; exact hc3)
           rw [hlen, hlen, List.map_append, List.map_append, show ([x].map Int.ofNat) = [(x : Int)] from rfl, show ([j].map Int.ofNat) = [(j : Int)] from rfl, lexC_snoc (by omega)] at hcm
           have HCM := Lib.hid hcm
           have HOLD := Lib.hid hold
           clear hbx3 hbr3 hbn3 hold hfd hR3 hC3 hb3 hcm hlen hC4 hjx
           gi_wp2_with fail
           refine ⟨trivial, rfl, CallsIn.mono (calls_round l 0 HCM.out) ?_⟩
           rintro e A4 ⟨rfl, hb4⟩
           have HB4 := Lib.hid (And.intro hb4 (HB3.out.trans (hb4.mono HB3.out.size))); clear hb4
           gi_wp2_with fail
           refine ⟨(Fr.of_below HB4.out.2).mono (fun k _ h => .inr (.inr (by omega))), hK.out.1, ?_⟩
           rw [hK.out.2.1, HOLD.out.1, ← HOLD.out.2]
           exact HBW3.out.call (by omega) HB4.out.1
     case hdone =>
      rintro k s A hx ⟨h1, h2⟩ hs hD
      obtain rfl : k = (elems (aft nx og v)).length := by
       rw [List.getElem?_eq_none_iff] at hx
       omega
      rw [List.take_length] at h2
      have hbA : Below W1.heap.size W1 A := by rw [hb8]; exact h2.below
      have hlw := HLN.out.1.below.size
      have hLBA := (HLN.out.1.call hbA).mark (B := SB + 1) (fun b hb => by have := HLN.out.1.marks.lt hb; omega) (by omega) hD
      have hNWA := HLN.out.2.1.call hbA
      obtain ⟨_, bv, hbx, hbr, hbn⟩ := h2
      have e8 : A.cell? ⟨b8, 0, none⟩ = some bv := cell_of hbx rfl
      have hgr := grow_at (r := r) hP.out.2.1 HD.out
      clear hx h1 hs hD
      clear hu hrr
      cases hfd : (elems (aft nx og v)).find? (goodB nx sd og wo u v (r + 1)) with
      |none =>
       have hb0 : bestW (goodB nx sd og wo u v (r + 1)) v (elems (aft nx og v)) = [] := by unfold bestW; rw [hfd]
       obtain rfl := hbn hb0
       have heqn : ∀ W, (binOp .eql 91 (.slice none 0 0) (.slice none 0 0)).run Tryd.prog W = .ok (.bool true) W := fun W => Lib.run_eql_slice_nil W 91 3 none 0 0 0 0 Tryd.underlying91
       rw [hfd] at hgr
       have HF := Lib.hid (And.intro hLBA (least_none (by rw [← hP.out.2.2.1]; exact hgr)))
       clear hbx hbr hbn hb0 hfd hgr hLBA hNWA hbA
       go_wp2_with fail
       refine leave_marks (bs := (SB + 1) :: bs1) HF.out.1.marks (v := wv) (fun W' hf hbl hs => ⟨by simp [results, Tryd.results55, go_sem], wv, rfl, ?_, HF.out.1.below.trans hbl⟩)
       rw [← HLP.out.1.1, HF.out.2, List.append_nil]
       exact Kd.R_mono (R_marks HF.out.1.ways HF.out.1.marks hf) (fun k hk => hk.1)
      |some j =>
       have hbj : bestW (goodB nx sd og wo u v (r + 1)) v (elems (aft nx og v)) = v ++ [j] := by unfold bestW; rw [hfd]
       rw [hbj] at hbr
       obtain ⟨ad3, c3, rfl, hc3, hC4⟩ := R_way hbr
       have heqn : ∀ W, (binOp .eql 91 (.slice (some ad3) (v.length + 1) c3) (.slice none 0 0)).run Tryd.prog W = .ok (.bool false) W := fun W => Lib.run_eql_slice_nil W 91 3 (some ad3) (v.length + 1) c3 0 0 Tryd.underlying91
       rw [hfd] at hgr
       obtain ⟨g1, g2, g3, g4, g5⟩ := find_good hfd
       have hbg : Flow.Begun (netOf nx sd og wo) (bitsOf u) (v ++ [j]) := Flow.begun_snoc hP.out.1 g1 (by rw [aft_bit]; exact g2) g3 (fun hm => by rw [List.contains_iff_mem.2 hm] at g4; cases g4) g5
       have hl12 : (v ++ [j]).length ≤ 12 := Flow.nodup_len hbg.nodup (fun x hx => (hbg.ok x hx).1)
       have e7 : A.cell? ⟨b7, 0, none⟩ = some (.slice none 0 0) := cell_of hNWA.box rfl
       have f7 := frozen_of (o := 0) hNWA.box
       have hLN := hLBA.put hNWA.box hNWA.lt (.slice (some ad3) (v.length + 1) c3)
       have hNN : NW w b6 b7 (.slice (some ad3) (v.length + 1) c3) (v ++ [j]) (A.setCell ⟨b7, 0, none⟩ (.slice (some ad3) (v.length + 1) c3)) := ⟨heap_set (o := 0) _ hNWA.box, Kd.R_mono (Kd.R_lower (Kd.R_set hbr hNWA.box (fun q hq => by rw [kI_E hq]; decide) 0 _) (by omega)) (fun k hk => by omega), fun h => absurd h (by simp), hNWA.lt⟩
       have HF := Lib.hid (And.intro hLN (And.intro hNN (And.intro hbg (And.intro hl12 (hgr.symm.trans hP.out.2.2.1)))))
       clear hbx hbr hbn hbj hfd hgr hLBA hNWA hbA hLN hNN hbg hl12 g1 g2 g3 g4 g5 hC4 hc3
       go_wp2_with fail
       refine ⟨⟨(SB + 1) :: bs1, .slice (some ad3) (v.length + 1) c3, v ++ [j], ?_⟩, ?_⟩
       ·(repeat apply Exists.intro)
        exact ⟨⟨HF.out.1, HF.out.2.1, .inr HF.out.2.2.1, HF.out.2.2.2.1, HF.out.2.2.2.2⟩, rfl⟩
       ·show 13 - lenAt 7 _ _ < 13 - lenAt 7 _ _
        rw [lenAt_eq (p := ⟨b7, 0, none⟩) rfl (cell_of HF.out.2.1.box rfl), lenAt_eq (p := ⟨b7, 0, none⟩) rfl HC7.out, HLN.out.2.1.len]
        have := HF.out.2.2.2.1
        rw [List.length_append, List.length_singleton] at this
        show 13 - (v.length + 1) < 13 - v.length
        omega
    ·obtain ⟨ad, c, rfl, hc, hC⟩ := R_some hNW.row h0
     have heq : ∀ W, (binOp .eql 91 (.slice (some ad) v.length c) (.slice none 0 0)).run Tryd.prog W = .ok (.bool false) W := fun W => Lib.run_eql_slice_nil W 91 3 (some ad) v.length c 0 0 Tryd.underlying91
     have hd := done_any WB nx og sd wo u r W1 (some ad) c v h0 hWX HN.out hC hP.out.2.2.2 HB.out.1 HB.out.2.1 HB.out.2.2 hu (by omega)
     cases hdn : Flow.isDone (netOf nx sd og wo) (bitsOf u) v r with
     |false =>
      rw [hdn] at hd
      have HD := Lib.hid hdn; clear hdn
      have HDC := Lib.hid hd; clear hd
      have HLN1 := Lib.hid (And.intro hLB (And.intro hNW hWX)); clear hLB hNW hWX hC
      have HUU := Lib.hid (And.intro hu hrr); clear hu hrr
      go_wp2_with fail
      refine HDC.out.mono ?_
      rintro e W2 ⟨rfl, hb2⟩
      have hu := HUU.out.1
      have hrr := HUU.out.2
      have HLN := Lib.hid (And.intro (HLN1.out.1.call hb2) (And.intro (HLN1.out.2.1.call hb2) (HLN1.out.2.2.below hb2)))
      clear hb2 HLN1 HDC c1 c5 c6 c7 h0 heq hc
      have hLB9 := HLN.out.1.call (Below.refl W2.heap.size W2 |>.alloc (Nat.le_refl _) (.cells #[.slice none 0 0] 91))
      have hNW9 := HLN.out.2.1.call (Below.refl W2.heap.size W2 |>.alloc (Nat.le_refl _) (.cells #[.slice none 0 0] 91))
      obtain ⟨A9, c9, e9, hc9, hn9, hC9⟩ := hNW9.reads
      have haft := after_any WB nx og sd wo _ A9 c9 v (HW.out.below hLB9.below) HN.out hC9 hP.out.2.2.2
      rw [← e9] at haft
      have d1 : (W2.alloc (.cells #[.slice none 0 0] 91)).cell? ⟨w.heap.size, 0, none⟩ = some (.pointer (some ⟨WB, 0, none⟩)) := cell_of hLB9.box rfl
      have d7 : (W2.alloc (.cells #[.slice none 0 0] 91)).cell? ⟨b7, 0, none⟩ = some (.slice (some ad) v.length c) := cell_of hNW9.box rfl
      have HAF := Lib.hid haft; clear haft hLB9 hNW9 e9 hc9 hn9 hC9
      clear hu hrr
      go_wp2_with fail
      have hu := HUU.out.1
      have hrr := HUU.out.2
      refine HAF.out.mono ?_
      rintro e w10 ⟨rfl, hb10⟩
      have HB10 := Lib.hid hb10; clear hb10
      clear d1 d7 HAF
      go_wp2_with fail
      refine (each_any _ _).mono ?_
      rintro e w11 ⟨rfl, rfl⟩
      go_wp2_with fail
      obtain ⟨b8, hb8⟩ : ∃ b, W2.heap.size = b := ⟨_, rfl⟩
      rw [hb8]
      obtain ⟨SB, hSB⟩ : ∃ b, w10.heap.size = b := ⟨_, rfl⟩
      rw [hSB]
      have haf4 := aft_lt HN.out HB.out.1 hP.out.2.2.2
      have h8S : b8 < SB := by have := HB10.out.size; simp at this; omega
      have h78 : b7 < b8 := by have := (Array.getElem?_eq_some_iff.1 HLN.out.2.1.box).1; omega
      have h67 := HLN.out.2.1.lt
      have h56 := HLN.out.1.ord
      have hbw : Below b8 W2 (w10.alloc (.cells #[.int .u16 (aft nx og v : Nat)] 60)) := ((Below.refl b8 W2).alloc (by omega) (.cells #[.slice none 0 0] 91)).trans ((HB10.out.alloc HB10.out.size _).mono (by simp; omega))
      have hbx : (w10.alloc (.cells #[.int .u16 (aft nx og v : Nat)] 60)).heap[b8]? = some (.cells #[.slice none 0 0] 91) := ((HB10.out.alloc HB10.out.size _).block b8 (by simp; omega)).trans (heap_new hb8)
      have hT1 : Tab (w10.alloc (.cells #[.int .u16 (aft nx og v : Nat)] 60)) := HT.out.next (HLN.out.1.below.trans (hbw.mono (by omega))) HT.out.pos
      have hBW0 : BW W2 (SB + 1) b8 (bestW (goodB nx sd og wo u v (r + 1)) v ((elems (aft nx og v)).take 0)) (w10.alloc (.cells #[.int .u16 (aft nx og v : Nat)] 60)) := ⟨hbw, .slice none 0 0, hbx, Kd.R_nil _ _ _ _ _, fun _ => rfl⟩
      have HS := Lib.hid (And.intro hT1 (And.intro hBW0 (show (w10.alloc (.cells #[.int .u16 (aft nx og v : Nat)] 60)).heap[SB]? = some (.cells #[.int .u16 (aft nx og v : Nat)] 60) from heap_new hSB))); clear hT1 hBW0 hbw hbx
      refine wp_range (α := Nat) (SB + 1) (by simp [hSB]) (gf := 57) (lb := #[.pointer (some ⟨SB, 0, none⟩)]) rfl (fun _ _ => rfl) (each_iter (aft nx og v) SB haf4 (by omega)) (fun _ => rfl) (fun k => k = b8)
       (fun W' hf => ⟨HS.out.1.fr hf (fun h => h), (hf.block _ (Array.getElem?_eq_some_iff.1 HS.out.2.2).1 (fun h => h)).trans HS.out.2.2⟩) ?hlt ?hown
       (fun i s A => i ≤ (elems (aft nx og v)).length ∧ BW W2 (SB + 1) b8 (bestW (goodB nx sd og wo u v (r + 1)) v ((elems (aft nx og v)).take i)) A) (fun _ _ _ => False)
       ?hI (fun _ _ _ _ h _ _ => h) (fun i s A h => Nat.le_trans h.1 (elems_len _)) ?h0
       (fun i s z x a' A => x < 12 ∧ BW W2 (SB + 1) b8 (bestW (goodB nx sd og wo u v (r + 1)) v ((elems (aft nx og v)).take i)) A ∧ ∃ (y2 y3 y4 y10 y11 y12 y13 y14 y15 y16 y17 y18 y19 y20 y21 y22 y23 y24 y25 y26 y27 y28 y29 y30 y31 y32 y33 y34 y35 y36 y37 y38 y39 y40 y41 y42 y43 y44 y45 y46 y47 y48 y49 y50 y51 y52 y53 y54 y55 y56 y57 y58 y59 y60 y61 y62 y63 y64 y65 y66 y67 y68 y69 y70 y71 y72 y73 y74 y75 y76 y77 y78 y79 y80 y81 y82 y83 y84 y85 y86 y87 y88 y89 y90 y91 y92 y93 y94 y95 y96 y97 y98 y99 y100 y101 y102 y103 : Value), a' = { tmps := #[.pointer (some ⟨WB, 0, none⟩), .pointer (some ⟨w.heap.size, 0, none⟩), y2, y3, y4, .pointer (some ⟨b5, 0, none⟩), .pointer (some ⟨b6, 0, none⟩), .pointer (some ⟨b7, 0, none⟩), .pointer (some ⟨b8, 0, none⟩), .int .i64 (x : Int), y10, y11, y12, y13, y14, y15, y16, y17, y18, y19, y20, y21, y22, y23, y24, y25, y26, y27, y28, y29, y30, y31, y32, y33, y34, y35, y36, y37, y38, y39, y40, y41, y42, y43, y44, y45, y46, y47, y48, y49, y50, y51, y52, y53, y54, y55, y56, y57, y58, y59, y60, y61, y62, y63, y64, y65, y66, y67, y68, y69, y70, y71, y72, y73, y74, y75, y76, y77, y78, y79, y80, y81, y82, y83, y84, y85, y86, y87, y88, y89, y90, y91, y92, y93, y94, y95, y96, y97, y98, y99, y100, y101, y102, y103], defers := [] })
       ?hA ?hassign ?hbody ?hdone (fun _ _ _ _ _ h _ _ => h.elim)
      case hlt => rintro k (rfl | rfl | rfl) <;> omega
      case hown => rintro k rfl; exact ⟨by omega, by omega⟩
      case hI => rintro i s A B ⟨h1, h2⟩ hs hf; exact ⟨h1, h2.fr (by omega) hf (fun k h => by omega)⟩
      case h0 => intro W' hf hz'; exact ⟨Nat.zero_le _, HS.out.2.1.fr (by omega) hf (fun _ h => h.elim)⟩
      case hA => rintro i s z x a' A B ⟨h1, h2, h3⟩ hs hf hz'; exact ⟨h1, h2.fr (by omega) hf (fun k h => by omega), h3⟩
      case hassign =>
       rintro l i s x A hx ⟨h1, h2⟩ hs hsA
       have hx12 := (elems_mem (List.mem_of_getElem? hx)).1
       gi_wp2
       refine ⟨Fr.refl _ _, hx12, h2, ?_⟩
       (repeat apply Exists.intro)
       rfl
      case hbody =>
       rintro l i s z x a' A hx ⟨hx12, hBW, hy⟩ hs hsz' hzA
       obtain ⟨y2, hy⟩ := hy
       obtain ⟨y3, hy⟩ := hy
       obtain ⟨y4, hy⟩ := hy
       obtain ⟨y10, hy⟩ := hy
       obtain ⟨y11, hy⟩ := hy
       obtain ⟨y12, hy⟩ := hy
       obtain ⟨y13, hy⟩ := hy
       obtain ⟨y14, hy⟩ := hy
       obtain ⟨y15, hy⟩ := hy
       obtain ⟨y16, hy⟩ := hy
       obtain ⟨y17, hy⟩ := hy
       obtain ⟨y18, hy⟩ := hy
       obtain ⟨y19, hy⟩ := hy
       obtain ⟨y20, hy⟩ := hy
       obtain ⟨y21, hy⟩ := hy
       obtain ⟨y22, hy⟩ := hy
       obtain ⟨y23, hy⟩ := hy
       obtain ⟨y24, hy⟩ := hy
       obtain ⟨y25, hy⟩ := hy
       obtain ⟨y26, hy⟩ := hy
       obtain ⟨y27, hy⟩ := hy
       obtain ⟨y28, hy⟩ := hy
       obtain ⟨y29, hy⟩ := hy
       obtain ⟨y30, hy⟩ := hy
       obtain ⟨y31, hy⟩ := hy
       obtain ⟨y32, hy⟩ := hy
       obtain ⟨y33, hy⟩ := hy
       obtain ⟨y34, hy⟩ := hy
       obtain ⟨y35, hy⟩ := hy
       obtain ⟨y36, hy⟩ := hy
       obtain ⟨y37, hy⟩ := hy
       obtain ⟨y38, hy⟩ := hy
       obtain ⟨y39, hy⟩ := hy
       obtain ⟨y40, hy⟩ := hy
       obtain ⟨y41, hy⟩ := hy
       obtain ⟨y42, hy⟩ := hy
       obtain ⟨y43, hy⟩ := hy
       obtain ⟨y44, hy⟩ := hy
       obtain ⟨y45, hy⟩ := hy
       obtain ⟨y46, hy⟩ := hy
       obtain ⟨y47, hy⟩ := hy
       obtain ⟨y48, hy⟩ := hy
       obtain ⟨y49, hy⟩ := hy
       obtain ⟨y50, hy⟩ := hy
       obtain ⟨y51, hy⟩ := hy
       obtain ⟨y52, hy⟩ := hy
       obtain ⟨y53, hy⟩ := hy
       obtain ⟨y54, hy⟩ := hy
       obtain ⟨y55, hy⟩ := hy
       obtain ⟨y56, hy⟩ := hy
       obtain ⟨y57, hy⟩ := hy
       obtain ⟨y58, hy⟩ := hy
       obtain ⟨y59, hy⟩ := hy
       obtain ⟨y60, hy⟩ := hy
       obtain ⟨y61, hy⟩ := hy
       obtain ⟨y62, hy⟩ := hy
       obtain ⟨y63, hy⟩ := hy
       obtain ⟨y64, hy⟩ := hy
       obtain ⟨y65, hy⟩ := hy
       obtain ⟨y66, hy⟩ := hy
       obtain ⟨y67, hy⟩ := hy
       obtain ⟨y68, hy⟩ := hy
       obtain ⟨y69, hy⟩ := hy
       obtain ⟨y70, hy⟩ := hy
       obtain ⟨y71, hy⟩ := hy
       obtain ⟨y72, hy⟩ := hy
       obtain ⟨y73, hy⟩ := hy
       obtain ⟨y74, hy⟩ := hy
       obtain ⟨y75, hy⟩ := hy
       obtain ⟨y76, hy⟩ := hy
       obtain ⟨y77, hy⟩ := hy
       obtain ⟨y78, hy⟩ := hy
       obtain ⟨y79, hy⟩ := hy
       obtain ⟨y80, hy⟩ := hy
       obtain ⟨y81, hy⟩ := hy
       obtain ⟨y82, hy⟩ := hy
       obtain ⟨y83, hy⟩ := hy
       obtain ⟨y84, hy⟩ := hy
       obtain ⟨y85, hy⟩ := hy
       obtain ⟨y86, hy⟩ := hy
       obtain ⟨y87, hy⟩ := hy
       obtain ⟨y88, hy⟩ := hy
       obtain ⟨y89, hy⟩ := hy
       obtain ⟨y90, hy⟩ := hy
       obtain ⟨y91, hy⟩ := hy
       obtain ⟨y92, hy⟩ := hy
       obtain ⟨y93, hy⟩ := hy
       obtain ⟨y94, hy⟩ := hy
       obtain ⟨y95, hy⟩ := hy
       obtain ⟨y96, hy⟩ := hy
       obtain ⟨y97, hy⟩ := hy
       obtain ⟨y98, hy⟩ := hy
       obtain ⟨y99, hy⟩ := hy
       obtain ⟨y100, hy⟩ := hy
       obtain ⟨y101, hy⟩ := hy
       obtain ⟨y102, hy⟩ := hy
       obtain ⟨y103, hy⟩ := hy
       subst hy
       have hbA : Below W2.heap.size W2 A := by rw [hb8]; exact hBW.below
       have hLBA := HLN.out.1.call hbA
       have hNWA := HLN.out.2.1.call hbA
       obtain ⟨A9, c9, e9, hc9, hn9, hC9⟩ := hNWA.reads
       have hxi := List.getElem?_eq_some_iff.1 hx
       obtain ⟨hi, hxe⟩ := hxi
       have htk : (elems (aft nx og v)).take (i + 1) = (elems (aft nx og v)).take i ++ [x] := by rw [List.take_succ_eq_append_getElem hi, hxe]
       have a1 : A.cell? ⟨w.heap.size, 0, none⟩ = some (.pointer (some ⟨WB, 0, none⟩)) := cell_of hLBA.box rfl
       have a7 : A.cell? ⟨b7, 0, none⟩ = some (.slice (some ad) v.length c) := cell_of hNWA.box rfl
       have hvl := hP.out.2.1
       have hcl := cloneW_any A9 c9 (v.map Int.ofNat) A (by rw [List.length_map]; exact hC9) (by rw [List.length_map]; omega) (by rw [List.length_map]; exact hc9) hn9
       rw [List.length_map, ← e9] at hcl
       have HCL := Lib.hid hcl; clear hcl
       have hK := Lib.hid (And.intro (show i + 1 ≤ (elems (aft nx og v)).length from hi) (And.intro htk hBW))
       have hXS := Lib.hid hx; clear hxe htk hx hi
       have H9 := Lib.hid (And.intro e9 (And.intro hc9 (And.intro hn9 hC9))); clear e9 hc9 hn9 hC9
       have HAA := Lib.hid (And.intro hbA (And.intro hLBA hNWA)); clear hbA hLBA hNWA hBW
       gi_wp2_with fail
       refine ⟨trivial, rfl, CallsIn.mono (calls_round l 0 HCL.out) ?_⟩
       rintro e A1 ⟨cv, rfl, hfr⟩
       have HF := Lib.hid hfr; clear hfr HCL a1 a7
       gi_wp2_with (gi_at_builtin; go_loud (refine list_round l 0 (fun ⟨_, _, h⟩ => h) _ _ _ (by kernel_rfl) ?_; refine Kd.R_append (Kd.int .i64) (w0 := A1) A.heap.size rfl (.tmp 41) (.tmp 43) 91 3 (.int .i64 0) 8 rfl Tryd.underlying91 info3 rfl (by decide) (by decide) _ (v.map Int.ofNat) (x : Int) [.int .i64 (x : Int)] (fun k => A.heap.size ≤ k) (fun _ => False) rfl rfl rfl (fun _ h => h.elim) (fun k hk => Nat.le_trans HF.out.2.size hk) HF.out.1 (Below.refl _ _) HF.out.2.size (by simp; omega) ?_; intro v1 A2 h1 h2 h3 h4))
       rw [show v.map Int.ofNat ++ [(x : Int)] = (v ++ [x]).map Int.ofNat by simp] at h1
       obtain ⟨ad2, c2, rfl, hc2, hC2⟩ := R_way h1
       go_wp2_with fail
       have hbF := HF.out.2.trans h2
       have hbW := HAA.out.1.trans (hbF.mono HAA.out.1.size)
       have hLB2 := HLN.out.1.call hbW
       have hNW2 := HLN.out.2.1.call hbW
       have a1 : A2.cell? ⟨w.heap.size, 0, none⟩ = some (.pointer (some ⟨WB, 0, none⟩)) := cell_of hLB2.box rfl
       have a5 : A2.cell? ⟨b5, 0, none⟩ = some (.int .u16 (u : Int)) := cell_of hLB2.used rfl
       have a6 : A2.cell? ⟨b6, 0, none⟩ = some (.int .i64 (r : Int)) := cell_of hLB2.rest rfl
       have a7 : A2.cell? ⟨b7, 0, none⟩ = some (.slice (some ad) v.length c) := cell_of hNW2.box rfl
       have aW := (HW.out.below hLB2.below).wo
       have hhas := has_any u x (by omega) (by omega) A2
       have hcon := containsW_any A9 c9 (v.map Int.ofNat) (x : Int) A2 (by rw [List.length_map]; exact Kd.C_below H9.out.2.2.2 (hbF))
       rw [has_cast, List.length_map, ← H9.out.1] at hcon
       have hhwo := has_any wo x (by have := HB.out.2.2; omega) (by omega) A2
       have hcan := can_any WB nx og sd wo u (r + 1) A2 (some ad2) c2 v x (HW.out.below hLB2.below) HN.out hC2 hP.out.2.2.2 hx12 HB.out.1 HB.out.2.1 HB.out.2.2 hu (by omega) hc2
       rw [show ((r + 1 : Nat) : Int) = (r : Int) + 1 by omega] at hcan
       have hrw : wrap64 ((r : Int) + 1) = (r : Int) + 1 := by unfold wrap64; omega
       have HR1 := Lib.hid (And.intro h1 (And.intro hc2 hC2)); clear h1 hc2 hC2
       have HBF := Lib.hid (And.intro hbF hbW); clear hbF hbW h2 h3 h4
       clear hLB2 hNW2
       have hG := goodB_cases nx sd og wo u v (r + 1) x
       generalize hq1 : u.testBit x = q1 at *
       generalize hq2 : v.contains x = q2 at *
       generalize hq3 : wo.testBit x = q3 at *
       generalize hq4 : canB nx sd og wo u v (r + 1) x = q4 at *
       clear hq1 hq2 hq3 hq4
       have HCAN := Lib.hid hcan; clear hcan
       have HCON := Lib.hid hcon; clear hcon
       have HHAS := Lib.hid hhas; clear hhas
       have HHWO := Lib.hid hhwo; clear hhwo
       clear hu hrr
       cases q1 with
       |true =>
        have HG := Lib.hid hG; clear hG
        gi_wp2_with fail
        refine ⟨trivial, rfl, CallsIn.mono (calls_round l 0 HHAS.out) ?_⟩
        rintro e W' ⟨rfl, rfl⟩
        gi_wp2_with fail
        refine ⟨trivial, ?_⟩
        gi_wp2_with fail
        refine ⟨trivial, ?_⟩
        gi_wp2_with fail
        refine ⟨trivial, ?_⟩
        gi_wp2_with fail
        all_goals first | (rename_i hb hn; exact absurd hb (by simp [undef])) | skip
        refine ⟨trivial, ?_⟩
        gi_wp2_with fail
        refine ⟨(Fr.of_below HBF.out.1).mono (fun k _ h => .inr (.inr (by omega))), hK.out.1, ?_⟩
        rw [hK.out.2.1, bestW_no HG.out]
        exact hK.out.2.2.call (by omega) HBF.out.1
       |false =>
        cases q2 with
        |true =>
         have HG := Lib.hid hG; clear hG
         gi_wp2_with fail
         refine ⟨trivial, rfl, CallsIn.mono (calls_round l 0 HHAS.out) ?_⟩
         rintro e W' ⟨rfl, rfl⟩
         gi_wp2_with fail
         refine ⟨trivial, rfl, CallsIn.mono (calls_round l 0 HCON.out) ?_⟩
         rintro e W' ⟨rfl, rfl⟩
         gi_wp2_with fail
         refine ⟨trivial, ?_⟩
         gi_wp2_with fail
         refine ⟨trivial, ?_⟩
         gi_wp2_with fail
         all_goals first | (rename_i hb hn; exact absurd hb (by simp [undef])) | skip
         refine ⟨trivial, ?_⟩
         gi_wp2_with fail
         refine ⟨(Fr.of_below HBF.out.1).mono (fun k _ h => .inr (.inr (by omega))), hK.out.1, ?_⟩
         rw [hK.out.2.1, bestW_no HG.out]
         exact hK.out.2.2.call (by omega) HBF.out.1
        |false =>
         cases q3 with
         |true =>
          have HG := Lib.hid hG; clear hG
          gi_wp2_with fail
          refine ⟨trivial, rfl, CallsIn.mono (calls_round l 0 HHAS.out) ?_⟩
          rintro e W' ⟨rfl, rfl⟩
          gi_wp2_with fail
          refine ⟨trivial, rfl, CallsIn.mono (calls_round l 0 HCON.out) ?_⟩
          rintro e W' ⟨rfl, rfl⟩
          gi_wp2_with fail
          refine ⟨trivial, rfl, CallsIn.mono (calls_round l 0 HHWO.out) ?_⟩
          rintro e W' ⟨rfl, rfl⟩
          gi_wp2_with fail
          refine ⟨trivial, ?_⟩
          gi_wp2_with fail
          all_goals first | (rename_i hb hn; exact absurd hb (by simp [undef])) | skip
          refine ⟨trivial, ?_⟩
          gi_wp2_with fail
          refine ⟨(Fr.of_below HBF.out.1).mono (fun k _ h => .inr (.inr (by omega))), hK.out.1, ?_⟩
          rw [hK.out.2.1, bestW_no HG.out]
          exact hK.out.2.2.call (by omega) HBF.out.1
         |false =>
          cases q4 with
          |false =>
           have HG := Lib.hid hG; clear hG
           gi_wp2_with fail
           refine ⟨trivial, rfl, CallsIn.mono (calls_round l 0 HHAS.out) ?_⟩
           rintro e W' ⟨rfl, rfl⟩
           gi_wp2_with fail
           refine ⟨trivial, rfl, CallsIn.mono (calls_round l 0 HCON.out) ?_⟩
           rintro e W' ⟨rfl, rfl⟩
           gi_wp2_with fail
           refine ⟨trivial, rfl, CallsIn.mono (calls_round l 0 HHWO.out) ?_⟩
           rintro e W' ⟨rfl, rfl⟩
           gi_wp2_with fail
           refine ⟨trivial, rfl, CallsIn.mono (calls_round l 0 HCAN.out) ?_⟩
           rintro e A3 ⟨rfl, hb3⟩
           have hB3 := Lib.hid (HBF.out.1.trans (hb3.mono HBF.out.1.size)); clear hb3
           gi_wp2_with fail
           all_goals first | (rename_i hb hn; exact absurd hb (by simp [undef])) | skip
           refine ⟨trivial, ?_⟩
           gi_wp2_with fail
           refine ⟨(Fr.of_below hB3.out).mono (fun k _ h => .inr (.inr (by omega))), hK.out.1, ?_⟩
           rw [hK.out.2.1, bestW_no HG.out]
           exact hK.out.2.2.call (by omega) hB3.out
          |true =>
           have HG := Lib.hid hG; clear hG
           gi_wp2_with fail
           refine ⟨trivial, rfl, CallsIn.mono (calls_round l 0 HHAS.out) ?_⟩
           rintro e W' ⟨rfl, rfl⟩
           gi_wp2_with fail
           refine ⟨trivial, rfl, CallsIn.mono (calls_round l 0 HCON.out) ?_⟩
           rintro e W' ⟨rfl, rfl⟩
           gi_wp2_with fail
           refine ⟨trivial, rfl, CallsIn.mono (calls_round l 0 HHWO.out) ?_⟩
           rintro e W' ⟨rfl, rfl⟩
           gi_wp2_with fail
           refine ⟨trivial, rfl, CallsIn.mono (calls_round l 0 HCAN.out) ?_⟩
           rintro e A3 ⟨rfl, hb3⟩
           have hB3 := HBF.out.1.trans (hb3.mono HBF.out.1.size)
           have hBW3 := hK.out.2.2.call (by omega) hB3
           have HBW3 := Lib.hid hBW3
           obtain ⟨hbelow3, bv, hbx3, hbr3, hbn3⟩ := hBW3
           have e8 : A3.cell? ⟨b8, 0, none⟩ = some bv := cell_of hbx3 rfl
           have f8 := frozen_of (o := 0) hbx3
           have hR3 : (Kd.int .i64).R 3 A3 b8 (fun k => SB + 1 + 2 ≤ k) (.slice (some ad2) (v.length + 1) c2) ((v ++ [x]).map Int.ofNat) := Kd.R_mono (Kd.R_lower (Kd.R_below HR1.out.1 hb3) (by have := hK.out.2.2.below.size; omega)) (fun k hk => by omega)
           have hC3 := Kd.C_below HR1.out.2.2 hb3
           have HB3 := Lib.hid hB3; clear hB3 hbelow3
           cases hfd : ((elems (aft nx og v)).take i).find? (goodB nx sd og wo u v (r + 1)) with
           |none =>
            have hb0 : bestW (goodB nx sd og wo u v (r + 1)) v ((elems (aft nx og v)).take i) = [] := by unfold bestW; rw [hfd]
            obtain rfl := hbn3 hb0
            have heqn : ∀ W, (binOp .eql 91 (.slice none 0 0) (.slice none 0 0)).run Tryd.prog W = .ok (.bool true) W := fun W => Lib.run_eql_slice_nil W 91 3 none 0 0 0 0 Tryd.underlying91
            have HNW := Lib.hid (bestW_new (v := v) HG.out hfd)
            have HR3 := Lib.hid hR3
            clear hbx3 hbr3 hbn3 hb0 hfd hR3 hC3 hb3
            gi_wp2_with fail
            refine ⟨trivial, ?_⟩
            gi_wp2_with fail
            refine ⟨((Fr.of_below HB3.out).mono (fun k _ h => .inr (.inr (by omega)))).setCell _ _ (fun _ => .inl rfl), hK.out.1, ?_⟩
            rw [hK.out.2.1, HNW.out]
            exact BW.put HBW3.out (by omega) HR3.out (by simp)
           |some j =>
            have hold := bestW_old (v := v) (x := x) hfd
            rw [hold.2] at hbr3
            obtain ⟨ad3, c3, rfl, hc3, hC4⟩ := R_way hbr3
            have heqn : ∀ W, (binOp .eql 91 (.slice (some ad3) (v.length + 1) c3) (.slice none 0 0)).run Tryd.prog W = .ok (.bool false) W := fun W => Lib.run_eql_slice_nil W 91 3 (some ad3) (v.length + 1) c3 0 0 Tryd.underlying91
            have hjx := elems_earlier hXS.out hfd
            have hlen : ∀ y, ((v ++ [y]).map Int.ofNat).length = v.length + 1 := fun y => by simp
            have hcm := compareW_any (some ad2) c2 ((v ++ [x]).map Int.ofNat) (some ad3) c3 ((v ++ [j]).map Int.ofNat) A3 (by rw [hlen]; exact hC3) (by rw [hlen]; exact HR1.out.2.1) (by rw [hlen]; exact hC4) (by rw [hlen]; exact hc3)
            rw [hlen, hlen, List.map_append, List.map_append, show ([x].map Int.ofNat) = [(x : Int)] from rfl, show ([j].map Int.ofNat) = [(j : Int)] from rfl, lexC_snoc (by omega)] at hcm
            have HCM := Lib.hid hcm
            have HOLD := Lib.hid hold
            clear hbx3 hbr3 hbn3 hold hfd hR3 hC3 hb3 hcm hlen hC4 hjx
            gi_wp2_with fail
            refine ⟨trivial, rfl, CallsIn.mono (calls_round l 0 HCM.out) ?_⟩
            rintro e A4 ⟨rfl, hb4⟩
            have HB4 := Lib.hid (And.intro hb4 (HB3.out.trans (hb4.mono HB3.out.size))); clear hb4
            gi_wp2_with fail
            refine ⟨(Fr.of_below HB4.out.2).mono (fun k _ h => .inr (.inr (by omega))), hK.out.1, ?_⟩
            rw [hK.out.2.1, HOLD.out.1, ← HOLD.out.2]
            exact HBW3.out.call (by omega) HB4.out.1
      case hdone =>
       rintro k s A hx ⟨h1, h2⟩ hs hD
       obtain rfl : k = (elems (aft nx og v)).length := by
        rw [List.getElem?_eq_none_iff] at hx
        omega
       rw [List.take_length] at h2
       have hbA : Below W2.heap.size W2 A := by rw [hb8]; exact h2.below
       have hlw := HLN.out.1.below.size
       have hLBA := (HLN.out.1.call hbA).mark (B := SB + 1) (fun b hb => by have := HLN.out.1.marks.lt hb; omega) (by omega) hD
       have hNWA := HLN.out.2.1.call hbA
       obtain ⟨_, bv, hbx, hbr, hbn⟩ := h2
       have e8 : A.cell? ⟨b8, 0, none⟩ = some bv := cell_of hbx rfl
       have hgr := grow_at (r := r) hP.out.2.1 HD.out
       clear hx h1 hs hD
       clear hu hrr
       cases hfd : (elems (aft nx og v)).find? (goodB nx sd og wo u v (r + 1)) with
       |none =>
        have hb0 : bestW (goodB nx sd og wo u v (r + 1)) v (elems (aft nx og v)) = [] := by unfold bestW; rw [hfd]
        obtain rfl := hbn hb0
        have heqn : ∀ W, (binOp .eql 91 (.slice none 0 0) (.slice none 0 0)).run Tryd.prog W = .ok (.bool true) W := fun W => Lib.run_eql_slice_nil W 91 3 none 0 0 0 0 Tryd.underlying91
        rw [hfd] at hgr
        have HF := Lib.hid (And.intro hLBA (least_none (by rw [← hP.out.2.2.1]; exact hgr)))
        clear hbx hbr hbn hb0 hfd hgr hLBA hNWA hbA
        go_wp2_with fail
        refine leave_marks (bs := (SB + 1) :: bs1) HF.out.1.marks (v := wv) (fun W' hf hbl hs => ⟨by simp [results, Tryd.results55, go_sem], wv, rfl, ?_, HF.out.1.below.trans hbl⟩)
        rw [← HLP.out.1.1, HF.out.2, List.append_nil]
        exact Kd.R_mono (R_marks HF.out.1.ways HF.out.1.marks hf) (fun k hk => hk.1)
       |some j =>
        have hbj : bestW (goodB nx sd og wo u v (r + 1)) v (elems (aft nx og v)) = v ++ [j] := by unfold bestW; rw [hfd]
        rw [hbj] at hbr
        obtain ⟨ad3, c3, rfl, hc3, hC4⟩ := R_way hbr
        have heqn : ∀ W, (binOp .eql 91 (.slice (some ad3) (v.length + 1) c3) (.slice none 0 0)).run Tryd.prog W = .ok (.bool false) W := fun W => Lib.run_eql_slice_nil W 91 3 (some ad3) (v.length + 1) c3 0 0 Tryd.underlying91
        rw [hfd] at hgr
        obtain ⟨g1, g2, g3, g4, g5⟩ := find_good hfd
        have hbg : Flow.Begun (netOf nx sd og wo) (bitsOf u) (v ++ [j]) := Flow.begun_snoc hP.out.1 g1 (by rw [aft_bit]; exact g2) g3 (fun hm => by rw [List.contains_iff_mem.2 hm] at g4; cases g4) g5
        have hl12 : (v ++ [j]).length ≤ 12 := Flow.nodup_len hbg.nodup (fun x hx => (hbg.ok x hx).1)
        have e7 : A.cell? ⟨b7, 0, none⟩ = some (.slice (some ad) v.length c) := cell_of hNWA.box rfl
        have f7 := frozen_of (o := 0) hNWA.box
        have hLN := hLBA.put hNWA.box hNWA.lt (.slice (some ad3) (v.length + 1) c3)
        have hNN : NW w b6 b7 (.slice (some ad3) (v.length + 1) c3) (v ++ [j]) (A.setCell ⟨b7, 0, none⟩ (.slice (some ad3) (v.length + 1) c3)) := ⟨heap_set (o := 0) _ hNWA.box, Kd.R_mono (Kd.R_lower (Kd.R_set hbr hNWA.box (fun q hq => by rw [kI_E hq]; decide) 0 _) (by omega)) (fun k hk => by omega), fun h => absurd h (by simp), hNWA.lt⟩
        have HF := Lib.hid (And.intro hLN (And.intro hNN (And.intro hbg (And.intro hl12 (hgr.symm.trans hP.out.2.2.1)))))
        clear hbx hbr hbn hbj hfd hgr hLBA hNWA hbA hLN hNN hbg hl12 g1 g2 g3 g4 g5 hC4 hc3
        go_wp2_with fail
        refine ⟨⟨(SB + 1) :: bs1, .slice (some ad3) (v.length + 1) c3, v ++ [j], ?_⟩, ?_⟩
        ·(repeat apply Exists.intro)
         exact ⟨⟨HF.out.1, HF.out.2.1, .inr HF.out.2.2.1, HF.out.2.2.2.1, HF.out.2.2.2.2⟩, rfl⟩
        ·show 13 - lenAt 7 _ _ < 13 - lenAt 7 _ _
         rw [lenAt_eq (p := ⟨b7, 0, none⟩) rfl (cell_of HF.out.2.1.box rfl), lenAt_eq (p := ⟨b7, 0, none⟩) rfl HC7.out, HLN.out.2.1.len]
         have := HF.out.2.2.2.1
         rw [List.length_append, List.length_singleton] at this
         show 13 - (v.length + 1) < 13 - v.length
         omega
     |true =>
      rw [hdn] at hd
      have HD := Lib.hid hdn; clear hdn
      have HDC := Lib.hid hd; clear hd
      have HLN := Lib.hid (And.intro hLB (And.intro hNW hWX)); clear hLB hNW hWX hC
      have HUU := Lib.hid (And.intro hu hrr); clear hu hrr
      go_wp2_with fail
      have hu := HUU.out.1
      have hrr := HUU.out.2
      refine HDC.out.mono ?_
      rintro e W2 ⟨rfl, hb2⟩
      have hLB2 := HLN.out.1.call hb2
      have hNW2 := HLN.out.2.1.call hb2
      have f7 : W2.cell? ⟨b7, 0, none⟩ = some (.slice (some ad) v.length c) := cell_of hNW2.box rfl
      have hCv := (R_some hNW2.row h0)
      obtain ⟨ad', c', e', _, hCv⟩ := hCv
      cases e'
      have hvm : v.length ≤ 9223372036854775807 := hCv.2.1
      have HU := Lib.hid (And.intro hu hrr); clear hu hrr
      have HC2 := Lib.hid hCv; clear hCv
      have H22 := Lib.hid (And.intro hLB2 hNW2); clear hLB2 hNW2 hb2 HLN HDC c1 c5 c6 c7
      have H0 := Lib.hid h0; clear h0
      go_wp2_with fail
      go_loopw [89] (fun jv wr => ∃ j : Nat, j ≤ v.length ∧ jv = .int .i64 j ∧ Hid (LB WB w bs1 b5 b6 (orL u (v.take j)) (r : Int) wv ps wr ∧ NW w b6 b7 (.slice (some ad) v.length c) v wr)) (fun jv wr => v.length - (intOf jv).toNat)
      case atStart => exact ⟨0, Nat.zero_le _, rfl, H22⟩
      case round =>
       obtain ⟨j, hj, rfl, HJ⟩ := hrel
       by_cases hjl : j < v.length
       ·have hjI : (j : Int) < (v.length : Int) := by omega
        obtain ⟨ad', c', e', _, hCv⟩ := R_some HJ.out.2.row H0.out
        cases e'
        obtain ⟨yd, e, hy⟩ := Kd.at_int (xs := v.map Int.ofNat) (n := v.length) hCv (j : Int) (by omega) hjI
        cases e
        simp only [Int.toNat_natCast] at hy
        rw [rd_nat hjl] at hy
        have hv12 := hP.out.2.2.2 _ (List.getElem_mem hjl)
        have ho4 := orL_lt (u := u) (l := v.take j) HU.out.1 (fun y hy => hP.out.2.2.2 y (List.mem_of_mem_take hy))
        obtain ⟨x, hxv⟩ : ∃ x, v[j] = x := ⟨_, rfl⟩
        rw [hxv] at hy hv12
        have HSS := Lib.hid (orL_step hjl hxv hv12 ho4)
        clear hxv ho4 hCv
        obtain ⟨OV, hOV⟩ : ∃ OV, orL u (v.take j) = OV := ⟨_, rfl⟩
        rw [hOV] at HSS HJ
        have hTX := cell_ext (cell_of (o := 0) HJ.out.1.used rfl)
        go_wp2_with fail
        refine region_tail [0, 1, 2, 3] [4] (by kernel_rfl) (by kernel_rfl) ?_
        simp only [pick_cons, pick_nil, nthO_succ, nthO_zero]
        repeat (go_big_quiet_step (fail))
        refine wpQuiet_nil ?_
        rintro W' ⟨X', rfl⟩
        have hbX := X'.2.below (n := wr.heap.size) (fun _ _ h => h) (Nat.le_refl _)
        have hLX := HJ.out.1.call hbX
        have hNX := HJ.out.2.call hbX
        have gT := cell_of (o := 0) hLX.used rfl
        have fT := frozen_of (o := 0) hLX.used
        rw [HSS.out]
        have HN2 := Lib.hid (And.intro (hLX.use (orL u (v.take (j + 1)))) (hNX.use hLX.used hLX.ord.2 (.int .u16 ((orL u (v.take (j + 1)) : Nat) : Int)))); clear hLX hNX hbX hTX
        go_wp2_with fail
        go_roundw
        case rel => exact ⟨j + 1, by omega, by go_num, HN2⟩
        case measure => exact meas_up1 hjl
       ·obtain rfl : j = v.length := by omega
        have hLJ := HJ.out.1
        rw [List.take_length] at hLJ
        have hNJ := HJ.out.2
        have k7 : wr.cell? ⟨b7, 0, none⟩ = some (.slice (some ad) v.length c) := cell_of hNJ.box rfl
        have hzl := hLJ.below.size
        have hzz := hLJ.size
        have hap := Kd.R_apart' hNJ.row (Kd.R_typed hLJ.ways) (fun q hq => by rw [kI_E hq]; decide)
        have hM := Kd.M_row hap
        have HJ2 := Lib.hid (And.intro hLJ (And.intro hNJ hM)); clear hLJ hNJ hap hM HJ
        clear hj hjl
        go_wp2_with (at_builtin; go_loud (refine Kd.R_append kW (w0 := wr) w.heap.size rfl (.tmp 98) (.tmp 100) 28 26 (.slice none 0 0) 24 rfl Tryd.underlying28 info26 rfl (by decide) (by decide) wv (ps.map (fun p => p.map Int.ofNat) : List (List Int)) (v.map Int.ofNat) [.slice (some ad) v.length c] (fun k => w.heap.size ≤ k ∧ k ≠ b6) (fun k => (w.heap.size ≤ k ∧ k ≠ b6) ∧ some k ≠ wv.ownBlock) rfl rfl HJ2.out.2.2 (fun _ h => h) (fun k hk => ⟨by omega, by omega⟩) HJ2.out.1.ways (Below.refl _ _) (by omega) (by have := HLP.out.1.2; simp; omega) ?_))
        intro v1 w7 h1 h2 h3 h4
        have hL7 := HJ2.out.1.grown (ps' := ps ++ [v]) h2 h3 (by rw [List.map_append]; exact h1)
        have l6 : w7.cell? ⟨b6, 0, none⟩ = some (.int .i64 (r : Int)) := cell_of hL7.rest rfl
        have HL7 := Lib.hid hL7; clear hL7 h1 h2 h3 h4
        have hr12 := HU.out.2
        have hrw : wrap64 ((r : Int) - 1) = (r : Int) - 1 := by unfold wrap64; omega
        clear hr12
        go_wp2_with fail
        have hbN : Below w7.heap.size w7 (w7.alloc (.cells #[.int .i64 ((r : Int) - 1)] 3)) := (Below.refl _ _).alloc (Nat.le_refl _) _
        have hhN : (w7.alloc (.cells #[.int .i64 ((r : Int) - 1)] 3)).heap[w7.heap.size]? = some (.cells #[.int .i64 ((r : Int) - 1)] 3) := heap_new rfl
        have hLF := HL7.out.renew hbN hhN
        have hls := least_some (by
         rw [← hP.out.2.2.1, show 13 - v.length = (12 - v.length) + 1 by have := hP.out.2.1; omega, grow_succ, if_pos HD.out])
        refine ⟨⟨bs1, b5, w7.heap.size, orL u v, r, v1, ps ++ [v], ?_⟩, ?_⟩
        ·(repeat apply Exists.intro)
         refine ⟨⟨hLF, orL_lt HU.out.1 hP.out.2.2.2, by have := HU.out.2; omega, by have := HLP.out.1.2; simp; omega, ?_⟩, rfl⟩
         rw [← HLP.out.1.1, hls]
         simp
        ·show restAt _ _ < restAt _ _
         rw [restAt_eq (p := ⟨w7.heap.size, 0, none⟩) rfl (cell_of hhN rfl), restAt_eq (p := ⟨b6, 0, none⟩) rfl HC6.out]
         show ((r : Int) - 1 + 1).toNat < ((r : Int) + 1).toNat
         omega
end Go.Proofs.YticngcjfofcoiaaDoor
