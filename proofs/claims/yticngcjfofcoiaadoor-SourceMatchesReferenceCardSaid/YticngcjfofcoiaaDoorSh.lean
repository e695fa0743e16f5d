/- The contract of short. -/
import Derived.Test.YticngcjfofcoiaaDoorZc
namespace Go.Proofs.YticngcjfofcoiaaDoor
open Go.RowKit Go.Rg Go.Proofs.YticngcjfofcoiaaDoorW.PrintWords
set_option linter.unusedVariables false
set_option linter.unusedSimpArgs false
set_option maxRecDepth 100000
def shortW (ws : List (List Int)) : List (List Int) := (ws.take 3).map (List.take 5)
theorem shortW_succ {ws : List (List Int)} {k : Nat} {v : List Int} (h : ws[k]? = some v) : (ws.take (k + 1)).map (List.take 5) = (ws.take k).map (List.take 5) ++ [v.take 5] := by
 rw [take_at h, List.map_append]; rfl
theorem fr_heap_at {S : Nat → Prop} {A B : World} (h : Fr S A B) {k : Nat} {o : Obj} (hk : A.heap[k]? = some o) (hS : ¬ S k) : B.heap[k]? = some o := (h.block k (Array.getElem?_eq_some_iff.1 hk).1 hS).trans hk
structure OddAt (WA : Option Addr) (wc : Nat) (ws : List (List Int)) (CA : Option Addr) (cc : Nat) (cs : List Int) (W : World) : Prop where
 rows : kW.C W WA ws.length ws
 cut : (Kd.int .i64).C W CA cs.length cs
 lw : ws.length ≤ wc
 lc : cs.length ≤ cc
theorem OddAt.next {WA : Option Addr} {wc : Nat} {ws : List (List Int)} {CA : Option Addr} {cc : Nat} {cs : List Int} {W W' : World} (h : OddAt WA wc ws CA cc cs W) (hb : Below W.heap.size W W') : OddAt WA wc ws CA cc cs W' := ⟨Kd.C_below h.rows hb, Kd.C_below h.cut hb, h.lw, h.lc⟩
structure ShX (w : World) (b : Nat) (n : Int) (WA : Option Addr) (wc : Nat) (ws : List (List Int)) (CA : Option Addr) (cc : Nat) (cs : List Int) (qn : Nat) (k : Nat) (ov : Value) (hs : List Hd) (W : World) : Prop where
 below : Below w.heap.size w W
 b0 : W.heap[b]? = some (.cells #[.int .i64 n, .slice WA ws.length wc, .slice CA cs.length cc] 30)
 b1 : W.heap[b + 1]? = some (.cells #[.int .i64 0, .slice none 0 0, .slice none 0 0] 30)
 b2 : W.heap[b + 2]? = some (.cells #[.int .i64 n, ov, .slice CA qn cc] 30)
 row : kh.R 26 W w.heap.size (fun k => b + 3 ≤ k) ov hs
 hds : Hds w hs ((ws.take k).map (List.take 5))
 size : b + 3 ≤ W.heap.size
theorem ShX.next {w : World} {b : Nat} {n : Int} {WA : Option Addr} {wc : Nat} {ws : List (List Int)} {CA : Option Addr} {cc : Nat} {cs : List Int} {qn k : Nat} {ov : Value} {hs : List Hd} {W W' : World} (h : ShX w b n WA wc ws CA cc cs qn k ov hs W) (hb : Below W.heap.size W W') : ShX w b n WA wc ws CA cc cs qn k ov hs W' := by
 have hz := h.size
 exact ⟨h.below.trans (hb.mono h.below.size), (hb.block _ (by omega)).trans h.b0, (hb.block _ (by omega)).trans h.b1, (hb.block _ (by omega)).trans h.b2, Kd.R_below h.row hb, h.hds, Nat.le_trans hz hb.size⟩
theorem ShX.drew {w : World} {b : Nat} {n : Int} {WA : Option Addr} {wc : Nat} {ws : List (List Int)} {CA : Option Addr} {cc : Nat} {cs : List Int} {qn k : Nat} {ov : Value} {hs : List Hd} {W : World} (h : ShX w b n WA wc ws CA cc cs qn k ov hs W) : ShX w b n WA wc ws CA cc cs qn k ov hs W.drew := h.next (Below.refl _ _).drew
theorem ShX.app {w : World} {b : Nat} {n : Int} {WA : Option Addr} {wc : Nat} {ws : List (List Int)} {CA : Option Addr} {cc : Nat} {cs : List Int} {qn k : Nat} {OA : Option Addr} {oc : Nat} {hs : List Hd} {W W' : World} {y : Hd} {v : List Int} {NA : Option Addr} {nc : Nat} (h : ShX w b n WA wc ws CA cc cs qn k (.slice OA hs.length oc) hs W) (hy : One w y v) (hsu : (ws.take (k + 1)).map (List.take 5) = (ws.take k).map (List.take 5) ++ [v])
  (q1 : kh.R 26 W' w.heap.size (fun k => b + 3 ≤ k) (.slice NA (hs ++ [y]).length nc) (hs ++ [y])) (q2 : Below w.heap.size w W') (q3 : W.grownBy W' (Value.slice OA hs.length oc).ownBlock) (hb : w.heap.size = b) :
  ShX w b n WA wc ws CA cc cs qn (k + 1) (.slice NA (hs ++ [y]).length nc) (hs ++ [y]) (W'.setCell ⟨b + 2, 1, none⟩ (.slice NA (hs ++ [y]).length nc)) ∧ W'.heap[b + 2]? = some (.cells #[.int .i64 n, .slice OA hs.length oc, .slice CA qn cc] 30) := by
 have hz := h.size
 have own : ∀ j, j < b + 3 → some j ≠ (Value.slice OA hs.length oc).ownBlock := fun j hj e => by have := h.row.1 j e.symm; omega
 have e0 := (q3.block b (by omega) (own b (by omega))).trans h.b0
 have e1 := (q3.block (b + 1) (by omega) (own (b + 1) (by omega))).trans h.b1
 have e2 := (q3.block (b + 2) (by omega) (own (b + 2) (by omega))).trans h.b2
 have hz2 : b + 3 ≤ W'.heap.size := Nat.le_trans hz q3.size
 refine ⟨⟨q2.setCell (p := ⟨b + 2, 1, none⟩) (by show w.heap.size ≤ b + 2; omega) _, heap_set_ne (p := ⟨b + 2, 1, none⟩) _ (by show b ≠ b + 2; omega) e0, heap_set_ne (p := ⟨b + 2, 1, none⟩) _ (by show b + 1 ≠ b + 2; omega) e1, heap_set (o := 1) _ e2, Kd.R_far q1 (p := ⟨b + 2, 1, none⟩) (fun k hk => by show k ≠ b + 2; omega) _, by rw [hsu]; exact h.hds.snoc hy, by simpa using hz2⟩, e2⟩
theorem sh_end {w : World} {b : Nat} {n : Int} {WA : Option Addr} {wc : Nat} {ws : List (List Int)} {CA : Option Addr} {cc : Nat} {cs : List Int} {qn k : Nat} {OA : Option Addr} {oc : Nat} {hs : List Hd} {W : World} (h : ShX w b n WA wc ws CA cc cs qn k (.slice OA hs.length oc) hs W) (hf : Hds w hs (shortW ws)) (ho : OddAt WA wc ws CA cc cs w) (hq : (cs.take 4).length = qn) (hb : w.heap.size = b) (y0 y1 y2 : Value) :
  ∃ (OA' : Option Addr) (oc' : Nat), Ending.returned (.agg #[.int .i64 n, .slice OA hs.length oc, .slice CA qn cc]) = .returned (.agg #[.int .i64 n, .slice OA' (shortW ws).length oc', .slice CA (cs.take 4).length cc]) ∧ Hid (OddAt OA' oc' (shortW ws) CA cc (cs.take 4) (((W.setCell ⟨b + 1, 0, none⟩ y0).setCell ⟨b + 1, 1, none⟩ y1).setCell ⟨b + 1, 2, none⟩ y2) ∧ Below w.heap.size w (((W.setCell ⟨b + 1, 0, none⟩ y0).setCell ⟨b + 1, 1, none⟩ y1).setCell ⟨b + 1, 2, none⟩ y2)) := by
 have f : ∀ {V : World} (o : Nat) (x : Value), kh.R 26 V w.heap.size (fun k => b + 3 ≤ k) (.slice OA hs.length oc) hs → kh.R 26 (V.setCell ⟨b + 1, o, none⟩ x) w.heap.size (fun k => b + 3 ≤ k) (.slice OA hs.length oc) hs := fun o x h => Kd.R_far h (p := ⟨b + 1, o, none⟩) (fun k hk => by show k ≠ b + 1; omega) x
 have hR := f 2 y2 (f 1 y1 (f 0 y0 h.row))
 have hB := (((h.below.setCell (p := ⟨b + 1, 0, none⟩) (by show w.heap.size ≤ b + 1; omega) y0).setCell (p := ⟨b + 1, 1, none⟩) (by show w.heap.size ≤ b + 1; omega) y1).setCell (p := ⟨b + 1, 2, none⟩) (by show w.heap.size ≤ b + 1; omega) y2)
 have hl := hf.len
 obtain ⟨A', c', e, hc, hC⟩ := Kd.R_reads hR
 injection e with e1 e2 e3
 subst e1
 subst e3
 have hC2 := C_heads hC (hf.below hB)
 have hcut : (Kd.int .i64).C w CA (cs.take 4).length (cs.take 4) := by
  have h1 := Kd.C_take ho.cut (m := min cs.length 4) (by omega)
  have e : cs.take (min cs.length 4) = cs.take 4 := by
   rcases Nat.le_total cs.length 4 with hh | hh
   ·rw [Nat.min_eq_left hh, List.take_length, List.take_of_length_le hh]
   ·rw [Nat.min_eq_right hh]
  rw [e] at h1
  exact h1
 have hlc := ho.lc
 exact ⟨OA, oc, by rw [hl, hq], Lib.hid ⟨⟨hC2, Kd.C_below hcut hB, by omega, by rw [List.length_take]; omega⟩, hB⟩⟩
set_option maxHeartbeats 4000000 in
theorem short_any (n : Int) (WA : Option Addr) (wc : Nat) (ws : List (List Int)) (CA : Option Addr) (cc : Nat) (cs : List Int) (w : World) (h : OddAt WA wc ws CA cc cs w) :
  Calls Tryd.prog 28 #[.agg #[.int .i64 n, .slice WA ws.length wc, .slice CA cs.length cc]] w fun e w' => ∃ (OA : Option Addr) (oc : Nat), e = .returned (.agg #[.int .i64 n, .slice OA (shortW ws).length oc, .slice CA (cs.take 4).length cc]) ∧ Hid (OddAt OA oc (shortW ws) CA cc (cs.take 4) w' ∧ Below w.heap.size w w') := by
 have hmw := max_len h.rows
 have hmc := max_len h.cut
 have HO := Lib.hid h; clear h
 obtain ⟨b, hb⟩ : ∃ b, w.heap.size = b := ⟨_, rfl⟩
 have hA := (Below.refl w.heap.size w).alloc (Nat.le_refl _) (.cells #[.int .i64 n, .slice WA ws.length wc, .slice CA cs.length cc] 30)
 have hB := hA.alloc hA.size (.cells #[.int .i64 0, .slice none 0 0, .slice none 0 0] 30)
 have k0 := heap_new (W := w) (o := .cells #[.int .i64 n, .slice WA ws.length wc, .slice CA cs.length cc] 30) hb
 have hz1 : (w.alloc (.cells #[.int .i64 n, .slice WA ws.length wc, .slice CA cs.length cc] 30)).heap.size = b + 1 := by simp [hb]
 have k0' : ((w.alloc (.cells #[.int .i64 n, .slice WA ws.length wc, .slice CA cs.length cc] 30)).alloc (.cells #[.int .i64 0, .slice none 0 0, .slice none 0 0] 30)).heap[b]? = some (.cells #[.int .i64 n, .slice WA ws.length wc, .slice CA cs.length cc] 30) := (Below.heap_alloc _ _ b (by omega)).trans k0
 have k1 := heap_new (W := w.alloc (.cells #[.int .i64 n, .slice WA ws.length wc, .slice CA cs.length cc] 30)) (o := .cells #[.int .i64 0, .slice none 0 0, .slice none 0 0] 30) hz1
 obtain ⟨w1, hw1⟩ : ∃ W, (w.alloc (.cells #[.int .i64 n, .slice WA ws.length wc, .slice CA cs.length cc] 30)).alloc (.cells #[.int .i64 0, .slice none 0 0, .slice none 0 0] 30) = W := ⟨_, rfl⟩
 have hz2 : w1.heap.size = b + 2 := by rw [← hw1]; simp [hb]
 rw [hw1] at hB k0' k1
 have H1 := Lib.hid (And.intro hB (And.intro k0' (And.intro k1 hz2))); clear hA hB k0 k0' k1 hz1 hz2
 have HB := Lib.hid hb
 go_enter Tryd.func28, Tryd.ntmps28
 go_wp2_with fail
 clear hw1
 refine region_seqP (fun k => b + 2 ≤ k) [([0, 1, 2, 3, 4, 5, 6, 7, 8, 9], 10), ([], 11)] [] (by kernel_rfl) (by kernel_rfl) (fun _ _ d _ _ h => by cases d <;> exact h) (fun ⟨_, _, h⟩ => by rcases h with ⟨_, _, h, _⟩; cases h) ?_
 obtain ⟨wd, hwd⟩ : ∃ wd, wd = { w1 with drawn := w1.drawn + 1 } := ⟨_, rfl⟩
 rw [← hwd]
 have HF := Lib.hid (show Fr (fun k => b + 2 ≤ k) w1 wd by rw [hwd]; exact (Fr.refl _ _).drew)
 have hbd : Below w1.heap.size w1 wd := by rw [hwd]; exact (Below.refl _ _).drew
 have hzd : wd.heap.size = b + 2 := by rw [hwd]; exact H1.out.2.2.2
 have HD := Lib.hid (And.intro hbd hzd); clear hwd hbd
 simp only [seqQ, pick_cons, pick_nil, nthO_succ, nthO_zero]
 have d0 := cell_extB (B := fun k => b + 2 ≤ k) (cell_of (o := 0) H1.out.2.1 rfl) (by show ¬ b + 2 ≤ b; omega)
 have d2 := cell_extB (B := fun k => b + 2 ≤ k) (cell_of (o := 2) H1.out.2.1 rfl) (by show ¬ b + 2 ≤ b; omega)
 have hlc : cs.length ≤ cc := HO.out.lc
 repeat (go_big_quiet_step (fail))
 have hq : (if (4 : Int) < (cs.length : Int) then (4 : Int) else (cs.length : Int)).toNat = (cs.take 4).length := by rw [List.length_take]; split <;> omega
 generalize (if (4 : Int) < (cs.length : Int) then (4 : Int) else (cs.length : Int)) = qi at *
 rw [hq]
 clear hq
 generalize hqn : (cs.take 4).length = qn at *
 have HQN := Lib.hid hqn; clear hqn
 refine wpQuiet_nil ?_
 have hn2 := heap_new (W := wd) (o := .cells #[.int .i64 0, .slice none 0 0, .slice none 0 0] 30) HD.out.2
 have hF2 := HF.out.alloc (.cells #[.int .i64 0, .slice none 0 0, .slice none 0 0] 30)
 have hB2 := (Below.refl wd.heap.size wd).alloc (Nat.le_refl _) (.cells #[.int .i64 0, .slice none 0 0, .slice none 0 0] 30)
 obtain ⟨w2, hw2⟩ : ∃ W, wd.alloc (.cells #[.int .i64 0, .slice none 0 0, .slice none 0 0] 30) = W := ⟨_, rfl⟩
 have hz2 : w2.heap.size = b + 3 := by rw [← hw2]; simp [hzd]
 rw [hw2] at hn2 hF2 hB2
 have H2 := Lib.hid (And.intro hn2 (And.intro hF2 (And.intro hB2 hz2))); clear hn2 hF2 hB2 hz2
 go_wp2_with fail
 refine ⟨⟨⟨_, H2.out.2.1⟩, rfl⟩, ?_⟩
 clear hzd
 refine wpQuiet_nil ?_
 have s0 := cell_of (o := 0) H2.out.1 rfl
 have s1 := cell_of (o := 1) H2.out.1 rfl
 have s2 := cell_of (o := 2) H2.out.1 rfl
 have g0 := frozen_of (o := 0) H2.out.1
 have g1 := frozen_of (o := 1) H2.out.1
 have g2 := frozen_of (o := 2) H2.out.1
 go_wp2_with fail
 have hb3 := set3 (y0 := .int .i64 n) (y1 := .slice none 0 0) (y2 := .slice CA qn cc) H2.out.1
 obtain ⟨w3, hw3⟩ : ∃ W, ((w2.setCell ⟨b + 2, 0, none⟩ (.int .i64 n)).setCell ⟨b + 2, 1, none⟩ (.slice none 0 0)).setCell ⟨b + 2, 2, none⟩ (.slice CA qn cc) = W := ⟨_, rfl⟩
 have hF3 := ((H2.out.2.1.setCell ⟨b + 2, 0, none⟩ (.int .i64 n) (fun _ => by show b + 2 ≤ b + 2; omega)).setCell ⟨b + 2, 1, none⟩ (.slice none 0 0) (fun _ => by show b + 2 ≤ b + 2; omega)).setCell ⟨b + 2, 2, none⟩ (.slice CA qn cc) (fun _ => by show b + 2 ≤ b + 2; omega)
 have hz3 : b + 3 ≤ w3.heap.size := by have := H2.out.2.2.2; rw [← hw3]; simp; omega
 rw [hw3] at hb3 hF3 ⊢
 have HX := Lib.hid (show ShX w b n WA wc ws CA cc cs qn 0 (.slice none 0 0) [] w3 from ⟨H1.out.1.trans (hF3.below (n := w.heap.size) (fun k hk => by omega) (by have := H1.out.2.2.2; omega)), fr_heap_at hF3 H1.out.2.1 (by omega), fr_heap_at hF3 H1.out.2.2.1 (by omega), hb3, Kd.R_nil _ _ _ _ _, trivial, hz3⟩)
 refine ⟨⟨⟨_, hF3⟩, rfl⟩, ?_⟩
 clear hb3 hF3 hz3 s0 s1 s2 g0 g1 g2 hw3 hw2 HF HD H2 d0 d2 hlc hb
 refine wpQuiet_nil ?_
 go_wp2_with fail
 go_loopw [4] (fun iv wr => ∃ (k : Nat) (ov : Value) (hs : List Hd), k ≤ ws.length ∧ k ≤ 3 ∧ iv = .int .i64 k ∧ Hid (ShX w b n WA wc ws CA cc cs qn k ov hs wr)) (fun iv wr => 3 - (intOf iv).toNat)
 case atStart => exact ⟨0, .slice none 0 0, [], Nat.zero_le _, Nat.zero_le _, rfl, HX⟩
 case round =>
  clear HX
  obtain ⟨k, ov, hs, hk, hk3, rfl, HI⟩ := hrel
  obtain ⟨OA, oc, rfl⟩ := Kd.R_slice HI.out.row
  have e1 := cell_of (o := 1) HI.out.b0 rfl
  by_cases hlt : k < ws.length ∧ k < 3
  ·obtain ⟨h1, h2⟩ := hlt
   have hkI : (k : Int) < (ws.length : Int) := by omega
   have hkJ : (k : Int) < 3 := by omega
   obtain ⟨v, hv⟩ : ∃ v, ws[k]? = some v := ⟨_, List.getElem?_eq_getElem h1⟩
   obtain ⟨ad, A0, c0, e, xv0, hvc, hCv⟩ := at_W HO.out.rows hv
   cases e
   have hsz := HB.out
   have hbl := World.block_lt_of_cell? w _ xv0
   have xv := pw_cell_below HI.out.below xv0
   have HSU := Lib.hid (shortW_succ hv)
   have hmv := max_len hCv
   have hOne : One w (A0, min v.length 5, c0) (v.take 5) := One.take (n := v.length) ⟨rfl, hvc, hCv⟩ 5
   have HON := Lib.hid hOne
   have E1 := cell_extB (B := fun k => b + 2 ≤ k) e1 (by show ¬ b + 2 ≤ b; omega)
   have EX := cell_extB (B := fun k => b + 2 ≤ k) xv (by show ¬ b + 2 ≤ (ad.add k).block; omega)
   clear xv0 hOne hv hCv hbl hsz
   go_wp2_with fail
   refine region_freeS (fun k => b + 2 ≤ k) [0, 2, 3, 4, 5, 6, 7, 8, 9, 10, 11, 12, 13, 14] #[true, false, true, true, true, true, true, true, true, true, true, true, true, true, true, false, false, false, false] 5 (by kernel_rfl) (by kernel_rfl) (fun _ _ d _ _ h => by cases d <;> exact h) ?_
   simp only [pick_cons, pick_nil, nthO_succ, nthO_zero]
   repeat (go_big_quiet_step (fail))
   have hq : (if (5 : Int) < (v.length : Int) then (5 : Int) else (v.length : Int)).toNat = min v.length 5 := by split <;> omega
   generalize (if (5 : Int) < (v.length : Int) then (5 : Int) else (v.length : Int)) = qi at *
   rw [hq]
   clear hq
   generalize hvn : min v.length 5 = vn at *
   refine wpQuiet_nil ?_
   clear E1 EX e1 xv hvn
   have HS0 := Lib.hid (show Fr (fun k => b + 2 ≤ k) wr wr.drew from (Fr.refl _ _).drew)
   have HIx := Lib.hid (show ShX w b n (some ad) wc ws CA cc cs qn k (.slice OA hs.length oc) hs wr.drew from HI.out.drew)
   obtain ⟨u0, hu0⟩ : ∃ u0, wr.drew = u0 := ⟨_, rfl⟩
   rw [hu0] at HS0 HIx ⊢
   clear hu0
   obtain ⟨gn, hgn⟩ : ∃ g, u0.heap.size = g := ⟨_, rfl⟩
   have hA := (Below.refl u0.heap.size u0).alloc (Nat.le_refl _) (.cells #[.slice A0 vn c0] 26)
   have hRow := onehead (y := (A0, vn, c0)) (heap_new (o := .cells #[hdv (A0, vn, c0)] 26) (W := u0) hgn)
   have HAL := Lib.hid (And.intro hA (And.intro (show kh.C (u0.alloc (.cells #[.slice A0 vn c0] 26)) (some ⟨gn, 0, none⟩) 1 [(A0, vn, c0)] from hRow) (And.intro (HIx.out.next hA) (HS0.out.alloc (.cells #[.slice A0 vn c0] 26))))); clear hA hRow
   have f1 := cell_of (o := 1) HIx.out.b2 rfl
   have hhl : hs.length ≤ 3 := by have := HIx.out.hds.len; rw [List.length_map, List.length_take] at this; omega
   obtain ⟨u1, hu1⟩ : ∃ W, u0.alloc (.cells #[.slice A0 vn c0] 26) = W := ⟨_, rfl⟩
   rw [hu1] at HAL
   have f1u := cell_of (o := 1) HAL.out.2.2.1.b2 rfl
   refine any_stepS [1, 15] (by kernel_rfl) ?_
   simp only [List.forall_mem_cons, List.forall_mem_nil, nthO_succ, nthO_zero]
   refine ⟨?_, ?_, fun _ h => by cases h⟩
   ·go_wp2_with fail
    refine ⟨⟨⟨_, HS0.out⟩, rfl⟩, ?_⟩
    refine any_stepS [15] (by kernel_rfl) ?_
    simp only [List.forall_mem_cons, List.forall_mem_nil, nthO_succ, nthO_zero]
    refine ⟨?_, fun _ h => by cases h⟩
    go_wp2_with fail
    refine ⟨⟨⟨_, HAL.out.2.2.2⟩, rfl⟩, ?_⟩
    refine any_stepS [16] (by kernel_rfl) ?_
    simp only [List.forall_mem_cons, List.forall_mem_nil, nthO_succ, nthO_zero]
    refine ⟨?_, fun _ h => by cases h⟩
    have hz1 := HAL.out.2.2.1.size
    refine Kd.R_append_rows kh (w0 := w) (Rr := fun x cs => cs = [hdv x]) w.heap.size rfl (.tmp 27) (.tmp 41) 28 26 (.slice none 0 0) 24 rfl Tryd.underlying28 info26 rfl (by decide) (by decide) (.slice OA hs.length oc) hs [(A0, vn, c0)] (some ⟨gn, 0, none⟩) 1 1 (fun k => b + 3 ≤ k) (fun _ => False) rfl rfl HAL.out.2.2.1.row HAL.out.2.1 (fun _ _ h => h) (fun _ h => h.elim) (fun k hk => by omega) HAL.out.2.2.1.below HAL.out.2.2.1.below.size (by omega) ?_
    intro v1 u2 q1 q2 q3 q4
    obtain ⟨NA, nc, rfl⟩ := Kd.R_slice q1
    have HJ := Lib.hid (HAL.out.2.2.1.app HON.out HSU.out q1 q2 q3 HB.out)
    obtain ⟨hs', hh'⟩ : ∃ h', hs ++ [(A0, vn, c0)] = h' := ⟨_, rfl⟩
    rw [hh'] at HJ ⊢
    have hS2 := HAL.out.2.2.2.grown q3 (fun k hk _ => by have := HAL.out.2.2.1.row.1 k hk; omega)
    have HS2 := Lib.hid hS2; clear q1 q2 q3 q4 hS2 hz1 hh'
    refine ⟨⟨⟨_, HS2.out⟩, rfl⟩, ?_⟩
    refine any_stepS [17] (by kernel_rfl) ?_
    simp only [List.forall_mem_cons, List.forall_mem_nil, nthO_succ, nthO_zero]
    refine ⟨?_, fun _ h => by cases h⟩
    go_wp2_with fail
    refine ⟨⟨⟨_, HS2.out⟩, rfl⟩, ?_⟩
    refine any_stepS [18] (by kernel_rfl) ?_
    simp only [List.forall_mem_cons, List.forall_mem_nil, nthO_succ, nthO_zero]
    refine ⟨?_, fun _ h => by cases h⟩
    have t1 := cell_of (o := 1) HJ.out.2 rfl
    have z1 := frozen_of (o := 1) HJ.out.2
    go_wp2_with fail
    refine ⟨⟨⟨_, HS2.out.setCell _ _ (fun _ => by show b + 2 ≤ b + 2; omega)⟩, rfl⟩, wpAnyH_done (by kernel_rfl) ?_ _⟩
    go_wp2_with fail
    go_roundw
    case rel => exact ⟨k + 1, _, _, by omega, by omega, by go_num, Lib.hid HJ.out.1⟩
    case measure => simp [intOf]; omega
   ·go_wp2_with fail
    refine ⟨⟨⟨_, HAL.out.2.2.2⟩, rfl⟩, ?_⟩
    refine any_stepS [1] (by kernel_rfl) ?_
    simp only [List.forall_mem_cons, List.forall_mem_nil, nthO_succ, nthO_zero]
    refine ⟨?_, fun _ h => by cases h⟩
    go_wp2_with fail
    refine ⟨⟨⟨_, HAL.out.2.2.2⟩, rfl⟩, ?_⟩
    refine any_stepS [16] (by kernel_rfl) ?_
    simp only [List.forall_mem_cons, List.forall_mem_nil, nthO_succ, nthO_zero]
    refine ⟨?_, fun _ h => by cases h⟩
    have hz1 := HAL.out.2.2.1.size
    refine Kd.R_append_rows kh (w0 := w) (Rr := fun x cs => cs = [hdv x]) w.heap.size rfl (.tmp 27) (.tmp 41) 28 26 (.slice none 0 0) 24 rfl Tryd.underlying28 info26 rfl (by decide) (by decide) (.slice OA hs.length oc) hs [(A0, vn, c0)] (some ⟨gn, 0, none⟩) 1 1 (fun k => b + 3 ≤ k) (fun _ => False) rfl rfl HAL.out.2.2.1.row HAL.out.2.1 (fun _ _ h => h) (fun _ h => h.elim) (fun k hk => by omega) HAL.out.2.2.1.below HAL.out.2.2.1.below.size (by omega) ?_
    intro v1 u2 q1 q2 q3 q4
    obtain ⟨NA, nc, rfl⟩ := Kd.R_slice q1
    have HJ := Lib.hid (HAL.out.2.2.1.app HON.out HSU.out q1 q2 q3 HB.out)
    obtain ⟨hs', hh'⟩ : ∃ h', hs ++ [(A0, vn, c0)] = h' := ⟨_, rfl⟩
    rw [hh'] at HJ ⊢
    have hS2 := HAL.out.2.2.2.grown q3 (fun k hk _ => by have := HAL.out.2.2.1.row.1 k hk; omega)
    have HS2 := Lib.hid hS2; clear q1 q2 q3 q4 hS2 hz1 hh'
    refine ⟨⟨⟨_, HS2.out⟩, rfl⟩, ?_⟩
    refine any_stepS [17] (by kernel_rfl) ?_
    simp only [List.forall_mem_cons, List.forall_mem_nil, nthO_succ, nthO_zero]
    refine ⟨?_, fun _ h => by cases h⟩
    go_wp2_with fail
    refine ⟨⟨⟨_, HS2.out⟩, rfl⟩, ?_⟩
    refine any_stepS [18] (by kernel_rfl) ?_
    simp only [List.forall_mem_cons, List.forall_mem_nil, nthO_succ, nthO_zero]
    refine ⟨?_, fun _ h => by cases h⟩
    have t1 := cell_of (o := 1) HJ.out.2 rfl
    have z1 := frozen_of (o := 1) HJ.out.2
    go_wp2_with fail
    refine ⟨⟨⟨_, HS2.out.setCell _ _ (fun _ => by show b + 2 ≤ b + 2; omega)⟩, rfl⟩, wpAnyH_done (by kernel_rfl) ?_ _⟩
    go_wp2_with fail
    go_roundw
    case rel => exact ⟨k + 1, _, _, by omega, by omega, by go_num, Lib.hid HJ.out.1⟩
    case measure => simp [intOf]; omega
  ·have hq : ((k : Int) < (ws.length : Int) ∧ ¬ (k : Int) < 3) ∨ ¬ (k : Int) < (ws.length : Int) := by omega
   have hfn : (ws.take k).map (List.take 5) = shortW ws := by
    unfold shortW
    rcases hq with h | h
    ·obtain rfl : k = 3 := by omega
     rfl
    ·obtain rfl : k = ws.length := by omega
     rw [List.take_length, List.take_of_length_le (by omega)]
   have HF := Lib.hid (show Hds w hs (shortW ws) by rw [← hfn]; exact HI.out.hds); clear hfn
   have d0 := cell_of (o := 0) HI.out.b2 rfl
   have d1 := cell_of (o := 1) HI.out.b2 rfl
   have d2 := cell_of (o := 2) HI.out.b2 rfl
   have r0 := cell_of (o := 0) HI.out.b1 rfl
   have r1 := cell_of (o := 1) HI.out.b1 rfl
   have r2 := cell_of (o := 2) HI.out.b1 rfl
   have f0 := frozen_of (o := 0) HI.out.b1
   have f1 := frozen_of (o := 1) HI.out.b1
   have f2 := frozen_of (o := 2) HI.out.b1
   rcases hq with ⟨h1, h2⟩ | h1
   all_goals
    go_wp2_with fail
    refine bodyPost_ret (v := .agg #[.int .i64 n, .slice OA hs.length oc, .slice CA qn cc]) ?_ rfl (by have h := sh_end HI.out HF.out HO.out HQN.out HB.out (.int .i64 n) (.slice OA hs.length oc) (.slice CA qn cc); rw [List.length_take] at h; exact h)
    have hh := set3 (y0 := .int .i64 n) (y1 := .slice OA hs.length oc) (y2 := .slice CA qn cc) HI.out.b1
    have e0 := cell_of (o := 0) hh rfl
    have e1 := cell_of (o := 1) hh rfl
    have e2 := cell_of (o := 2) hh rfl
    simp [results, Tryd.results28, go_sem, e0, e1, e2]
end Go.Proofs.YticngcjfofcoiaaDoor
