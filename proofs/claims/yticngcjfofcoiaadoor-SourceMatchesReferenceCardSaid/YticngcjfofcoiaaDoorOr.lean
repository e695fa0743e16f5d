/- The contract of Origins. -/
import Derived.Test.YticngcjfofcoiaaDoorSa
import Derived.Test.YticngcjfofcoiaaDoorRe
namespace Go.Proofs.YticngcjfofcoiaaDoor
open Go.RowKit Go.Rg Go.Proofs.YticngcjfofcoiaaDoorW.PrintWords
set_option linter.unusedVariables false
set_option linter.unusedSimpArgs false
set_option maxRecDepth 100000
attribute [local go_sem] Oper.semAt_some
def setOf (p : Nat → Bool) : Nat := ((List.range 12).filter p).foldl (fun a i => a ||| 2 ^ i) 0
theorem setOf_bit (p : Nat → Bool) (i : Nat) : (setOf p).testBit i = (decide (i < 12) && p i) := by
 have h := orL_bit 0 ((List.range 12).filter p) i
 unfold orL at h
 unfold setOf
 rw [h]
 simp only [Nat.zero_testBit, Bool.false_or]
 rw [Bool.eq_iff_iff, List.contains_iff_mem, List.mem_filter, List.mem_range, Bool.and_eq_true, decide_eq_true_eq]
theorem setOf_lt (p : Nat → Bool) : setOf p < 4096 := orL_lt (u := 0) (l := (List.range 12).filter p) (by decide) fun v hv => List.mem_range.1 (List.mem_filter.1 hv).1
open Classical in
noncomputable def rchB (nx : Nat → List Nat) (sd og X i : Nat) : Bool := decide (Flow.Reach (netOf nx sd og X) (fun _ => false) i ∧ X.testBit i = false)
open Classical in
theorem reached_val (WB : Nat) (nx : Nat → List Nat) (og sd wo u : Nat) (w : World) (hW : WebX WB nx og sd wo w) (hnx : NxOk nx) (hT : Tab w) (hog : og < 4096) (hwo : wo < 4096) (hu : u < 4096) :
  Calls Tryd.prog 41 #[.pointer (some ⟨WB, 0, none⟩), .int .u16 (u : Int)] w fun e w' => e = .returned (.int .u16 ((setOf (rchB nx sd og (u ||| wo)) : Nat) : Int)) ∧ Below w.heap.size w w' := by
 refine (reached_any WB nx og sd wo u w hW hnx hT hog hwo hu).mono ?_
 rintro e w' ⟨R, hR, hb, rfl, hbl⟩
 have : R = setOf (rchB nx sd og (u ||| wo)) := Nat.eq_of_testBit_eq fun i => by
  rw [setOf_bit, Bool.eq_iff_iff, hb i, Bool.and_eq_true, decide_eq_true_eq]
  unfold rchB
  rw [decide_eq_true_eq]
  exact ⟨fun h => ⟨h.1.lt, h⟩, fun h => h.2⟩
 exact ⟨by rw [this], hbl⟩
noncomputable def fromB (l : List Src) (x o : Nat) : Bool := rchB (nxL l) 0 (2 ^ o) 0 x
noncomputable def orgL (l : List Src) (x : Int) : List Nat := if validS l = true ∧ (fndS l x).isSome = true then (elems (ogL l)).filter (fromB l x.toNat) else []
def orgE (l : List Src) (x : Int) : Int := if validS l = true ∧ (fndS l x).isSome = true then 0 else 70
theorem SX.frS {WB : Nat} {nv : Nat → Value} {nx : Nat → List Nat} {og sd wo : Nat} {A B : World} {S : Nat → Prop} (h : SX WB nv nx og sd wo A) (hf : Fr S A B) (hW : ¬ S WB) (hr : ∀ i, i < 12 → ∀ k, (nv i).ownBlock = some k → ¬ S k) : SX WB nv nx og sd wo B :=
 ⟨(hf.block _ h.size hW).trans h.blk, fun i hi => Kd.R_step (h.rows i hi) (fun k hk hl => hf.block k hl (hr i hi k hk)), h.ne⟩
structure OW (w : World) (WB b8 b10 n0 : Nat) (x : Int) (l : List Src) (nv : Nat → Value) (B0 s : Nat) (ol : List Nat) (A : World) : Prop where
 below : Below w.heap.size w A
 b3 : A.heap[w.heap.size]? = some (.cells #[.int .i64 x] 3)
 bx8 : A.heap[b8]? = some (.cells #[.pointer (some ⟨WB, 0, none⟩)] 64)
 web : ∃ og, og < 4096 ∧ SX WB nv (nxL l) og 0 0 A
 rowlt : ∀ i, i < 12 → ∀ k, (nv i).ownBlock = some k → k < n0
 out : ∃ ov, A.heap[b10]? = some (.cells #[ov] 26) ∧ (Kd.int .i64).R 3 A (B0 + 2) (fun k => ov.ownBlock = some k) ov (ol.map Int.ofNat) ∧ ∀ k, ov.ownBlock = some k → k < s
 ord : w.heap.size < WB ∧ WB < n0 ∧ n0 ≤ b8 ∧ b8 < b10 ∧ b10 < B0
theorem OW.fr {w : World} {WB b8 b10 n0 : Nat} {x : Int} {l : List Src} {nv : Nat → Value} {B0 s : Nat} {ol : List Nat} {A B : World} {S : Nat → Prop} (h : OW w WB b8 b10 n0 x l nv B0 s ol A) (hf : Fr S A B) (hS : ∀ k, S k → B0 ≤ k ∧ (k < B0 + 2 ∨ s ≤ k)) : OW w WB b8 b10 n0 x l nv B0 s ol B := by
 obtain ⟨h1, h2, h3, ⟨og, h4o, h4⟩, h5, ⟨ov, h6, h7, h8⟩, h9⟩ := h
 have lt : ∀ {k o}, A.heap[k]? = some o → k < A.heap.size := fun h => (Array.getElem?_eq_some_iff.1 h).1
 refine ⟨h1.trans (hf.below (fun k hk hs => by have := hS k hs; omega) h1.size), (hf.block _ (lt h2) (fun hs => by have := hS _ hs; omega)).trans h2, (hf.block _ (lt h3) (fun hs => by have := hS _ hs; omega)).trans h3, ⟨og, h4o, h4.frS hf (fun hs => by have := hS _ hs; omega) (fun i hi k hk hs => by have := hS _ hs; have := h5 i hi k hk; omega)⟩, h5, ⟨ov, (hf.block _ (lt h6) (fun hs => by have := hS _ hs; omega)).trans h6, Kd.R_step h7 (fun k hk hl => hf.block k hl (fun hs => ?_)), h8⟩, h9⟩
 have h10 := hS k hs
 have h11 := h8 k hk
 have h12 := h7
 have : B0 + 2 ≤ k := by
  obtain ⟨ok, inner, ho, _⟩ := h7
  rcases ho.2 with ⟨e, _⟩ | ⟨g, cap, cur, e, hb, _⟩
  ·rw [e] at hk; simp [Value.ownBlock] at hk
  ·rw [e] at hk
   have : g = k := by simpa [Value.ownBlock] using hk
   omega
 omega
theorem OW.frP {w : World} {WB b8 b10 n0 : Nat} {x : Int} {l : List Src} {nv : Nat → Value} {B0 s : Nat} {ol : List Nat} {A B : World} {S : Nat → Prop} (h : OW w WB b8 b10 n0 x l nv B0 s ol A) (hf : Fr S A B) (hS : ∀ k, S k → b10 < k ∧ k < B0 + 2) : OW w WB b8 b10 n0 x l nv B0 s ol B := by
 obtain ⟨h1, h2, h3, ⟨og, h4o, h4⟩, h5, ⟨ov, h6, h7, h8⟩, h9⟩ := h
 have lt : ∀ {k o}, A.heap[k]? = some o → k < A.heap.size := fun h => (Array.getElem?_eq_some_iff.1 h).1
 refine ⟨h1.trans (hf.below (fun k hk hs => by have := hS k hs; omega) h1.size), (hf.block _ (lt h2) (fun hs => by have := hS _ hs; omega)).trans h2, (hf.block _ (lt h3) (fun hs => by have := hS _ hs; omega)).trans h3, ⟨og, h4o, h4.frS hf (fun hs => by have := hS _ hs; omega) (fun i hi k hk hs => by have := hS _ hs; have := h5 i hi k hk; omega)⟩, h5, ⟨ov, (hf.block _ (lt h6) (fun hs => by have := hS _ hs; omega)).trans h6, ?_, h8⟩, h9⟩
 exact Kd.R_mono (Kd.R_step (Kd.R_bound h7) (fun k hk hl => hf.block k hl (fun hs => by have := hS k hs; have := hk.2.1; omega))) (fun k hk => hk.1)
theorem OW.later {w : World} {WB b8 b10 n0 : Nat} {x : Int} {l : List Src} {nv : Nat → Value} {B0 s s' : Nat} {ol : List Nat} {A : World} (h : OW w WB b8 b10 n0 x l nv B0 s ol A) (hs : s ≤ s') : OW w WB b8 b10 n0 x l nv B0 s' ol A := by
 obtain ⟨h1, h2, h3, h4, h5, ⟨ov, h6, h7, h8⟩, h9⟩ := h
 exact ⟨h1, h2, h3, h4, h5, ⟨ov, h6, h7, fun k hk => Nat.lt_of_lt_of_le (h8 k hk) hs⟩, h9⟩
theorem OW.call {w : World} {WB b8 b10 n0 : Nat} {x : Int} {l : List Src} {nv : Nat → Value} {B0 s : Nat} {ol : List Nat} {A B : World} (h : OW w WB b8 b10 n0 x l nv B0 s ol A) (hb : Below A.heap.size A B) (h1 : B0 + 2 ≤ s) (h2 : s ≤ A.heap.size) : OW w WB b8 b10 n0 x l nv B0 s ol B := h.fr (Fr.of_below hb) (fun k hk => by omega)
theorem OW.put12 {w : World} {WB b8 b10 n0 : Nat} {x : Int} {l : List Src} {nv : Nat → Value} {B0 s : Nat} {ol : List Nat} {A : World} (h : OW w WB b8 b10 n0 x l nv B0 s ol A) (o : Nat) (ho : o < 4096) : OW w WB b8 b10 n0 x l nv B0 s ol (A.setCell ⟨WB, 12, none⟩ (.int .u16 (o : Int))) := by
 obtain ⟨h1, h2, h3, ⟨og, h4o, h4⟩, h5, ⟨ov, h6, h7, h8⟩, h9⟩ := h
 refine ⟨h1.setCell (p := ⟨WB, 12, none⟩) (by show w.heap.size ≤ WB; omega) _, heap_set_ne (p := ⟨WB, 12, none⟩) _ (by show w.heap.size ≠ WB; omega) h2, heap_set_ne (p := ⟨WB, 12, none⟩) _ (by show b8 ≠ WB; omega) h3, ⟨o, ho, h4.put (o := 12) (og' := o) (sd' := 0) (wo' := 0) rfl⟩, h5, ⟨ov, heap_set_ne (p := ⟨WB, 12, none⟩) _ (by show b10 ≠ WB; omega) h6, Kd.R_set h7 h4.blk (fun q hq => by rw [kI_only hq]; decide) 12 _, h8⟩, h9⟩
theorem OW.push {w : World} {WB b8 b10 n0 : Nat} {x : Int} {l : List Src} {nv : Nat → Value} {B0 s o : Nat} {ol : List Nat} {A B : World} {v1 : Value} {ok : Nat → Prop} (h : OW w WB b8 b10 n0 x l nv B0 s ol A) (hb : Below (B0 + 2) A B) (hr : (Kd.int .i64).R 3 B (B0 + 2) ok v1 ((ol ++ [o]).map Int.ofNat)) : OW w WB b8 b10 n0 x l nv B0 B.heap.size (ol ++ [o]) (B.setCell ⟨b10, 0, none⟩ v1) := by
 obtain ⟨h1, h2, h3, ⟨og, h4o, h4⟩, h5, ⟨ov, h6, h7, h8⟩, h9⟩ := h
 have hF : Fr (fun k => B0 + 2 ≤ k) A B := Fr.of_below hb
 have h6' := (hb.block b10 (by omega)).trans h6
 have h4' := h4.frS hF (by omega) (fun i hi k hk hs => by have := h5 i hi k hk; omega)
 have h26 : ∀ q, q ∈ (3 : Nat) :: (Kd.int .i64).E → q ≠ 26 := fun q hq => by rw [kI_only hq]; decide
 refine ⟨(h1.trans (hb.mono (by omega))).setCell (p := ⟨b10, 0, none⟩) (by show w.heap.size ≤ b10; omega) _, heap_set_ne (p := ⟨b10, 0, none⟩) _ (by show w.heap.size ≠ b10; omega) ((hb.block _ (by omega)).trans h2), heap_set_ne (p := ⟨b10, 0, none⟩) _ (by show b8 ≠ b10; omega) ((hb.block _ (by omega)).trans h3), ⟨og, h4o, ⟨heap_set_ne (p := ⟨b10, 0, none⟩) _ (by show WB ≠ b10; omega) h4'.blk, fun i hi => Kd.R_set (h4'.rows i hi) h6' h26 0 _, h4'.ne⟩⟩, h5, ⟨v1, heap_set (o := 0) v1 h6', row_only (Kd.R_set hr h6' h26 0 _), fun k hk => ?_⟩, h9⟩
 obtain ⟨cs, hc⟩ := Kd.R_typed hr k hk
 exact (Array.getElem?_eq_some_iff.1 hc).1
set_option maxHeartbeats 4000000 in
theorem Origins_no (LA : Option Addr) (c : Nat) (l : List Src) (x : Int) (w : World) (hr : Kd.C kS w LA l.length l) (hl : ∀ s ∈ l, s.frm.length ≤ 1000) (hg : ¬ (validS l = true ∧ (fndS l x).isSome = true)) :
  Calls Tryd.prog 18 #[.slice LA l.length c, .int .i64 x] w fun e w' => e = .returned (.tuple #[.slice none 0 0, .int .i64 70]) ∧ Below w.heap.size w w' := by
 have hb3 := (Below.refl w.heap.size w).alloc (Nat.le_refl _) (.cells #[.int .i64 x] 3)
 have hfd := find_any LA c l x _ (Kd.C_below hr hb3) hl
 have HR := Lib.hid (And.intro (Kd.C_below hr hb3) (And.intro hl hb3)); clear hr hl hb3
 have HFD := Lib.hid hfd; clear hfd
 go_enter Tryd.func18, Tryd.ntmps18
 go_wp2_with fail
 refine HFD.out.mono ?_
 rintro e w1 ⟨v, rfl, hRv, hb⟩
 obtain ⟨VA, vc, rfl⟩ := Kd.R_slice hRv
 generalize ((fndS l x).getD s0).frm.length = n1 at *
 generalize ((fndS l x).getD s0).id = n2 at *
 generalize ((fndS l x).getD s0).kind = n3 at *
 have hb1 := HR.out.2.2.trans (hb.mono HR.out.2.2.size)
 have hb2 := hb1.alloc hb1.size (.cells #[.int .i64 n2, .int .i64 n3, .slice VA n1 vc] 35)
 cases hth : (fndS l x).isSome with
 |false =>
  have HB := Lib.hid hb2; clear hb hb1 hb2 hRv hth hg HFD
  go_wp2_with fail
  go_ret2
  exact ⟨rfl, HB.out⟩
 |true =>
  have hv : validS l = false := by
   cases h : validS l with
   |false => rfl
   |true => exact absurd ⟨h, hth⟩ hg
  have hva := valid_any LA c l _ (Kd.C_below HR.out.1 (hb.alloc hb.size (.cells #[.int .i64 n2, .int .i64 n3, .slice VA n1 vc] 35))) HR.out.2.1
  rw [hv] at hva
  have HV := Lib.hid hva
  have HB := Lib.hid hb2; clear hb hb1 hb2 hRv hth hg HFD hva hv
  go_wp2_with fail
  refine HV.out.mono ?_
  rintro e w2 ⟨rfl, hb3⟩
  have HB3 := Lib.hid (HB.out.trans (hb3.mono HB.out.size)); clear hb3 HV
  go_wp2_with fail
  go_ret2
  exact ⟨rfl, HB3.out⟩
set_option maxHeartbeats 8000000 in
theorem Origins_yes (LA : Option Addr) (c : Nat) (l : List Src) (x : Int) (w : World) (hr : Kd.C kS w LA l.length l) (hl : ∀ s ∈ l, s.frm.length ≤ 1000) (hT : Tab w) (hv : validS l = true) (hth : (fndS l x).isSome = true) :
  Calls Tryd.prog 18 #[.slice LA l.length c, .int .i64 x] w fun e w' => ∃ v, e = .returned (.tuple #[v, .int .i64 0]) ∧ (Kd.int .i64).R 3 w' w.heap.size (fun k => w.heap.size ≤ k) v (((elems (ogL l)).filter (fromB l x.toNat)).map Int.ofNat) ∧ Below w.heap.size w w' := by
 have hx12 : 0 ≤ x ∧ x < 12 := by
  obtain ⟨s, hs⟩ := Option.isSome_iff_exists.1 hth
  have h1 := List.mem_of_find?_eq_some hs
  have h2 := List.find?_some hs
  have h3 := valid_src hv h1
  have : s.id = x := by simpa using h2
  omega
 obtain ⟨X, rfl⟩ := Int.eq_ofNat_of_zero_le hx12.1
 rw [Int.toNat_natCast]
 have hX : X < 12 := by omega
 have hb3 := (Below.refl w.heap.size w).alloc (Nat.le_refl _) (.cells #[.int .i64 (X : Int)] 3)
 have h3 : (w.alloc (.cells #[.int .i64 (X : Int)] 3)).heap[w.heap.size]? = some (.cells #[.int .i64 (X : Int)] 3) := heap_new rfl
 have hfd := find_any LA c l (X : Int) _ (Kd.C_below hr hb3) hl
 have HR := Lib.hid (And.intro (Kd.C_below hr hb3) (And.intro hl (And.intro hb3 (And.intro hT (And.intro hv h3))))); clear hr hl hb3 hT h3
 have HFD := Lib.hid hfd; clear hfd hx12
 refine calls_of_wp_marks Tryd.func18 rfl ?_
 simp only [Tryd.ntmps18, List.size_toArray, List.length_cons, List.length_nil, Nat.reduceAdd, Nat.reduceSub, Array.replicate_succ, Array.replicate_zero, List.push_toArray, List.append_toArray, List.nil_append, List.cons_append]
 go_wp2_with fail
 refine HFD.out.mono ?_
 rintro e w1 ⟨v, rfl, hRv, hb⟩
 obtain ⟨VA, vc, rfl⟩ := Kd.R_slice hRv
 rw [hth]
 generalize ((fndS l (X : Int)).getD s0).frm.length = n1 at *
 generalize ((fndS l (X : Int)).getD s0).id = n2 at *
 generalize ((fndS l (X : Int)).getD s0).kind = n3 at *
 have hbA := hb.alloc hb.size (.cells #[.int .i64 n2, .int .i64 n3, .slice VA n1 vc] 35)
 have hva := valid_any LA c l _ (Kd.C_below HR.out.1 hbA) HR.out.2.1
 rw [hv] at hva
 have HV := Lib.hid hva
 have HB := Lib.hid hbA; clear hb hbA hRv hth HFD hva hv
 go_wp2_with fail
 refine HV.out.mono ?_
 rintro e w2 ⟨rfl, hb2'⟩
 have hb2 := HB.out.trans (hb2'.mono HB.out.size)
 have hsp := spin_any LA c l none 0 [] w2 (Kd.C_below HR.out.1 hb2) (valid_spin HR.out.2.2.2.2.1) (valid_len HR.out.2.2.2.2.1) ⟨rfl, by simp, fun h => absurd h (by simp)⟩ (fun x hx => by cases hx)
 have HSP := Lib.hid hsp
 have HB2 := Lib.hid hb2; clear hb2 hb2' hsp HV HB
 go_wp2_with fail
 refine HSP.out.mono ?_
 rintro e w3 ⟨nv, rfl, hXw, hb3⟩
 have hWB : w.heap.size < w2.heap.size := by have := HB2.out.size; simp at this; omega
 have hbw := HR.out.2.2.1.trans ((HB2.out.trans (hb3.mono HB2.out.size)).mono (by simp))
 obtain ⟨WB, hWBe⟩ : ∃ b, w2.heap.size = b := ⟨_, rfl⟩
 rw [hWBe] at hXw hWB ⊢
 have hn0 := hXw.size
 have hog := valid_og HR.out.2.2.2.2.1
 have cO : (w3.alloc (.cells #[.pointer (some ⟨WB, 0, none⟩)] 64)).cell? ⟨WB, 12, none⟩ = some (.int .u16 ((ogL l : Nat) : Int)) := cell_of (heap_old hXw.blk) rfl
 have hrows : ∀ i, i < 12 → ∀ k, (nv i).ownBlock = some k → k < w3.heap.size := fun i hi k hk => by
  obtain ⟨cs, hc⟩ := Kd.R_typed (hXw.rows i hi) k hk
  exact (Array.getElem?_eq_some_iff.1 hc).1
 have h3x := (HB2.out.trans (hb3.mono HB2.out.size)).block _ (by simp) |>.trans HR.out.2.2.2.2.2
 have hXA := hXw.fr (((Below.refl w3.heap.size w3).alloc (Nat.le_refl _) (.cells #[.pointer (some ⟨WB, 0, none⟩)] 64)).alloc (by simp) (.cells #[.slice none 0 0] 26))
 have hOW : OW w WB w3.heap.size (w3.heap.size + 1) w3.heap.size (X : Int) l nv (w3.heap.size + 3) (w3.heap.size + 3) (((elems (ogL l)).take 0).filter (fromB l X)) (((w3.alloc (.cells #[.pointer (some ⟨WB, 0, none⟩)] 64)).alloc (.cells #[.slice none 0 0] 26)).alloc (.cells #[.int .u16 ((ogL l : Nat) : Int)] 60)) := by
  refine ⟨((hbw.alloc (by omega) _).alloc (by simp; omega) _).alloc (by simp; omega) _, heap_old (heap_old (heap_old h3x)), heap_old (heap_old (heap_new rfl)), ⟨ogL l, hog, hXA.fr ((Below.refl _ _).alloc (Nat.le_refl _) _)⟩, hrows, ⟨.slice none 0 0, heap_old (heap_new (by simp)), Kd.R_nil _ _ _ _ _, fun k hk => by simp [Value.ownBlock] at hk⟩, by omega, hn0, Nat.le_refl _, by omega, by omega⟩
 have hTb : Tab (((w3.alloc (.cells #[.pointer (some ⟨WB, 0, none⟩)] 64)).alloc (.cells #[.slice none 0 0] 26)).alloc (.cells #[.int .u16 ((ogL l : Nat) : Int)] 60)) := HR.out.2.2.2.1.next hOW.below HR.out.2.2.2.1.pos
 have HO := Lib.hid (And.intro hOW (And.intro hTb (show (((w3.alloc (.cells #[.pointer (some ⟨WB, 0, none⟩)] 64)).alloc (.cells #[.slice none 0 0] 26)).alloc (.cells #[.int .u16 ((ogL l : Nat) : Int)] 60)).heap[w3.heap.size + 2]? = some (.cells #[.int .u16 ((ogL l : Nat) : Int)] 60) from heap_new (by simp))))
 have HOG := Lib.hid hog
 clear hOW hTb hXA h3x hrows hbw hXw hb3 HSP HB2 hog hWBe
 go_wp2_with fail
 refine (each_any _ _).mono ?_
 rintro e w4 ⟨rfl, rfl⟩
 go_wp2_with fail
 obtain ⟨b8, hb8⟩ : ∃ b, w3.heap.size = b := ⟨_, rfl⟩
 rw [hb8] at HO hn0 ⊢
 refine wp_range (α := Nat) (b8 + 3) (by simp [hb8]) (gf := 57) (lb := #[.pointer (some ⟨b8 + 2, 0, none⟩)]) rfl (fun _ _ => rfl) (each_iter (ogL l) (b8 + 2) HOG.out (by omega)) (fun _ => rfl) (fun k => k = WB ∨ k = b8 + 1)
  (fun W' hf => ⟨HO.out.2.1.fr hf (fun h => h), (hf.block _ (Array.getElem?_eq_some_iff.1 HO.out.2.2).1 (fun h => h)).trans HO.out.2.2⟩) ?hlt ?hown
  (fun i s A => i ≤ (elems (ogL l)).length ∧ OW w WB b8 (b8 + 1) b8 (X : Int) l nv (b8 + 3) s (((elems (ogL l)).take i).filter (fromB l X)) A) (fun _ _ _ => False)
  ?hI (fun _ _ _ _ h _ _ => h) (fun i s A h => Nat.le_trans h.1 (elems_len _)) ?h0
  (fun i s z o a' A => o < 12 ∧ OW w WB b8 (b8 + 1) b8 (X : Int) l nv (b8 + 3) s (((elems (ogL l)).take i).filter (fromB l X)) A ∧ ∃ (y1 y2 y4 y5 y6 y7 y9 y12 y13 y14 y15 y16 y17 y18 y19 y20 y21 y22 y23 y24 y25 y26 y27 y28 y29 y30 y31 y32 y33 y34 y35 y36 y37 y38 y39 y40 y41 y42 y43 y44 y45 y46 y47 : Value), a' = { tmps := #[.slice LA l.length c, y1, y2, .pointer (some ⟨w.heap.size, 0, none⟩), y4, y5, y6, y7, .pointer (some ⟨b8, 0, none⟩), y9, .pointer (some ⟨b8 + 1, 0, none⟩), .int .i64 (o : Int), y12, y13, y14, y15, y16, y17, y18, y19, y20, y21, y22, y23, y24, y25, y26, y27, y28, y29, y30, y31, y32, y33, y34, y35, y36, y37, y38, y39, y40, y41, y42, y43, y44, y45, y46, y47], defers := [] })
  ?hA ?hassign ?hbody ?hdone (fun _ _ _ _ _ h _ _ => h.elim)
 case hlt => rintro k (rfl | rfl | rfl | rfl) <;> omega
 case hown => rintro k (rfl | rfl) <;> exact ⟨by omega, by omega⟩
 case hI => rintro i s A B ⟨h1, h2⟩ hs hf; exact ⟨h1, h2.frP hf (fun k h => by omega)⟩
 case h0 => intro W' hf hz'; exact ⟨Nat.zero_le _, by rw [hz']; exact (HO.out.1.fr hf (fun _ h => h.elim)).later (by omega)⟩
 case hA => rintro i s z o a' A B ⟨h1, h2, h3⟩ hs hf hz'; exact ⟨h1, h2.frP hf (fun k h => by omega), h3⟩
 case hassign =>
  rintro lp i s o A hx ⟨h1, h2⟩ hs hsA
  have ho12 := (elems_mem (List.mem_of_getElem? hx)).1
  gi_wp2
  refine ⟨Fr.refl _ _, ho12, h2, ?_⟩
  (repeat apply Exists.intro)
  rfl
 case hbody =>
  rintro lp i s z o a' A hx ⟨ho12, hOWA, hy⟩ hs hsz' hzA
  obtain ⟨y1, hy⟩ := hy
  obtain ⟨y2, hy⟩ := hy
  obtain ⟨y4, hy⟩ := hy
  obtain ⟨y5, hy⟩ := hy
  obtain ⟨y6, hy⟩ := hy
  obtain ⟨y7, hy⟩ := hy
  obtain ⟨y9, hy⟩ := hy
  obtain ⟨y12, hy⟩ := hy
  obtain ⟨y13, hy⟩ := hy
  obtain ⟨y14, hy⟩ := hy
  obtain ⟨y15, hy⟩ := hy
  obtain ⟨y16, hy⟩ := hy
  obtain ⟨y17, hy⟩ := hy
  obtain ⟨y18, hy⟩ := hy
  obtain ⟨y19, hy⟩ := hy
  obtain ⟨y20, hy⟩ := hy
  obtain ⟨y21, hy⟩ := hy
  obtain ⟨y22, hy⟩ := hy
  obtain ⟨y23, hy⟩ := hy
  obtain ⟨y24, hy⟩ := hy
  obtain ⟨y25, hy⟩ := hy
  obtain ⟨y26, hy⟩ := hy
  obtain ⟨y27, hy⟩ := hy
  obtain ⟨y28, hy⟩ := hy
  obtain ⟨y29, hy⟩ := hy
  obtain ⟨y30, hy⟩ := hy
  obtain ⟨y31, hy⟩ := hy
  obtain ⟨y32, hy⟩ := hy
  obtain ⟨y33, hy⟩ := hy
  obtain ⟨y34, hy⟩ := hy
  obtain ⟨y35, hy⟩ := hy
  obtain ⟨y36, hy⟩ := hy
  obtain ⟨y37, hy⟩ := hy
  obtain ⟨y38, hy⟩ := hy
  obtain ⟨y39, hy⟩ := hy
  obtain ⟨y40, hy⟩ := hy
  obtain ⟨y41, hy⟩ := hy
  obtain ⟨y42, hy⟩ := hy
  obtain ⟨y43, hy⟩ := hy
  obtain ⟨y44, hy⟩ := hy
  obtain ⟨y45, hy⟩ := hy
  obtain ⟨y46, hy⟩ := hy
  obtain ⟨y47, hy⟩ := hy
  subst hy
  have hxi := List.getElem?_eq_some_iff.1 hx
  obtain ⟨hi, hxe⟩ := hxi
  have htk : (elems (ogL l)).take (i + 1) = (elems (ogL l)).take i ++ [o] := by rw [List.take_succ_eq_append_getElem hi, hxe]
  have hp4 := pow_lt12 ho12
  have d8 := cell_ext (cell_of (o := 0) hOWA.bx8 rfl)
  have hsh := shl16 (v := o) (by omega)
  obtain ⟨P, hP⟩ : ∃ P, 2 ^ o = P := ⟨_, rfl⟩
  rw [hP] at hsh hp4
  have HSH := Lib.hid hsh; clear hsh
  have HP := Lib.hid hP; clear hP
  have HTK := Lib.hid (And.intro hi (And.intro htk hp4)); clear hx hi hxe htk
  have HOA := Lib.hid hOWA; clear hOWA
  gi_wp2_with fail
  refine region_tail_round [0, 1, 2] [3, 4, 5] (by kernel_rfl) (by kernel_rfl) (by kernel_rfl) (fun ⟨_, _, h⟩ => h) ?_
  simp only [pick_cons, pick_nil, nthO_succ, nthO_zero]
  repeat (go_big_quiet_step (fail))
  refine wpQuiet_nil ?_
  rintro W' ⟨X1, rfl⟩
  have hbX := X1.2.below (n := A.heap.size) (fun _ _ h => h) (Nat.le_refl _)
  have hO1 := HOA.out.call hbX hs (by omega)
  obtain ⟨og, hog4, hweb⟩ := hO1.web
  have cO : X1.val.cell? ⟨WB, 12, none⟩ = some (.int .u16 (og : Int)) := cell_of hweb.blk rfl
  have fO := frozen_of (o := 12) hweb.blk
  have hO2 := hO1.put12 P HTK.out.2.2
  have hX2 := hweb.put (o := 12) (og' := P) (sd' := 0) (wo' := 0) (x := .int .u16 (P : Int)) rfl
  have hF2 : Fr (fun k => (k = WB ∨ k = b8 + 1) ∨ (b8 + 3 + 2 ≤ k ∧ k < s) ∨ z ≤ k) A (X1.val.setCell ⟨WB, 12, none⟩ (.int .u16 (P : Int))) := ((Fr.of_below hbX).mono (fun k _ h => .inr (.inr (by omega)))).setCell _ _ (fun _ => .inl (.inl rfl))
  have hz2 := hF2.size
  clear d8
  rw [HSH.out]
  have HO2 := Lib.hid (And.intro hO2 (And.intro hF2 hX2)); clear hO2 hO1 hweb hF2 hbX hX2
  go_wp2_with fail
  obtain ⟨A2, hA2⟩ : ∃ A2, X1.val.setCell ⟨WB, 12, none⟩ (.int .u16 (P : Int)) = A2 := ⟨_, rfl⟩
  rw [hA2] at HO2 hz2 ⊢
  clear cO fO hA2
  have d8 := cell_ext (cell_of (o := 0) HO2.out.1.bx8 rfl)
  have d3 := cell_ext (cell_of (o := 0) HO2.out.1.b3 rfl)
  have hsz2 : s ≤ A2.heap.size := by omega
  have hC1 : ∀ Xt : Ext A2, Calls Tryd.prog 41 #[.pointer (some ⟨WB, 0, none⟩), .int .u16 0] Xt.val fun e W' => e = .returned (.int .u16 ((setOf (rchB (nxL l) 0 P 0) : Nat) : Int)) ∧ Below Xt.val.heap.size Xt.val W' := fun Xt => by
   have hbt := Xt.2.below (n := A2.heap.size) (fun _ _ h => h) (Nat.le_refl _)
   have hO := HO2.out.1.call hbt hs hsz2
   exact reached_val WB (nxL l) P 0 0 0 Xt.val (HO2.out.2.2.fr hbt).web (valid_nx HR.out.2.2.2.2.1) (HR.out.2.2.2.1.next hO.below HR.out.2.2.2.1.pos) HTK.out.2.2 (by decide) (by decide)
  obtain ⟨R, hR⟩ : ∃ R, setOf (rchB (nxL l) 0 P 0) = R := ⟨_, rfl⟩
  have hR4 : R < 4096 := by rw [← hR]; exact setOf_lt _
  have hbit : R.testBit X = fromB l X o := by
   rw [← hR, setOf_bit, decide_eq_true hX, Bool.true_and]
   unfold fromB
   rw [HP.out]
  rw [hR] at hC1
  have hC2 : ∀ Xt : Ext A2, Calls Tryd.prog 42 #[.int .u16 (R : Int), .int .i64 (X : Int)] Xt.val fun e W' => e = .returned (.bool (fromB l X o)) ∧ Below Xt.val.heap.size Xt.val W' := fun Xt => by
   refine (has_any R X (by omega) (by omega) Xt.val).mono ?_
   rintro e w' ⟨rfl, rfl⟩
   exact ⟨by rw [hbit], Below.refl _ _⟩
  have HC1 := Lib.hid hC1
  have HC2 := Lib.hid hC2
  clear hC1 hC2 hR hR4 hbit
  cases hq : fromB l X o with
  |false =>
   rw [hq] at HC2
   have HQ := Lib.hid (show ((elems (ogL l)).take (i + 1)).filter (fromB l X) = ((elems (ogL l)).take i).filter (fromB l X) by rw [HTK.out.2.1, List.filter_append]; simp [hq])
   clear hq
   gi_wp2_with fail
   refine region_ext_round (by kernel_rfl) (by kernel_rfl) (by kernel_rfl) (fun ⟨_, _, h⟩ => h) ?_
   repeat (go_big_quiet_step (first | (go_at_call 41; with_reducible exact call_ext (HC1.out _)) | (go_at_call 42; with_reducible exact call_ext (HC2.out _))))
   refine wpQuiet_nil ?_
   rintro W' ⟨X2, rfl⟩
   have hbt := X2.2.below (n := A2.heap.size) (fun _ _ h => h) (Nat.le_refl _)
   have HE := Lib.hid (And.intro (HO2.out.2.1.trans ((Fr.of_below hbt).mono (fun k _ h => .inr (.inr (by omega))))) (HO2.out.1.call hbt hs hsz2)); clear hbt d8 d3 HC1 HC2
   have hzE := HE.out.1.size
   gi_wp2_with fail
   refine ⟨HE.out.1, HTK.out.1, ?_⟩
   rw [HQ.out]
   exact HE.out.2.later (by omega)
  |true =>
   rw [hq] at HC2
   have HQ := Lib.hid (show ((elems (ogL l)).take (i + 1)).filter (fromB l X) = ((elems (ogL l)).take i).filter (fromB l X) ++ [o] by rw [HTK.out.2.1, List.filter_append]; simp [hq])
   clear hq
   gi_wp2_with fail
   refine region_ext_round (by kernel_rfl) (by kernel_rfl) (by kernel_rfl) (fun ⟨_, _, h⟩ => h) ?_
   repeat (go_big_quiet_step (first | (go_at_call 41; with_reducible exact call_ext (HC1.out _)) | (go_at_call 42; with_reducible exact call_ext (HC2.out _))))
   refine wpQuiet_nil ?_
   rintro W' ⟨X2, rfl⟩
   have hbt := X2.2.below (n := A2.heap.size) (fun _ _ h => h) (Nat.le_refl _)
   have hF3 := HO2.out.2.1.trans ((Fr.of_below hbt).mono (S := fun k => A2.heap.size ≤ k) (T := fun k => (k = WB ∨ k = b8 + 1) ∨ (b8 + 3 + 2 ≤ k ∧ k < s) ∨ z ≤ k) (fun k _ h => .inr (.inr (by omega))))
   have hO3 := HO2.out.1.call hbt hs hsz2
   have hz3 := hbt.size
   clear hbt d8 d3 HC1 HC2
   obtain ⟨ov, hov, hRo, hos⟩ := hO3.out
   have e10 : X2.val.cell? ⟨b8 + 1, 0, none⟩ = some ov := cell_of hov rfl
   obtain ⟨OA, oc, rfl⟩ := Kd.R_slice hRo
   have hRo2 := Kd.R_mono hRo (ok' := fun k => (Value.slice OA ((((elems (ogL l)).take i).filter (fromB l X)).map Int.ofNat).length oc).ownBlock = some k ∨ X2.val.heap.size ≤ k) (fun k hk => .inl hk)
   have hln : ((((elems (ogL l)).take i).filter (fromB l X)).map Int.ofNat).length ≤ 12 := by
    rw [List.length_map]
    refine Nat.le_trans (List.length_filter_le _ _) ?_
    rw [List.length_take]
    have := elems_len (ogL l)
    omega
   obtain ⟨LO, hLO⟩ : ∃ LO, ((elems (ogL l)).take i).filter (fromB l X) = LO := ⟨_, rfl⟩
   rw [hLO] at e10 hRo2 hln hos hO3 HQ
   rw [List.length_map] at e10 hln
   rw [show (LO.map Int.ofNat).length = LO.length by simp] at hRo2 hos
   have HRO := Lib.hid hRo2
   have HE := Lib.hid (And.intro hF3 (And.intro hO3 (And.intro hos hln))); clear hF3 hO3 hos hRo hRo2 hov hLO hln
   generalize X2.val = A3 at *
   gi_wp2_with (gi_at_builtin; go_loud (refine list_round lp 0 (fun ⟨_, _, h⟩ => h) _ _ _ (by kernel_rfl) ?_; refine Kd.R_append (Kd.int .i64) (w0 := A3) (b8 + 3 + 2) rfl (.tmp 43) (.tmp 45) 26 3 (.int .i64 0) 8 rfl Tryd.underlying26 info3 rfl (by decide) (by decide) (.slice OA LO.length oc) (LO.map Int.ofNat) (o : Int) [.int .i64 (o : Int)] (fun k => (Value.slice OA LO.length oc).ownBlock = some k ∨ A3.heap.size ≤ k) (fun _ => False) rfl rfl rfl (fun _ h => h.elim) (fun k hk => .inr hk) HRO.out (Below.refl _ _) (by omega) (by have := HE.out.2.2.2; simp; omega) ?_))
   intro v1 w7 h1 h2 h3 h4
   rw [show LO.map Int.ofNat ++ [(o : Int)] = (LO ++ [o]).map Int.ofNat by simp] at h1
   obtain ⟨VA1, vc1, rfl⟩ := Kd.R_slice h1
   have hpush := HE.out.2.1.push h2 h1
   have h26 := (h2.block (b8 + 1) (by omega))
   obtain ⟨ov', hov', _, _⟩ := HE.out.2.1.out
   have hov7 := h26.trans hov'
   have g10 : w7.cell? ⟨b8 + 1, 0, none⟩ = some ov' := cell_of hov' rfl |> fun h => by rw [World.cell?_of_block (w := A3) h26]; exact h
   have f10 := frozen_of (o := 0) hov7
   have hFw : Fr (fun k => (k = WB ∨ k = b8 + 1) ∨ (b8 + 3 + 2 ≤ k ∧ k < s) ∨ z ≤ k) A w7 := HE.out.1.grown h3 (fun k hk hlt => .inr (by
    obtain ⟨cs, hc⟩ := Kd.R_typed HRO.out k hk
    have hks := HE.out.2.2.1 k hk
    by_cases h : b8 + 3 + 2 ≤ k
    ·exact .inl ⟨h, hks⟩
    ·exfalso
     have hb := Kd.R_bound HRO.out
     have := hb.1 k hk
     omega))
   have hz7 := hFw.size
   have HW := Lib.hid (And.intro hpush hFw); clear hpush hFw h1 h2 h3 h4 h26 hov' hov7 e10 HRO
   rw [show ((LO ++ [o]).map Int.ofNat).length = LO.length + 1 by simp] at HW ⊢
   go_wp2_with fail
   gi_wp2_with fail
   refine ⟨HW.out.2.setCell _ _ (fun _ => .inl (.inr rfl)), HTK.out.1, ?_⟩
   rw [HQ.out]
   exact HW.out.1.later (by simp [World.setCell])
 case hdone =>
  rintro k s A hx ⟨h1, h2⟩ hs hD
  obtain rfl : k = (elems (ogL l)).length := by
   rw [List.getElem?_eq_none_iff] at hx
   omega
  rw [List.take_length] at h2
  obtain ⟨ov, hov, hRo, hos⟩ := h2.out
  have c10 : A.cell? ⟨b8 + 1, 0, none⟩ = some ov := cell_of hov rfl
  have HF := Lib.hid (And.intro h2.below (And.intro hRo hD)); clear h1 h2 hov hRo hos hx hD
  go_wp2_with fail
  have hM : Marks w.heap.size [b8 + 3] A := (Marks.nil _ _).cons (fun b h => by cases h) (by omega) HF.out.2.2
  refine leave_marks (bs := [b8 + 3]) hM (v := .tuple #[ov, .int .i64 0]) (fun W' hf hbl hs => ⟨by simp [results, Tryd.results18, go_sem], ov, rfl, ?_, HF.out.1.trans hbl⟩)
  exact R_marks (Kd.R_mono (Kd.R_lower (Kd.R_mono (Kd.R_bound HF.out.2.1) (fun k hk => hk.2.1)) (by omega)) (fun k hk => by omega)) hM hf
end Go.Proofs.YticngcjfofcoiaaDoor
