/- Rights: the law RightsClauses answers true at every input, as the given card states it, rights.kinds being tied to the program's text; no further condition. -/
import Derived.Test.YtnabgijdbcdpmaaDoorZf
import Derived.Test.YtnabgijdbcdpmaaDoorRows
import Derived.Test.YtnabgijdbcdpmaaDoorTie
import Derived.Test.YtnabgijdbcdpmaaDoorCards
import Derived.SevenTiedAt
namespace Go.Proofs.YtnabgijdbcdpmaaDoor
open Go.ChangeShapes Go.WideShapes Go.ChangeAt Go.RowKit Go.Proofs.YtnabgijdbcdpmaaDoorW.PrintWords
set_option linter.unusedVariables false
set_option linter.unusedSimpArgs false

theorem open_five {H : Type} {enc : TypeId × Value → H} {W : World} {base : Nat} {sp : Nat → Bool} {held : Bool} {r : Reach} {b0 : Nat} {v : Value} {d : DataW H} {p : List MemPlace} (hv : Value.okWide Tryd.prog W r b0 57 v) (h : DataW.Trod enc Tryd.prog W base sp held 57 v d p) :
    ∃ x0 x1 x2 x3 x4, v = .agg #[.int .i64 x0, .int .i64 x1, .int .i64 x2, .int .i64 x3, .int .i64 x4] ∧ rng x0 ∧ rng x1 ∧ rng x2 ∧ rng x3 ∧ rng x4 := by
  have hc : ∃ cs, v = .agg cs ∧ cs.size = Tryd.prog.cellsOf 57 := by
    unfold Value.okWide at hv
    rw [Tryd.underlying57] at hv
    obtain ⟨cs, h1, h2, _⟩ := hv
    exact ⟨cs, h1, h2⟩
  obtain ⟨cs, rfl, hsz⟩ := hc
  rw [cells57] at hsz
  obtain ⟨l⟩ := cs
  obtain ⟨fuel, hf⟩ := h
  obtain ⟨ys, m, _, _, _, hyl, hye⟩ := DataW.trod_array Tryd.underlying57 hf
  match l, hsz, hye with
  | [c0, c1, c2, c3, c4], _, hye =>
    have one : ∀ (j : Nat) (u : Value), j < 5 → DataW.trod enc Tryd.prog W base sp held m 3 [u] = ys[j]? → ∃ x, u = .int .i64 x ∧ rng x := by
      intro j u hj ht
      rw [List.getElem?_eq_getElem (by omega)] at ht
      obtain ⟨x, e, _, hw⟩ := DataW.trod_int Tryd.underlying3 ht
      simp at e
      exact ⟨x, e, lit_rng hw⟩
    obtain ⟨x0, rfl, g0⟩ := one 0 c0 (by decide) (by have g := hye 0 (by decide); erw [cells3] at g; exact g)
    obtain ⟨x1, rfl, g1⟩ := one 1 c1 (by decide) (by have g := hye 1 (by decide); erw [cells3] at g; exact g)
    obtain ⟨x2, rfl, g2⟩ := one 2 c2 (by decide) (by have g := hye 2 (by decide); erw [cells3] at g; exact g)
    obtain ⟨x3, rfl, g3⟩ := one 3 c3 (by decide) (by have g := hye 3 (by decide); erw [cells3] at g; exact g)
    obtain ⟨x4, rfl, g4⟩ := one 4 c4 (by decide) (by have g := hye 4 (by decide); erw [cells3] at g; exact g)
    exact ⟨x0, x1, x2, x3, x4, rfl, g0, g1, g2, g3, g4⟩
end Go.Proofs.YtnabgijdbcdpmaaDoor

namespace Go.Proofs.YtnabgijdbcdpmaaDoor
open Go.RowKit Go.Rg Go.Proofs.YtnabgijdbcdpmaaDoor.PRightsMatchesReference Go.Proofs.YtnabgijdbcdpmaaDoorW.PrintWords
set_option linter.unusedVariables false
set_option linter.unusedSimpArgs false

theorem X5.take {w : World} {A : Option Addr} {n : Nat} (h : X5 w A n) {m : Nat} (hm : m ≤ n) : X5 w A m := by
  refine ⟨Nat.le_trans hm h.1, fun h0 => ?_⟩
  obtain ⟨ad, e, hc⟩ := h.2 (by omega)
  exact ⟨ad, e, fun i hi => hc i (by omega)⟩
theorem X5.one {w : World} {g : Nat} {y0 y1 y2 y3 y4 : Int} {t : TypeId} {fz : Nat × Nat} (h : w.heap[g]? = some (.cells #[.int .i64 y0, .int .i64 y1, .int .i64 y2, .int .i64 y3, .int .i64 y4] t fz)) (h0 : rng y0) (h1 : rng y1) (h2 : rng y2) (h3 : rng y3) (h4 : rng y4) : X5 w (some ⟨g, 0, none⟩) 1 := by
  refine ⟨by decide, fun _ => ⟨_, rfl, fun i hi => ?_⟩⟩
  have e : (⟨g, 0, none⟩ : Addr).add (i * 5) = ⟨g, 0, none⟩ := by
    rw [add_plain]
    congr 1
    omega
  rw [e]
  refine ⟨⟨y0, h0.1, h0.2, cell_of h rfl⟩, fun j hj => ?_⟩
  have hj4 : j = 0 ∨ j = 1 ∨ j = 2 ∨ j = 3 := by omega
  rcases hj4 with rfl | rfl | rfl | rfl
  · exact ⟨y1, h1.1, h1.2, cell_of h rfl⟩
  · exact ⟨y2, h2.1, h2.2, cell_of h rfl⟩
  · exact ⟨y3, h3.1, h3.2, cell_of h rfl⟩
  · exact ⟨y4, h4.1, h4.2, cell_of h rfl⟩

/-- The clauses and a further one, as they lie; the temporaries besides. -/
def More (l : List Cl) (X : Cl) (W7 : World) (F : Value → Value → Value → Value → Value → Value → Value → Value → Value → Value → Array Value) (a : Act) (W : World) : Prop :=
  ∃ (OA : Option Addr) (oc : Nat) (y37 y38 y46 y50 y51 y52 y53 y54 y55 : Value), a = { tmps := F (.slice OA (l.length + 1) oc) y37 y38 y46 y50 y51 y52 y53 y54 y55, defers := [] } ∧ Below W7.heap.size W7 W ∧ Kd.C k40 W OA (l ++ [X]).length (l ++ [X]) ∧ l.length + 1 ≤ oc

set_option maxRecDepth 100000 in
set_option maxHeartbeats 16000000 in
theorem clauses_law (XA : Option Addr) (xn xc : Nat) (n : Int) (NA : Option Addr) (nc : Nat) (ns : List Int) (SA : Option Addr) (sc : Nat) (ss : List Int) (y0 y1 y2 y3 y4 : Int) (hy0 : rng y0) (hy1 : rng y1) (hy2 : rng y2) (hy3 : rng y3) (hy4 : rng y4) (FA : Option Addr) (fc : Nat) (fs : List Int) (w : World) (hK : Kinds w) (hx : X5 w XA xn) (hn : rng n) (hN : (Kd.int .i64).C w NA ns.length ns) (hNr : ∀ x ∈ ns, rng x) (hS : (Kd.int .i64).C w SA ss.length ss) (hSr : ∀ x ∈ ss, rng x) (hF : (Kd.int .i64).C w FA fs.length fs) (hFr : ∀ x ∈ fs, rng x) (hxc : xn ≤ xc) :
    Calls Tryd.prog 6 #[.slice XA xn xc, .int .i64 n, .slice NA ns.length nc, .slice SA ss.length sc, .agg #[.int .i64 y0, .int .i64 y1, .int .i64 y2, .int .i64 y3, .int .i64 y4], .slice FA fs.length fc] w fun e w' => e = .returned (.bool true) ∧ Below w.heap.size w w' := by
  have hA0 := (Below.refl w.heap.size w).alloc (Nat.le_refl _) (.cells #[.int .i64 y0, .int .i64 y1, .int .i64 y2, .int .i64 y3, .int .i64 y4] 57)
  have hk0 := heap_new (o := .cells #[.int .i64 y0, .int .i64 y1, .int .i64 y2, .int .i64 y3, .int .i64 y4] 57) (W := w) rfl
  obtain ⟨w0, hw0⟩ : ∃ w0, w.alloc (.cells #[.int .i64 y0, .int .i64 y1, .int .i64 y2, .int .i64 y3, .int .i64 y4] 57) = w0 := ⟨_, rfl⟩
  rw [hw0] at hA0 hk0
  replace hK := hK.next hA0
  replace hx := hx.below hA0
  replace hN := Kd.C_below hN hA0
  replace hS := Kd.C_below hS hA0
  replace hF := Kd.C_below hF hA0
  have HF := Lib.hid (And.intro hF hFr); clear hF hFr
  have HY := Lib.hid (And.intro hA0 (And.intro hk0 (And.intro hy0 (And.intro hy1 (And.intro hy2 (And.intro hy3 hy4)))))); clear hA0 hk0 hy0 hy1 hy2 hy3 hy4
  have HW0 := Lib.hid hw0; clear hw0
  have hxm : xn ≤ 9223372036854775807 := hx.1
  have HN := Lib.hid (And.intro hN (And.intro hNr hn)); clear hN hNr hn
  have HS := Lib.hid (And.intro hS hSr); clear hS hSr
  have HX := Lib.hid hx; clear hx
  have HK := Lib.hid hK; clear hK
  go_enter Tryd.func6, Tryd.ntmps6
  go_wp2_with fail
  rw [HW0.out]
  refine (sane_any _ HK.out).mono ?_
  rintro e w1 ⟨rfl, hb1⟩
  have HB1 := Lib.hid hb1; clear hb1
  go_wp2_with fail
  all_goals
   refine (Made_any XA xc _ _ ((HX.out.below HB1.out).take (by omega))).mono ?_
   rintro e w2 ⟨v, l, rfl, hR, hv, hll, hb2⟩
   have hl11 : l.length ≤ 11 := by omega
   clear hll
   obtain ⟨LA, lc, rfl, hlc, hRC⟩ := Kd.R_reads hR
   have HB2 := Lib.hid (And.intro (HB1.out.trans (hb2.mono HB1.out.size)) (And.intro hRC hv)); clear hb2 hR hRC hv HB1
   go_wp2_with fail
   refine (MadeWant_any n NA nc ns _ (Kd.C_below HN.out.1 HB2.out.1) HN.out.2.2 HN.out.2.1).mono ?_
   rintro e w3 ⟨wt, WA, wn, rfl, hW, hvw, hus, hb3⟩
   have HB3 := Lib.hid (And.intro (HB2.out.1.trans (hb3.mono HB2.out.1.size)) (And.intro (Kd.C_below HB2.out.2.1 hb3) (And.intro HB2.out.2.2 (And.intro hW (And.intro hvw hus))))); clear hb3 HB2 hW hvw hus
   unfold wtv
   go_wp2_with fail
   have hA3 := (Below.refl w3.heap.size w3).alloc (Nat.le_refl _) (.cells (wtc wt WA wn) 29)
   have hk3 := heap_new (o := .cells (wtc wt WA wn) 29) (W := w3) rfl
   have HA3 := Lib.hid (And.intro (HB3.out.1.trans (hA3.mono HB3.out.1.size)) (And.intro (Kd.C_below HB3.out.2.1 hA3) (And.intro (Kd.C_below HB3.out.2.2.2.1 hA3) hk3))); clear hA3 hk3
   unfold wtc at HA3
   generalize hWB : w3.heap.size = WB at *
   generalize w3.alloc (.cells #[.int .i64 wt.te, .int .i64 wt.cl, .int .i64 wt.at_, .int .i64 wt.us, .slice WA wt.needs.length wn] 29) = W3 at *
   refine (MadeUsed_any SA sc ss W3 (Kd.C_below HS.out.1 HA3.out.1) HS.out.2).mono ?_
   rintro e w4 ⟨v, u, rfl, hU, hu12, huo, hsm, hb4⟩
   obtain ⟨UA, uc, rfl, huc, hUC⟩ := Kd.R_reads hU
   have hL : LX w0 LA lc l UA uc u wt WA wn WB w4 := ⟨HA3.out.1.trans (hb4.mono HA3.out.1.size), ⟨HK.out.next (HA3.out.1.trans (hb4.mono HA3.out.1.size)), Kd.C_below HA3.out.2.1 hb4, hUC, Kd.C_below HA3.out.2.2.1 hb4⟩, (hb4.block WB (Array.getElem?_eq_some_iff.1 HA3.out.2.2.2).1).trans HA3.out.2.2.2⟩
   have hg : givenB l u wt = true := givenB_iff.2 ⟨HB3.out.2.2.1, hu12, huo, HB3.out.2.2.2.2.1⟩
   have hG := And.intro hg (And.intro hu12 (And.intro hsm HB3.out.2.2.2.2.2))
   have HG := Lib.hid hG; clear hG hg hu12 huo hsm hb4 hUC HA3 HB3 hU hWB
   have HL := Lib.hid hL; clear hL
   have y0c := pw_cell_below HL.out.below (cell_of (o := 0) HY.out.2.1 rfl : w0.cell? ⟨w.heap.size, 0, none⟩ = some (.int .i64 y0))
   have y1c := pw_cell_below HL.out.below (cell_of (o := 1) HY.out.2.1 rfl : w0.cell? ⟨w.heap.size, 1, none⟩ = some (.int .i64 y1))
   have y2c := pw_cell_below HL.out.below (cell_of (o := 2) HY.out.2.1 rfl : w0.cell? ⟨w.heap.size, 2, none⟩ = some (.int .i64 y2))
   have y3c := pw_cell_below HL.out.below (cell_of (o := 3) HY.out.2.1 rfl : w0.cell? ⟨w.heap.size, 3, none⟩ = some (.int .i64 y3))
   have y4c := pw_cell_below HL.out.below (cell_of (o := 4) HY.out.2.1 rfl : w0.cell? ⟨w.heap.size, 4, none⟩ = some (.int .i64 y4))
   have hA5 := (Below.refl w4.heap.size w4).alloc (Nat.le_refl _) (.cells #[.int .i64 y0, .int .i64 y1, .int .i64 y2, .int .i64 y3, .int .i64 y4] 57)
   have hX5 := X5.one (heap_new (o := .cells #[.int .i64 y0, .int .i64 y1, .int .i64 y2, .int .i64 y3, .int .i64 y4] 57) (W := w4) rfl) HY.out.2.2.1 HY.out.2.2.2.1 HY.out.2.2.2.2.1 HY.out.2.2.2.2.2.1 HY.out.2.2.2.2.2.2
   have HL5 := Lib.hid (HL.out.next hA5); clear hA5 HL
   have HX5 := Lib.hid hX5; clear hX5
   go_wp2_with fail
   generalize w4.alloc (.cells #[.int .i64 y0, .int .i64 y1, .int .i64 y2, .int .i64 y3, .int .i64 y4] 57) = W5 at *
   clear y0c y1c y2c y3c y4c
   refine (Made_any _ 1 1 W5 HX5.out).mono ?_
   rintro e w6 ⟨v, lx, rfl, hR, hv, hll, hb6⟩
   match lx, hll, hR, hv with
   | [cX], _, hR, hv =>
     obtain ⟨CA, cc, rfl, hcc, hRC⟩ := Kd.R_reads hR
     have HL6 := Lib.hid (HL5.out.next hb6)
     have hvc : vld cX = true := (vldL_iff.1 hv).2 cX (by simp)
     obtain ⟨cd, e, x0, x1, x2, x3, x4, x5, x6, x7⟩ := at_T40 hRC 0 (by omega) (by simp)
     cases e
     have e0 : cd.add ((0 : Int).toNat * 8) = cd := by simp [Addr.add]
     rw [e0] at x0 x1 x2 x3 x4 x5 x6 x7
     have hrd : rd_T40 [cX] 0 = cX := rfl
     rw [hrd] at x0 x1 x2 x3 x4 x5 x6 x7
     have HVC := Lib.hid hvc
     clear hR hRC hv hvc hb6 hrd HL5 e0
     obtain ⟨f0, f1, f2, f3, f4, f5, f6, f7⟩ := cX
     simp only at x0 x1 x2 x3 x4 x5 x6 x7
     have hA7 := (Below.refl w6.heap.size w6).alloc (Nat.le_refl _) (.cells (clc ⟨f0, f1, f2, f3, f4, f5, f6, f7⟩) 40)
     have hk7 := heap_new (o := .cells (clc ⟨f0, f1, f2, f3, f4, f5, f6, f7⟩) 40) (W := w6) rfl
     have HL7 := Lib.hid (And.intro (HL6.out.next hA7) hk7); clear HL6 hA7 hk7
     unfold clc at HL7
     simp only at HL7
     go_wp2_with fail
     generalize hCB : w6.heap.size = CB at *
     generalize w6.alloc (.cells #[.int .i64 f0, .int .i64 f1, .int .i64 f2, .int .i64 f3, .int .i64 f4, .int .i64 f5, .int .i64 f6, .int .i64 f7] 40) = W7 at *
     clear x0 x1 x2 x3 x4 x5 x6 x7
     refine wp_then (More l ⟨f0, f1, f2, f3, f4, f5, f6, f7⟩ W7 (fun x18 y37 y38 y46 y50 y51 y52 y53 y54 y55 => #[.slice XA xn xc, .int .i64 n, .slice NA ns.length nc, .slice SA ss.length sc, .agg #[.int .i64 y0, .int .i64 y1, .int .i64 y2, .int .i64 y3, .int .i64 y4], .slice FA fs.length fc, undef, undef, undef, undef, .pointer (some ⟨w.heap.size, 0, none⟩), undef, .bool false, .bool true, .slice LA l.length lc, .pointer (some ⟨WB, 0, none⟩), .slice UA u.length uc, .pointer (some ⟨CB, 0, none⟩), x18, undef, undef, undef, undef, undef, undef, undef, undef, undef, undef, undef, undef, .bool true, .bool true, .bool false, .slice XA xn xc, .slice XA xn xc, .int .i64 (xn : Nat), y37, y38, .slice LA l.length lc, .int .i64 n, .slice NA ns.length nc, .agg #[.int .i64 wt.te, .int .i64 wt.cl, .int .i64 wt.at_, .int .i64 wt.us, .slice WA wt.needs.length wn], .slice SA ss.length sc, .slice UA u.length uc, .agg #[.int .i64 y0, .int .i64 y1, .int .i64 y2, .int .i64 y3, .int .i64 y4], y46, .slice (some cd) 1 cc, .pointer (some cd), .agg #[.int .i64 f0, .int .i64 f1, .int .i64 f2, .int .i64 f3, .int .i64 f4, .int .i64 f5, .int .i64 f6, .int .i64 f7], y50, y51, y52, y53, y54, y55, undef, undef, undef, undef, undef, undef, undef, undef, undef, undef, undef, undef, undef, undef, undef, undef, undef, undef, undef, undef, undef, undef, undef, undef, undef, undef, undef, undef, undef, undef, undef, undef, undef, undef, undef, undef, undef, undef, undef, undef, undef, undef, undef, undef, undef, undef, undef, undef, undef, undef, undef, undef, undef, undef, undef, undef, undef, undef, undef, undef, undef, undef, undef, undef, undef, undef, undef, undef, undef, undef, undef, undef, undef, undef, undef, undef, undef, undef, undef, undef, undef, undef, undef, undef, undef, undef, undef, undef, undef, undef, undef, undef, undef, undef, undef, undef, undef, undef, undef, undef, undef, undef, undef, undef, undef, undef, undef, undef, undef, undef]) ) ?_ ?_
     · have hCBl : CB < W7.heap.size := (Array.getElem?_eq_some_iff.1 HL7.out.2).1
       have HCB := Lib.hid hCBl; clear hCBl
       refine region_freeS (fun k => k ≠ CB) [1, 3] #[false, true, false, true, false, false, false] 5 (by kernel_rfl) (by kernel_rfl) (fun c a d v w h => by cases h.2.1) ?_
       simp only [pick_cons, pick_nil, nthO_succ, nthO_zero]
       have e0 := cell_extB (B := fun k => k ≠ CB) (cell_of (o := 0) HL7.out.2 rfl) (fun h => h rfl)
       have e1 := cell_extB (B := fun k => k ≠ CB) (cell_of (o := 1) HL7.out.2 rfl) (fun h => h rfl)
       have e2 := cell_extB (B := fun k => k ≠ CB) (cell_of (o := 2) HL7.out.2 rfl) (fun h => h rfl)
       have e3 := cell_extB (B := fun k => k ≠ CB) (cell_of (o := 3) HL7.out.2 rfl) (fun h => h rfl)
       have e4 := cell_extB (B := fun k => k ≠ CB) (cell_of (o := 4) HL7.out.2 rfl) (fun h => h rfl)
       have e5 := cell_extB (B := fun k => k ≠ CB) (cell_of (o := 5) HL7.out.2 rfl) (fun h => h rfl)
       have e6 := cell_extB (B := fun k => k ≠ CB) (cell_of (o := 6) HL7.out.2 rfl) (fun h => h rfl)
       have e7 := cell_extB (B := fun k => k ≠ CB) (cell_of (o := 7) HL7.out.2 rfl) (fun h => h rfl)
       repeat (go_big_quiet_step (fail))
       refine wpQuiet_nil ?_
       clear e0 e1 e2 e3 e4 e5 e6 e7
       have HS := Lib.hid (show Fr (fun k => k ≠ CB) W7 W7.drew ∧ Below W7.heap.size W7 W7.drew from ⟨(Fr.refl _ _).drew, below_drew (Below.refl _ _)⟩)
       generalize W7.drew = u0 at HS ⊢
       refine any_stepS [0, 4] (by kernel_rfl) ?_
       simp only [List.forall_mem_cons, List.forall_mem_nil, nthO_succ, nthO_zero]
       refine ⟨?_, ?_, fun _ h => by cases h⟩
       · skip
         go_wp2_with fail
         have hA := (Below.refl u0.heap.size u0).alloc (Nat.le_refl _) (.cells #[] 40)
         have hE0 : Kd.R k40 40 (u0.alloc (.cells #[] 40)) W7.heap.size (fun k => W7.heap.size ≤ k) (.slice (some ⟨u0.heap.size, 0, none⟩) 0 0) [] := ⟨fun k hk => by have := HS.out.2.size; simp [Value.ownBlock] at hk; omega, OwnRow.lit u0 W7.heap.size (inner := []) (Reps.none _ _) HS.out.2.size (by simp)⟩
         have hEb : (u0.alloc (.cells #[] 40)).heap[u0.heap.size]? = some (.cells #[] 40) := heap_new rfl
         have hS2 : Fr (fun k => k ≠ CB) W7 (u0.alloc (.cells #[] 40)) ∧ Below W7.heap.size W7 (u0.alloc (.cells #[] 40)) := ⟨HS.out.1.alloc (.cells #[] 40), HS.out.2.trans (hA.mono HS.out.2.size)⟩
         clear HS hA
         generalize u0.alloc (.cells #[] 40) = u1 at *
         generalize u0.heap.size = gE at *
         have HS := Lib.hid hS2; clear hS2
         have HE := Lib.hid (And.intro hE0 hEb); clear hE0 hEb
         refine ⟨⟨⟨_, HS.out.1⟩, rfl⟩, ?_⟩
         refine any_stepS [2, 4] (by kernel_rfl) ?_
         simp only [List.forall_mem_cons, List.forall_mem_nil, nthO_succ, nthO_zero]
         refine ⟨?_, ?_, fun _ h => by cases h⟩
         · skip
           have hCl := Kd.C_below HL7.out.1.args.rl HS.out.2
           go_wp2_with (at_builtin; go_loud (refine Kd.R_append_rows k40 (w0 := W7) (Rr := k40.K _) W7.heap.size rfl (.tmp 50) (.tmp 51) 24 40 (.agg #[.int .i64 0, .int .i64 0, .int .i64 0, .int .i64 0, .int .i64 0, .int .i64 0, .int .i64 0, .int .i64 0]) 64 rfl Tryd.underlying24 info40 rfl (by decide) (by decide) _ [] l LA l.length lc (fun k => W7.heap.size ≤ k) (fun _ => False) rfl rfl HE.out.1 hCl (fun x cs h => by rw [k40_open h]; exact k40_mkM _ _ _ x) (fun _ h => h.elim) (fun k hk => Nat.le_trans HS.out.2.size hk) HS.out.2 HS.out.2.size (by simp only [List.length_nil]; omega) ?_; intro v1 u2 h1 h2 h3 h4))
           rw [List.nil_append] at h1
           have hS2 : Fr (fun k => k ≠ CB) W7 u2 ∧ Below W7.heap.size W7 u2 := ⟨Fr.grown HS.out.1 h3 (fun k hk _ => by have := HE.out.1.1 k hk; have := HCB.out; omega), h2⟩
           clear h2 h3 h4 hCl HS HE
           have HS := Lib.hid hS2; clear hS2
           have HR1 := Lib.hid h1; clear h1
           refine ⟨⟨⟨_, HS.out.1⟩, rfl⟩, ?_⟩
           refine any_stepS [4] (by kernel_rfl) ?_
           simp only [List.forall_mem_cons, List.forall_mem_nil, nthO_succ, nthO_zero]
           refine ⟨?_, fun _ h => by cases h⟩
           go_wp2_with fail
           have hA := (Below.refl u2.heap.size u2).alloc (Nat.le_refl _) (.cells #[.int .i64 f0, .int .i64 f1, .int .i64 f2, .int .i64 f3, .int .i64 f4, .int .i64 f5, .int .i64 f6, .int .i64 f7] 40)
           have hC4 : (u2.alloc (.cells #[.int .i64 f0, .int .i64 f1, .int .i64 f2, .int .i64 f3, .int .i64 f4, .int .i64 f5, .int .i64 f6, .int .i64 f7] 40)).heap[u2.heap.size]? = some (.cells #[.int .i64 f0, .int .i64 f1, .int .i64 f2, .int .i64 f3, .int .i64 f4, .int .i64 f5, .int .i64 f6, .int .i64 f7] 40) := heap_new rfl
           have hR1 := Kd.R_below HR1.out hA
           have hS2 : Fr (fun k => k ≠ CB) W7 (u2.alloc (.cells #[.int .i64 f0, .int .i64 f1, .int .i64 f2, .int .i64 f3, .int .i64 f4, .int .i64 f5, .int .i64 f6, .int .i64 f7] 40)) ∧ Below W7.heap.size W7 (u2.alloc (.cells #[.int .i64 f0, .int .i64 f1, .int .i64 f2, .int .i64 f3, .int .i64 f4, .int .i64 f5, .int .i64 f6, .int .i64 f7] 40)) := ⟨HS.out.1.alloc (.cells #[.int .i64 f0, .int .i64 f1, .int .i64 f2, .int .i64 f3, .int .i64 f4, .int .i64 f5, .int .i64 f6, .int .i64 f7] 40), HS.out.2.trans (hA.mono HS.out.2.size)⟩
           clear HS hA HR1
           generalize u2.alloc (.cells #[.int .i64 f0, .int .i64 f1, .int .i64 f2, .int .i64 f3, .int .i64 f4, .int .i64 f5, .int .i64 f6, .int .i64 f7] 40) = u3 at *
           generalize u2.heap.size = g4 at *
           have HS := Lib.hid hS2; clear hS2
           have HC4 := Lib.hid hC4; clear hC4
           have HR1 := Lib.hid hR1; clear hR1
           refine ⟨⟨⟨_, HS.out.1⟩, rfl⟩, ?_⟩
           refine any_stepS [5] (by kernel_rfl) ?_
           simp only [List.forall_mem_cons, List.forall_mem_nil, nthO_succ, nthO_zero]
           refine ⟨?_, fun _ h => by cases h⟩
           go_wp2_with (at_builtin; go_loud (refine Kd.R_append_rows k40 (w0 := W7) (Rr := k40.K _) W7.heap.size rfl (.tmp 52) (.tmp 54) 24 40 (.agg #[.int .i64 0, .int .i64 0, .int .i64 0, .int .i64 0, .int .i64 0, .int .i64 0, .int .i64 0, .int .i64 0]) 64 rfl Tryd.underlying24 info40 rfl (by decide) (by decide) _ l [⟨f0, f1, f2, f3, f4, f5, f6, f7⟩] (some ⟨g4, 0, none⟩) 1 1 (fun k => W7.heap.size ≤ k) (fun _ => False) rfl rfl HR1.out (clrowC ⟨f0, f1, f2, f3, f4, f5, f6, f7⟩ HC4.out) (fun x cs h => by rw [k40_open h]; exact k40_mkM _ _ _ x) (fun _ h => h.elim) (fun k hk => Nat.le_trans HS.out.2.size hk) HS.out.2 HS.out.2.size (by omega) ?_; intro v2 u4 h1 h2 h3 h4; obtain ⟨OA, oc, e8, ho8, hC8⟩ := Kd.R_reads h1; subst e8))
           have hF9 : Fr (fun k => k ≠ CB) W7 u4 := Fr.grown HS.out.1 h3 (fun k hk _ => by have := HR1.out.1 k hk; have := HCB.out; omega)
           have HK := Lib.hid (And.intro h2 (And.intro hC8 (And.intro ho8 hF9))); clear h1 h2 h3 h4 hC8 ho8 hF9
           refine ⟨⟨⟨_, HK.out.2.2.2⟩, rfl⟩, ?_⟩
           refine any_stepS [6] (by kernel_rfl) ?_
           simp only [List.forall_mem_cons, List.forall_mem_nil, nthO_succ, nthO_zero]
           refine ⟨?_, fun _ h => by cases h⟩
           go_wp2_with fail
           refine ⟨⟨⟨_, HK.out.2.2.2⟩, rfl⟩, wpAnyH_done (by kernel_rfl) ?_ _⟩
           have hlen1 : (l ++ [(⟨f0, f1, f2, f3, f4, f5, f6, f7⟩ : Cl)]).length = l.length + 1 := by simp
           exact ⟨_, _, _, _, _, _, _, _, _, _, _, rfl, HK.out.1, HK.out.2.1, by rw [← hlen1]; exact HK.out.2.2.1⟩
         · skip
           go_wp2_with fail
           have hA := (Below.refl u1.heap.size u1).alloc (Nat.le_refl _) (.cells #[.int .i64 f0, .int .i64 f1, .int .i64 f2, .int .i64 f3, .int .i64 f4, .int .i64 f5, .int .i64 f6, .int .i64 f7] 40)
           have hC4 : (u1.alloc (.cells #[.int .i64 f0, .int .i64 f1, .int .i64 f2, .int .i64 f3, .int .i64 f4, .int .i64 f5, .int .i64 f6, .int .i64 f7] 40)).heap[u1.heap.size]? = some (.cells #[.int .i64 f0, .int .i64 f1, .int .i64 f2, .int .i64 f3, .int .i64 f4, .int .i64 f5, .int .i64 f6, .int .i64 f7] 40) := heap_new rfl
           have hE0 := Kd.R_below HE.out.1 hA
           have hEb := (hA.block _ (Array.getElem?_eq_some_iff.1 HE.out.2).1).trans HE.out.2
           have hS2 : Fr (fun k => k ≠ CB) W7 (u1.alloc (.cells #[.int .i64 f0, .int .i64 f1, .int .i64 f2, .int .i64 f3, .int .i64 f4, .int .i64 f5, .int .i64 f6, .int .i64 f7] 40)) ∧ Below W7.heap.size W7 (u1.alloc (.cells #[.int .i64 f0, .int .i64 f1, .int .i64 f2, .int .i64 f3, .int .i64 f4, .int .i64 f5, .int .i64 f6, .int .i64 f7] 40)) := ⟨HS.out.1.alloc (.cells #[.int .i64 f0, .int .i64 f1, .int .i64 f2, .int .i64 f3, .int .i64 f4, .int .i64 f5, .int .i64 f6, .int .i64 f7] 40), HS.out.2.trans (hA.mono HS.out.2.size)⟩
           clear HS hA HE
           generalize u1.alloc (.cells #[.int .i64 f0, .int .i64 f1, .int .i64 f2, .int .i64 f3, .int .i64 f4, .int .i64 f5, .int .i64 f6, .int .i64 f7] 40) = u5 at *
           generalize u1.heap.size = g4 at *
           have HS := Lib.hid hS2; clear hS2
           have HE := Lib.hid (And.intro hE0 hEb); clear hE0 hEb
           have HC4 := Lib.hid hC4; clear hC4
           refine ⟨⟨⟨_, HS.out.1⟩, rfl⟩, ?_⟩
           refine any_stepS [2] (by kernel_rfl) ?_
           simp only [List.forall_mem_cons, List.forall_mem_nil, nthO_succ, nthO_zero]
           refine ⟨?_, fun _ h => by cases h⟩
           have hCl := Kd.C_below HL7.out.1.args.rl HS.out.2
           go_wp2_with (at_builtin; go_loud (refine Kd.R_append_rows k40 (w0 := W7) (Rr := k40.K _) W7.heap.size rfl (.tmp 50) (.tmp 51) 24 40 (.agg #[.int .i64 0, .int .i64 0, .int .i64 0, .int .i64 0, .int .i64 0, .int .i64 0, .int .i64 0, .int .i64 0]) 64 rfl Tryd.underlying24 info40 rfl (by decide) (by decide) _ [] l LA l.length lc (fun k => W7.heap.size ≤ k) (fun _ => False) rfl rfl HE.out.1 hCl (fun x cs h => by rw [k40_open h]; exact k40_mkM _ _ _ x) (fun _ h => h.elim) (fun k hk => Nat.le_trans HS.out.2.size hk) HS.out.2 HS.out.2.size (by simp only [List.length_nil]; omega) ?_; intro v1 u6 h1 h2 h3 h4))
           rw [List.nil_append] at h1
           have hS2 : Fr (fun k => k ≠ CB) W7 u6 ∧ Below W7.heap.size W7 u6 := ⟨Fr.grown HS.out.1 h3 (fun k hk _ => by have := HE.out.1.1 k hk; have := HCB.out; omega), h2⟩
           have hC4 := (h3.block g4 (Array.getElem?_eq_some_iff.1 HC4.out).1 (fun e => by have e2 : g4 = gE := Option.some.inj (show some g4 = some gE from e); have hq := HC4.out; rw [e2, HE.out.2] at hq; simp at hq)).trans HC4.out
           clear h2 h3 h4 hCl HS HE HC4
           have HS := Lib.hid hS2; clear hS2
           have HR1 := Lib.hid h1; clear h1
           have HC4 := Lib.hid hC4; clear hC4
           refine ⟨⟨⟨_, HS.out.1⟩, rfl⟩, ?_⟩
           refine any_stepS [5] (by kernel_rfl) ?_
           simp only [List.forall_mem_cons, List.forall_mem_nil, nthO_succ, nthO_zero]
           refine ⟨?_, fun _ h => by cases h⟩
           go_wp2_with (at_builtin; go_loud (refine Kd.R_append_rows k40 (w0 := W7) (Rr := k40.K _) W7.heap.size rfl (.tmp 52) (.tmp 54) 24 40 (.agg #[.int .i64 0, .int .i64 0, .int .i64 0, .int .i64 0, .int .i64 0, .int .i64 0, .int .i64 0, .int .i64 0]) 64 rfl Tryd.underlying24 info40 rfl (by decide) (by decide) _ l [⟨f0, f1, f2, f3, f4, f5, f6, f7⟩] (some ⟨g4, 0, none⟩) 1 1 (fun k => W7.heap.size ≤ k) (fun _ => False) rfl rfl HR1.out (clrowC ⟨f0, f1, f2, f3, f4, f5, f6, f7⟩ HC4.out) (fun x cs h => by rw [k40_open h]; exact k40_mkM _ _ _ x) (fun _ h => h.elim) (fun k hk => Nat.le_trans HS.out.2.size hk) HS.out.2 HS.out.2.size (by omega) ?_; intro v2 u7 h1 h2 h3 h4; obtain ⟨OA, oc, e8, ho8, hC8⟩ := Kd.R_reads h1; subst e8))
           have hF9 : Fr (fun k => k ≠ CB) W7 u7 := Fr.grown HS.out.1 h3 (fun k hk _ => by have := HR1.out.1 k hk; have := HCB.out; omega)
           have HK := Lib.hid (And.intro h2 (And.intro hC8 (And.intro ho8 hF9))); clear h1 h2 h3 h4 hC8 ho8 hF9
           refine ⟨⟨⟨_, HK.out.2.2.2⟩, rfl⟩, ?_⟩
           refine any_stepS [6] (by kernel_rfl) ?_
           simp only [List.forall_mem_cons, List.forall_mem_nil, nthO_succ, nthO_zero]
           refine ⟨?_, fun _ h => by cases h⟩
           go_wp2_with fail
           refine ⟨⟨⟨_, HK.out.2.2.2⟩, rfl⟩, wpAnyH_done (by kernel_rfl) ?_ _⟩
           have hlen1 : (l ++ [(⟨f0, f1, f2, f3, f4, f5, f6, f7⟩ : Cl)]).length = l.length + 1 := by simp
           exact ⟨_, _, _, _, _, _, _, _, _, _, _, rfl, HK.out.1, HK.out.2.1, by rw [← hlen1]; exact HK.out.2.2.1⟩
       · skip
         go_wp2_with fail
         have hA := (Below.refl u0.heap.size u0).alloc (Nat.le_refl _) (.cells #[.int .i64 f0, .int .i64 f1, .int .i64 f2, .int .i64 f3, .int .i64 f4, .int .i64 f5, .int .i64 f6, .int .i64 f7] 40)
         have hC4 : (u0.alloc (.cells #[.int .i64 f0, .int .i64 f1, .int .i64 f2, .int .i64 f3, .int .i64 f4, .int .i64 f5, .int .i64 f6, .int .i64 f7] 40)).heap[u0.heap.size]? = some (.cells #[.int .i64 f0, .int .i64 f1, .int .i64 f2, .int .i64 f3, .int .i64 f4, .int .i64 f5, .int .i64 f6, .int .i64 f7] 40) := heap_new rfl
         have hS2 : Fr (fun k => k ≠ CB) W7 (u0.alloc (.cells #[.int .i64 f0, .int .i64 f1, .int .i64 f2, .int .i64 f3, .int .i64 f4, .int .i64 f5, .int .i64 f6, .int .i64 f7] 40)) ∧ Below W7.heap.size W7 (u0.alloc (.cells #[.int .i64 f0, .int .i64 f1, .int .i64 f2, .int .i64 f3, .int .i64 f4, .int .i64 f5, .int .i64 f6, .int .i64 f7] 40)) := ⟨HS.out.1.alloc (.cells #[.int .i64 f0, .int .i64 f1, .int .i64 f2, .int .i64 f3, .int .i64 f4, .int .i64 f5, .int .i64 f6, .int .i64 f7] 40), HS.out.2.trans (hA.mono HS.out.2.size)⟩
         clear HS hA
         generalize u0.alloc (.cells #[.int .i64 f0, .int .i64 f1, .int .i64 f2, .int .i64 f3, .int .i64 f4, .int .i64 f5, .int .i64 f6, .int .i64 f7] 40) = u8 at *
         generalize u0.heap.size = g4 at *
         have HS := Lib.hid hS2; clear hS2
         have HC4 := Lib.hid hC4; clear hC4
         refine ⟨⟨⟨_, HS.out.1⟩, rfl⟩, ?_⟩
         refine any_stepS [0] (by kernel_rfl) ?_
         simp only [List.forall_mem_cons, List.forall_mem_nil, nthO_succ, nthO_zero]
         refine ⟨?_, fun _ h => by cases h⟩
         go_wp2_with fail
         have hA := (Below.refl u8.heap.size u8).alloc (Nat.le_refl _) (.cells #[] 40)
         have hE0 : Kd.R k40 40 (u8.alloc (.cells #[] 40)) W7.heap.size (fun k => W7.heap.size ≤ k) (.slice (some ⟨u8.heap.size, 0, none⟩) 0 0) [] := ⟨fun k hk => by have := HS.out.2.size; simp [Value.ownBlock] at hk; omega, OwnRow.lit u8 W7.heap.size (inner := []) (Reps.none _ _) HS.out.2.size (by simp)⟩
         have hEb : (u8.alloc (.cells #[] 40)).heap[u8.heap.size]? = some (.cells #[] 40) := heap_new rfl
         have hC4 := (hA.block _ (Array.getElem?_eq_some_iff.1 HC4.out).1).trans HC4.out
         have hS2 : Fr (fun k => k ≠ CB) W7 (u8.alloc (.cells #[] 40)) ∧ Below W7.heap.size W7 (u8.alloc (.cells #[] 40)) := ⟨HS.out.1.alloc (.cells #[] 40), HS.out.2.trans (hA.mono HS.out.2.size)⟩
         clear HS hA HC4
         generalize u8.alloc (.cells #[] 40) = u9 at *
         generalize u8.heap.size = gE at *
         have HS := Lib.hid hS2; clear hS2
         have HE := Lib.hid (And.intro hE0 hEb); clear hE0 hEb
         have HC4 := Lib.hid hC4; clear hC4
         refine ⟨⟨⟨_, HS.out.1⟩, rfl⟩, ?_⟩
         refine any_stepS [2] (by kernel_rfl) ?_
         simp only [List.forall_mem_cons, List.forall_mem_nil, nthO_succ, nthO_zero]
         refine ⟨?_, fun _ h => by cases h⟩
         have hCl := Kd.C_below HL7.out.1.args.rl HS.out.2
         go_wp2_with (at_builtin; go_loud (refine Kd.R_append_rows k40 (w0 := W7) (Rr := k40.K _) W7.heap.size rfl (.tmp 50) (.tmp 51) 24 40 (.agg #[.int .i64 0, .int .i64 0, .int .i64 0, .int .i64 0, .int .i64 0, .int .i64 0, .int .i64 0, .int .i64 0]) 64 rfl Tryd.underlying24 info40 rfl (by decide) (by decide) _ [] l LA l.length lc (fun k => W7.heap.size ≤ k) (fun _ => False) rfl rfl HE.out.1 hCl (fun x cs h => by rw [k40_open h]; exact k40_mkM _ _ _ x) (fun _ h => h.elim) (fun k hk => Nat.le_trans HS.out.2.size hk) HS.out.2 HS.out.2.size (by simp only [List.length_nil]; omega) ?_; intro v1 u10 h1 h2 h3 h4))
         rw [List.nil_append] at h1
         have hS2 : Fr (fun k => k ≠ CB) W7 u10 ∧ Below W7.heap.size W7 u10 := ⟨Fr.grown HS.out.1 h3 (fun k hk _ => by have := HE.out.1.1 k hk; have := HCB.out; omega), h2⟩
         have hC4 := (h3.block g4 (Array.getElem?_eq_some_iff.1 HC4.out).1 (fun e => by have e2 : g4 = gE := Option.some.inj (show some g4 = some gE from e); have hq := HC4.out; rw [e2, HE.out.2] at hq; simp at hq)).trans HC4.out
         clear h2 h3 h4 hCl HS HE HC4
         have HS := Lib.hid hS2; clear hS2
         have HR1 := Lib.hid h1; clear h1
         have HC4 := Lib.hid hC4; clear hC4
         refine ⟨⟨⟨_, HS.out.1⟩, rfl⟩, ?_⟩
         refine any_stepS [5] (by kernel_rfl) ?_
         simp only [List.forall_mem_cons, List.forall_mem_nil, nthO_succ, nthO_zero]
         refine ⟨?_, fun _ h => by cases h⟩
         go_wp2_with (at_builtin; go_loud (refine Kd.R_append_rows k40 (w0 := W7) (Rr := k40.K _) W7.heap.size rfl (.tmp 52) (.tmp 54) 24 40 (.agg #[.int .i64 0, .int .i64 0, .int .i64 0, .int .i64 0, .int .i64 0, .int .i64 0, .int .i64 0, .int .i64 0]) 64 rfl Tryd.underlying24 info40 rfl (by decide) (by decide) _ l [⟨f0, f1, f2, f3, f4, f5, f6, f7⟩] (some ⟨g4, 0, none⟩) 1 1 (fun k => W7.heap.size ≤ k) (fun _ => False) rfl rfl HR1.out (clrowC ⟨f0, f1, f2, f3, f4, f5, f6, f7⟩ HC4.out) (fun x cs h => by rw [k40_open h]; exact k40_mkM _ _ _ x) (fun _ h => h.elim) (fun k hk => Nat.le_trans HS.out.2.size hk) HS.out.2 HS.out.2.size (by omega) ?_; intro v2 u11 h1 h2 h3 h4; obtain ⟨OA, oc, e8, ho8, hC8⟩ := Kd.R_reads h1; subst e8))
         have hF9 : Fr (fun k => k ≠ CB) W7 u11 := Fr.grown HS.out.1 h3 (fun k hk _ => by have := HR1.out.1 k hk; have := HCB.out; omega)
         have HK := Lib.hid (And.intro h2 (And.intro hC8 (And.intro ho8 hF9))); clear h1 h2 h3 h4 hC8 ho8 hF9
         refine ⟨⟨⟨_, HK.out.2.2.2⟩, rfl⟩, ?_⟩
         refine any_stepS [6] (by kernel_rfl) ?_
         simp only [List.forall_mem_cons, List.forall_mem_nil, nthO_succ, nthO_zero]
         refine ⟨?_, fun _ h => by cases h⟩
         go_wp2_with fail
         refine ⟨⟨⟨_, HK.out.2.2.2⟩, rfl⟩, wpAnyH_done (by kernel_rfl) ?_ _⟩
         have hlen1 : (l ++ [(⟨f0, f1, f2, f3, f4, f5, f6, f7⟩ : Cl)]).length = l.length + 1 := by simp
         exact ⟨_, _, _, _, _, _, _, _, _, _, _, rfl, HK.out.1, HK.out.2.1, by rw [← hlen1]; exact HK.out.2.2.1⟩
     · rintro a W8 ⟨OA, oc, y37, y38, y46, y50, y51, y52, y53, y54, y55, rfl, hb8, hOC, hoc⟩
       have hCb := (hb8.block _ (Array.getElem?_eq_some_iff.1 HL7.out.2).1).trans HL7.out.2
       have HL8 := Lib.hid (HL7.out.1.next hb8); clear hb8 HL7
       have hTL : (l ++ [(⟨f0, f1, f2, f3, f4, f5, f6, f7⟩ : Cl)]).length = l.length + 1 := by simp
       have hgm : givenB (l ++ [⟨f0, f1, f2, f3, f4, f5, f6, f7⟩]) u wt = true := by
         have h := givenB_iff.1 HG.out.1
         refine givenB_iff.2 ⟨vldL_iff.2 ⟨by rw [hTL]; omega, fun c hc => ?_⟩, h.2⟩
         rcases List.mem_append.1 hc with hc | hc
         · exact (vldL_iff.1 h.1).2 c hc
         · rw [List.mem_singleton.1 hc]; exact HVC.out
       have hof := fun (p : List Int) h1 => offer_more (p := p) hgm (h1 : f1 = 1)
       have hot := fun (p : List Int) h1 => other_more (p := p) (c := ⟨f0, f1, f2, f3, f4, f5, f6, f7⟩) HG.out.1 (h1 : f1 ≠ 1)
       have hsm := fun (p : List Int) h1 => same_more (p := p) HG.out.1 hgm h1
       generalize hmore : l ++ [(⟨f0, f1, f2, f3, f4, f5, f6, f7⟩ : Cl)] = more at *
       have HO := Lib.hid (And.intro hOC (And.intro hTL (And.intro hof (And.intro hot (And.intro hsm hCb))))); clear hOC hTL hof hot hsm hgm hmore hCb
       have hll := max_len HL8.out.args.rl
       have c0 := HL8.out.c0
       have c1 := HL8.out.c1
       have c2 := HL8.out.c2
       have c3 := HL8.out.c3
       have c4 := HL8.out.c4
       go_wp2_with fail
       have hFi := first_any wt WA wn FA fc fs W8 HL8.out.args.rw (Kd.C_below HF.out.1 HL8.out.below) HF.out.2 (by have := (given_of HG.out.1).2.2.2.2; omega)
       unfold wtv at hFi
       refine hFi.mono ?_
       clear hFi c0 c1 c2 c3 c4
       rintro e w9 ⟨v, q, rfl, hV, hok, hb9⟩
       obtain ⟨VA, vc, rfl, hvc, hVC⟩ := Kd.R_reads hV
       have HL9 := Lib.hid (HL8.out.next hb9)
       have HO9 := Lib.hid (And.intro (Kd.C_below HO.out.1 hb9) ((hb9.block _ (Array.getElem?_eq_some_iff.1 HO.out.2.2.2.2.2).1).trans HO.out.2.2.2.2.2))
       have HV9 := Lib.hid (And.intro hVC hvc); clear hVC hvc hV hok hb9 HL8
       have c0 := HL9.out.c0
       have c1 := HL9.out.c1
       have c2 := HL9.out.c2
       have c3 := HL9.out.c3
       have c4 := HL9.out.c4
       go_wp2_with fail
       have hLa := Lawful_any LA lc l UA uc u wt WA wn VA vc q w9 HL9.out.args HV9.out.1 HV9.out.2
       unfold wtv at hLa
       refine hLa.mono ?_
       clear hLa c0 c1 c2 c3 c4
       rintro e w10 ⟨rfl, hb10⟩
       have HL10 := Lib.hid (HL9.out.next hb10)
       have HO10 := Lib.hid (And.intro (Kd.C_below HO9.out.1 hb10) ((hb10.block _ (Array.getElem?_eq_some_iff.1 HO9.out.2).1).trans HO9.out.2))
       have HV10 := Lib.hid (And.intro (Kd.C_below HV9.out.1 hb10) HV9.out.2); clear hb10 HL9 HO9 HV9
       have c0 := HL10.out.c0
       have c1 := HL10.out.c1
       have c2 := HL10.out.c2
       have c3 := HL10.out.c3
       have c4 := HL10.out.c4
       go_wp2_with fail
       have hLa := Lawful_any OA oc more UA uc u wt WA wn VA vc q w10 ⟨HL10.out.args.kinds, HO10.out.1, HL10.out.args.ru, HL10.out.args.rw⟩ HV10.out.1 HV10.out.2
       rw [HO.out.2.1] at hLa
       unfold wtv at hLa
       refine hLa.mono ?_
       clear hLa c0 c1 c2 c3 c4
       rintro e w11 ⟨rfl, hb11⟩
       have HL11 := Lib.hid (HL10.out.next hb11)
       have HCb := Lib.hid ((hb11.block _ (Array.getElem?_eq_some_iff.1 HO10.out.2).1).trans HO10.out.2)
       have HV11 := Lib.hid (And.intro (Kd.C_below HV10.out.1 hb11) HV10.out.2); clear hb11 HL10 HO10 HV10
       have h1 := HO.out.2.2.1 q
       have h2 := HO.out.2.2.2.1 q
       have h3 := HO.out.2.2.2.2.1 q
       have hap := applies_any ⟨f0, f1, f2, f3, f4, f5, f6, f7⟩ wt WA wn w11 HL11.out.args.kinds HL11.out.args.rw
       unfold clv wtv at hap
       simp only at hap
       generalize hwas : lawB l u wt q = was at *
       generalize lawB more u wt q = is at *
       generalize applies ⟨f0, f1, f2, f3, f4, f5, f6, f7⟩ wt = ap at *
       have HWAS := Lib.hid hwas; clear hwas HO
       have q1 : (f1 == 1) = decide (f1 = 1) := beqD _ _
       have q2 : (f1 != 1) = decide (f1 ≠ 1) := bneD _ _
       have hways : (f1 = 1 ∧ ((was = false ∧ is = false) ∨ (was = false ∧ is = true ∧ ap = true) ∨ (was = true ∧ is = true))) ∨ (f1 ≠ 1 ∧ ((was = false ∧ is = false) ∨ (was = true ∧ is = false ∧ ap = true) ∨ (was = true ∧ is = true))) := by
         by_cases h : f1 = 1
         · have k1 := h1 h
           refine .inl ⟨h, ?_⟩
           cases was <;> cases is <;> cases ap <;> simp at k1 h3 ⊢
         · have k2 := h2 h
           refine .inr ⟨h, ?_⟩
           cases was <;> cases is <;> cases ap <;> simp at k2 h3 ⊢
       clear h1 h2
       have d0 : w11.cell? ⟨CB, 0, none⟩ = some (.int .i64 f0) := cell_of HCb.out rfl
       have d1 : w11.cell? ⟨CB, 1, none⟩ = some (.int .i64 f1) := cell_of HCb.out rfl
       have d2 : w11.cell? ⟨CB, 2, none⟩ = some (.int .i64 f2) := cell_of HCb.out rfl
       have d3 : w11.cell? ⟨CB, 3, none⟩ = some (.int .i64 f3) := cell_of HCb.out rfl
       have d4 : w11.cell? ⟨CB, 4, none⟩ = some (.int .i64 f4) := cell_of HCb.out rfl
       have d5 : w11.cell? ⟨CB, 5, none⟩ = some (.int .i64 f5) := cell_of HCb.out rfl
       have d6 : w11.cell? ⟨CB, 6, none⟩ = some (.int .i64 f6) := cell_of HCb.out rfl
       have d7 : w11.cell? ⟨CB, 7, none⟩ = some (.int .i64 f7) := cell_of HCb.out rfl
       have c0 := HL11.out.c0
       have c1 := HL11.out.c1
       have c2 := HL11.out.c2
       have c3 := HL11.out.c3
       have c4 := HL11.out.c4
       have HAP := Lib.hid (And.intro hap h3); clear hap h3
       rcases hways with ⟨hf, ⟨rfl, rfl⟩ | ⟨rfl, rfl, rfl⟩ | ⟨rfl, rfl⟩⟩ | ⟨hf, ⟨rfl, rfl⟩ | ⟨rfl, rfl, rfl⟩ | ⟨rfl, rfl⟩⟩
       all_goals
         have hfd : decide (f1 = 1) = decide (f1 = 1) := rfl
         first | (have hf2 : decide (f1 = 1) = true := by simpa using hf) | (have hf2 : decide (f1 = 1) = false := by simpa using hf)
         first | (have hf3 : decide (f1 ≠ 1) = false := by simpa using hf) | (have hf3 : decide (f1 ≠ 1) = true := by simpa using hf)
         clear hfd hf
         go_wp2_with fail
         with_reducible refine HAP.out.1.mono ?_
         clear d0 d1 d2 d3 d4 d5 d6 d7 c0 c1 c2 c3 c4 hf2 hf3 q1 q2
         rintro e w12 ⟨rfl, hb12⟩
         have HL12 := Lib.hid (HL11.out.next hb12)
         have HV12 := Lib.hid (And.intro (Kd.C_below HV11.out.1 hb12) HV11.out.2); clear hb12 HL11 HV11 HCb
         first | cases ap | skip
         all_goals
           go_wp2_with fail
           go_loopw [23, 24] (fun ov jv wr2 => ∃ j : Nat, jv = .int .i64 j ∧ j ≤ l.length ∧ Hid (Kd.R k40 40 wr2 w12.heap.size (fun k => w12.heap.size ≤ k) ov ((l.take j).filter fun c => applies c wt) ∧ Below w12.heap.size w12 wr2)) (fun ov jv wr2 => l.length - (intOf jv).toNat)
           case atStart => exact ⟨0, rfl, Nat.zero_le _, Lib.hid ⟨Kd.R_nil _ _ _ _ _, Below.refl _ _⟩⟩
           case round =>
             obtain ⟨j, rfl, hj, HJ⟩ := hrel
             have HLj := Lib.hid (HL12.out.next HJ.out.2)
             obtain ⟨RA, rc, rfl, hrc, hRC⟩ := Kd.R_reads HJ.out.1
             by_cases hjl : j < l.length
             · have hjlI : (j : Int) < (l.length : Int) := by omega
               obtain ⟨ad, e, x0, x1, x2, x3, x4, x5, x6, x7⟩ := at_T40 HLj.out.args.rl (j : Int) (by omega) hjlI
               cases e
               simp only [Int.toNat_natCast] at x0 x1 x2 x3 x4 x5 x6 x7
               have hrd : rd_T40 l (j : Int) = l[j] := by unfold rd_T40; simp [hjl]
               rw [hrd] at x0 x1 x2 x3 x4 x5 x6 x7
               clear hrd
               have hfs : (l.take (j + 1)).filter (fun c => applies c wt) = (l.take j).filter (fun c => applies c wt) ++ if applies l[j] wt = true then [l[j]] else [] := by
                 rw [List.take_succ_eq_append_getElem hjl, List.filter_append, List.filter_cons]
                 split <;> simp
               have hfl : ((l.take j).filter (fun c => applies c wt)).length ≤ 11 := Nat.le_trans (List.length_filter_le _ _) (by rw [List.length_take]; omega)
               have hA1 := fun x : Ext wr => applies_any l[j] wt WA wn x.val (HLj.out.args.next (x.2.below (fun _ _ h => h) (Nat.le_refl _))).kinds (HLj.out.args.next (x.2.below (fun _ _ h => h) (Nat.le_refl _))).rw
               generalize l[j] = Y at *
               obtain ⟨g0, g1, g2, g3, g4, g5, g6, g7⟩ := Y
               unfold clv wtv at hA1
               simp only at x0 x1 x2 x3 x4 x5 x6 x7 hA1
               generalize applies ⟨g0, g1, g2, g3, g4, g5, g6, g7⟩ wt = b at *
               generalize (l.take j).filter (fun c => applies c wt) = fl at *
               have HA1 := Lib.hid hA1; clear hA1
               have HFS := Lib.hid hfs; clear hfs
               have HXS := Lib.hid (And.intro x0 (And.intro x1 (And.intro x2 (And.intro x3 (And.intro x4 (And.intro x5 (And.intro x6 x7)))))))
               have z0 := cell_ext x0
               have z1 := cell_ext x1
               have z2 := cell_ext x2
               have z3 := cell_ext x3
               have z4 := cell_ext x4
               have z5 := cell_ext x5
               have z6 := cell_ext x6
               have z7 := cell_ext x7
               have c0 := cell_ext HLj.out.c0
               have c1 := cell_ext HLj.out.c1
               have c2 := cell_ext HLj.out.c2
               have c3 := cell_ext HLj.out.c3
               have c4 := cell_ext HLj.out.c4
               clear x0 x1 x2 x3 x4 x5 x6 x7 hRC
               go_wp2_with fail
               refine region_ext (by kernel_rfl) (by kernel_rfl) ?_
               repeat (go_big_quiet_step ((go_at_call 17; with_reducible exact call_ext (HA1.out _))))
               refine wpQuiet_nil ?_
               rintro W' ⟨X, rfl⟩
               have hX := X.2.below (fun _ _ h => h) (Nat.le_refl _)
               have HJX := Lib.hid (And.intro (Kd.R_below HJ.out.1 hX) (HJ.out.2.trans (hX.mono HJ.out.2.size)))
               clear c0 c1 c2 c3 c4 HA1
               cases b with
               | false =>
                 clear z0 z1 z2 z3 z4 z5 z6 z7
                 go_wp2_with fail
                 go_roundw
                 case rel => exact ⟨j + 1, by go_num, by omega, Lib.hid ⟨by rw [HFS.out]; simpa using HJX.out.1, HJX.out.2⟩⟩
                 case measure => simp [intOf]; omega
               | true =>
                 have x0 := z0 X
                 have x1 := z1 X
                 have x2 := z2 X
                 have x3 := z3 X
                 have x4 := z4 X
                 have x5 := z5 X
                 have x6 := z6 X
                 have x7 := z7 X
                 clear z0 z1 z2 z3 z4 z5 z6 z7
                 have hA9 := (Below.refl X.val.heap.size X.val).alloc (Nat.le_refl _) (.cells (clc ⟨g0, g1, g2, g3, g4, g5, g6, g7⟩) 40)
                 have hRow := clrowC ⟨g0, g1, g2, g3, g4, g5, g6, g7⟩ (heap_new (o := .cells (clc ⟨g0, g1, g2, g3, g4, g5, g6, g7⟩) 40) (W := X.val) rfl)
                 have HOX := Lib.hid (And.intro (Kd.R_below HJX.out.1 hA9) (And.intro hRow (And.intro (HJX.out.2.trans (hA9.mono HJX.out.2.size)) (Nat.le_trans HJX.out.2.size hA9.size)))); clear hA9 hRow hX
                 unfold clc at HOX
                 simp only at HOX
                 go_wp2_with (at_builtin; go_loud (refine Kd.R_append_rows k40 (w0 := w12) (Rr := k40.K _) w12.heap.size rfl (.tmp 113) (.tmp 118) 24 40 (.agg #[.int .i64 0, .int .i64 0, .int .i64 0, .int .i64 0, .int .i64 0, .int .i64 0, .int .i64 0, .int .i64 0]) 64 rfl Tryd.underlying24 info40 rfl (by decide) (by decide) _ fl [⟨g0, g1, g2, g3, g4, g5, g6, g7⟩] _ 1 1 (fun k => w12.heap.size ≤ k) (fun _ => False) rfl rfl HOX.out.1 HOX.out.2.1 (fun x cs h => by rw [k40_open h]; exact k40_mkM _ _ _ x) (fun _ h => h.elim) (fun k hk => Nat.le_trans HOX.out.2.2.2 hk) HOX.out.2.2.1 HOX.out.2.2.2 (by omega) ?_; intro v1 w13 h1 h2 h3 h4))
                 have HK2 := Lib.hid (And.intro h1 h2); clear h1 h2 h3 h4
                 go_wp2_with fail
                 go_roundw
                 case rel => exact ⟨j + 1, by go_num, by omega, Lib.hid ⟨by rw [HFS.out]; simpa using HK2.out.1, HK2.out.2⟩⟩
                 case measure => simp [intOf]; omega
             · obtain rfl : j = l.length := by omega
               have htk : l.take l.length = l := List.take_length
               rw [htk] at hRC hrc ⊢
               clear htk
               have hal := alike_filter HG.out.1
               have hln := len_filter HG.out.1
               have hlw := hal.law q
               rw [HWAS.out] at hlw
               generalize l.filter (fun c => applies c wt) = fl at *
               have HR9 := Lib.hid (And.intro hRC (And.intro hrc (And.intro hal (And.intro hln hlw)))); clear hRC hrc hal hln hlw
               have HV13 := Lib.hid (Kd.C_below HV12.out.1 HJ.out.2)
               have c0 := HLj.out.c0
               have c1 := HLj.out.c1
               have c2 := HLj.out.c2
               have c3 := HLj.out.c3
               have c4 := HLj.out.c4
               go_wp2_with fail
               have hSo := Solve_any LA lc l UA uc u wt WA wn wr HLj.out.args
               unfold wtv at hSo
               refine hSo.mono ?_
               clear hSo c0 c1 c2 c3 c4
               rintro e w14 ⟨v1, v2, rfl, hP, hQ, hb14⟩
               have hE : solveE l u wt = 0 := by unfold solveE; rw [if_pos HG.out.1]
               rw [hE]
               clear hE
               obtain ⟨PA, pc, rfl, hpc, hPC⟩ := Kd.R_reads hP
               obtain ⟨QA, qc, rfl, hqc, hQC⟩ := Kd.R_reads hQ
               have HL14 := Lib.hid (HLj.out.next hb14)
               have HR14 := Lib.hid (Kd.C_below HR9.out.1 hb14)
               have HV14 := Lib.hid (Kd.C_below HV13.out hb14)
               have hqm := max_len hQC
               have HP14 := Lib.hid (And.intro hPC hpc); clear hPC hpc hqc hP hQ hQC hb14 HLj HV13
               have c0 := HL14.out.c0
               have c1 := HL14.out.c1
               have c2 := HL14.out.c2
               have c3 := HL14.out.c3
               have c4 := HL14.out.c4
               go_wp2_with fail
               have hSo := Solve_any RA rc fl UA uc u wt WA wn w14 ⟨HL14.out.args.kinds, HR14.out, HL14.out.args.ru, HL14.out.args.rw⟩
               unfold wtv at hSo
               refine hSo.mono ?_
               clear hSo c0 c1 c2 c3 c4
               rintro e w15 ⟨v3, v4, rfl, hP, hQ, hb15⟩
               have hE : solveE fl u wt = 0 := by unfold solveE; rw [if_pos HR9.out.2.2.1.g']
               rw [hE]
               rw [← HR9.out.2.2.1.solve1] at hP
               clear hE
               obtain ⟨SA2, sc2, rfl, hsc2, hSC2⟩ := Kd.R_reads hP
               obtain ⟨TA, tc, rfl, htc, hTC⟩ := Kd.R_reads hQ
               rw [← HR9.out.2.2.2.1]
               have HL15 := Lib.hid (HL14.out.next hb15)
               have HR15 := Lib.hid (Kd.C_below HR14.out hb15)
               have HV15 := Lib.hid (Kd.C_below HV14.out hb15)
               have HP15 := Lib.hid (And.intro (Kd.C_below HP14.out.1 hb15) (And.intro HP14.out.2 (And.intro hSC2 hsc2)))
               clear hSC2 hsc2 htc hP hQ hTC hb15 HL14 HR14 HV14 HP14
               have hpm := max_len HP15.out.1
               generalize solve1 l u wt = p at *
               generalize (solve2 l u wt).length = ql at *
               go_wp2_with fail
               have hIn := ints_any PA pc p SA2 sc2 p w15 HP15.out.1 HP15.out.2.1 HP15.out.2.2.1 HP15.out.2.2.2
               rw [decide_eq_true rfl] at hIn
               refine hIn.mono ?_
               clear hIn
               rintro e w16 ⟨rfl, hb16⟩
               have HL16 := Lib.hid (HL15.out.next hb16)
               have HR16 := Lib.hid (Kd.C_below HR15.out hb16)
               have HV16 := Lib.hid (Kd.C_below HV15.out hb16); clear hb16 HL15 HR15 HV15 HP15
               have c0 := HL16.out.c0
               have c1 := HL16.out.c1
               have c2 := HL16.out.c2
               have c3 := HL16.out.c3
               have c4 := HL16.out.c4
               go_wp2_with fail
               have hLa := Lawful_any RA rc fl UA uc u wt WA wn VA vc q w16 ⟨HL16.out.args.kinds, HR16.out, HL16.out.args.ru, HL16.out.args.rw⟩ HV16.out HV12.out.2
               rw [← HR9.out.2.2.2.2] at hLa
               unfold wtv at hLa
               refine hLa.mono ?_
               clear hLa c0 c1 c2 c3 c4
               rintro e w17 ⟨rfl, hb17⟩
               go_wp2_with fail
               go_ret
               exact ⟨rfl, HY.out.1.trans ((HL16.out.next hb17).below.mono HY.out.1.size)⟩
end Go.Proofs.YtnabgijdbcdpmaaDoor

namespace Go.Proofs.YtnabgijdbcdpmaaDoor.rightsClauses
open Go.ChangeShapes Go.WideShapes Go.ChangeAt Go.RowKit
set_option linter.unusedVariables false
set_option linter.unusedSimpArgs false
set_option maxRecDepth 100000 in
theorem lifted (os : Os) (started : os.Started) (H : Type) (enc : TypeId × Value → H) :
    ReturnsInHanded {} Tryd.checked os 6 .any (fun w args => (Rows.rightsClausesSpec.pre enc Tryd.prog Tryd.f6 [] false w args ∧ laidMetH Tryd.prog laid1 w) ∧ sizedMet enc Tryd.prog Tryd.f6 (OpenSpec.ofChange Rows.rightsClausesSpec) false w args)
      (Rows.rightsClausesSpec.post enc Tryd.prog Tryd.f6 false true false false) := by
  refine returnsInHanded_of_change_and (C := Tryd.checked) (X := fun w _ => laidMetH Tryd.prog laid1 w) (fun _ _ _ hh h => h.of_heap hh) own started (by kernel_rfl) Tryd.func6
    (ChangeSpec.witness_shaped (enc := enc) (C := Tryd.checked) (os := os) (X := fun w _ => laidMetH Tryd.prog laid1 w) false (World.doorLaid Tryd.prog 600 os) #[.slice none 0 0, .int .i64 0, .slice none 0 0, .slice none 0 0, .agg #[.int .i64 0, .int .i64 0, .int .i64 0, .int .i64 0, .int .i64 0], .slice none 0 0] 8 rfl (World.shaped_of_RefB (by kernel_rfl) (by kernel_rfl)) (by kernel_rfl) (by kernel_rfl) (by kernel_rfl) (door_met os _)) ?_
  intro W base args ds gs before hval0 hW _ _ hL _
  have hval : ∀ (j : Nat) t v, Tryd.f6.params[j]? = some t → args[j]? = some v → Value.okWide Tryd.prog W .any base t v := hval0
  have hW' := hW
  obtain ⟨p, q, hA0, hV, rfl, hfz, hnd⟩ := hW
  have hA : DataW.TrodAll enc Tryd.prog W 0 (fun _ => true) true Tryd.f6.params.toList args.toList ds p := hA0
  rw [Tryd.params6] at hA hval
  obtain ⟨v0, vs0, d0, ds0, p0, q0, hargs, rfl, rfl, h0, r0⟩ := trodAll_cons hA
  obtain ⟨v1, vs1, d1, ds1, p1, q1, rfl, rfl, rfl, h1, r1⟩ := trodAll_cons r0
  obtain ⟨v2, vs2, d2, ds2, p2, q2, rfl, rfl, rfl, h2, r2⟩ := trodAll_cons r1
  obtain ⟨v3, vs3, d3, ds3, p3, q3, rfl, rfl, rfl, h3, r3⟩ := trodAll_cons r2
  obtain ⟨v4, vs4, d4, ds4, p4, q4, rfl, rfl, rfl, h4, r4⟩ := trodAll_cons r3
  obtain ⟨v5, vs5, d5, ds5, p5, q5, rfl, rfl, rfl, h5, r5⟩ := trodAll_cons r4
  obtain ⟨rfl, rfl, rfl⟩ := trodAll_nil r5
  obtain rfl : args = #[v0, v1, v2, v3, v4, v5] := by cases args; simp_all
  obtain ⟨rfl, rfl⟩ := trodVars_none hV
  have k0 := h0
  have lt0 : ∀ x ∈ p0, x.block < W.heap.size := by obtain ⟨m, hm⟩ := k0; exact DataW.trod_lt m _ _ _ hm
  obtain ⟨A0, n0, c0, rfl, hc0, hX0⟩ := open_row22 (hval 0 22 v0 rfl rfl) h0
  obtain ⟨a1, rfl, rfl, rfl, w1⟩ := open_int Tryd.underlying3 (hval 1 3 v1 rfl rfl) h1
  have k2 := h2
  have lt2 : ∀ x ∈ p2, x.block < W.heap.size := by obtain ⟨m, hm⟩ := k2; exact DataW.trod_lt m _ _ _ hm
  obtain ⟨A2, c2, x2, rfl, hc2, hC2, hg2⟩ := open_row23 (hval 2 23 v2 rfl rfl) h2
  have k3 := h3
  have lt3 : ∀ x ∈ p3, x.block < W.heap.size := by obtain ⟨m, hm⟩ := k3; exact DataW.trod_lt m _ _ _ hm
  obtain ⟨A3, c3, x3, rfl, hc3, hC3, hg3⟩ := open_row23 (hval 3 23 v3 rfl rfl) h3
  have k4 := h4
  have lt4 : ∀ x ∈ p4, x.block < W.heap.size := by obtain ⟨m, hm⟩ := k4; exact DataW.trod_lt m _ _ _ hm
  obtain ⟨x4_0, x4_1, x4_2, x4_3, x4_4, rfl, g4_0, g4_1, g4_2, g4_3, g4_4⟩ := open_five (hval 4 57 v4 rfl rfl) h4
  have k5 := h5
  have lt5 : ∀ x ∈ p5, x.block < W.heap.size := by obtain ⟨m, hm⟩ := k5; exact DataW.trod_lt m _ _ _ hm
  obtain ⟨A5, c5, x5, rfl, hc5, hC5, hg5⟩ := open_row23 (hval 5 23 v5 rfl rfl) h5
  clear hA0 hval0
  refine (clauses_law A0 n0 c0 a1 A2 c2 x2 A3 c3 x3 x4_0 x4_1 x4_2 x4_3 x4_4 g4_0 g4_1 g4_2 g4_3 g4_4 A5 c5 x5 W (of_laid hL) hX0 (lit_rng w1) hC2 hg2 hC3 hg3 hC5 hg5 hc0).mono fun e W' ⟨he, hg⟩ => ?_
  subst he
  exact ⟨_, rfl, _, _, _, [], _, [], hW', trodAll_mk1 (shut_bool Tryd.underlying4 _), (trodAll_cons_mk (Below.trod laidOut (by kernel_rfl) (of_decide_eq_true (by kernel_rfl)) k0 hg lt0) (trodAll_cons_mk (shut_int Tryd.underlying3 w1) (trodAll_cons_mk (Below.trod laidOut (by kernel_rfl) (of_decide_eq_true (by kernel_rfl)) k2 hg lt2) (trodAll_cons_mk (Below.trod laidOut (by kernel_rfl) (of_decide_eq_true (by kernel_rfl)) k3 hg lt3) (trodAll_cons_mk (Below.trod laidOut (by kernel_rfl) (of_decide_eq_true (by kernel_rfl)) k4 hg lt4) (trodAll_cons_mk (Below.trod laidOut (by kernel_rfl) (of_decide_eq_true (by kernel_rfl)) k5 hg lt5) trodAll_mk0)))))), rfl, hg.frame _, fun h => by cases h⟩

theorem over : Rows.rightsClausesRow.holds Tryd.pinned (OpenSpec.ofChange Rows.rightsClausesSpec) :=
  OpenClaim.holds_of_wide 6 Tryd.f6 rfl rfl rfl rfl rfl rfl rfl ⟨rfl, rfl, rfl, rfl, rfl⟩ rfl rfl rfl rfl rfl (by kernel_rfl) Tryd.func6 (by kernel_rfl)
    (of_decide_eq_true (by kernel_rfl)) (by unfold Func.isWrapper; first | (rw [if_pos (by decide +kernel)]; kernel_rfl) | (rw [if_neg (by decide +kernel)]; exact ⟨rfl, rfl⟩))
    (fun os started H enc _ => lifted os started H enc)
theorem said : Rows.RightsClausesSaid := over

/-- ████ THE STATEMENT ████ -/
theorem proved : Rows.RightsClausesCardSaid :=
  Claim7.holds_tied_plain_at .later [] [.funcs] true (true, "c882bbf18fe2638fa03ec3f0946baf73ba33234a0127255e741620561da83a79") false
    said (fun _ h => by cases h) (by kernel_rfl) (fun _ h => by cases h) rightsClauses_row_tie rfl ⟨rfl, rfl⟩ (by kernel_rfl) rfl
    (fun f fn hf hfn => by
      obtain rfl : f = 6 := Option.some.inj ((show Tryd.prog.funcNamed "newswire/newswirelaw29.RightsClauses" = some 6 by kernel_rfl).symm.trans hf) |>.symm
      obtain rfl : fn = Tryd.f6 := (Option.some.inj (Tryd.func6.symm.trans hfn)).symm
      exact ⟨by kernel_rfl, fun j t ht => by
        rw [Tryd.params6] at ht
        have hm : t ∈ [22, 3, 23, 23, 57, 23] := by simpa using Array.mem_of_getElem? ht
        have hall : ([22, 3, 23, 23, 57, 23].all fun u => !Tryd.prog.wantsStandIn u) = true := by kernel_rfl
        exact (show Tryd.prog.wantsStandIn t = false by simpa using List.all_eq_true.1 hall t hm)⟩)
    (by kernel_rfl)
#print axioms proved
end Go.Proofs.YtnabgijdbcdpmaaDoor.rightsClauses
